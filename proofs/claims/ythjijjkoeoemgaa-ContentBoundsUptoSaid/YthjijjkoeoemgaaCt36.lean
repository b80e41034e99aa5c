/- The law of how many a view holds: the walk, whole. -/
import Derived.Test.YthjijjkoeoemgaaCt35
namespace Go.Proofs.Ythjijjkoeoemgaa.Ab
open Go
set_option maxRecDepth 20000
set_option maxHeartbeats 8000000
set_option linter.unusedSimpArgs false
set_option linter.unusedVariables false

theorem rows_loop (f : Nat) (σ : AHeap) (p : Nat) (rid roff : Nat) (rcap : Option Nat) (v : VS) (X : List Arr) (i : Nat) (hi : i < X.length) (w : Nat) (hv : v.ok σ) (hc : ∀ c ∈ v.cols, 0 ≤ c ∧ c < (w : Int)) (hw : ∀ a ∈ X, a.vals.length = w) (hlen : X.length ≤ 200) (hcl : v.cols.length < f)
    (hp : σ.get p = some ⟨[.int .i64 v.k, .int .i64 v.n, v.s, .bool v.d], .own⟩) (hX : ∀ a ∈ X, slVals σ (.one a.row) = some a.vals) (ord : ∀ j, j < X.length → rd (σ.get rid) none (roff + j * 3 + 2) = some (.one (rAt X j).row))
    (hpair : ∀ k, k < i → decide (keyL (rAt X i).vals v.cols = keyL (rAt X k).vals v.cols) = false) (m : Nat) (fr : List AV) (τ : AHeap)
    (hI : IB1 σ p (.one (.slice rid roff 3 X.length rcap)) i m fr τ) :
    EndsC .go (evCall D9 f) f cs5_1 fr τ (fun _ fr τ => ∃ z, z < m ∧ IB1 σ p (.one (.slice rid roff 3 X.length rcap)) i z fr τ) (fun j _ fr τ => j = 3 ∧ OB1 σ p (.one (.slice rid roff 3 X.length rcap)) i fr τ) (fun _ _ _ => False) := by
  obtain ⟨k, rfl, hk, rfl, hl, f3, f7, f8, f9⟩ := hI
  by_cases hlt : k < i
  · have hlt' : (k : Int) < (i : Int) := Int.ofNat_lt.2 hlt
    have hkl : k < X.length := Nat.lt_trans hlt hi
    have hwk : wr .i64 ((k : Int) + 1) = ((k + 1 : Nat) : Int) := wr_succ (by omega)
    have hq := hpair k hlt
    simp (maxDischargeDepth := 99) [cs5_1, hl, f8, f9, hlt, hlt']
    refine ends_to 5 (OB0 τ p (.one (.slice rid roff 3 X.length rcap)) v (rAt X i) (rAt X k) i k) ?_ ?_
    · refine ends_loop (I := IB0 τ p (.one (.slice rid roff 3 X.length rcap)) v (rAt X i) (rAt X k) i k) (fun m fr τ' hI => ?_) (k := v.cols.length) ⟨0, rfl, Nat.zero_le _, rfl, by simp [hl], by simp [hl, f3], by simp [hl, f7], by simp [hl, f8], by simp [hl, f9], by simp [hl, keyL], by simp [hl]⟩ hcl
      refine Ends.mono (cols_loop τ p rid roff rcap v X i k hi hkl w hv hc hw hp hX ord f m fr τ' hI) (fun _ _ _ h => h) (fun _ _ _ _ h => h) (fun _ _ _ h => h.elim)
    · rintro fr τ' ⟨rfl, hl, g3, g7, g8, g9, g10⟩
      rw [hq] at g10
      simp (maxDischargeDepth := 99) [hl, g9, g10, hwk, -Int.natCast_add]
      exact ⟨i - (k + 1), y1 hlt, k + 1, rfl, hlt, rfl, by simp [hl], by simp [hl, g3], by simp [hl, g7], by simp [hl, g8], by simp [hl, -Int.natCast_add]⟩
  · obtain rfl : k = i := by omega
    simp (maxDischargeDepth := 99) [cs5_1, hl, f8, f9]
    exact ⟨rfl, by simp [hl], by simp [hl, f3], by simp [hl, f7], by simp [hl, f8]⟩
theorem mm_min {a b : Int} {x : Nat} (h : (x : Int) = min a b) : mm false a b = (x : Int) := by
  unfold mm
  simp only
  split <;> omega
theorem run_B (σ : AHeap) (s1 : AV) (l : List Arr) (v : VS) (now : Int) (hv : v.ok σ) (h : Arrs σ s1 l) (hl : l.length ≤ 1048576) (hvin : ∀ a ∈ l, VIn a.vals) (C : Nat) (hC : v.cols.length ≤ C) (f : Nat) (hf : l.length + C + 4000 ≤ f) :
    OptP (evCall D9 f 5 [.agg v.cells, s1, .one (.int .i64 now)] σ) (fun _ v _ => v = .one (.bool true)) := by
  obtain ⟨f, rfl⟩ : ∃ k, f = k + 1 := ⟨f - 1, by omega⟩
  refine evCall_code (D9_prim 5) ((D9_code 5).trans codes5) ?_
  obtain ⟨σ0, hσ0⟩ : ∃ σ0, σ0 = σ.alloc ⟨[.int .i64 v.k, .int .i64 v.n, v.s, .bool v.d], .own⟩ := ⟨_, rfl⟩
  have k0 : Keeps σ σ0 := by rw [hσ0]; exact (Keeps.refl _).alloc
  have g0 : σ0.get σ.size = some ⟨[.int .i64 v.k, .int .i64 v.n, v.s, .bool v.d], .own⟩ := by rw [hσ0]; simp
  have hfit := run10 σ0 s1 l now (h.keeps k0) hl f (by omega)
  simp (maxDischargeDepth := 99) [cs5, VS.cells]
  rw [← hσ0]
  refine hfit.mono ?_
  rintro u τ ⟨a', t', rfl, rfl, hO, hk⟩
  have hL := fitL_ok2 hvin now
  have h200 := fitL_len l
  have hwid := fitL_wid l
  have hA : Arrs τ a' (fitL l).1 := acells_outsl hO (Nat.le_trans (fitL_len l) (by decide)) (fun a ha => ((h.keeps k0).keeps hk).2 a (fitL_mem ha))
  have hGA : 0 < (fitL l).1.length → Grown τ a' (fitL l).1 := grown_out hO
  have hv2 := (hv.keeps k0).keeps hk
  have g1 : τ.get σ.size = some ⟨[.int .i64 v.k, .int .i64 v.n, v.s, .bool v.d], .own⟩ := by rw [hk.2 _ (AHeap.get_lt g0), g0]
  generalize (fitL l).1 = A at hL hA hGA h200 hwid
  generalize nowL l now = n at hL ⊢
  clear hO hfit
  have hOne := run_One τ a' A v n hA hGA hv2 hL C hC f (by omega)
  unfold VS.cells at hOne
  have hcf : v.cols.length < f := by omega
  have hff : 500 ≤ f := by omega
  simp (maxDischargeDepth := 99) [g1]
  refine hOne.mono ?_
  rintro r τ1 ⟨⟨X, e1, hX, _⟩, k1⟩
  have g2 : τ1.get σ.size = some ⟨[.int .i64 v.k, .int .i64 v.n, v.s, .bool v.d], .own⟩ := by rw [k1.2 _ (AHeap.get_lt g1), g1]
  have hv3 := hv2.keeps k1
  have hA1 := hA.keeps k1
  have hXl := keys_len' e1
  have hXs := heldF_sublist v A n
  have hX200 : X.length ≤ 200 := by rw [hXl]; exact Nat.le_trans hXs.length_le h200
  clear hOne
  have h0R : A.length = 0 → heldF v A n = [] := fun h => by unfold heldF; rw [if_neg (by omega)]
  have h1R : ¬ okL v A → heldF v A n = [] := fun h => by unfold heldF; rw [if_neg (fun e => h e.2)]
  have hnone : heldF v A n = [] → r = .one .nilSlice ∨ ∃ id off cap, r = .one (.slice id off 3 0 cap) := fun e => by
    have eX : X = [] := by rw [e] at hXl; exact List.length_eq_zero_iff.1 hXl
    subst eX
    rcases hX.rd with ⟨h, _⟩ | ⟨id, off, cap, h, _⟩
    · exact .inl h
    · exact .inr ⟨id, off, cap, h⟩
  obtain ⟨f, rfl⟩ : ∃ k, f = k + 1 := ⟨f - 1, by omega⟩
  by_cases hA0 : A.length = 0
  · have eA : A = [] := List.length_eq_zero_iff.1 hA0
    have hr := hnone (h0R hA0)
    subst eA
    have ha : a' = .one .nilSlice ∨ ∃ id off cap, a' = .one (.slice id off 3 0 cap) := by
      rcases hA1.rd with ⟨h, _⟩ | ⟨id, off, cap, h, _⟩
      · exact .inl h
      · exact .inr ⟨id, off, cap, h⟩
    rcases ha with rfl | ⟨_, _, _, rfl⟩ <;> rcases hr with rfl | ⟨_, _, _, rfl⟩
    all_goals simp (maxDischargeDepth := 99) [g2, D9_9, pBool]
  · have hpos : 0 < A.length := by omega
    rcases hA1.rd with ⟨_, e⟩ | ⟨id, off, cap, rfl, hm, hrd⟩
    · exact absurd (by rw [e]; rfl) hA0
    obtain ⟨_, _, _, p3⟩ := hrd 0 hpos
    simp only [Nat.zero_mul, Nat.add_zero] at p3
    have hl' : ¬ (A.length : Int) = 0 := by omega
    have hl'' : ¬ A = [] := by intro e; rw [e] at hA0; exact hA0 rfl
    have hrow := row_len (hA1.2 _ (rAt_mem hpos))
    have hpc := pCheck_eq hv3 (wid A)
    unfold wid at hpc
    by_cases hok : okL v A
    · have hcs := okL_cases hok
      have hok2 := hok
      unfold okL wid at hok2
      rw [hok2] at hpc
      unfold wid at hcs
      have hwpos : 0 < (rAt A 0).vals.length := List.length_pos_iff.2 (hL.t.vals _ (rAt_mem hpos))
      have hX0 : 0 < X.length → ∃ rid roff rcap, r = .one (.slice rid roff 3 X.length rcap) ∧ X.length ≤ maxElems ∧ ∀ j, j < X.length → rd (τ1.get rid) none (roff + j * 3 + 2) = some (.one (rAt X j).row) := fun h => by
        rcases hX.rd with ⟨_, e⟩ | ⟨rid, roff, rcap, e, hm, ord⟩
        · rw [e] at h; exact absurd h (Nat.not_lt_zero _)
        · exact ⟨rid, roff, rcap, e, hm, fun j hj => (ord j hj).2.2.2⟩
      have h2 := fun (hk : v.k = 2) n1 => heldF_2 (now := n) hpos hok hk n1
      have h4 := fun (hk : v.k = 4) => heldF_4 (now := n) hpos hok hk
      have h6 := fun (hk : v.k = 6) => heldF_6 (now := n) hpos hok hk
      have h7 := fun (hk : v.k = 7) => heldF_7 (now := n) hpos hok hk
      have h8 := fun (hk : v.k = 8) => heldF_8 (now := n) hpos hok hk
      have h9 := fun (hk : v.k = 9) => heldF_9 (now := n) hpos hok hk
      have hXw := keys_wid e1 (fun a ha => hwid a (hXs.subset ha))
      clear hok hok2 hwid h0R h1R hnone
      generalize (rAt A 0).vals.length = w at hrow hpc hcs hXw hwpos
      rcases hrow with ⟨e1', e0⟩ | ⟨ri, ro, rc, e1'⟩
      · exact absurd hwpos (by rw [e0]; exact Nat.lt_irrefl 0)
      rw [e1'] at p3
      simp (maxDischargeDepth := 99) [g2, hl', hl'', hA0, p3, hpos, D9_8, hpc]
      have hmins : X.length = min v.n.toNat A.length → 1 ≤ v.n → (X.length : Int) ≤ v.n ∧ mm false v.n (A.length : Int) = (X.length : Int) ∧ 0 < X.length := fun e n1 => ⟨by omega, mm_min (by omega), by omega⟩
      rcases hcs with ⟨hk, hn⟩ | ⟨hk, n1, n2⟩ | ⟨hk, n1, n2⟩ | ⟨hk, hcols⟩ | ⟨hk, n1, n2, c, hcols, hc0, _⟩
      · rcases hk with hk | hk | hk
        · simp (maxDischargeDepth := 99) [hk, D9_9, pBool]
        · rw [h8 hk, List.length_drop] at hXl
          have hX1 : X.length = 1 := by omega
          obtain ⟨rid, roff, rcap, rfl, _, _⟩ := hX0 (by omega)
          rw [hX1]
          simp (maxDischargeDepth := 99) [hk, D9_9, pBool]
        · rw [h9 hk, List.length_take] at hXl
          have hX1 : X.length = 1 := by omega
          obtain ⟨rid, roff, rcap, rfl, _, _⟩ := hX0 (by omega)
          rw [hX1]
          simp (maxDischargeDepth := 99) [hk, D9_9, pBool]
      · rcases hk with hk | hk
        · rw [h2 hk n1, List.length_drop] at hXl
          obtain ⟨q1, q2, q3⟩ := hmins (by omega) n1
          obtain ⟨rid, roff, rcap, rfl, _, _⟩ := hX0 q3
          simp (maxDischargeDepth := 99) [hk, g2, q1, q2, mms, D9_9, pBool]
        · have hle : (X.length : Int) ≤ v.n := by
            rw [h4 hk] at hXl
            have := lbL_len A v.n.toNat
            omega
          rcases hX.rd with ⟨rfl, e⟩ | ⟨rid, roff, rcap, rfl, hm, ord⟩
          · have hle0 : (0 : Int) ≤ v.n := by omega
            simp (maxDischargeDepth := 99) [hk, g2, hle0, D9_9, pBool]
          · simp (maxDischargeDepth := 99) [hk, g2, hle, D9_9, pBool]
      · rcases hk with hk | hk
        · simp (maxDischargeDepth := 99) [hk, D9_9, pBool]
        · simp (maxDischargeDepth := 99) [hk, D9_9, pBool]
      · have e6 := h6 hk
        rw [e6] at hXl e1
        have hX1 : 1 ≤ X.length := by rw [hXl]; exact uniq_some v hpos
        have hpr := keys_pair e1 (uniq_pair v A A 0 rfl)
        obtain ⟨rid, roff, rcap, rfl, hmx, ord⟩ := hX0 hX1
        simp (maxDischargeDepth := 99) [hk]
        refine ends_to 1 (OB2 τ1 (.one (.slice rid roff 3 X.length rcap))) ?_ ?_
        · refine ends_loop (I := IB2 τ1 σ.size (.one (.slice rid roff 3 X.length rcap)) X.length) ?_ (k := X.length) ⟨0, rfl, Nat.zero_le _, rfl, by simp, by simp, by simp, by simp⟩ (by omega)
          rintro m fr τ2 ⟨i, rfl, hi, rfl, hl, f3, f7, f8⟩
          by_cases hlt : i < X.length
          · have hlt' : (i : Int) < (X.length : Int) := Int.ofNat_lt.2 hlt
            have hwi : wr .i64 ((i : Int) + 1) = ((i + 1 : Nat) : Int) := wr_next hlt hmx
            have hpi : ∀ k, k < i → decide (keyL (rAt X i).vals v.cols = keyL (rAt X k).vals v.cols) = false := fun k hki => by
              rw [decide_eq_false_iff_not, rAt_get hlt, rAt_get (Nat.lt_trans hki hlt)]
              exact List.pairwise_iff_getElem.1 hpr k i (Nat.lt_trans hki hlt) hlt hki
            simp (maxDischargeDepth := 99) [cs5_2, hl, f7, f8, hlt, hlt']
            refine ends_to 3 (OB1 τ2 σ.size (.one (.slice rid roff 3 X.length rcap)) i) ?_ ?_
            · refine ends_loop (I := IB1 τ2 σ.size (.one (.slice rid roff 3 X.length rcap)) i) (fun m fr τ' hI => ?_) (k := i) ⟨0, rfl, Nat.zero_le _, rfl, by simp [hl], by simp [hl, f3], by simp [hl, f7], by simp [hl, f8], by simp [hl]⟩ (Nat.lt_of_lt_of_le hlt (Nat.le_trans hX200 (Nat.le_trans (by decide) hff)))
              exact Ends.mono (rows_loop (f + 1) τ2 σ.size rid roff rcap v X i hlt w hv3 hcols hXw hX200 hcf g2 hX.2 ord hpi m fr τ' hI) (fun _ _ _ h => h) (fun _ _ _ _ h => h) (fun _ _ _ h => h.elim)
            · rintro fr τ' ⟨rfl, hl, g3, g7, g8⟩
              simp (maxDischargeDepth := 99) [hl, g8, hwi, -Int.natCast_add]
              exact ⟨X.length - (i + 1), y1 hlt, i + 1, rfl, hlt, rfl, by simp [hl], by simp [hl, g3], by simp [hl, g7], by simp [hl, -Int.natCast_add]⟩
          · obtain rfl : i = X.length := by omega
            simp (maxDischargeDepth := 99) [cs5_2, hl, f7, f8]
            exact ⟨rfl, by simp [hl], by simp [hl, f7]⟩
        · rintro fr τ' ⟨rfl, hl, f7⟩
          have hX1' : (1 : Int) ≤ (X.length : Int) := by omega
          simp (maxDischargeDepth := 99) [hl, f7, hX1, hX1', D9_9, pBool]
      · rw [h7 hk, sortF_len hL.t.seqs n1] at hXl
        obtain ⟨q1, q2, q3⟩ := hmins hXl n1
        obtain ⟨rid, roff, rcap, rfl, _, _⟩ := hX0 q3
        simp (maxDischargeDepth := 99) [hk, g2, q1, q2, mms, D9_9, pBool]
    · have hr := hnone (h1R hok)
      unfold okL wid at hok
      generalize (rAt A 0).vals.length = w at hrow hpc hok
      rcases hrow with ⟨e1, rfl⟩ | ⟨ri, ro, rc, e1⟩
      all_goals
        rw [e1] at p3
        try simp only [Int.natCast_zero] at hpc hok
        rcases hr with rfl | ⟨_, _, _, rfl⟩
        all_goals simp (maxDischargeDepth := 99) [g2, hl', hl'', hA0, p3, hpos, D9_8, hpc, hok, D9_9, pBool]
end Go.Proofs.Ythjijjkoeoemgaa.Ab
