/- The document's next: of one view. -/
import Derived.Test.YthjijjkoeoemgaaGreatCt16
namespace Go.Proofs.YthjijjkoeoemgaaGreat.Ab
open Go
set_option maxRecDepth 20000
set_option maxHeartbeats 4000000
set_option linter.unusedSimpArgs false
set_option linter.unusedVariables false

theorem rnext (σ : AHeap) (s : AV) (l : List Arr) (v : VS) (now : Int) (h : Arrs σ s l) (hv : v.ok σ) (ht : TimesOk l now) (hn0 : 0 ≤ now) (f : Nat) (hf : 1000 ≤ f) :
    OptP (evCall D9 f 26 [.agg v.cells, s, .one (.int .i64 now)] σ) (fun _ r τ => r = .one (.int .i64 (nextI v l now)) ∧ Keeps σ τ) := by
  obtain ⟨f, rfl⟩ : ∃ k, f = k + 1 := ⟨f - 1, by omega⟩
  refine evCall_code (D9_prim 26) ((D9_code 26).trans coder26) ?_
  obtain ⟨τ, hτ⟩ : ∃ τ, τ = σ.alloc ⟨[.int .i64 v.k, .int .i64 v.n, v.s, .bool v.d], .own⟩ := ⟨_, rfl⟩
  have hk : Keeps σ τ := by rw [hτ]; exact (Keeps.refl _).alloc
  have hb : τ.get σ.size = some ⟨[.int .i64 v.k, .int .i64 v.n, v.s, .bool v.d], .own⟩ := by rw [hτ]; simp
  have hC : nextI v l now = nextI v l now := rfl
  conv at hC => rhs; unfold nextI
  by_cases hl : l.length = 0
  · have el : l = [] := List.length_eq_zero_iff.1 hl
    subst el
    rw [if_neg (by simp)] at hC
    rw [hC]
    rcases h.rd with ⟨rfl, _⟩ | ⟨id, off, cap, rfl, _⟩
    · simp (maxDischargeDepth := 99) [cr26, VS.cells]
    · simp (maxDischargeDepth := 99) [cr26, VS.cells]
  · have hpos : 0 < l.length := by omega
    rcases h.rd with ⟨_, e⟩ | ⟨id, off, cap, rfl, hm, hrd⟩
    · exact absurd (by rw [e]; rfl) hl
    obtain ⟨_, _, q2, p3⟩ := hrd 0 hpos
    simp only [Nat.zero_mul, Nat.add_zero] at p3 q2
    have hid0 := rd_lt p3
    rw [← hk.2 id hid0] at p3 q2
    rw [show (rAt l 0).time = t0 l from rfl] at q2
    have hl' : ¬ (l.length : Int) = 0 := by omega
    have hl'' : ¬ l = [] := by intro e; rw [e] at hl; exact hl rfl
    have hrow := row_len (h.2 _ (rAt_mem hpos))
    have hpc := pCheck_eq (hv.keeps hk) (wid l)
    unfold wid at hpc
    obtain ⟨z0, z1, z2⟩ := ht.zero hpos
    by_cases hok : okL v l
    · rw [if_pos ⟨hpos, hok⟩] at hC
      have hnn := fun hk3 => okL_n hok hk3
      have hO := fun hk5 => rOneB τ _ l v now now (h.keeps hk) (hv.keeps hk) ht (Int.le_refl _) (by omega) hk5 f (by omega)
      unfold okL wid at hok
      rw [hok] at hpc
      have hlen200 := ht.len
      obtain ⟨f, rfl⟩ : ∃ k, f = k + 1 := ⟨f - 1, by omega⟩
      generalize (rAt l 0).vals.length = w at hrow hpc
      by_cases hk3 : v.k = 3
      · rw [if_pos hk3] at hC
        obtain ⟨n1, n2⟩ := hnn (.inl hk3)
        have hbc : τ.get σ.size = some ⟨v.cells, .own⟩ := hb
        rw [hk3] at hb hpc hτ
        rcases hrow with ⟨e1, rfl⟩ | ⟨ri, ro, rc, e1⟩
        all_goals
          rw [e1] at p3
          try simp only [Int.natCast_zero] at hpc
          simp (maxDischargeDepth := 99) [cr26, VS.cells, hl', hl'', p3, hpos, D9_8, hk3, ← hτ, hpc, hb]
          refine ends_to 0 (P3 σ v (nextI v l now)) ?_ ?_
          · refine ends_loop (I := J3 σ (.one (.slice id off 3 l.length cap)) l v now) ?_ (k := l.length) ?_ (by omega)
            · rintro k fr τ1 ⟨i, best, rfl, hi, hfl, f1, f2, f3, f7, f8, hk1, hb1, hfold⟩
              by_cases hlt : i < l.length
              · obtain ⟨_, _, p2, _⟩ := hrd i hlt
                rw [← hk1.2 id (rd_lt p2)] at p2
                have hw := wr_next hlt hm
                have hlt' : (i : Int) < (l.length : Int) := Int.ofNat_lt.2 hlt
                rw [drop_next hlt] at hfold
                simp only [timeFold] at hfold
                have hmem := rAt_mem hlt
                have g1 := ht.lo _ hmem
                have g2 := ht.hi _ hmem
                have g3 : wr .i64 ((rAt l i).time + v.n) = (rAt l i).time + v.n := wr_near (near_add g1 (Int.le_trans g2 z2) (Int.le_trans (by decide) n1) n2)
                generalize (rAt l i).time = x at p2 hfold g3
                have hL := run_least best (x + v.n) now τ1 (f + 1) (by omega)
                unfold VS.cells at hb1
                simp (maxDischargeDepth := 99) [cr26_0, hfl, f1, f2, f3, f7, f8, hlt, hlt', p2, hb1, g3]
                refine hL.mono ?_
                rintro y τ2 ⟨rfl, rfl⟩
                simp (maxDischargeDepth := 99) [hfl, f8, hw]
                exact ⟨l.length - (i + 1), y1 hlt, i + 1, _, rfl, hlt, by simp [hfl], by simp [hfl, f1], by simp [hfl, f2], by simp [hfl, f3], by simp [hfl], by simp [hfl], hk1, hb1, hfold⟩
              · obtain rfl : i = l.length := by omega
                rw [List.drop_length, timeFold] at hfold
                subst hfold
                simp (maxDischargeDepth := 99) [cr26_0, hfl, f1, f8]
                exact ⟨by simp [hfl], by simp [hfl, f3], by simp [hfl, f7, hC], hk1, hb1⟩
            · exact ⟨0, -1, rfl, Nat.zero_le _, by simp, by simp, by simp, by simp, by simp, by simp, hk, hbc, rfl⟩
          · rintro fr τ1 ⟨hfl, f3, f7, hk1, hb1⟩
            unfold VS.cells at hb1
            rw [hk3] at hb1
            simp (maxDischargeDepth := 99) [hfl, f3, f7, hb1, hk1]
      · rw [if_neg hk3] at hC
        by_cases hk5 : v.k = 5
        · rw [if_pos hk5] at hC
          obtain ⟨n1, n2⟩ := hnn (.inr hk5)
          have hO := hO hk5
          have hbc : τ.get σ.size = some ⟨v.cells, .own⟩ := hb
          unfold VS.cells at hO
          rw [hk5] at hb hpc hτ hO
          rcases hrow with ⟨e1, rfl⟩ | ⟨ri, ro, rc, e1⟩
          all_goals
            rw [e1] at p3
            try simp only [Int.natCast_zero] at hpc
            simp (maxDischargeDepth := 99) [cr26, VS.cells, hl', hl'', p3, q2, hpos, D9_8, hk5, ← hτ, hpc, hb]
            refine hO.mono ?_
            rintro sh τ0 ⟨hS, k0⟩
            have hkk := hk.trans k0
            have hbc0 : τ0.get σ.size = some ⟨v.cells, .own⟩ := by rw [k0.2 _ (AHeap.get_lt hbc), hbc]
            simp (maxDischargeDepth := 99)
            refine ends_to 2 (P5 σ (nextI v l now)) ?_ ?_
            · refine ends_loop (I := J5 σ (.one (.slice id off 3 l.length cap)) sh l v now (t0 l)) ?_ (k := l.length) ?_ (by omega)
              · rintro k fr τ1 ⟨i, best, rfl, hi, hfl, f1, f2, f3, f7, f9, f10, f11, hk1, hb1, hS1, hfold⟩
                by_cases hlt : i < l.length
                · obtain ⟨_, _, p2, _⟩ := hrd i hlt
                  rw [← hk1.2 id (rd_lt p2)] at p2
                  have hw := wr_next hlt hm
                  have hlt' : (i : Int) < (l.length : Int) := Int.ofNat_lt.2 hlt
                  rw [drop_next hlt] at hfold
                  simp only [brdFold] at hfold
                  have hmem := rAt_mem hlt
                  obtain ⟨d1, d2, d3⟩ := b_near (n := v.n) ht hmem n1
                  have d5 := ht.first hmem
                  have d6 := ht.hi _ hmem
                  have d7 : bOf l v.n (rAt l i) * v.n ≤ now - t0 l := by
                    unfold bOf
                    have e0 := Int.emod_add_mul_ediv ((rAt l i).time - t0 l) v.n
                    have e6 := Int.emod_nonneg ((rAt l i).time - t0 l) (b := v.n) (by omega)
                    rw [Int.mul_comm] at e0
                    omega
                  obtain ⟨β, hβ⟩ : ∃ β, β = bOf l v.n (rAt l i) := ⟨_, rfl⟩
                  rw [← hβ] at d1 d2 d3 d7 hfold
                  clear hβ
                  generalize (rAt l i).time = x at p2 d1 d5 d6
                  have v1 : wr .i64 (x - t0 l) = x - t0 l := wr_near ⟨by omega, by omega⟩
                  have v2 : wr .i64 ((x - t0 l).tdiv v.n) = β := by rw [d1]; exact wr_near ⟨by omega, by omega⟩
                  have v3 : wr .i64 (β + 1) = β + 1 := wr_near ⟨by omega, by omega⟩
                  have hnz : ¬ v.n = 0 := by omega
                  have hI := fun R => rInner (R := R) σ (.one (.slice id off 3 l.length cap)) sh l v now (t0 l) β best i h hv ht rfl hk5 z0 n1 n2 d2 d7 d3 z2 hlen200 (f + 1) (by omega)
                  unfold VS.cells at hb1
                  simp (maxDischargeDepth := 99) [cr26_2, hfl, f1, f2, f3, f7, f9, f10, f11, hlt, hlt', p2, hb1, hnz, v1, v2, v3]
                  refine ends_to 4 _ (hI _ _ τ1 ?_) ?_
                  rotate_left
                  · rintro fr2 τ2 ⟨hfl, f1, f2, f3, f7, f9, f10, f11, hk2, hb2, hS2⟩
                    simp (maxDischargeDepth := 99) [hfl, f11, hw]
                    refine ⟨l.length - (i + 1), y1 hlt, i + 1, best5 v l now β best 2, rfl, hlt, by simp [hfl], by simp [hfl, f1], by simp [hfl, f2], by simp [hfl, f3], by simp [hfl, f7], by simp [hfl, f9], by simp [hfl, f10], by simp [hfl], hk2, hb2, hS2, ?_⟩
                    rw [← hfold]
                    simp only [best5, Int.natCast_zero, Int.add_zero]
                    rfl
                  · exact ⟨0, rfl, by omega, by simp [hfl], by simp [hfl, f1], by simp [hfl, f2], by simp [hfl, f3], by simp [hfl, f7, best5], by simp [hfl, f9], by simp [hfl, f10], by simp [hfl, f11], by simp [hfl], by simp [hfl], hk1, hb1, hS1⟩
                · obtain rfl : i = l.length := by omega
                  rw [List.drop_length, brdFold] at hfold
                  subst hfold
                  simp (maxDischargeDepth := 99) [cr26_2, hfl, f1, f11]
                  exact ⟨by simp [hfl], by simp [hfl, f7, hC], hk1⟩
              · exact ⟨0, -1, rfl, Nat.zero_le _, by simp, by simp, by simp, by simp, by simp, by simp, by simp, by simp, hkk, hbc0, hS, rfl⟩
            · rintro fr τ1 ⟨hfl, f7, hk1⟩
              simp (maxDischargeDepth := 99) [hfl, f7, hk1]
        · rw [if_neg hk5] at hC
          rcases hrow with ⟨e1, rfl⟩ | ⟨ri, ro, rc, e1⟩
          all_goals
            rw [e1] at p3
            try simp only [Int.natCast_zero] at hpc
            simp (maxDischargeDepth := 99) [cr26, VS.cells, hl', hl'', p3, hpos, D9_8, hk3, hk5, ← hτ, hpc, hb, hC, hk]
    · rw [if_neg (fun e => hok e.2)] at hC
      unfold okL wid at hok
      obtain ⟨f, rfl⟩ : ∃ k, f = k + 1 := ⟨f - 1, by omega⟩
      generalize (rAt l 0).vals.length = w at hrow hpc hok
      rcases hrow with ⟨e1, rfl⟩ | ⟨ri, ro, rc, e1⟩
      all_goals
        rw [e1] at p3
        try simp only [Int.natCast_zero] at hpc hok
        simp (maxDischargeDepth := 99) [cr26, VS.cells, hl', hl'', p3, hpos, D9_8, ← hτ, hpc, hb, hok, hC, hk]
end Go.Proofs.YthjijjkoeoemgaaGreat.Ab
