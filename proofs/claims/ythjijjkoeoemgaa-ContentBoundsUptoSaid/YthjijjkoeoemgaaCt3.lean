/- Rows and arrivals compared: the document's SameRow, Has, Same. -/
import Derived.Test.YthjijjkoeoemgaaCtVals
import Derived.Test.YthjijjkoeoemgaaLitCt2
namespace Go.Proofs.Ythjijjkoeoemgaa.Ab
open Go
set_option maxRecDepth 20000
set_option maxHeartbeats 2000000
set_option linter.unusedSimpArgs false

theorem y1 {n i : Nat} (h : i < n) : n - (i + 1) < n - i := by omega
theorem y2 {P : Nat → Prop} {i : Nat} (h : ∀ j, j < i → P j) (k : P i) : ∀ j, j < i + 1 → P j := fun j hj => by
  by_cases e : j = i
  · subst e; exact k
  · exact h j (by omega)
theorem slVals_nil {σ : AHeap} {s : AV} (h : slVals σ s = some []) : s = .one .nilSlice ∨ ∃ id off cap, s = .one (.slice id off 3 0 cap) := by
  rcases slVals_spec h with ⟨rfl, _⟩ | ⟨id, off, cap, rfl, _, _⟩
  · exact .inl rfl
  · exact .inr ⟨id, off, cap, rfl⟩
theorem run19 (C : Ctx) (hc0 : C.prim 19 = none) (hc : C.code 19 = some c19) (σ : AHeap) (s1 s2 : AV) (l1 l2 : List V) (h1 : slVals σ s1 = some l1) (h2 : slVals σ s2 = some l2) (f : Nat) (hf : l1.length + 5 ≤ f) :
    OptP (evCall C f 19 [s1, s2] σ) (fun _ v τ => v = .one (.bool (decide (l1 = l2))) ∧ τ = σ) := by
  obtain ⟨f, rfl⟩ : ∃ k, f = k + 1 := ⟨f - 1, by omega⟩
  refine evCall_code hc0 hc ?_
  by_cases hlen : l1.length = l2.length
  · by_cases h0 : l1.length = 0
    · have e1 : l1 = [] := List.length_eq_zero_iff.1 h0
      have e2 : l2 = [] := List.length_eq_zero_iff.1 (by omega)
      subst e1; subst e2
      rcases slVals_nil h1 with rfl | ⟨i1, o1, c1, rfl⟩ <;> rcases slVals_nil h2 with rfl | ⟨i2, o2, c2, rfl⟩
      all_goals
        simp (maxDischargeDepth := 99) [c19]
        refine ends_loop (I := fun k fr τ => k = 0 ∧ τ = σ ∧ fr.length = 26 ∧ (getSlot fr 0 = .one .nilSlice ∨ ∃ id off cap, getSlot fr 0 = .one (.slice id off 3 0 cap)) ∧ getSlot fr 5 = .one (.int .i64 0)) ?_ (k := 0) ?_ (by omega)
        · rintro k fr τ ⟨rfl, rfl, hlen, h0 | ⟨id, off, cap, h0⟩, h5⟩
          · simp (maxDischargeDepth := 99) [c19_0, hlen, h0, h5]
          · simp (maxDischargeDepth := 99) [c19_0, hlen, h0, h5]
        · simp
    · rcases slVals_spec h1 with ⟨_, rfl⟩ | ⟨i1, o1, c1, rfl, r1, m1⟩
      · simp at h0
      rcases slVals_spec h2 with ⟨_, rfl⟩ | ⟨i2, o2, c2, rfl, r2, m2⟩
      · simp only [List.length_nil] at hlen; omega
      rw [← hlen]
      simp (maxDischargeDepth := 99) [c19]
      refine ends_loop (I := fun k fr τ => ∃ i, k = l1.length - i ∧ i ≤ l1.length ∧ τ = σ ∧ fr.length = 26 ∧ getSlot fr 0 = .one (.slice i1 o1 3 l1.length c1) ∧ getSlot fr 1 = .one (.slice i2 o2 3 l1.length c2) ∧
          getSlot fr 5 = .one (.int .i64 i) ∧ ∀ j, j < i → l1[j]? = l2[j]?) ?_ (k := l1.length) ?_ (by omega)
      · rintro k fr τ ⟨i, rfl, hi, rfl, hfl, f0, f1, f5, hall⟩
        by_cases hlt : i < l1.length
        · have hlt2 : i < l2.length := by omega
          have hrd1 := r1 i hlt
          have hrd2 := r2 i hlt2
          have hw := wr_next hlt m1
          have hnext : l1[i] = l2[i] → ∀ j, j < i + 1 → l1[j]? = l2[j]? := fun h => y2 hall (by rw [List.getElem?_eq_getElem hlt, List.getElem?_eq_getElem hlt2, h])
          have hne : l1[i] ≠ l2[i] → decide (l1 = l2) = false := by
            intro h
            simp only [decide_eq_false_iff_not]
            intro e
            subst e
            exact h rfl
          generalize l1[i] = t at hrd1 hnext hne
          generalize l2[i] = u at hrd2 hnext hne
          obtain ⟨ta, tb, tc⟩ := t
          obtain ⟨ua, ub, uc⟩ := u
          by_cases ha : ta = ua
          · by_cases hb : tb = ub
            · by_cases hc : tc = uc
              · simp (maxDischargeDepth := 99) [c19_0, hfl, f0, f1, f5, hlt, hrd1, hrd2, V.av, ha, hb, hc, hw, beqL_refl]
                exact ⟨l1.length - (i + 1), y1 hlt, i + 1, rfl, hlt, by simp, hnext (by rw [ha, hb, hc])⟩
              · have hn := hne (by simp [hc])
                simp (maxDischargeDepth := 99) [c19_0, hfl, f0, f1, f5, hlt, hrd1, hrd2, V.av, ha, hb, hc, hn, beqL_iff]
            · have hn := hne (by simp [hb])
              simp (maxDischargeDepth := 99) [c19_0, hfl, f0, f1, f5, hlt, hrd1, hrd2, V.av, ha, hb, hn]
          · have hn := hne (by simp [ha])
            simp (maxDischargeDepth := 99) [c19_0, hfl, f0, f1, f5, hlt, hrd1, hrd2, V.av, ha, hn]
        · have heq : l1 = l2 := List.ext_getElem? fun j => by
            by_cases hj : j < l1.length
            · exact hall j (by omega)
            · rw [List.getElem?_eq_none (by omega), List.getElem?_eq_none (by omega)]
          simp (maxDischargeDepth := 99) [c19_0, hfl, f0, f1, f5, hlt]
          exact heq
      · exact ⟨0, by omega, by omega, rfl, by simp, by simp, by simp, by simp, fun j hj => absurd hj (Nat.not_lt_zero _)⟩
  · have hne : decide (l1 = l2) = false := by
      simp only [decide_eq_false_iff_not]
      intro e
      exact hlen (by rw [e])
    rcases slVals_spec h1 with ⟨rfl, rfl⟩ | ⟨i1, o1, c1, rfl, r1, m1⟩ <;> rcases slVals_spec h2 with ⟨rfl, rfl⟩ | ⟨i2, o2, c2, rfl, r2, m2⟩
    · simp at hlen
    · have hl2 : ¬ (0 : Int) = (l2.length : Int) := by simp only [List.length_nil] at hlen; omega
      have hl3 : ¬ l2 = [] := by intro e; subst e; exact hlen rfl
      simp (maxDischargeDepth := 99) [c19, hne, hl2, hl3]
    · have hl2 : ¬ (l1.length : Int) = 0 := by simp only [List.length_nil] at hlen; omega
      have hl3 : ¬ l1 = [] := by intro e; subst e; exact hlen rfl
      simp (maxDischargeDepth := 99) [c19, hne, hl2, hl3]
    · have hl2 : ¬ (l1.length : Int) = (l2.length : Int) := by omega
      have hl3 : ¬ l1 = l2 := by intro e; subst e; exact hlen rfl
      simp (maxDischargeDepth := 99) [c19, hlen, hne, hl2, hl3]

/-! ### Has -/
def hasA (l : List Arr) (q : Int) : Bool := l.any fun a => decide (a.seq = q)
theorem run13 (C : Ctx) (hc0 : C.prim 13 = none) (hc : C.code 13 = some c13) (σ : AHeap) (s : AV) (l : List Arr) (q : Int) (h : Arrs σ s l) (f : Nat) (hf : l.length + 5 ≤ f) :
    OptP (evCall C f 13 [s, .one (.int .i64 q)] σ) (fun _ v τ => v = .one (.bool (hasA l q)) ∧ τ = σ) := by
  obtain ⟨f, rfl⟩ : ∃ k, f = k + 1 := ⟨f - 1, by omega⟩
  refine evCall_code hc0 hc ?_
  rcases h.rd with ⟨rfl, rfl⟩ | ⟨id, off, cap, rfl, hm, hr⟩
  · simp (maxDischargeDepth := 99) [c13]
    refine ends_loop (I := fun k fr τ => k = 0 ∧ τ = σ ∧ fr.length = 19 ∧ getSlot fr 0 = .one .nilSlice ∧ getSlot fr 5 = .one (.int .i64 0)) ?_ (k := 0) ?_ (by omega)
    · rintro k fr τ ⟨rfl, rfl, hlen, f0, f5⟩
      simp (maxDischargeDepth := 99) [c13_0, hlen, f0, f5, hasA]
    · simp
  · simp (maxDischargeDepth := 99) [c13]
    refine ends_loop (I := fun k fr τ => ∃ i, k = l.length - i ∧ i ≤ l.length ∧ τ = σ ∧ fr.length = 19 ∧ getSlot fr 0 = .one (.slice id off 3 l.length cap) ∧ getSlot fr 1 = .one (.int .i64 q) ∧ getSlot fr 5 = .one (.int .i64 (i : Int)) ∧ ∀ j, j < i → (rAt l j).seq ≠ q) ?_ (k := l.length) ?_ (by omega)
    · rintro k fr τ ⟨i, rfl, hi, rfl, hlen, f0, f1, f5, hall⟩
      by_cases hlt : i < l.length
      · obtain ⟨_, hrd, _, _⟩ := hr i hlt
        have hw := wr_next hlt hm
        by_cases he : (rAt l i).seq = q
        · have hB : hasA l q = true := by
            unfold hasA
            rw [List.any_eq_true]
            exact ⟨_, rAt_mem hlt, by simpa using he⟩
          rw [he] at hrd
          simp (maxDischargeDepth := 99) [c13_0, hlen, f0, f1, f5, hlt, hrd, hB]
        · have hn := y2 (P := fun j => (rAt l j).seq ≠ q) hall he
          generalize (rAt l i).seq = x at hrd he
          simp (maxDischargeDepth := 99) [c13_0, hlen, f0, f1, f5, hlt, hrd, he, hw]
          exact ⟨l.length - (i + 1), y1 hlt, i + 1, rfl, hlt, by simp, hn⟩
      · obtain rfl : i = l.length := by omega
        have hB : hasA l q = false := by
          unfold hasA
          rw [List.any_eq_false]
          intro a ha
          obtain ⟨j, hj, rfl⟩ := List.mem_iff_getElem.1 ha
          have := hall j hj
          simpa [rAt, List.getD, hj] using this
        simp (maxDischargeDepth := 99) [c13_0, hlen, f0, f1, f5, hB]
    · exact ⟨0, rfl, Nat.zero_le _, rfl, by simp, by simp, by simp, by simp, fun j hj => absurd hj (Nat.not_lt_zero _)⟩
end Go.Proofs.Ythjijjkoeoemgaa.Ab
