/- Arrivals compared: the document's Same, SameDelta. -/
import Derived.Test.YthjijjkoeoemgaaCt3
import Derived.Test.YthjijjkoeoemgaaCtD
namespace Go.Proofs.Ythjijjkoeoemgaa.Ab
open Go
set_option maxRecDepth 20000
set_option maxHeartbeats 2000000
set_option linter.unusedSimpArgs false

/-- What of an arrival is compared. -/
def Arr.key (a : Arr) : Int × Int × List V := (a.seq, a.time, a.vals)
def sameA (l1 l2 : List Arr) : Bool := decide (l1.map Arr.key = l2.map Arr.key)
theorem sameA_ne {l1 l2 : List Arr} {i : Nat} (h1 : i < l1.length) (h2 : i < l2.length) (h : (rAt l1 i).key ≠ (rAt l2 i).key) : sameA l1 l2 = false := by
  unfold sameA
  simp only [decide_eq_false_iff_not]
  intro e
  have : (l1.map Arr.key)[i]? = (l2.map Arr.key)[i]? := by rw [e]
  simp only [List.getElem?_map, List.getElem?_eq_getElem h1, List.getElem?_eq_getElem h2, Option.map_some, Option.some.injEq] at this
  apply h
  simpa [rAt, List.getD, h1, h2] using this
theorem sameA_eq {l1 l2 : List Arr} (hl : l1.length = l2.length) (h : ∀ i, i < l1.length → (rAt l1 i).key = (rAt l2 i).key) : sameA l1 l2 = true := by
  unfold sameA
  rw [decide_eq_true_iff]
  apply List.ext_getElem (by simpa using hl)
  intro i h1 h2
  have h1' : i < l1.length := by simpa using h1
  have h2' : i < l2.length := by simpa using h2
  have := h i h1'
  simpa [rAt, List.getD, h1', h2'] using this
theorem sameA_len {l1 l2 : List Arr} (hl : l1.length ≠ l2.length) : sameA l1 l2 = false := by
  unfold sameA
  simp only [decide_eq_false_iff_not]
  intro e
  apply hl
  have := congrArg List.length e
  simpa using this

theorem run12 (σ : AHeap) (s1 s2 : AV) (l1 l2 : List Arr) (h1 : Arrs σ s1 l1) (h2 : Arrs σ s2 l2) (K : Nat) (hK : ∀ a ∈ l1, a.vals.length ≤ K) (f : Nat) (hf : l1.length + K + 12 ≤ f) :
    OptP (evCall D9 f 12 [s1, s2] σ) (fun _ v τ => v = .one (.bool (sameA l1 l2)) ∧ τ = σ) := by
  obtain ⟨f, rfl⟩ : ∃ k, f = k + 1 := ⟨f - 1, by omega⟩
  refine evCall_code (D9_prim 12) ((D9_code 12).trans code12) ?_
  by_cases hlen : l1.length = l2.length
  · rcases h1.rd with ⟨rfl, rfl⟩ | ⟨i1, o1, c1, rfl, m1, r1⟩
    · have hl2 : l2 = [] := List.length_eq_zero_iff.1 hlen.symm
      subst hl2
      have hB : sameA [] [] = true := rfl
      have hs2 : s2 = .one .nilSlice ∨ ∃ id off cap, s2 = .one (.slice id off 3 0 cap) := by
        rcases h2.rd with ⟨h, _⟩ | ⟨id, off, cap, h, _⟩
        · exact .inl h
        · exact .inr ⟨id, off, cap, h⟩
      rcases hs2 with rfl | ⟨i2, o2, c2, rfl⟩
      all_goals
        simp (maxDischargeDepth := 99) [c12]
        refine ends_loop (I := fun k fr τ => k = 0 ∧ τ = σ ∧ fr.length = 55 ∧ getSlot fr 0 = .one .nilSlice ∧ getSlot fr 5 = .one (.int .i64 0)) ?_ (k := 0) ?_ (by omega)
        · rintro k fr τ ⟨rfl, rfl, hfl, f0, f5⟩
          simp (maxDischargeDepth := 99) [c12_0, hfl, f0, f5, hB]
        · simp
    · rcases h2.rd with ⟨rfl, rfl⟩ | ⟨i2, o2, c2, rfl, m2, r2⟩
      · have hl1 : l1 = [] := List.length_eq_zero_iff.1 hlen
        subst hl1
        have hB : sameA [] [] = true := rfl
        simp (maxDischargeDepth := 99) [c12]
        refine ends_loop (I := fun k fr τ => k = 0 ∧ τ = σ ∧ fr.length = 55 ∧ getSlot fr 0 = .one (.slice i1 o1 3 0 c1) ∧ getSlot fr 5 = .one (.int .i64 0)) ?_ (k := 0) ?_ (by omega)
        · rintro k fr τ ⟨rfl, rfl, hfl, f0, f5⟩
          simp (maxDischargeDepth := 99) [c12_0, hfl, f0, f5, hB]
        · simp
      · rw [← hlen]
        simp (maxDischargeDepth := 99) [c12]
        refine ends_loop (I := fun k fr τ => ∃ i, k = l1.length - i ∧ i ≤ l1.length ∧ τ = σ ∧ fr.length = 55 ∧ getSlot fr 0 = .one (.slice i1 o1 3 l1.length c1) ∧ getSlot fr 1 = .one (.slice i2 o2 3 l1.length c2) ∧
            getSlot fr 5 = .one (.int .i64 i) ∧ ∀ j, j < i → (rAt l1 j).key = (rAt l2 j).key) ?_ (k := l1.length) ?_ (by omega)
        · rintro k fr τ ⟨i, rfl, hi, rfl, hfl, f0, f1, f5, hall⟩
          by_cases hlt : i < l1.length
          · have hlt2 : i < l2.length := by omega
            obtain ⟨_, p1, p2, p3⟩ := r1 i hlt
            obtain ⟨_, q1, q2, q3⟩ := r2 i hlt2
            have hw := wr_next hlt m1
            have hne := sameA_ne hlt hlt2
            have hnext := y2 (P := fun j => (rAt l1 j).key = (rAt l2 j).key) hall
            have hrow := run19 D9 (D9_prim 19) ((D9_code 19).trans code19) τ (.one (rAt l1 i).row) (.one (rAt l2 i).row) (rAt l1 i).vals (rAt l2 i).vals (h1.2 _ (rAt_mem hlt)) (h2.2 _ (rAt_mem hlt2)) f (by have := hK _ (rAt_mem hlt); omega)
            generalize rAt l1 i = t at p1 p2 p3 hne hnext hrow
            generalize rAt l2 i = u at q1 q2 q3 hne hnext hrow
            obtain ⟨ta, tb, tr, tv⟩ := t
            obtain ⟨ua, ub, ur, uv⟩ := u
            simp only at p1 p2 p3 q1 q2 q3 hrow
            by_cases ha : ta = ua
            · by_cases hb : tb = ub
              · simp (maxDischargeDepth := 99) [c12_0, hfl, f0, f1, f5, hlt, p1, p2, p3, q1, q2, q3, ha, hb]
                refine hrow.mono ?_
                rintro v τ2 ⟨rfl, rfl⟩
                by_cases hv : tv = uv
                · simp (maxDischargeDepth := 99) [hfl, f0, f1, f5, hv, hw]
                  exact ⟨l1.length - (i + 1), y1 hlt, i + 1, rfl, hlt, by simp, hnext (by simp [Arr.key, ha, hb, hv])⟩
                · have hn := hne (by simp [Arr.key, hv])
                  simp (maxDischargeDepth := 99) [hfl, f0, f1, f5, hv, hn]
              · have hn := hne (by simp [Arr.key, hb])
                simp (maxDischargeDepth := 99) [c12_0, hfl, f0, f1, f5, hlt, p1, p2, q1, q2, ha, hb, hn]
            · have hn := hne (by simp [Arr.key, ha])
              simp (maxDischargeDepth := 99) [c12_0, hfl, f0, f1, f5, hlt, p1, q1, ha, hn]
          · have hB := sameA_eq hlen (fun j hj => hall j (by omega))
            simp (maxDischargeDepth := 99) [c12_0, hfl, f0, f1, f5, hlt, hB]
        · exact ⟨0, rfl, Nat.zero_le _, rfl, by simp, by simp, by simp, by simp, fun j hj => absurd hj (Nat.not_lt_zero _)⟩
  · have hB := sameA_len hlen
    rcases h1.rd with ⟨rfl, rfl⟩ | ⟨i1, o1, c1, rfl, m1, r1⟩ <;> rcases h2.rd with ⟨rfl, rfl⟩ | ⟨i2, o2, c2, rfl, m2, r2⟩
    · simp at hlen
    · have hl2 : ¬ (0 : Int) = (l2.length : Int) := by simp only [List.length_nil] at hlen; omega
      have hl3 : ¬ l2 = [] := by intro e; subst e; exact hlen rfl
      simp (maxDischargeDepth := 99) [c12, hB, hl2, hl3]
    · have hl2 : ¬ (l1.length : Int) = 0 := by simp only [List.length_nil] at hlen; omega
      have hl3 : ¬ l1 = [] := by intro e; subst e; exact hlen rfl
      simp (maxDischargeDepth := 99) [c12, hB, hl2, hl3]
    · have hl2 : ¬ (l1.length : Int) = (l2.length : Int) := by omega
      simp (maxDischargeDepth := 99) [c12, hlen, hB, hl2]
end Go.Proofs.Ythjijjkoeoemgaa.Ab
