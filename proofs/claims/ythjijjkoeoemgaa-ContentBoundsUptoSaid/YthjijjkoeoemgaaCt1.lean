/- Which places of columns may be: the program's test, and the document's. -/
import Derived.Test.YthjijjkoeoemgaaCtInts
import Derived.Test.YthjijjkoeoemgaaLitCt
namespace Go.Proofs.Ythjijjkoeoemgaa.Ab
open Go
set_option maxRecDepth 20000
set_option maxHeartbeats 2000000
set_option linter.unusedSimpArgs false

def iAt (l : List Int) (i : Nat) : Int := l.getD i 0
theorem iAt_eq {l : List Int} {i : Nat} (h : i < l.length) : iAt l i = l[i] := by simp [iAt, List.getD, h]
/-- Unlike places within n columns, one at least. -/
def ColsOk (l : List Int) (n : Int) : Prop := 0 < l.length ∧ ∀ i, i < l.length → 0 ≤ iAt l i ∧ iAt l i < n ∧ ∀ j, j < i → iAt l j ≠ iAt l i
open Classical in
noncomputable def colsB (l : List Int) (n : Int) : Bool := decide (ColsOk l n)
open Classical in
theorem colsB_false {l : List Int} {n : Int} {i : Nat} (hi : i < l.length) (h : ¬ (0 ≤ iAt l i ∧ iAt l i < n ∧ ∀ j, j < i → iAt l j ≠ iAt l i)) : colsB l n = false := by
  unfold colsB
  exact decide_eq_false (fun e => h (e.2 i hi))
open Classical in
theorem colsB_nil (n : Int) : colsB [] n = false := by
  unfold colsB
  exact decide_eq_false (fun e => absurd e.1 (Nat.lt_irrefl _))
open Classical in
theorem colsB_true {l : List Int} {n : Int} (h0 : 0 < l.length) (h : ∀ i, i < l.length → 0 ≤ iAt l i ∧ iAt l i < n ∧ ∀ j, j < i → iAt l j ≠ iAt l i) : colsB l n = true := by
  unfold colsB
  exact decide_eq_true ⟨h0, h⟩
/-- So many unlike places there are at the most. -/
theorem cols_len {l : List Int} {n : Int} (h : ∀ i, i < l.length → 0 ≤ iAt l i ∧ iAt l i < n ∧ ∀ j, j < i → iAt l j ≠ iAt l i) : (l.length : Int) ≤ n ∨ l.length = 0 := by
  by_cases h0 : l.length = 0
  · exact .inr h0
  left
  have hn : 0 ≤ n := by have := h 0 (by omega); omega
  have hnd : l.Nodup := by
    rw [List.Nodup, List.pairwise_iff_getElem]
    intro i j hi hj hij e
    have := (h j hj).2.2 i hij
    rw [iAt_eq hi, iAt_eq hj] at this
    exact this e
  have hsub : l ⊆ (List.range n.toNat).map Int.ofNat := by
    intro x hx
    obtain ⟨i, hi, rfl⟩ := List.mem_iff_getElem.1 hx
    have := h i hi
    rw [iAt_eq hi] at this
    refine List.mem_map.2 ⟨l[i].toNat, List.mem_range.2 (by omega), ?_⟩
    show ((l[i].toNat : Nat) : Int) = l[i]
    omega
  have := hnd.length_le_of_subset hsub
  rw [List.length_map, List.length_range] at this
  omega

/-! ### slices.Index -/
def idxP (σ : AHeap) (s : AV) (l : List Int) : Prop := (s = .one .nilSlice ∧ l = []) ∨ ∃ id off cap, s = .one (.slice id off 1 l.length cap) ∧ (∀ i, i < l.length → rd (σ.get id) none (off + i) = some (.one (.int .i64 (iAt l i)))) ∧ l.length ≤ maxElems
theorem idxP_of {σ : AHeap} {s : AV} {l : List Int} (h : slInts σ s = some l) : idxP σ s l := by
  rcases slInts_spec h with h | ⟨id, off, cap, h1, h2, h3⟩
  · exact .inl h
  · exact .inr ⟨id, off, cap, h1, fun i hi => by rw [iAt_eq hi]; exact h2 i hi, h3⟩
/-- The first place of v, or -1. -/
def FirstAt (l : List Int) (v r : Int) : Prop := (∃ i : Nat, i < l.length ∧ r = (i : Int) ∧ iAt l i = v ∧ ∀ j, j < i → iAt l j ≠ v) ∨ (r = -1 ∧ ∀ j, j < l.length → iAt l j ≠ v)
theorem run32 (C : Ctx) (hc0 : C.prim 32 = none) (hc : C.code 32 = some c32) (σ : AHeap) (s : AV) (l : List Int) (v : Int) (h : idxP σ s l) (f : Nat) (hf : l.length + 6 ≤ f) :
    OptP (evCall C f 32 [s, .one (.int .i64 v)] σ) (fun _ r τ => τ = σ ∧ ∃ x, r = .one (.int .i64 x) ∧ FirstAt l v x) := by
  obtain ⟨f, rfl⟩ : ∃ k, f = k + 1 := ⟨f - 1, by omega⟩
  refine evCall_code hc0 hc ?_
  rcases h with ⟨rfl, rfl⟩ | ⟨id, off, cap, rfl, hr, hm⟩
  · simp (maxDischargeDepth := 99) [c32]
    refine ends_loop (I := fun k fr τ => k = 0 ∧ τ = σ ∧ fr.length = 19 ∧ getSlot fr 7 = .one (.int .i64 0) ∧ getSlot fr 8 = .one (.int .i64 0)) ?_ (k := 0) ?_ (by omega)
    · rintro k fr τ ⟨rfl, rfl, hlen, f7, f8⟩
      simp (maxDischargeDepth := 99) [c32_0, hlen, f7, f8]
      exact .inr ⟨rfl, fun j hj => absurd hj (Nat.not_lt_zero _)⟩
    · simp
  · simp (maxDischargeDepth := 99) [c32]
    refine ends_loop (I := fun k fr τ => ∃ i, k = l.length - i ∧ i ≤ l.length ∧ τ = σ ∧ fr.length = 19 ∧ getSlot fr 0 = .one (.slice id off 1 l.length cap) ∧ getSlot fr 1 = .one (.int .i64 v) ∧ getSlot fr 7 = .one (.int .i64 (l.length : Int)) ∧ getSlot fr 8 = .one (.int .i64 (i : Int)) ∧ ∀ j, j < i → iAt l j ≠ v) ?_ (k := l.length) ?_ (by omega)
    · rintro k fr τ ⟨i, rfl, hi, rfl, hlen, f0, f1, f7, f8, hall⟩
      by_cases hlt : i < l.length
      · have hrd := hr i hlt
        have hw := wr_next hlt hm
        by_cases he : v = iAt l i
        · have hst : FirstAt l v (i : Int) := .inl ⟨i, hlt, rfl, he.symm, hall⟩
          rw [← he] at hrd
          simp (maxDischargeDepth := 99) [c32_0, hlen, f0, f1, f7, f8, hlt, hrd]
          exact hst
        · have hst : ∀ j, j < i + 1 → iAt l j ≠ v := fun j hj => by
            by_cases e : j = i
            · subst e; exact fun e => he e.symm
            · exact hall j (by omega)
          generalize iAt l i = x at hrd he
          simp (maxDischargeDepth := 99) [c32_0, hlen, f0, f1, f7, f8, hlt, hrd, he, hw]
          exact ⟨l.length - (i + 1), by omega, i + 1, rfl, by omega, by simp, hst⟩
      · obtain rfl : i = l.length := by omega
        have hst : FirstAt l v (-1) := .inr ⟨rfl, hall⟩
        simp (maxDischargeDepth := 99) [c32_0, hlen, f7, f8]
        exact hst
    · exact ⟨0, rfl, Nat.zero_le _, rfl, by simp, by simp, by simp, by simp, by simp, fun j hj => absurd hj (Nat.not_lt_zero _)⟩
theorem first_lt {l : List Int} {r : Int} {i : Nat} (h : FirstAt l (iAt l i) r) (hi : i < l.length) : (∀ j, j < i → iAt l j ≠ iAt l i) ↔ ¬ r < (i : Int) := by
  rcases h with ⟨k, hk, rfl, he, hall⟩ | ⟨rfl, hall⟩
  · constructor
    · intro h1 h2
      exact h1 k (by omega) he
    · intro h1 j hj e
      exact hall j (by omega) e
  · exact absurd rfl (hall i hi)

/-! ### content.columns -/
theorem run20 (σ : AHeap) (s : AV) (l : List Int) (n : Int) (h : idxP σ s l) (f : Nat) (hf : l.length + 12 ≤ f) :
    OptP (evCall plainC f 20 [s, .one (.int .i64 n)] σ) (fun _ v τ => v = .one (.bool (colsB l n)) ∧ τ = σ) := by
  obtain ⟨f, rfl⟩ : ∃ k, f = k + 1 := ⟨f - 1, by omega⟩
  refine evCall_code (by kernel_rfl) code20 ?_
  have h' := h
  rcases h with ⟨rfl, rfl⟩ | ⟨id, off, cap, rfl, hr, hm⟩
  · simp (maxDischargeDepth := 99) [c20]
    refine ends_loop (I := fun k fr τ => k = 0 ∧ τ = σ ∧ fr.length = 38 ∧ getSlot fr 0 = .one .nilSlice ∧ getSlot fr 8 = .one (.int .i64 0) ∧ getSlot fr 9 = .one (.int .i64 0)) ?_ (k := 0) ?_ (by omega)
    · rintro k fr τ ⟨rfl, rfl, hlen, f0, f8, f9⟩
      simp (maxDischargeDepth := 99) [c20_0, hlen, f0, f8, f9, colsB_nil]
    · simp
  · have hmb : l.length ≤ 4294967296 := hm
    simp (maxDischargeDepth := 99) [c20]
    refine ends_loop (I := fun k fr τ => ∃ i, k = l.length - i ∧ i ≤ l.length ∧ τ = σ ∧ fr.length = 38 ∧ getSlot fr 0 = .one (.slice id off 1 l.length cap) ∧ getSlot fr 1 = .one (.int .i64 n) ∧ getSlot fr 7 = .one (.slice id off 1 l.length cap) ∧ getSlot fr 8 = .one (.int .i64 (l.length : Int)) ∧ getSlot fr 9 = .one (.int .i64 (i : Int)) ∧
        ∀ k, k < i → 0 ≤ iAt l k ∧ iAt l k < n ∧ ∀ j, j < k → iAt l j ≠ iAt l k) ?_ (k := l.length) ?_ (by omega)
    · rintro k fr τ ⟨i, rfl, hi, rfl, hlen, f0, f1, f7, f8, f9, hall⟩
      by_cases hlt : i < l.length
      · have hrd := hr i hlt
        have hw := wr_next hlt hm
        have hx := run32 plainC rfl code32 τ (.one (.slice id off 1 l.length cap)) l (iAt l i) h' f (by omega)
        have hnext : 0 ≤ iAt l i → iAt l i < n → (∀ j, j < i → iAt l j ≠ iAt l i) → ∀ k, k < i + 1 → 0 ≤ iAt l k ∧ iAt l k < n ∧ ∀ j, j < k → iAt l j ≠ iAt l k := fun a b c k hk => by
          by_cases e : k = i
          · subst e; exact ⟨a, b, c⟩
          · exact hall k (by omega)
        by_cases c1 : iAt l i < 0
        · have hB := colsB_false (n := n) hlt (fun e => absurd e.1 (by omega))
          simp (maxDischargeDepth := 99) [c20_0, hlen, f0, f1, f7, f8, f9, hlt, hrd, c1, hB]
        · by_cases c2 : n ≤ iAt l i
          · have hB := colsB_false (n := n) hlt (fun e => absurd e.2.1 (by omega))
            simp (maxDischargeDepth := 99) [c20_0, hlen, f0, f1, f7, f8, f9, hlt, hrd, c1, c2, hB]
          · simp (maxDischargeDepth := 99) [c20_0, hlen, f0, f1, f7, f8, f9, hlt, hrd, c1, c2]
            refine hx.mono ?_
            rintro v τ2 ⟨rfl, x, rfl, hfx⟩
            have hfl := first_lt hfx hlt
            by_cases c3 : x < (i : Int)
            · have hB := colsB_false (n := n) hlt (fun e => (hfl.1 e.2.2) c3)
              simp (maxDischargeDepth := 99) [hlen, f0, f1, f7, f8, f9, c3, hB]
            · have hn2 := hnext (by omega) (by omega) (hfl.2 c3)
              simp (maxDischargeDepth := 99) [hlen, f0, f1, f7, f8, f9, c3, hw]
              exact ⟨l.length - (i + 1), by omega, i + 1, rfl, by omega, by simp, hn2⟩
      · obtain rfl : i = l.length := by omega
        by_cases h1 : (1 : Int) ≤ (l.length : Int)
        · have hB := colsB_true (n := n) (by omega) hall
          have hle : (l.length : Int) ≤ n := by
            rcases cols_len hall with h | h
            · exact h
            · omega
          have h1' : 1 ≤ l.length := by omega
          simp (maxDischargeDepth := 99) [c20_0, hlen, f0, f1, f7, f8, f9, h1, h1', hle, hB]
        · have h0 : l = [] := List.length_eq_zero_iff.1 (by omega)
          subst h0
          simp (maxDischargeDepth := 99) [c20_0, hlen, f0, f1, f7, f8, f9, colsB_nil]
    · exact ⟨0, rfl, Nat.zero_le _, rfl, by simp, by simp, by simp, by simp, by simp, by simp, fun j hj => absurd hj (Nat.not_lt_zero _)⟩

theorem stp {P : Nat → Prop} {i : Nat} (h : ∀ j, j < i → P j) (k : P i) : ∀ j, j < i + 1 → P j := fun j hj => by
  by_cases e : j = i
  · subst e; exact k
  · exact h j (by omega)
theorem cA {x : Int} (h : ¬ x < 0) : 0 ≤ x := by omega
theorem cB {x n : Int} (h : ¬ n ≤ x) : x < n := by omega
theorem cC {n j : Nat} (h : j < n) : n - (j + 1) < n - j := by omega
/-! ### the document's cols -/
theorem run21 (σ : AHeap) (s : AV) (l : List Int) (n : Int) (h : idxP σ s l) (f : Nat) (hf : l.length + 12 ≤ f) :
    OptP (evCall plainC f 21 [s, .one (.int .i64 n)] σ) (fun _ v τ => v = .one (.bool (colsB l n)) ∧ τ = σ) := by
  obtain ⟨f, rfl⟩ : ∃ k, f = k + 1 := ⟨f - 1, by omega⟩
  refine evCall_code (by kernel_rfl) code21 ?_
  rcases h with ⟨rfl, rfl⟩ | ⟨id, off, cap, rfl, hr, hm⟩
  · simp (maxDischargeDepth := 99) [c21]
    refine ends_loop (I := fun k fr τ => k = 0 ∧ τ = σ ∧ fr.length = 43 ∧ getSlot fr 0 = .one .nilSlice ∧ getSlot fr 5 = .one (.int .i64 0)) ?_ (k := 0) ?_ (by omega)
    · rintro k fr τ ⟨rfl, rfl, hlen, f0, f5⟩
      simp (maxDischargeDepth := 99) [c21_1, hlen, f0, f5, colsB_nil]
    · simp
  · have hmb : l.length ≤ 4294967296 := hm
    simp (maxDischargeDepth := 99) [c21]
    refine ends_loop (I := fun k fr τ => ∃ i, k = l.length - i ∧ i ≤ l.length ∧ τ = σ ∧ fr.length = 43 ∧ getSlot fr 0 = .one (.slice id off 1 l.length cap) ∧ getSlot fr 1 = .one (.int .i64 n) ∧ getSlot fr 5 = .one (.int .i64 (i : Int)) ∧
        ∀ k, k < i → 0 ≤ iAt l k ∧ iAt l k < n ∧ ∀ j, j < k → iAt l j ≠ iAt l k) ?_ (k := l.length) ?_ (by omega)
    · rintro k fr τ ⟨i, rfl, hi, rfl, hlen, f0, f1, f5, hall⟩
      by_cases hlt : i < l.length
      · have hrd := hr i hlt
        have hw := wr_next hlt hm
        have hnext : 0 ≤ iAt l i → iAt l i < n → (∀ j, j < i → iAt l j ≠ iAt l i) → ∀ k, k < i + 1 → 0 ≤ iAt l k ∧ iAt l k < n ∧ ∀ j, j < k → iAt l j ≠ iAt l k := fun a b c k hk => by
          by_cases e : k = i
          · subst e; exact ⟨a, b, c⟩
          · exact hall k (by omega)
        by_cases c1 : iAt l i < 0
        · have hB := colsB_false (n := n) hlt (fun e => absurd e.1 (by omega))
          simp (maxDischargeDepth := 99) [c21_1, hlen, f0, f1, f5, hlt, hrd, c1, hB]
        · by_cases c2 : n ≤ iAt l i
          · have hB := colsB_false (n := n) hlt (fun e => absurd e.2.1 (by omega))
            simp (maxDischargeDepth := 99) [c21_1, hlen, f0, f1, f5, hlt, hrd, c1, c2, hB]
          · simp (maxDischargeDepth := 99) [c21_1, hlen, f0, f1, f5, hlt, hrd, c1, c2]
            have hcols : ∀ k, k < i → iAt l k = iAt l i → colsB l n = false := fun k hk e => colsB_false (n := n) hlt (fun h => h.2.2 k hk e)
            refine ends_loop (I := fun k fr τ' => ∃ j, k = i - j ∧ j ≤ i ∧ τ' = τ ∧ fr.length = 43 ∧ getSlot fr 0 = .one (.slice id off 1 l.length cap) ∧ getSlot fr 1 = .one (.int .i64 n) ∧ getSlot fr 5 = .one (.int .i64 (i : Int)) ∧ getSlot fr 6 = .one (.int .i64 (j : Int)) ∧ ∀ k, k < j → iAt l k ≠ iAt l i) ?_ (k := i) ?_ (by omega)
            · rintro k fr τ' ⟨j, rfl, hj, rfl, hlen, f0, f1, f5, f6, hne⟩
              by_cases hji : j < i
              · have hjl : j < l.length := by omega
                have hrdj := hr j hjl
                have hwj := wr_next hji (by omega : i ≤ maxElems)
                by_cases he : iAt l j = iAt l i
                · have hB := hcols j hji he
                  rw [he] at hrdj
                  simp (maxDischargeDepth := 99) [c21_0, hlen, f0, f1, f5, f6, hji, hjl, hlt, hrd, hrdj, hB]
                · have hn2 : ∀ k, k < j + 1 → iAt l k ≠ iAt l i := stp (P := fun k => iAt l k ≠ iAt l i) hne he
                  simp (maxDischargeDepth := 99) [c21_0, hlen, f0, f1, f5, f6, hji, hjl, hlt, hrd, hrdj, he, hwj]
                  exact ⟨i - (j + 1), cC hji, j + 1, rfl, hji, by simp, hn2⟩
              · obtain rfl : j = i := by omega
                have hn2 := hnext (cA c1) (cB c2) hne
                simp (maxDischargeDepth := 99) [c21_0, hlen, f0, f1, f5, f6, hw]
                exact ⟨l.length - (j + 1), cC hlt, j + 1, rfl, hlt, by simp, hn2⟩
            · exact ⟨0, rfl, Nat.zero_le _, rfl, by simp [hlen], by simp [hlen, f0], by simp [hlen, f1], by simp [hlen, f5], by simp [hlen], fun k hk => absurd hk (Nat.not_lt_zero _)⟩
      · obtain rfl : i = l.length := by omega
        by_cases h1 : (1 : Int) ≤ (l.length : Int)
        · have hB := colsB_true (n := n) (by omega) hall
          have h1' : 1 ≤ l.length := by omega
          simp (maxDischargeDepth := 99) [c21_1, hlen, f0, f1, f5, h1, h1', hB]
        · have h0 : l = [] := List.length_eq_zero_iff.1 (by omega)
          subst h0
          simp (maxDischargeDepth := 99) [c21_1, hlen, f0, f1, f5, colsB_nil]
    · exact ⟨0, rfl, Nat.zero_le _, rfl, by simp, by simp, by simp, by simp, fun j hj => absurd hj (Nat.not_lt_zero _)⟩
end Go.Proofs.Ythjijjkoeoemgaa.Ab
