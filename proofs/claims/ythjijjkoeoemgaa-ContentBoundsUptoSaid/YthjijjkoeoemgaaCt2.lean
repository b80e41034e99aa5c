/- Which views may be: the program's Check, and the document's. -/
import Derived.Test.YthjijjkoeoemgaaCt1
namespace Go.Proofs.Ythjijjkoeoemgaa.Ab
open Go
set_option maxRecDepth 20000
set_option maxHeartbeats 4000000
set_option linter.unusedSimpArgs false
set_option linter.unusedVariables false

/-- May a view be: its kind, number, columns, whether it is turned, over n columns. -/
noncomputable def okView (k N : Int) (l : List Int) (d : Bool) (n : Int) : Bool :=
  if k = 1 ∨ k = 8 ∨ k = 9 then decide (N = 0) && (decide (l.length = 0) && !d)
  else if k = 2 ∨ k = 4 then (decide (1 ≤ N) && decide (N ≤ 65536)) && (decide (l.length = 0) && !d)
  else if k = 3 ∨ k = 5 then (decide (1 ≤ N) && decide (N ≤ 1099511627776)) && (decide (l.length = 0) && !d)
  else if k = 6 then (decide (N = 0) && !d) && colsB l n
  else if k = 7 then ((decide (1 ≤ N) && decide (N ≤ 65536)) && decide (l.length = 1)) && colsB l n
  else false
noncomputable def errV (k N : Int) (l : List Int) (d : Bool) (n : Int) : Int := if okView k N l d n = true then 0 else 150
theorem idxP.keeps {σ τ : AHeap} {s : AV} {l : List Int} (h : idxP σ s l) (hk : Keeps σ τ) : idxP τ s l := by
  rcases h with h | ⟨id, off, cap, h1, h2, h3⟩
  · exact .inl h
  · refine .inr ⟨id, off, cap, h1, fun i hi => ?_, h3⟩
    have := h2 i hi
    have hid : id < σ.size := by
      cases hg : σ.get id with
      | none => rw [hg] at this; cases this
      | some o => exact AHeap.get_lt hg
    rw [hk.2 id hid, this]

theorem run7 (σ : AHeap) (s : SV) (l : List Int) (k N n : Int) (d : Bool) (h : idxP σ (.one s) l) (f : Nat) (hf : l.length + 30 ≤ f) :
    OptP (evCall plainC f 7 [.agg [.int .i64 k, .int .i64 N, s, .bool d], .one (.int .i64 n)] σ) (fun _ v τ => v = .one (.int .i64 (errV k N l d n)) ∧ Keeps σ τ) := by
  obtain ⟨f, rfl⟩ : ∃ k, f = k + 1 := ⟨f - 1, by omega⟩
  refine evCall_code (by kernel_rfl) code7 ?_
  have hsub := run20 (σ.alloc ⟨[.int .i64 k, .int .i64 N, s, .bool d], .own⟩) (.one s) l n (h.keeps (Keeps.alloc (Keeps.refl _))) f (by omega)
  rcases h with ⟨hs, hl⟩ | ⟨id, off, cap, hs, hr, hm⟩
  · cases hs
    subst hl
    have hcase : k = 1 ∨ k = 8 ∨ k = 9 ∨ k = 2 ∨ k = 4 ∨ k = 3 ∨ k = 5 ∨ k = 6 ∨ k = 7 ∨ (¬ k = 1 ∧ ¬ k = 2 ∧ ¬ k = 3 ∧ ¬ k = 4 ∧ ¬ k = 5 ∧ ¬ k = 6 ∧ ¬ k = 7 ∧ ¬ k = 8 ∧ ¬ k = 9) := by omega
    rcases hcase with hk1 | hk8 | hk9 | hk2 | hk4 | hk3 | hk5 | hk6 | hk7 | ⟨hk1, hk2, hk3, hk4, hk5, hk6, hk7, hk8, hk9⟩
    · subst hk1
      cases d <;> by_cases h1 : N = 0 <;> simp (maxDischargeDepth := 99) [c7, errV, okView, h1]
    · subst hk8
      cases d <;> by_cases h1 : N = 0 <;> simp (maxDischargeDepth := 99) [c7, errV, okView, h1]
    · subst hk9
      cases d <;> by_cases h1 : N = 0 <;> simp (maxDischargeDepth := 99) [c7, errV, okView, h1]
    · subst hk2
      cases d <;> by_cases h1 : 1 ≤ N <;> by_cases h2 : N ≤ 65536 <;> simp (maxDischargeDepth := 99) [c7, errV, okView, h1, h2]
    · subst hk4
      cases d <;> by_cases h1 : 1 ≤ N <;> by_cases h2 : N ≤ 65536 <;> simp (maxDischargeDepth := 99) [c7, errV, okView, h1, h2]
    · subst hk3
      cases d <;> by_cases h1 : 1 ≤ N <;> by_cases h2 : N ≤ 1099511627776 <;> simp (maxDischargeDepth := 99) [c7, errV, okView, h1, h2]
    · subst hk5
      cases d <;> by_cases h1 : 1 ≤ N <;> by_cases h2 : N ≤ 1099511627776 <;> simp (maxDischargeDepth := 99) [c7, errV, okView, h1, h2]
    · subst hk6
      by_cases h1 : N = 0
      · subst h1
        cases d
        · simp (maxDischargeDepth := 99) [c7, errV, okView, eq_self]
          refine hsub.mono ?_
          rintro v τ ⟨rfl, rfl⟩
          simp (maxDischargeDepth := 99) [errV, okView, colsB_nil]
        · simp (maxDischargeDepth := 99) [c7, errV, okView, eq_self]
      · cases d <;> simp (maxDischargeDepth := 99) [c7, errV, okView, h1]
    · subst hk7
      by_cases h1 : 1 ≤ N
      · by_cases h2 : N ≤ 65536
        · simp (maxDischargeDepth := 99) [c7, errV, okView, h1, h2]
        · simp (maxDischargeDepth := 99) [c7, errV, okView, h1, h2]
      · simp (maxDischargeDepth := 99) [c7, errV, okView, h1]
    · simp (maxDischargeDepth := 99) [c7, errV, okView, hk1, hk2, hk3, hk4, hk5, hk6, hk7, hk8, hk9]
  · cases hs
    by_cases hl0 : l.length = 0
    · have hl1 : ¬ l.length = 1 := by omega
      have hcase : k = 1 ∨ k = 8 ∨ k = 9 ∨ k = 2 ∨ k = 4 ∨ k = 3 ∨ k = 5 ∨ k = 6 ∨ k = 7 ∨ (¬ k = 1 ∧ ¬ k = 2 ∧ ¬ k = 3 ∧ ¬ k = 4 ∧ ¬ k = 5 ∧ ¬ k = 6 ∧ ¬ k = 7 ∧ ¬ k = 8 ∧ ¬ k = 9) := by omega
      rcases hcase with hk1 | hk8 | hk9 | hk2 | hk4 | hk3 | hk5 | hk6 | hk7 | ⟨hk1, hk2, hk3, hk4, hk5, hk6, hk7, hk8, hk9⟩
      · subst hk1
        cases d <;> by_cases h1 : N = 0 <;> simp (maxDischargeDepth := 99) [c7, errV, okView, h1, hl0]
      · subst hk8
        cases d <;> by_cases h1 : N = 0 <;> simp (maxDischargeDepth := 99) [c7, errV, okView, h1, hl0]
      · subst hk9
        cases d <;> by_cases h1 : N = 0 <;> simp (maxDischargeDepth := 99) [c7, errV, okView, h1, hl0]
      · subst hk2
        cases d <;> by_cases h1 : 1 ≤ N <;> by_cases h2 : N ≤ 65536 <;> simp (maxDischargeDepth := 99) [c7, errV, okView, h1, h2, hl0]
      · subst hk4
        cases d <;> by_cases h1 : 1 ≤ N <;> by_cases h2 : N ≤ 65536 <;> simp (maxDischargeDepth := 99) [c7, errV, okView, h1, h2, hl0]
      · subst hk3
        cases d <;> by_cases h1 : 1 ≤ N <;> by_cases h2 : N ≤ 1099511627776 <;> simp (maxDischargeDepth := 99) [c7, errV, okView, h1, h2, hl0]
      · subst hk5
        cases d <;> by_cases h1 : 1 ≤ N <;> by_cases h2 : N ≤ 1099511627776 <;> simp (maxDischargeDepth := 99) [c7, errV, okView, h1, h2, hl0]
      · subst hk6
        by_cases h1 : N = 0
        · subst h1
          rw [hl0] at hsub
          cases d
          · simp (maxDischargeDepth := 99) [c7, errV, okView, eq_self, hl0]
            refine hsub.mono ?_
            rintro v τ ⟨rfl, rfl⟩
            cases hB : colsB l n <;> simp (maxDischargeDepth := 99) [errV, okView, hB, hl0]
          · simp (maxDischargeDepth := 99) [c7, errV, okView, eq_self, hl0]
        · cases d <;> simp (maxDischargeDepth := 99) [c7, errV, okView, h1, hl0]
      · subst hk7
        by_cases h1 : 1 ≤ N
        · by_cases h2 : N ≤ 65536
          · simp (maxDischargeDepth := 99) [c7, errV, okView, h1, h2, hl0]
          · simp (maxDischargeDepth := 99) [c7, errV, okView, h1, h2, hl0]
        · simp (maxDischargeDepth := 99) [c7, errV, okView, h1, hl0]
      · simp (maxDischargeDepth := 99) [c7, errV, okView, hk1, hk2, hk3, hk4, hk5, hk6, hk7, hk8, hk9, hl0]
    · have hl0' : ¬ (l.length : Int) = 0 := by omega
      have hl00 : ¬ l = [] := by intro e; rw [e] at hl0; exact hl0 rfl
      have hcase : k = 1 ∨ k = 8 ∨ k = 9 ∨ k = 2 ∨ k = 4 ∨ k = 3 ∨ k = 5 ∨ k = 6 ∨ k = 7 ∨ (¬ k = 1 ∧ ¬ k = 2 ∧ ¬ k = 3 ∧ ¬ k = 4 ∧ ¬ k = 5 ∧ ¬ k = 6 ∧ ¬ k = 7 ∧ ¬ k = 8 ∧ ¬ k = 9) := by omega
      rcases hcase with hk1 | hk8 | hk9 | hk2 | hk4 | hk3 | hk5 | hk6 | hk7 | ⟨hk1, hk2, hk3, hk4, hk5, hk6, hk7, hk8, hk9⟩
      · subst hk1
        cases d <;> by_cases h1 : N = 0 <;> simp (maxDischargeDepth := 99) [c7, errV, okView, h1, hl0, hl0', hl00]
      · subst hk8
        cases d <;> by_cases h1 : N = 0 <;> simp (maxDischargeDepth := 99) [c7, errV, okView, h1, hl0, hl0', hl00]
      · subst hk9
        cases d <;> by_cases h1 : N = 0 <;> simp (maxDischargeDepth := 99) [c7, errV, okView, h1, hl0, hl0', hl00]
      · subst hk2
        cases d <;> by_cases h1 : 1 ≤ N <;> by_cases h2 : N ≤ 65536 <;> simp (maxDischargeDepth := 99) [c7, errV, okView, h1, h2, hl0, hl0', hl00]
      · subst hk4
        cases d <;> by_cases h1 : 1 ≤ N <;> by_cases h2 : N ≤ 65536 <;> simp (maxDischargeDepth := 99) [c7, errV, okView, h1, h2, hl0, hl0', hl00]
      · subst hk3
        cases d <;> by_cases h1 : 1 ≤ N <;> by_cases h2 : N ≤ 1099511627776 <;> simp (maxDischargeDepth := 99) [c7, errV, okView, h1, h2, hl0, hl0', hl00]
      · subst hk5
        cases d <;> by_cases h1 : 1 ≤ N <;> by_cases h2 : N ≤ 1099511627776 <;> simp (maxDischargeDepth := 99) [c7, errV, okView, h1, h2, hl0, hl0', hl00]
      · subst hk6
        by_cases h1 : N = 0
        · subst h1
          cases d
          · simp (maxDischargeDepth := 99) [c7, errV, okView, eq_self, hl0, hl0', hl00]
            refine hsub.mono ?_
            rintro v τ ⟨rfl, rfl⟩
            cases hB : colsB l n <;> simp (maxDischargeDepth := 99) [errV, okView, hB, hl0, hl0', hl00]
          · simp (maxDischargeDepth := 99) [c7, errV, okView, eq_self, hl0, hl0', hl00]
        · cases d <;> simp (maxDischargeDepth := 99) [c7, errV, okView, h1, hl0, hl0', hl00]
      · subst hk7
        by_cases h1 : 1 ≤ N
        · by_cases h2 : N ≤ 65536
          · by_cases hl1 : l.length = 1
            · simp (maxDischargeDepth := 99) [c7, errV, okView, h1, h2, hl1, hl0', hl00]
              rw [hl1] at hsub
              refine hsub.mono ?_
              rintro v τ ⟨rfl, rfl⟩
              cases hB : colsB l n <;> simp (maxDischargeDepth := 99) [errV, okView, h1, h2, hl1, hB]
            · have hl1' : ¬ (l.length : Int) = 1 := by omega
              simp (maxDischargeDepth := 99) [c7, errV, okView, h1, h2, hl1, hl1', hl0, hl0', hl00]
          · simp (maxDischargeDepth := 99) [c7, errV, okView, h1, h2, hl0, hl0', hl00]
        · simp (maxDischargeDepth := 99) [c7, errV, okView, h1, hl0, hl0', hl00]
      · simp (maxDischargeDepth := 99) [c7, errV, okView, hk1, hk2, hk3, hk4, hk5, hk6, hk7, hk8, hk9, hl0, hl0', hl00]
theorem run8 (σ : AHeap) (s : SV) (l : List Int) (k N n : Int) (d : Bool) (h : idxP σ (.one s) l) (f : Nat) (hf : l.length + 30 ≤ f) :
    OptP (evCall plainC f 8 [.agg [.int .i64 k, .int .i64 N, s, .bool d], .one (.int .i64 n)] σ) (fun _ v τ => v = .one (.int .i64 (errV k N l d n)) ∧ Keeps σ τ) := by
  obtain ⟨f, rfl⟩ : ∃ k, f = k + 1 := ⟨f - 1, by omega⟩
  refine evCall_code (by kernel_rfl) code8 ?_
  have hsub := run21 (σ.alloc ⟨[.int .i64 k, .int .i64 N, s, .bool d], .own⟩) (.one s) l n (h.keeps (Keeps.alloc (Keeps.refl _))) f (by omega)
  rcases h with ⟨hs, hl⟩ | ⟨id, off, cap, hs, hr, hm⟩
  · cases hs
    subst hl
    have hcase : k = 1 ∨ k = 8 ∨ k = 9 ∨ k = 2 ∨ k = 4 ∨ k = 3 ∨ k = 5 ∨ k = 6 ∨ k = 7 ∨ (¬ k = 1 ∧ ¬ k = 2 ∧ ¬ k = 3 ∧ ¬ k = 4 ∧ ¬ k = 5 ∧ ¬ k = 6 ∧ ¬ k = 7 ∧ ¬ k = 8 ∧ ¬ k = 9) := by omega
    rcases hcase with hk1 | hk8 | hk9 | hk2 | hk4 | hk3 | hk5 | hk6 | hk7 | ⟨hk1, hk2, hk3, hk4, hk5, hk6, hk7, hk8, hk9⟩
    · subst hk1
      cases d <;> by_cases h1 : N = 0 <;> simp (maxDischargeDepth := 99) [c8, errV, okView, h1]
    · subst hk8
      cases d <;> by_cases h1 : N = 0 <;> simp (maxDischargeDepth := 99) [c8, errV, okView, h1]
    · subst hk9
      cases d <;> by_cases h1 : N = 0 <;> simp (maxDischargeDepth := 99) [c8, errV, okView, h1]
    · subst hk2
      cases d <;> by_cases h1 : 1 ≤ N <;> by_cases h2 : N ≤ 65536 <;> simp (maxDischargeDepth := 99) [c8, errV, okView, h1, h2]
    · subst hk4
      cases d <;> by_cases h1 : 1 ≤ N <;> by_cases h2 : N ≤ 65536 <;> simp (maxDischargeDepth := 99) [c8, errV, okView, h1, h2]
    · subst hk3
      cases d <;> by_cases h1 : 1 ≤ N <;> by_cases h2 : N ≤ 1099511627776 <;> simp (maxDischargeDepth := 99) [c8, errV, okView, h1, h2]
    · subst hk5
      cases d <;> by_cases h1 : 1 ≤ N <;> by_cases h2 : N ≤ 1099511627776 <;> simp (maxDischargeDepth := 99) [c8, errV, okView, h1, h2]
    · subst hk6
      by_cases h1 : N = 0
      · subst h1
        simp (maxDischargeDepth := 99) [c8, errV, okView, eq_self]
        refine hsub.mono ?_
        rintro v τ ⟨rfl, rfl⟩
        cases d <;> simp (maxDischargeDepth := 99) [errV, okView, colsB_nil]
      · cases d <;> simp (maxDischargeDepth := 99) [c8, errV, okView, h1]
    · subst hk7
      by_cases h1 : 1 ≤ N
      · by_cases h2 : N ≤ 65536
        · simp (maxDischargeDepth := 99) [c8, errV, okView, h1, h2]
        · simp (maxDischargeDepth := 99) [c8, errV, okView, h1, h2]
      · simp (maxDischargeDepth := 99) [c8, errV, okView, h1]
    · simp (maxDischargeDepth := 99) [c8, errV, okView, hk1, hk2, hk3, hk4, hk5, hk6, hk7, hk8, hk9]
  · cases hs
    by_cases hl0 : l.length = 0
    · have hl1 : ¬ l.length = 1 := by omega
      have hcase : k = 1 ∨ k = 8 ∨ k = 9 ∨ k = 2 ∨ k = 4 ∨ k = 3 ∨ k = 5 ∨ k = 6 ∨ k = 7 ∨ (¬ k = 1 ∧ ¬ k = 2 ∧ ¬ k = 3 ∧ ¬ k = 4 ∧ ¬ k = 5 ∧ ¬ k = 6 ∧ ¬ k = 7 ∧ ¬ k = 8 ∧ ¬ k = 9) := by omega
      rcases hcase with hk1 | hk8 | hk9 | hk2 | hk4 | hk3 | hk5 | hk6 | hk7 | ⟨hk1, hk2, hk3, hk4, hk5, hk6, hk7, hk8, hk9⟩
      · subst hk1
        cases d <;> by_cases h1 : N = 0 <;> simp (maxDischargeDepth := 99) [c8, errV, okView, h1, hl0]
      · subst hk8
        cases d <;> by_cases h1 : N = 0 <;> simp (maxDischargeDepth := 99) [c8, errV, okView, h1, hl0]
      · subst hk9
        cases d <;> by_cases h1 : N = 0 <;> simp (maxDischargeDepth := 99) [c8, errV, okView, h1, hl0]
      · subst hk2
        cases d <;> by_cases h1 : 1 ≤ N <;> by_cases h2 : N ≤ 65536 <;> simp (maxDischargeDepth := 99) [c8, errV, okView, h1, h2, hl0]
      · subst hk4
        cases d <;> by_cases h1 : 1 ≤ N <;> by_cases h2 : N ≤ 65536 <;> simp (maxDischargeDepth := 99) [c8, errV, okView, h1, h2, hl0]
      · subst hk3
        cases d <;> by_cases h1 : 1 ≤ N <;> by_cases h2 : N ≤ 1099511627776 <;> simp (maxDischargeDepth := 99) [c8, errV, okView, h1, h2, hl0]
      · subst hk5
        cases d <;> by_cases h1 : 1 ≤ N <;> by_cases h2 : N ≤ 1099511627776 <;> simp (maxDischargeDepth := 99) [c8, errV, okView, h1, h2, hl0]
      · subst hk6
        by_cases h1 : N = 0
        · subst h1
          rw [hl0] at hsub
          simp (maxDischargeDepth := 99) [c8, errV, okView, eq_self, hl0]
          refine hsub.mono ?_
          rintro v τ ⟨rfl, rfl⟩
          cases hB : colsB l n <;> cases d <;> simp (maxDischargeDepth := 99) [errV, okView, hB, hl0]
        · cases d <;> simp (maxDischargeDepth := 99) [c8, errV, okView, h1, hl0]
      · subst hk7
        by_cases h1 : 1 ≤ N
        · by_cases h2 : N ≤ 65536
          · simp (maxDischargeDepth := 99) [c8, errV, okView, h1, h2, hl0]
          · simp (maxDischargeDepth := 99) [c8, errV, okView, h1, h2, hl0]
        · simp (maxDischargeDepth := 99) [c8, errV, okView, h1, hl0]
      · simp (maxDischargeDepth := 99) [c8, errV, okView, hk1, hk2, hk3, hk4, hk5, hk6, hk7, hk8, hk9, hl0]
    · have hl0' : ¬ (l.length : Int) = 0 := by omega
      have hl00 : ¬ l = [] := by intro e; rw [e] at hl0; exact hl0 rfl
      have hcase : k = 1 ∨ k = 8 ∨ k = 9 ∨ k = 2 ∨ k = 4 ∨ k = 3 ∨ k = 5 ∨ k = 6 ∨ k = 7 ∨ (¬ k = 1 ∧ ¬ k = 2 ∧ ¬ k = 3 ∧ ¬ k = 4 ∧ ¬ k = 5 ∧ ¬ k = 6 ∧ ¬ k = 7 ∧ ¬ k = 8 ∧ ¬ k = 9) := by omega
      rcases hcase with hk1 | hk8 | hk9 | hk2 | hk4 | hk3 | hk5 | hk6 | hk7 | ⟨hk1, hk2, hk3, hk4, hk5, hk6, hk7, hk8, hk9⟩
      · subst hk1
        cases d <;> by_cases h1 : N = 0 <;> simp (maxDischargeDepth := 99) [c8, errV, okView, h1, hl0, hl0', hl00]
      · subst hk8
        cases d <;> by_cases h1 : N = 0 <;> simp (maxDischargeDepth := 99) [c8, errV, okView, h1, hl0, hl0', hl00]
      · subst hk9
        cases d <;> by_cases h1 : N = 0 <;> simp (maxDischargeDepth := 99) [c8, errV, okView, h1, hl0, hl0', hl00]
      · subst hk2
        cases d <;> by_cases h1 : 1 ≤ N <;> by_cases h2 : N ≤ 65536 <;> simp (maxDischargeDepth := 99) [c8, errV, okView, h1, h2, hl0, hl0', hl00]
      · subst hk4
        cases d <;> by_cases h1 : 1 ≤ N <;> by_cases h2 : N ≤ 65536 <;> simp (maxDischargeDepth := 99) [c8, errV, okView, h1, h2, hl0, hl0', hl00]
      · subst hk3
        cases d <;> by_cases h1 : 1 ≤ N <;> by_cases h2 : N ≤ 1099511627776 <;> simp (maxDischargeDepth := 99) [c8, errV, okView, h1, h2, hl0, hl0', hl00]
      · subst hk5
        cases d <;> by_cases h1 : 1 ≤ N <;> by_cases h2 : N ≤ 1099511627776 <;> simp (maxDischargeDepth := 99) [c8, errV, okView, h1, h2, hl0, hl0', hl00]
      · subst hk6
        by_cases h1 : N = 0
        · subst h1
          simp (maxDischargeDepth := 99) [c8, errV, okView, eq_self, hl0, hl0', hl00]
          refine hsub.mono ?_
          rintro v τ ⟨rfl, rfl⟩
          cases hB : colsB l n <;> cases d <;> simp (maxDischargeDepth := 99) [errV, okView, hB, hl0, hl0', hl00]
        · cases d <;> simp (maxDischargeDepth := 99) [c8, errV, okView, h1, hl0, hl0', hl00]
      · subst hk7
        by_cases h1 : 1 ≤ N
        · by_cases h2 : N ≤ 65536
          · by_cases hl1 : l.length = 1
            · simp (maxDischargeDepth := 99) [c8, errV, okView, h1, h2, hl1, hl0', hl00]
              rw [hl1] at hsub
              refine hsub.mono ?_
              rintro v τ ⟨rfl, rfl⟩
              cases hB : colsB l n <;> simp (maxDischargeDepth := 99) [errV, okView, h1, h2, hl1, hB]
            · have hl1' : ¬ (l.length : Int) = 1 := by omega
              simp (maxDischargeDepth := 99) [c8, errV, okView, h1, h2, hl1, hl1', hl0, hl0', hl00]
          · simp (maxDischargeDepth := 99) [c8, errV, okView, h1, h2, hl0, hl0', hl00]
        · simp (maxDischargeDepth := 99) [c8, errV, okView, h1, hl0, hl0', hl00]
      · simp (maxDischargeDepth := 99) [c8, errV, okView, hk1, hk2, hk3, hk4, hk5, hk6, hk7, hk8, hk9, hl0, hl0', hl00]
end Go.Proofs.Ythjijjkoeoemgaa.Ab
