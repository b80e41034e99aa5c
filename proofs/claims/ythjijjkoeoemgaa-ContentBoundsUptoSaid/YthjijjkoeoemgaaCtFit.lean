/- What fits: times and numbers that rise. -/
import Derived.Test.YthjijjkoeoemgaaCt10
namespace Go.Proofs.Ythjijjkoeoemgaa.Ab
open Go
set_option maxRecDepth 20000
set_option maxHeartbeats 4000000
set_option linter.unusedSimpArgs false
set_option linter.unusedVariables false

/-! ### what fits -/
theorem badA_all {q t : Int} {out : List Arr} {a : Arr} (h : ¬ badA q t out a = true) : a.vals ≠ [] ∧ q < a.seq ∧ t ≤ a.time ∧ a.time ≤ 1099511627776 ∧ a.seq ≤ 1073741824 := by
  unfold badA at h
  simp only [Bool.or_eq_true, decide_eq_true_eq, not_or] at h
  obtain ⟨⟨⟨⟨⟨h1, h2⟩, h3⟩, h4⟩, _⟩, h6⟩ := h
  exact ⟨fun e => h6 (by rw [e]; rfl), by omega, by omega, by omega, by omega⟩
theorem fitGo_times : ∀ (l : List Arr) (q t : Int) (out : List Arr), out.Pairwise (fun a b => a.seq < b.seq) → out.Pairwise (fun a b => a.time ≤ b.time) → (∀ a ∈ out, a.seq ≤ q ∧ a.vals ≠ [] ∧ 0 ≤ a.time ∧ a.time ≤ t) → 0 ≤ t → t ≤ 1099511627776 →
    (fitGo q t out l).1.Pairwise (fun a b => a.seq < b.seq) ∧ (fitGo q t out l).1.Pairwise (fun a b => a.time ≤ b.time) ∧ (∀ a ∈ (fitGo q t out l).1, a.vals ≠ [] ∧ 0 ≤ a.time ∧ a.time ≤ (fitGo q t out l).2) ∧ 0 ≤ (fitGo q t out l).2 ∧ (fitGo q t out l).2 ≤ 1099511627776
  | [], q, t, out, h1, h2, h3, h4, h5 => ⟨h1, h2, fun a ha => (h3 a ha).2, h4, h5⟩
  | a :: l, q, t, out, h1, h2, h3, h4, h5 => by
    unfold fitGo
    split
    · exact fitGo_times l q t out h1 h2 h3 h4 h5
    · rename_i hb
      obtain ⟨k1, k2, k3, k4, _⟩ := badA_all hb
      refine fitGo_times l _ _ _ ?_ ?_ ?_ (by omega) k4
      · rw [List.pairwise_append]
        refine ⟨h1, List.pairwise_singleton _ _, fun x hx y hy => ?_⟩
        simp only [List.mem_singleton] at hy
        subst hy
        have := (h3 x hx).1
        omega
      · rw [List.pairwise_append]
        refine ⟨h2, List.pairwise_singleton _ _, fun x hx y hy => ?_⟩
        simp only [List.mem_singleton] at hy
        subst hy
        have := (h3 x hx).2.2.2
        omega
      · intro x hx
        rcases List.mem_append.1 hx with hx | hx
        · obtain ⟨g1, g2, g3, g4⟩ := h3 x hx
          exact ⟨by omega, g2, g3, by omega⟩
        · simp only [List.mem_singleton] at hx
          subst hx
          exact ⟨Int.le_refl _, k1, by omega, Int.le_refl _⟩
theorem fitL_len (l : List Arr) : (fitL l).1.length ≤ 200 := by
  have := fit_len (l.take 200) 0 0 []
  rw [List.length_take, List.length_nil] at this
  unfold fitL
  omega
theorem fitL_mem {l : List Arr} {x : Arr} (h : x ∈ (fitL l).1) : x ∈ l := fit_rows (l.take 200) 0 0 [] (fun a => a ∈ l) (fun a ha => List.mem_of_mem_take ha) (fun a ha => by cases ha) x h
theorem fitL_times (l : List Arr) (now : Int) : TimesOk (fitL l).1 (nowL l now) ∧ 0 ≤ nowL l now := by
  obtain ⟨h1, h2, h3, h4, h5⟩ := fitGo_times (l.take 200) 0 0 [] List.Pairwise.nil List.Pairwise.nil (fun a ha => by cases ha) (by omega) (by omega)
  have e : (fitL l).2 ≤ nowL l now ∧ nowL l now ≤ 1099511627776 := by
    have h5' : (fitL l).2 ≤ 1099511627776 := h5
    unfold nowL mm
    simp only
    split <;> split <;> constructor <;> omega
  have h4' : 0 ≤ (fitL l).2 := h4
  exact ⟨⟨fun a ha => (h3 a ha).2.1, fun a ha => Int.le_trans (h3 a ha).2.2 e.1, e.2, h2, h1, fun a ha => (h3 a ha).1, fitL_len l⟩, by omega⟩
end Go.Proofs.Ythjijjkoeoemgaa.Ab
