/- The types of arrivals and views, and what is read of them. -/
import Derived.Test.YthjijjkoeoemgaaCt13
namespace Go.Proofs.Ythjijjkoeoemgaa.Ab
open Go
set_option maxRecDepth 100000
set_option linter.unusedVariables false
theorem underI : Try.prog.underlying 3 = some (.int .i64) := by kernel_rfl
theorem underB : Try.prog.underlying 4 = some .bool := by kernel_rfl
theorem underS : Try.prog.underlying 9 = some .string := by kernel_rfl
theorem underL : Try.prog.underlying 22 = some (.slice 3) := by kernel_rfl
theorem cellsI : Try.prog.cellsOf 3 = 1 := by kernel_rfl
theorem underA : Try.prog.underlying 31 = some (.slice 40) := by kernel_rfl
theorem underV : Try.prog.underlying 38 = some (.slice 46) := by kernel_rfl
theorem underVs : Try.prog.underlying 30 = some (.slice 24) := by kernel_rfl
theorem cellsA : Try.prog.cellsOf 40 = 3 := by kernel_rfl
theorem cellsV : Try.prog.cellsOf 46 = 3 := by kernel_rfl
theorem cellsVs : Try.prog.cellsOf 24 = 4 := by kernel_rfl
theorem fieldsA : ∃ fs : Array Field, Try.prog.underlying 40 = some (.struct fs) ∧ fs.toList.map (·.type) = [3, 3, 38] := by
  refine ⟨match Try.prog.underlying 40 with | some (.struct fs) => fs | _ => #[], by kernel_rfl, by kernel_rfl⟩
theorem fieldsV : ∃ fs : Array Field, Try.prog.underlying 46 = some (.struct fs) ∧ fs.toList.map (·.type) = [3, 3, 9] := by
  refine ⟨match Try.prog.underlying 46 with | some (.struct fs) => fs | _ => #[], by kernel_rfl, by kernel_rfl⟩
theorem fieldsVs : ∃ fs : Array Field, Try.prog.underlying 24 = some (.struct fs) ∧ fs.toList.map (·.type) = [3, 3, 22, 4] := by
  refine ⟨match Try.prog.underlying 24 with | some (.struct fs) => fs | _ => #[], by kernel_rfl, by kernel_rfl⟩
theorem rdT_arrs {σ : AHeap} {s : SV} {b : Nat} (h : Rd Try.prog σ.get 31 [s] b) (hb : b ≤ 1048576) : ∃ l : List Arr, Arrs σ (.one s) l ∧ l.length ≤ b ∧ ∀ a ∈ l, (inI a.seq = true ∧ inI a.time = true) ∧ a.vals.length ≤ b ∧ (a.vals.all fun v => inI v.n) = true := by
  obtain ⟨fs, hf1, hf2⟩ := fieldsA
  obtain ⟨gs, hg1, hg2⟩ := fieldsV
  exact rd_arrs underA hf1 hf2 underI underV hg1 hg2 underS cellsV cellsA h hb
theorem rdT_view {σ : AHeap} {ss : List SV} {b : Nat} (h : Rd Try.prog σ.get 24 ss b) (hb : b ≤ 1048576) : ∃ v : VS, ss = v.cells ∧ v.ok σ ∧ inI v.k = true ∧ inI v.n = true ∧ v.cols.length ≤ b := by
  obtain ⟨fs, hf1, hf2⟩ := fieldsVs
  obtain ⟨c, rfl, h3⟩ := rd_struct hf1 h
  rw [hf2] at h3
  obtain ⟨x1, r1, c1, d1, rfl, rfl, k1, h3⟩ := rdF_cons h3
  obtain ⟨x2, r2, c2, d2, rfl, rfl, k2, h3⟩ := rdF_cons h3
  obtain ⟨x3, r3, c3, d3, rfl, rfl, k3, h3⟩ := rdF_cons h3
  obtain ⟨x4, r4, c4, d4, rfl, rfl, k4, h3⟩ := rdF_cons h3
  obtain ⟨rfl, rfl⟩ := rdF_nil h3
  obtain ⟨k, rfl, hk⟩ := rd_int underI k1
  obtain ⟨N, rfl, hN⟩ := rd_int underI k2
  obtain ⟨d, rfl⟩ := rd_bool underB k4
  have hs : ∃ s, x3 = [s] := by
    rcases rd_slice underL k3 with e | ⟨id, len, c, cap, cells, e, _⟩
    · exact ⟨_, e⟩
    · exact ⟨_, e⟩
  obtain ⟨s, rfl⟩ := hs
  obtain ⟨l, hl, hll⟩ := rd_slInts underL underI cellsI k3 (by omega)
  have w1 := wf64 hk
  have w2 := wf64 hN
  exact ⟨⟨k, N, s, l, d⟩, rfl, hl, by simp [inI]; omega, by simp [inI]; omega, by simp only; omega⟩
theorem views_of {σ : AHeap} : ∀ {rows : List (List SV)}, (∀ r ∈ rows, ∃ v : VS, r = v.cells ∧ v.ok σ ∧ inI v.k = true ∧ inI v.n = true ∧ v.cols.length ≤ 1048576) → ∃ vs : List VS, rows = vs.map VS.cells ∧ ∀ v ∈ vs, v.ok σ ∧ inI v.k = true ∧ inI v.n = true ∧ v.cols.length ≤ 1048576
  | [], _ => ⟨[], rfl, fun v hv => by cases hv⟩
  | r :: rows, h => by
    obtain ⟨v, rfl, h1⟩ := h r (by simp)
    obtain ⟨vs, rfl, h2⟩ := views_of (rows := rows) (fun x hx => h x (List.mem_cons_of_mem _ hx))
    refine ⟨v :: vs, rfl, fun x hx => ?_⟩
    rcases List.mem_cons.1 hx with rfl | hx
    · exact h1
    · exact h2 x hx
theorem rdT_views {σ : AHeap} {s : SV} {b : Nat} (h : Rd Try.prog σ.get 30 [s] b) (hb : b ≤ 1048576) : ∃ vs : List VS, Views σ (.one s) vs ∧ vs.length ≤ b ∧ ∀ v ∈ vs, inI v.k = true ∧ inI v.n = true ∧ v.cols.length ≤ 1048576 := by
  have hlen : ∀ r b, Rd Try.prog σ.get 24 r b → b ≤ 1048576 → r.length = 4 := by
    intro r b h hb
    obtain ⟨v, rfl, _⟩ := rdT_view h hb
    rfl
  rcases rd_slice underVs h with h3 | ⟨id, len, c, cap, cells, h3, rfl, hg, hl⟩
  · cases h3
    exact ⟨[], ⟨SlOf.nil _ _, fun v hv => by cases hv⟩, Nat.zero_le _, fun v hv => by cases hv⟩
  · cases h3
    have hle := hl.le
    obtain ⟨rows, rfl, rfl, h5⟩ := rdL_rows hl
    obtain ⟨vs, rfl, h6⟩ := views_of (σ := σ) (fun r hr => by
      obtain ⟨b', q1, q2⟩ := h5 r hr
      obtain ⟨v, e, k1, k2, k3, k4⟩ := rdT_view q2 (by omega)
      exact ⟨v, e, k1, k2, k3, by omega⟩)
    rw [cellsVs]
    refine ⟨vs, ⟨⟨by simp only [List.length_map] at hle ⊢; unfold maxElems; omega, fun r hr => ?_, .inr ⟨id, 0, cap, .ro, [], [], rfl, .inr rfl, rfl, by simpa using hg⟩⟩, fun v hv => (h6 v hv).1⟩, by simp only [List.length_map] at hle; omega, fun v hv => (h6 v hv).2⟩
    obtain ⟨v, _, rfl⟩ := List.mem_map.1 hr
    rfl
end Go.Proofs.Ythjijjkoeoemgaa.Ab
