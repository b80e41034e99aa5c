/- Several of my texts in one: TyIn2. -/
import Derived.Test.YtlgdhnjmmahgdaaGreatDoorTyF
import Derived.Test.YtlgdhnjmmahgdaaGreatDoorTyB
/- Trees among the arguments. -/
namespace Go.Proofs.YtlgdhnjmmahgdaaGreatDoor.Ab
open Go Go.RowKit
set_option maxRecDepth 100000
set_option maxHeartbeats 4000000
theorem rd_nodes {N : Nat} (h : ∀ ss b, b ≤ N → RdV Tryz.prog 24 ss b → ∃ t : T, ss = t.cells ∧ t.size ≤ b) : ∀ (l : List (List SV)) (b : Nat), b ≤ N → RdVE Tryz.prog 24 l b → ∃ L : List T, l = L.map T.cells ∧ T.sizeL L ≤ b
  | [], _, _, _ => ⟨[], rfl, Nat.zero_le _⟩
  | _ :: l, _, hb, hl => by
    cases hl with
    | cons h1 h2 =>
      obtain ⟨t, rfl, k1⟩ := h _ _ (by omega) h1
      obtain ⟨L, rfl, k2⟩ := rd_nodes h l _ (by omega) h2
      exact ⟨t :: L, rfl, by simp only [T.sizeL]; omega⟩
theorem rd_node : ∀ (N : Nat) (ss : List SV) (b : Nat), b ≤ N → RdV Tryz.prog 24 ss b → ∃ t : T, ss = t.cells ∧ t.size ≤ b := by
  intro N
  induction N with
  | zero =>
    intro ss b hb h
    obtain ⟨c, rfl, _⟩ := h.structI Tryz.underlying24
    omega
  | succ N ih =>
    intro ss b hb h
    obtain ⟨c, rfl, hF⟩ := h.structI Tryz.underlying24
    obtain ⟨s1, r1, b1, c1, rfl, rfl, h1, hF1⟩ := RdVF.consI hF
    obtain ⟨s2, r2, b2, c2, rfl, rfl, h2, hF2⟩ := RdVF.consI hF1
    obtain ⟨s3, r3, b3, c3, rfl, rfl, h3, hF3⟩ := RdVF.consI hF2
    obtain ⟨s4, r4, b4, c4, rfl, rfl, h4, hF4⟩ := RdVF.consI hF3
    obtain ⟨s5, r5, b5, c5, rfl, rfl, h5, hF5⟩ := RdVF.consI hF4
    obtain rfl := RdVF.nilI hF5
    obtain ⟨k, rfl, -, -⟩ := h1.intI Tryz.underlying3
    obtain ⟨x, rfl, e2⟩ := h2.strI Tryz.underlying9
    obtain ⟨n, rfl, -, -⟩ := h3.intI Tryz.underlying3
    obtain ⟨a, rfl, -, -⟩ := h4.intI Tryz.underlying3
    obtain ⟨l, c6, rfl, e5, h6⟩ := h5.sliceI Tryz.underlying22
    obtain ⟨L, rfl, k6⟩ := rd_nodes (N := N) ih l c6 (by omega) h6
    refine ⟨.mk k x n a L, ?_, ?_⟩
    · rw [T.cells, T.cellsL_map]; rfl
    · simp only [T.size]; omega
end Go.Proofs.YtlgdhnjmmahgdaaGreatDoor.Ab
