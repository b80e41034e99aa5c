/- Several of my texts in one: TyIn. -/
import Derived.Test.YtdpfgdmlmkpmbaaGreatDoorTyC
import Derived.Test.YtdpfgdmlmkpmbaaGreatDoorAbD
import Derived.Test.YtdpfgdmlmkpmbaaGreatDoorRdI
import Derived.Lib.LaidU8T
import Derived.Deep.DeepHandedRow
/- Arguments of the types' laws, as they were read; the tables that a row lists. -/
namespace Go.Proofs.YtdpfgdmlmkpmbaaGreatDoor.Ab
open Go Go.RowKit
set_option maxRecDepth 100000
set_option maxHeartbeats 4000000
set_option linter.unusedSimpArgs false

theorem rd_fld {ss : List SV} {b : Nat} (h : RdV Tryz.prog 65 ss b) : ∃ f : Fld, ss = f.cells ∧ 1 ≤ b := by
  obtain ⟨c, rfl, hF⟩ := h.structI Tryz.underlying65
  obtain ⟨s1, s2, b1, b2, rfl, -, h1, hF⟩ := RdVF.consI hF
  obtain ⟨s3, s4, b3, b4, rfl, -, h2, hF⟩ := RdVF.consI hF
  obtain ⟨s5, s6, b5, b6, rfl, -, h3, hF⟩ := RdVF.consI hF
  obtain rfl := RdVF.nilI hF
  obtain ⟨x, rfl, -⟩ := h1.strI Tryz.underlying9
  obtain ⟨y, rfl, -⟩ := h2.strI Tryz.underlying9
  obtain ⟨z, rfl, -, -⟩ := h3.intI Tryz.underlying3
  exact ⟨⟨x, y, z⟩, rfl, by omega⟩
theorem rd_flds : ∀ {l : List (List SV)} {b : Nat}, RdVE Tryz.prog 65 l b → ∃ F : List Fld, l = F.map Fld.cells ∧ F.length ≤ b
  | [], _, _ => ⟨[], rfl, Nat.zero_le _⟩
  | _ :: _, _, h => by
    cases h with
    | cons h t =>
      obtain ⟨f, rfl, h1⟩ := rd_fld h
      obtain ⟨F, rfl, h2⟩ := rd_flds t
      exact ⟨f :: F, rfl, by simp only [List.length_cons]; omega⟩

/-! ### the tables -/
theorem glob_row {W : World} {g : Nat} {n : Nat} {f : Nat → Int} {cells : List SV} (e : globTab g = some ((List.range n).map fun c => SV.int .u8 (f c))) (h : globTab g = some cells)
    (hc : ∀ c, c < n → W.cell? ⟨g, c, none⟩ = some (.int .u8 (f c))) : ∃ vs, litVals cells = some vs ∧ ∀ j v, vs[j]? = some v → (allLoc W).fz g j = some v := by
  rw [h] at e
  cases e
  refine ⟨_, litVals_ints _ _ _, fun j v hv => ?_⟩
  rw [List.getElem?_map] at hv
  obtain ⟨c, h1, rfl⟩ := Option.map_eq_some_iff.1 hv
  obtain ⟨h2, rfl⟩ := List.getElem?_eq_some_iff.1 h1
  rw [List.getElem_range]
  rw [List.length_range] at h2
  exact hc j h2
theorem fldsG : Tryz.prog.globalNamed "strings.asciiSpace" = some (Tryz.laysFields_ren.g 0) := by kernel_rfl
theorem globOk_laid {W : World} (h0 : Lib.VarReads Tryz.prog W "strings.asciiSpace" (Lib.tabData .u8 Lib.asciiSpaceTab)) (h3 : Lib.VarReads Tryz.prog W "unicode/utf8.first" Lib.firstData) (h4 : Lib.VarReads Tryz.prog W "unicode/utf8.acceptRanges" Lib.acceptData) : GlobOk (allLoc W) := by
  have hu : Lib.Utf8Tabs (Tryz.laysValid_ren.g 3) (Tryz.laysValid_ren.g 4) W :=
    utf8Tabs_of_readsT (U8Types.of196 Tryz.laysValid) ⟨by kernel_rfl, by kernel_rfl, by kernel_rfl, by kernel_rfl, by kernel_rfl, by kernel_rfl, by kernel_rfl⟩ h3 h4
  have ht : Lib.TabIs Tryz.prog W "strings.asciiSpace" .u8 Lib.asciiSpaceTab := by
    obtain ⟨g, t, cs, fuel, p, hg, hty, hvar, hd⟩ := h0
    obtain rfl := Option.some.inj (fldsG.symm.trans hg)
    obtain rfl := Option.some.inj ((show (Tryz.prog.globals[Tryz.laysFields_ren.g 0]?).map (·.type) = some 159 by kernel_rfl).symm.trans hty)
    unfold Lib.TabIs
    rw [hvar, ← Lib.cells_of_tab Tryz.underlying159 Tryz.underlying5 (by kernel_rfl) (by kernel_rfl) hd]
  intro g cells h
  have hg : g = Tryz.laysFields_ren.g 0 ∨ g = Tryz.laysValid_ren.g 3 ∨ g = Tryz.laysValid_ren.g 4 := by
    unfold globTab at h
    split at h
    · first | exact .inl rfl | exact .inr (.inl rfl) | exact .inr (.inr rfl)
    · first | exact .inl rfl | exact .inr (.inl rfl) | exact .inr (.inr rfl)
    · first | exact .inl rfl | exact .inr (.inl rfl) | exact .inr (.inr rfl)
    · cases h
  rcases hg with rfl | rfl | rfl
  · exact glob_row ascTab h fun c hc => by rw [ht.cell fldsG c (by rw [Lib.asciiSpaceTab_length]; exact hc), Lib.asciiSpaceTab_at c hc]
  · exact glob_row (n := 256) firstTab h fun c hc => hu.1 c hc
  · refine glob_row (n := 32) acceptTab h fun c hc => ?_
    obtain ⟨h1, h2⟩ := hu.2 (c / 2) (by omega)
    by_cases hp : c % 2 = 0
    · rw [if_pos hp]
      rw [show 2 * (c / 2) = c by omega] at h1
      exact h1
    · rw [if_neg hp]
      rw [show 2 * (c / 2) + 1 = c by omega] at h2
      exact h2
end Go.Proofs.YtdpfgdmlmkpmbaaGreatDoor.Ab
