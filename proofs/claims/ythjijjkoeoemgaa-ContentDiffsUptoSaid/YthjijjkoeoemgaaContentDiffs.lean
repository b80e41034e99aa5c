/- What came and what went between any two contents, laid upon the old one, is the new one: at any two lists of arrivals of which the reading's bulk is at most 1048576, and any time. -/
import Derived.Test.YthjijjkoeoemgaaCt9
namespace Go.Proofs.Ythjijjkoeoemgaa.ContentDiffs
open Go.ChangeShapes Go.WideShapes Go.ChangeAt Go.RowKit Go.Proofs.Ythjijjkoeoemgaa.Ab

theorem params : Try.f6.params = #[31, 31, 3] := by kernel_rfl
theorem underI : Try.prog.underlying 3 = some (.int .i64) := by kernel_rfl
theorem underS : Try.prog.underlying 9 = some .string := by kernel_rfl
theorem underA : Try.prog.underlying 31 = some (.slice 40) := by kernel_rfl
theorem underV : Try.prog.underlying 38 = some (.slice 46) := by kernel_rfl
theorem cellsA : Try.prog.cellsOf 40 = 3 := by kernel_rfl
theorem cellsV : Try.prog.cellsOf 46 = 3 := by kernel_rfl
theorem fieldsA : ∃ fs : Array Field, Try.prog.underlying 40 = some (.struct fs) ∧ fs.toList.map (·.type) = [3, 3, 38] := by
  refine ⟨match Try.prog.underlying 40 with | some (.struct fs) => fs | _ => #[], by kernel_rfl, by kernel_rfl⟩
theorem fieldsV : ∃ fs : Array Field, Try.prog.underlying 46 = some (.struct fs) ∧ fs.toList.map (·.type) = [3, 3, 9] := by
  refine ⟨match Try.prog.underlying 46 with | some (.struct fs) => fs | _ => #[], by kernel_rfl, by kernel_rfl⟩

theorem run (σ : AHeap) (avs : List AV) (b : Nat) (h : RdA Try.prog σ.get Try.f6.params.toList avs b) (hb : b ≤ 1048576) : ∃ n σ', evCall D9 n 6 avs σ = some (.one (.bool true), σ') := by
  rw [params] at h
  obtain ⟨s, l, b1, b2, rfl, rfl, h1, h⟩ := rdA_one (by kernel_rfl) h
  obtain ⟨s2, l2, b3, b4, rfl, rfl, h2, h⟩ := rdA_one (by kernel_rfl) h
  obtain ⟨s3, l3, b5, b6, rfl, rfl, h3, h⟩ := rdA_one (by kernel_rfl) h
  obtain rfl := rdA_nil h
  obtain ⟨fs, hf1, hf2⟩ := fieldsA
  obtain ⟨gs, hg1, hg2⟩ := fieldsV
  obtain ⟨A, hA, lA, kA⟩ := rd_arrs underA hf1 hf2 underI underV hg1 hg2 underS cellsV cellsA h1 (by omega)
  obtain ⟨B, hB, lB, kB⟩ := rd_arrs underA hf1 hf2 underI underV hg1 hg2 underS cellsV cellsA h2 (by omega)
  obtain ⟨n, hn, _⟩ := rd_int underI h3
  cases hn
  obtain ⟨v, σ', he, rfl⟩ := run6 σ (.one s) (.one s2) A B n hA hB (by omega) (by omega) 1048576 (fun a ha => by have := (kA a ha).2; omega) (fun a ha => by have := (kB a ha).2; omega) (A.length + B.length + 1048576 + 2000) (Nat.le_refl _)
  exact ⟨_, σ', he⟩

set_option maxRecDepth 100000 in
theorem lifted (os : Os) (started : os.Started) (H : Type) (enc : TypeId × Value → H) (F : Stop.Interp) :
    ReturnsInHanded {} Try.checked os 6 .any ((Rows.OpenSpec.upto Rows.contentDiffsSpec).pre6 enc Try.prog Try.f6 Rows.contentDiffsUptoRow.domain false) (((Rows.OpenSpec.upto Rows.contentDiffsSpec).at F).post enc Try.prog Try.f6 false true false false) := by
  refine returnsInHanded_of_cond (C := Try.checked) (s := Rows.OpenSpec.upto Rows.contentDiffsSpec) (k := Rows.uptoSmall) rfl ownKn started (by kernel_rfl) Try.func6
    (OpenSpec.witness (enc := enc) (C := Try.checked) (s := Rows.OpenSpec.upto Rows.contentDiffsSpec) (k := Rows.uptoSmall) rfl false ⟨#[], #[.slice none 0 0, .slice none 0 0, .int .i64 0], []⟩ 8 (by kernel_rfl) (by kernel_rfl) (by kernel_rfl)
      (x := ([.nil, .nil, .lit (.int .i64 0)], [], [])) (by kernel_rfl) rfl (by kernel_rfl)) ?_
  intro W base args ds gs before hval hW _ hk _
  have hk' : Rows.uptoBulkAll (ds ++ gs) ≤ 1048576 := of_decide_eq_true hk
  exact law_contract D9_good (T := [31, 40, 38, 46, 3, 9, 4]) (tb := 4) (by kernel_rfl) (by kernel_rfl) laidOut (by kernel_rfl) Try.underlying4 rfl
    (fun H ds hds => by
      have hds : ds.length = 3 := hds
      match ds, hds with
      | [d0, d1, d2], _ => rfl)
    run H enc W base args ds gs before hval hW hk'

theorem proved : Rows.ContentDiffsUptoSaid :=
  OpenClaim.holds_of_cond 6 Try.f6 rfl rfl rfl rfl rfl rfl rfl ⟨rfl, rfl, rfl, rfl, rfl⟩ rfl rfl rfl rfl rfl (by kernel_rfl) Try.func6 (by kernel_rfl)
    (of_decide_eq_true (by kernel_rfl)) (by unfold Func.isWrapper; first | (rw [if_pos (by decide +kernel)]; kernel_rfl) | (rw [if_neg (by decide +kernel)]; exact ⟨rfl, rfl⟩))
    (fun os started H enc _ F => lifted os started H enc F)
#print axioms proved
end Go.Proofs.Ythjijjkoeoemgaa.ContentDiffs
