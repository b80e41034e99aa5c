/- JoinPairs: the pairs of any two contents are the document's: any two lists of arrivals of which the reading's bulk is at most 1048576. -/
import Derived.Test.YtcgpkmjimncbmaaJpA
namespace Go.Proofs.Ytcgpkmjimncbmaa.JoinPairs
open Go.ChangeShapes Go.WideShapes Go.ChangeAt Go.RowKit Go.Proofs.Ytcgpkmjimncbmaa.Ab
set_option maxRecDepth 100000

theorem rd_vl {ss : List SV} {b : Nat} (h : RdV Try.prog 66 ss b) : ∃ v : Vl, ss = v.cells ∧ 1 ≤ b := by
  obtain ⟨c, rfl, hF⟩ := h.structI Try.underlying66
  obtain ⟨s1, s2, b1, b2, rfl, -, h1, hF⟩ := RdVF.consI hF
  obtain ⟨s3, s4, b3, b4, rfl, -, h2, hF⟩ := RdVF.consI hF
  obtain ⟨s5, s6, b5, b6, rfl, -, h3, hF⟩ := RdVF.consI hF
  obtain rfl := RdVF.nilI hF
  obtain ⟨k, rfl, -⟩ := h1.intI Try.underlying3
  obtain ⟨n, rfl, -⟩ := h2.intI Try.underlying3
  obtain ⟨s, rfl, -⟩ := h3.strI Try.underlying9
  exact ⟨⟨k, n, s⟩, rfl, by omega⟩
theorem rd_vls : ∀ {l : List (List SV)} {b : Nat}, RdVE Try.prog 66 l b → ∃ L : List Vl, l = L.map Vl.cells ∧ L.length ≤ b
  | [], _, _ => ⟨[], rfl, Nat.zero_le _⟩
  | _ :: _, _, h => by
    cases h with
    | cons h t =>
      obtain ⟨f, rfl, h1⟩ := rd_vl h
      obtain ⟨F, rfl, h2⟩ := rd_vls t
      exact ⟨f :: F, rfl, by simp only [List.length_cons]; omega⟩
theorem rd_fa {ss : List SV} {b : Nat} (h : RdV Try.prog 30 ss b) : ∃ a : Fa, ss = a.cells ∧ a.r.length + 1 ≤ b := by
  obtain ⟨c, rfl, hF⟩ := h.structI Try.underlying30
  obtain ⟨s1, s2, b1, b2, rfl, q1, h1, hF⟩ := RdVF.consI hF
  obtain ⟨s3, s4, b3, b4, rfl, q2, h2, hF⟩ := RdVF.consI hF
  obtain ⟨s5, s6, b5, b6, rfl, q3, h3, hF⟩ := RdVF.consI hF
  obtain rfl := RdVF.nilI hF
  obtain ⟨q, rfl, -⟩ := h1.intI Try.underlying3
  obtain ⟨t, rfl, -⟩ := h2.intI Try.underlying3
  obtain ⟨l, c1, rfl, q4, h4⟩ := h3.sliceI Try.underlying28
  obtain ⟨r, rfl, h5⟩ := rd_vls h4
  refine ⟨⟨q, t, r⟩, rfl, ?_⟩
  show r.length + 1 ≤ _
  omega
theorem rd_fas : ∀ {l : List (List SV)} {b : Nat}, RdVE Try.prog 30 l b → ∃ L : List Fa, l = L.map Fa.cells ∧ L.length ≤ b ∧ ∀ a ∈ L, a.r.length ≤ b
  | [], _, _ => ⟨[], rfl, Nat.zero_le _, fun a h => by cases h⟩
  | _ :: _, _, h => by
    cases h with
    | cons h t =>
      obtain ⟨f, rfl, h1⟩ := rd_fa h
      obtain ⟨F, rfl, h2, h3⟩ := rd_fas t
      refine ⟨f :: F, rfl, by simp only [List.length_cons]; omega, fun a ha => ?_⟩
      rcases List.mem_cons.1 ha with rfl | ha
      · omega
      · have := h3 a ha
        omega
theorem run (avs : List AV) (b : Nat) (h : RdVA Try.prog Try.f3.params.toList avs b) (hb : b ≤ 1048576) : ∃ σ', lim JpC 3 avs emptyH = some (.one (.bool true), σ') := by
  have hp : Try.f3.params.toList = [22, 22] := by kernel_rfl
  rw [hp] at h
  obtain ⟨s1, l, b1, b2, rfl, rfl, h1, h⟩ := RdVA.oneI (by kernel_rfl) h
  obtain ⟨s2, l, b3, b4, rfl, rfl, h2, h⟩ := RdVA.oneI (by kernel_rfl) h
  obtain rfl := RdVA.nilI h
  obtain ⟨l1, c1, e1, rfl, h7⟩ := h1.sliceI Try.underlying22
  cases e1
  obtain ⟨l2, c2, e2, rfl, h8⟩ := h2.sliceI Try.underlying22
  cases e2
  obtain ⟨L, rfl, h3, h4⟩ := rd_fas h7
  obtain ⟨R, rfl, h5, h6⟩ := rd_fas h8
  exact law_pairs L R (by omega) (by omega) (fun a ha => by have := h4 a ha; omega) (fun a ha => by have := h6 a ha; omega)

theorem lifted (os : Os) (started : os.Started) (H : Type) (enc : TypeId × Value → H) (F : Stop.Interp) :
    ReturnsInHanded {} Try.checked os 3 .any ((Rows.OpenSpec.upto Rows.joinPairsSpec).pre6 enc Try.prog Try.f3 Rows.joinPairsUptoRow.domain false) (((Rows.OpenSpec.upto Rows.joinPairsSpec).at F).post enc Try.prog Try.f3 false true false false) := by
  refine returnsInHanded_of_cond (C := Try.checked) (s := Rows.OpenSpec.upto Rows.joinPairsSpec) (k := Rows.uptoSmall) rfl ownKn started (by kernel_rfl) Try.func3
    (OpenSpec.witness (enc := enc) (C := Try.checked) (s := Rows.OpenSpec.upto Rows.joinPairsSpec) (k := Rows.uptoSmall) rfl false ⟨#[], #[.slice none 0 0, .slice none 0 0], []⟩ 8 (by kernel_rfl) (by kernel_rfl) (by kernel_rfl)
      (x := ([.nil, .nil], [], [])) (by kernel_rfl) rfl (by kernel_rfl)) ?_
  intro W base args ds gs before hval hW _ hk _
  have hk' : Rows.uptoBulkAll (ds ++ gs) ≤ 1048576 := of_decide_eq_true hk
  exact law_contractV JpC_good (T := [22, 30, 28, 66, 3, 9]) (tb := 4) (by kernel_rfl) (by kernel_rfl) laidOut (by kernel_rfl) Try.underlying4 rfl
    (fun H ds hds => by
      have hds : ds.length = 2 := hds
      match ds, hds with
      | [d0, d1], _ => rfl)
    run H enc W base args ds gs before hval hW hk' (globAt_none rfl _)

theorem proved : Rows.JoinPairsUptoSaid :=
  OpenClaim.holds_of_cond 3 Try.f3 rfl rfl rfl rfl rfl rfl rfl ⟨rfl, rfl, rfl, rfl, rfl⟩ rfl rfl rfl rfl rfl (by kernel_rfl) Try.func3 (by kernel_rfl)
    (of_decide_eq_true (by kernel_rfl)) (by unfold Func.isWrapper; first | (rw [if_pos (by decide +kernel)]; kernel_rfl) | (rw [if_neg (by decide +kernel)]; exact ⟨rfl, rfl⟩))
    (fun os started H enc _ F => lifted os started H enc F)
#print axioms proved
end Go.Proofs.Ytcgpkmjimncbmaa.JoinPairs
