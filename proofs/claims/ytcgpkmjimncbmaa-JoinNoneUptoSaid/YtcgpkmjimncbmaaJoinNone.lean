/- JoinNone: a join that is none does nothing: at any arrival of which the reading's bulk is at most 1048576, and any two numbers. -/
import Derived.Test.YtcgpkmjimncbmaaJv1
namespace Go.Proofs.Ytcgpkmjimncbmaa.JoinNone
open Go.ChangeShapes Go.WideShapes Go.ChangeAt Go.RowKit Go.Proofs.Ytcgpkmjimncbmaa.Ab
set_option maxRecDepth 100000

theorem runs (q t : Int) (s : SV) (a b : Int) : saysTrue (evCall plainC 60 8 [.agg [.int .i64 q, .int .i64 t, s], .one (.int .i64 a), .one (.int .i64 b)] emptyH) = true := by kernel_rfl

theorem fieldsA : ∃ fs : Array Field, Try.prog.underlying 30 = some (.struct fs) ∧ fs.toList.map (·.type) = [3, 3, 28] := by
  refine ⟨match Try.prog.underlying 30 with | some (.struct fs) => fs | _ => #[], by kernel_rfl, by kernel_rfl⟩

theorem run (avs : List AV) (b : Nat) (h : RdVA Try.prog Try.f8.params.toList avs b) (hb : b ≤ 1048576) : ∃ σ', lim plainC 8 avs emptyH = some (.one (.bool true), σ') := by
  have hp : Try.f8.params.toList = [30, 3, 3] := by kernel_rfl
  rw [hp] at h
  obtain ⟨ss, l, b1, b2, rfl, rfl, h1, h⟩ := RdVA.aggI (by kernel_rfl) h
  obtain ⟨x2, l, b3, b4, rfl, rfl, h2, h⟩ := RdVA.oneI (by kernel_rfl) h
  obtain ⟨x3, l, b5, b6, rfl, rfl, h3, h⟩ := RdVA.oneI (by kernel_rfl) h
  obtain rfl := RdVA.nilI h
  obtain ⟨fs, hf1, hf2⟩ := fieldsA
  obtain ⟨c, rfl, hF⟩ := h1.structI hf1
  rw [hf2] at hF
  obtain ⟨s1, s2, b1, b2, rfl, rfl, h4, hF⟩ := RdVF.consI hF
  obtain ⟨s3, s4, b3, b4, rfl, rfl, h5, hF⟩ := RdVF.consI hF
  obtain ⟨s5, s6, b5, b6, rfl, rfl, h6, hF⟩ := RdVF.consI hF
  obtain rfl := RdVF.nilI hF
  obtain ⟨q, rfl, -⟩ := h4.intI Try.underlying3
  obtain ⟨t, rfl, -⟩ := h5.intI Try.underlying3
  obtain ⟨l1, c1, rfl, rfl, -⟩ := h6.sliceI Try.underlying28
  obtain ⟨n2, e2, -⟩ := h2.intI Try.underlying3
  cases e2
  obtain ⟨n3, e3, -⟩ := h3.intI Try.underlying3
  cases e3
  obtain ⟨σ', he⟩ := saysTrue_spec (runs q t (.lst l1) n2 n3)
  exact ⟨σ', lim_of he⟩

theorem lifted (os : Os) (started : os.Started) (H : Type) (enc : TypeId × Value → H) (F : Stop.Interp) :
    ReturnsInHanded {} Try.checked os 8 .any ((Rows.OpenSpec.upto Rows.joinNoneSpec).pre6 enc Try.prog Try.f8 Rows.joinNoneUptoRow.domain false) (((Rows.OpenSpec.upto Rows.joinNoneSpec).at F).post enc Try.prog Try.f8 false true false false) := by
  refine returnsInHanded_of_cond (C := Try.checked) (s := Rows.OpenSpec.upto Rows.joinNoneSpec) (k := Rows.uptoSmall) rfl ownKn started (by kernel_rfl) Try.func8
    (OpenSpec.witness (enc := enc) (C := Try.checked) (s := Rows.OpenSpec.upto Rows.joinNoneSpec) (k := Rows.uptoSmall) rfl false ⟨#[], #[.agg #[.int .i64 0, .int .i64 0, .slice none 0 0], .int .i64 0, .int .i64 0], []⟩ 8 (by kernel_rfl) (by kernel_rfl) (by kernel_rfl)
      (x := ([.agg [.lit (.int .i64 0), .lit (.int .i64 0), .nil], .lit (.int .i64 0), .lit (.int .i64 0)], [], [])) (by kernel_rfl) rfl (by kernel_rfl)) ?_
  intro W base args ds gs before hval hW _ hk _
  have hk' : Rows.uptoBulkAll (ds ++ gs) ≤ 1048576 := of_decide_eq_true hk
  exact law_contractV plainC_good (T := [30, 28, 66, 3, 9]) (tb := 4) (by kernel_rfl) (by kernel_rfl) laidOut (by kernel_rfl) Try.underlying4 rfl
    (fun H ds hds => by
      have hds : ds.length = 3 := hds
      match ds, hds with
      | [d0, d1, d2], _ => rfl)
    run H enc W base args ds gs before hval hW hk' (globOk_none rfl _)

theorem proved : Rows.JoinNoneUptoSaid :=
  OpenClaim.holds_of_cond 8 Try.f8 rfl rfl rfl rfl rfl rfl rfl ⟨rfl, rfl, rfl, rfl, rfl⟩ rfl rfl rfl rfl rfl (by kernel_rfl) Try.func8 (by kernel_rfl)
    (of_decide_eq_true (by kernel_rfl)) (by unfold Func.isWrapper; first | (rw [if_pos (by decide +kernel)]; kernel_rfl) | (rw [if_neg (by decide +kernel)]; exact ⟨rfl, rfl⟩))
    (fun os started H enc _ F => lifted os started H enc F)
#print axioms proved
end Go.Proofs.Ytcgpkmjimncbmaa.JoinNone
