/- A view by length, of the sorted, the last or the first holds no more than it says, a unique one no two rows with one key: at any view, any list of arrivals of which the reading's bulk is at most 1048576, and any time. -/
import Derived.Test.YthjijjkoeoemgaaCt36
import Derived.Test.YthjijjkoeoemgaaCtTy
namespace Go.Proofs.Ythjijjkoeoemgaa.ContentBounds
open Go.ChangeShapes Go.WideShapes Go.ChangeAt Go.RowKit Go.Proofs.Ythjijjkoeoemgaa.Ab

theorem params : Try.f5.params = #[24, 31, 3] := by kernel_rfl
theorem run (σ : AHeap) (avs : List AV) (b : Nat) (h : RdA Try.prog σ.get Try.f5.params.toList avs b) (hb : b ≤ 1048576) : ∃ n σ', evCall D9 n 5 avs σ = some (.one (.bool true), σ') := by
  rw [params] at h
  obtain ⟨ss, l, b1, b2, rfl, rfl, h1, h⟩ := rdA_agg (by kernel_rfl) h
  obtain ⟨s2, l2, b3, b4, rfl, rfl, h2, h⟩ := rdA_one (by kernel_rfl) h
  obtain ⟨s3, l3, b5, b6, rfl, rfl, h3, h⟩ := rdA_one (by kernel_rfl) h
  obtain rfl := rdA_nil h
  obtain ⟨v, rfl, hv, _, _, hvc⟩ := rdT_view h1 (by omega)
  obtain ⟨A, hA, lA, hAb⟩ := rdT_arrs h2 (by omega)
  obtain ⟨n, hn, _⟩ := rd_int underI h3
  cases hn
  obtain ⟨u, σ', he, rfl⟩ := run_B σ (.one s2) A v n hv hA (by omega) (fun a ha => vin_of (hAb a ha).2.2) 1048576 (by omega) (A.length + 1048576 + 4000) (Nat.le_refl _)
  exact ⟨_, σ', he⟩

set_option maxRecDepth 100000 in
theorem lifted (os : Os) (started : os.Started) (H : Type) (enc : TypeId × Value → H) (F : Stop.Interp) :
    ReturnsInHanded {} Try.checked os 5 .any ((Rows.OpenSpec.upto Rows.contentBoundsSpec).pre6 enc Try.prog Try.f5 Rows.contentBoundsUptoRow.domain false) (((Rows.OpenSpec.upto Rows.contentBoundsSpec).at F).post enc Try.prog Try.f5 false true false false) := by
  refine returnsInHanded_of_cond (C := Try.checked) (s := Rows.OpenSpec.upto Rows.contentBoundsSpec) (k := Rows.uptoSmall) rfl ownKn started (by kernel_rfl) Try.func5
    (OpenSpec.witness (enc := enc) (C := Try.checked) (s := Rows.OpenSpec.upto Rows.contentBoundsSpec) (k := Rows.uptoSmall) rfl false ⟨#[], #[.agg #[.int .i64 0, .int .i64 0, .slice none 0 0, .bool false], .slice none 0 0, .int .i64 0], []⟩ 8 (by kernel_rfl) (by kernel_rfl) (by kernel_rfl)
      (x := ([.agg [.lit (.int .i64 0), .lit (.int .i64 0), .nil, .lit (.bool false)], .nil, .lit (.int .i64 0)], [], [])) (by kernel_rfl) rfl (by kernel_rfl)) ?_
  intro W base args ds gs before hval hW _ hk _
  have hk' : Rows.uptoBulkAll (ds ++ gs) ≤ 1048576 := of_decide_eq_true hk
  exact law_contract D9_good (T := [24, 22, 31, 40, 38, 46, 3, 9, 4]) (tb := 4) (by kernel_rfl) (by kernel_rfl) laidOut (by kernel_rfl) Try.underlying4 rfl
    (fun H ds hds => by
      have hds : ds.length = 3 := hds
      match ds, hds with
      | [d0, d1, d2], _ => rfl)
    run H enc W base args ds gs before hval hW hk'

theorem proved : Rows.ContentBoundsUptoSaid :=
  OpenClaim.holds_of_cond 5 Try.f5 rfl rfl rfl rfl rfl rfl rfl ⟨rfl, rfl, rfl, rfl, rfl⟩ rfl rfl rfl rfl rfl (by kernel_rfl) Try.func5 (by kernel_rfl)
    (of_decide_eq_true (by kernel_rfl)) (by unfold Func.isWrapper; first | (rw [if_pos (by decide +kernel)]; kernel_rfl) | (rw [if_neg (by decide +kernel)]; exact ⟨rfl, rfl⟩))
    (fun os started H enc _ F => lifted os started H enc F)
#print axioms proved
end Go.Proofs.Ythjijjkoeoemgaa.ContentBounds
