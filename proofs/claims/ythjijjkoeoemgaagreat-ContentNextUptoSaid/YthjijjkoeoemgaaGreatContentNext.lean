/- The next time at which any views hold others is the one that the document says: at any views, any list of arrivals of which the reading's bulk is at most 1048576, and any time. -/
import Derived.Test.YthjijjkoeoemgaaGreatCt18
import Derived.Test.YthjijjkoeoemgaaGreatCtTy
namespace Go.Proofs.YthjijjkoeoemgaaGreat.ContentNext
open Go.ChangeShapes Go.WideShapes Go.ChangeAt Go.RowKit Go.Proofs.YthjijjkoeoemgaaGreat.Ab

theorem params : Tryz.f4.params = #[22, 23, 3] := by kernel_rfl
theorem run (σ : AHeap) (avs : List AV) (b : Nat) (h : RdA Tryz.prog σ.get Tryz.f4.params.toList avs b) (hb : b ≤ 1048576) : ∃ n σ', evCall D9 n 4 avs σ = some (.one (.bool true), σ') := by
  rw [params] at h
  obtain ⟨s, l, b1, b2, rfl, rfl, h1, h⟩ := rdA_one (by kernel_rfl) h
  obtain ⟨s2, l2, b3, b4, rfl, rfl, h2, h⟩ := rdA_one (by kernel_rfl) h
  obtain ⟨s3, l3, b5, b6, rfl, rfl, h3, h⟩ := rdA_one (by kernel_rfl) h
  obtain rfl := rdA_nil h
  obtain ⟨vs, hV, _, _⟩ := rdT_views h1 (by omega)
  obtain ⟨A, hA, lA, _⟩ := rdT_arrs h2 (by omega)
  obtain ⟨n, hn, _⟩ := rd_int underI h3
  cases hn
  obtain ⟨v, σ', he, rfl⟩ := runN4 σ (.one s) (.one s2) A vs n hV hA (by omega) (vs.length + A.length + 1200) (Nat.le_refl _)
  exact ⟨_, σ', he⟩

set_option maxRecDepth 100000 in
theorem lifted (os : Os) (started : os.Started) (H : Type) (enc : TypeId × Value → H) (F : Stop.Interp) :
    ReturnsInHanded {} Tryz.checked os 4 .any ((Rows.OpenSpec.upto Rows.contentNextSpec).pre6 enc Tryz.prog Tryz.f4 Rows.contentNextUptoRow.domain false) (((Rows.OpenSpec.upto Rows.contentNextSpec).at F).post enc Tryz.prog Tryz.f4 false true false false) := by
  refine returnsInHanded_of_cond (C := Tryz.checked) (s := Rows.OpenSpec.upto Rows.contentNextSpec) (k := Rows.uptoSmall) rfl ownKn started (by kernel_rfl) Tryz.func4
    (OpenSpec.witness (enc := enc) (C := Tryz.checked) (s := Rows.OpenSpec.upto Rows.contentNextSpec) (k := Rows.uptoSmall) rfl false ⟨#[], #[.slice none 0 0, .slice none 0 0, .int .i64 0], []⟩ 8 (by kernel_rfl) (by kernel_rfl) (by kernel_rfl)
      (x := ([.nil, .nil, .lit (.int .i64 0)], [], [])) (by kernel_rfl) rfl (by kernel_rfl)) ?_
  intro W base args ds gs before hval hW _ hk _
  have hk' : Rows.uptoBulkAll (ds ++ gs) ≤ 1048576 := of_decide_eq_true hk
  exact law_contract D9_good (T := [22, 32, 30, 23, 39, 37, 54, 3, 9, 4]) (tb := 4) (by kernel_rfl) (by kernel_rfl) laidOut (by kernel_rfl) Tryz.underlying4 rfl
    (fun H ds hds => by
      have hds : ds.length = 3 := hds
      match ds, hds with
      | [d0, d1, d2], _ => rfl)
    run H enc W base args ds gs before hval hW hk'

theorem proved : Rows.ContentNextUptoSaid :=
  OpenClaim.holds_of_cond 4 Tryz.f4 rfl rfl rfl rfl rfl rfl rfl ⟨rfl, rfl, rfl, rfl, rfl⟩ rfl rfl rfl rfl rfl (by kernel_rfl) Tryz.func4 (by kernel_rfl)
    (of_decide_eq_true (by kernel_rfl)) (by unfold Func.isWrapper; first | (rw [if_pos (by decide +kernel)]; kernel_rfl) | (rw [if_neg (by decide +kernel)]; exact ⟨rfl, rfl⟩))
    (fun os started H enc _ F => lifted os started H enc F)
#print axioms proved
end Go.Proofs.YthjijjkoeoemgaaGreat.ContentNext
