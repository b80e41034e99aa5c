/- Between now and the next time nothing changes; views in another order hold the same; what is held stands among what came: at any views, any list of arrivals of which the reading's bulk is at most 1048576, and any two times. -/
import Derived.Test.YthjijjkoeoemgaaCt33
import Derived.Test.YthjijjkoeoemgaaCtTy
namespace Go.Proofs.Ythjijjkoeoemgaa.ContentStill
open Go.ChangeShapes Go.WideShapes Go.ChangeAt Go.RowKit Go.Proofs.Ythjijjkoeoemgaa.Ab

theorem noCap {σ : AHeap} {s : SV} {b : Nat} (h : Rd Try.prog σ.get 30 [s] b) : NoCap (.one s) := by
  intro id o e n c hs
  rcases rd_sliceN underVs h with h3 | ⟨_, _, _, _, h3, _⟩
  · cases h3; cases hs
  · cases h3; cases hs; rfl
theorem underTwo : Try.prog.underlying 32 = some (.array 2 3) := by kernel_rfl
theorem params : Try.f4.params = #[30, 31, 32] := by kernel_rfl
theorem run (σ : AHeap) (avs : List AV) (b : Nat) (h : RdA Try.prog σ.get Try.f4.params.toList avs b) (hb : b ≤ 1048576) : ∃ n σ', evCall D9 n 4 avs σ = some (.one (.bool true), σ') := by
  rw [params] at h
  obtain ⟨s, l, b1, b2, rfl, rfl, h1, h⟩ := rdA_one (by kernel_rfl) h
  obtain ⟨s2, l2, b3, b4, rfl, rfl, h2, h⟩ := rdA_one (by kernel_rfl) h
  obtain ⟨s3, l3, b5, b6, rfl, rfl, h3, h⟩ := rdA_agg (by kernel_rfl) h
  obtain rfl := rdA_nil h
  obtain ⟨vs, hV, _, hVb⟩ := rdT_views h1 (by omega)
  obtain ⟨A, hA, lA, hAb⟩ := rdT_arrs h2 (by omega)
  obtain ⟨c, rfl, h4⟩ := rd_array underTwo h3
  obtain ⟨L, hL, rfl, _⟩ := rdL_ints underI h4
  match L, hL with
  | [n0, n1], _ =>
    obtain ⟨v, σ', he, rfl⟩ := run_S σ (.one s) (.one s2) A vs n0 n1 hV (noCap h1) hA (by omega) (fun a ha => vin_of (hAb a ha).2.2) 1048576 (fun a ha => by have := (hAb a ha).2.1; omega) 1048576 (fun v hv => (hVb v hv).2.2) (vs.length + A.length + 1048576 + 1048576 + 4000) (Nat.le_refl _)
    exact ⟨_, σ', he⟩

set_option maxRecDepth 100000 in
theorem lifted (os : Os) (started : os.Started) (H : Type) (enc : TypeId × Value → H) (F : Stop.Interp) :
    ReturnsInHanded {} Try.checked os 4 .any ((Rows.OpenSpec.upto Rows.contentStillSpec).pre6 enc Try.prog Try.f4 Rows.contentStillUptoRow.domain false) (((Rows.OpenSpec.upto Rows.contentStillSpec).at F).post enc Try.prog Try.f4 false true false false) := by
  refine returnsInHanded_of_cond (C := Try.checked) (s := Rows.OpenSpec.upto Rows.contentStillSpec) (k := Rows.uptoSmall) rfl ownKn started (by kernel_rfl) Try.func4
    (OpenSpec.witness (enc := enc) (C := Try.checked) (s := Rows.OpenSpec.upto Rows.contentStillSpec) (k := Rows.uptoSmall) rfl false ⟨#[], #[.slice none 0 0, .slice none 0 0, .agg #[.int .i64 0, .int .i64 0]], []⟩ 8 (by kernel_rfl) (by kernel_rfl) (by kernel_rfl)
      (x := ([.nil, .nil, .agg [.lit (.int .i64 0), .lit (.int .i64 0)]], [], [])) (by kernel_rfl) rfl (by kernel_rfl)) ?_
  intro W base args ds gs before hval hW _ hk _
  have hk' : Rows.uptoBulkAll (ds ++ gs) ≤ 1048576 := of_decide_eq_true hk
  exact law_contract D9_good (T := [30, 24, 22, 31, 40, 38, 46, 32, 3, 9, 4]) (tb := 4) (by kernel_rfl) (by kernel_rfl) laidOut (by kernel_rfl) Try.underlying4 rfl
    (fun H ds hds => by
      have hds : ds.length = 3 := hds
      match ds, hds with
      | [d0, d1, d2], _ => rfl)
    run H enc W base args ds gs before hval hW hk'

theorem proved : Rows.ContentStillUptoSaid :=
  OpenClaim.holds_of_cond 4 Try.f4 rfl rfl rfl rfl rfl rfl rfl ⟨rfl, rfl, rfl, rfl, rfl⟩ rfl rfl rfl rfl rfl (by kernel_rfl) Try.func4 (by kernel_rfl)
    (of_decide_eq_true (by kernel_rfl)) (by unfold Func.isWrapper; first | (rw [if_pos (by decide +kernel)]; kernel_rfl) | (rw [if_neg (by decide +kernel)]; exact ⟨rfl, rfl⟩))
    (fun os started H enc _ F => lifted os started H enc F)
#print axioms proved
end Go.Proofs.Ythjijjkoeoemgaa.ContentStill
