/- A set of views that New did not give: what its methods answer. -/
import Derived.Test.YtcgpkmjimncbmaaJvD
import Derived.Test.YtcgpkmjimncbmaaLitJv1
namespace Go.Proofs.Ytcgpkmjimncbmaa.Ab
open Go
set_option maxRecDepth 100000
set_option maxHeartbeats 4000000
set_option linter.unusedSimpArgs false

theorem none_add (σ : AHeap) (q t s : SV) : lim JvD 14 [.one .nilPtr, .agg [q, t, s]] σ = some (.agg [.lst [], .lst []], σ) := by
  refine lim_eq (JvD_prim rfl) ((JvD_code _).trans codeVAdd) rfl ?_
  unfold BodyP
  simp (maxDischargeDepth := 99) [cVAdd]
theorem none_advance (σ : AHeap) (t : SV) : lim JvD 15 [.one .nilPtr, .one t] σ = some (.agg [.lst [], .lst []], σ) := by
  refine lim_eq (JvD_prim rfl) ((JvD_code _).trans codeVAdvance) rfl ?_
  unfold BodyP
  simp (maxDischargeDepth := 99) [cVAdvance]
theorem none_next (σ : AHeap) : lim JvD 16 [.one .nilPtr] σ = some (.tup [.one (.int .i64 0), .one (.bool false)], σ) := by
  refine lim_eq (JvD_prim rfl) ((JvD_code _).trans codeVNext) rfl ?_
  unfold BodyP
  simp (maxDischargeDepth := 99) [cVNext]
theorem none_content (σ : AHeap) : lim JvD 17 [.one .nilPtr] σ = some (.one (.lst []), σ) := by
  refine lim_eq (JvD_prim rfl) ((JvD_code _).trans codeVContent) rfl ?_
  unfold BodyP
  simp (maxDischargeDepth := 99) [cVContent]
theorem none_len (σ : AHeap) : lim JvD 18 [.one .nilPtr] σ = some (.one (.int .i64 0), σ) := by
  refine lim_eq (JvD_prim rfl) ((JvD_code _).trans codeVLen) rfl ?_
  unfold BodyP
  simp (maxDischargeDepth := 99) [cVLen]

theorem law_nobody (q t : Int) (l : List (List SV)) : ∃ σ', lim JvD 4 [.agg [.int .i64 q, .int .i64 t, .lst l]] emptyH = some (.one (.bool true), σ') := by
  have h : OptP (lim JvD 4 [.agg [.int .i64 q, .int .i64 t, .lst l]] emptyH) (fun _ v _ => v = .one (.bool true)) := by
    refine lim_code (JvD_prim rfl) ((JvD_code _).trans codeVNobody) rfl ?_
    unfold BodyP
    simp (maxDischargeDepth := 99) [cVNobody, wr]
    refine endsi_draw ?_
    simp (maxDischargeDepth := 99) [none_add, none_advance, none_next, none_content, none_len, lim_sure16, wr]
  obtain ⟨v, σ', h1, rfl⟩ := h
  exact ⟨σ', h1⟩
end Go.Proofs.Ytcgpkmjimncbmaa.Ab
