/- The context of content's laws: both Checks and the closed call are told. -/
import Derived.Test.YthjijjkoeoemgaaCt2
import Derived.Test.YthjijjkoeoemgaaVal1
import Derived.Test.YthjijjkoeoemgaaSqSort
namespace Go.Proofs.Ythjijjkoeoemgaa.Ab
open Go
set_option maxRecDepth 20000
set_option maxHeartbeats 4000000
set_option linter.unusedSimpArgs false
theorem awake9 : saysTrue (evCall plainC 60 9 [] emptyH) = true := by kernel_rfl
theorem okAw : PrimOk Try.prog 9 (pBool true) := primOk_closed plainC_good awake9
noncomputable def pCheck : Prim := fun args σ => match args with
  | [.agg [.int .i64 k, .int .i64 N, s, .bool d], .one (.int .i64 n)] => match slInts σ (.one s) with
    | some l => some (.one (.int .i64 (errV k N l d n)), σ)
    | none => none
  | _ => none
theorem ok7 : PrimOk Try.prog 7 pCheck := primOk_pure plainC_good fun args σ v σ' h => by
  unfold pCheck at h
  split at h
  · rename_i k N s d n
    split at h
    · rename_i l hl
      cases h
      exact ⟨rfl, rfl, _, run7 σ s l k N n d (idxP_of hl) (l.length + 30) (Nat.le_refl _)⟩
    · cases h
  · cases h
theorem ok8 : PrimOk Try.prog 8 pCheck := primOk_pure plainC_good fun args σ v σ' h => by
  unfold pCheck at h
  split at h
  · rename_i k N s d n
    split at h
    · rename_i l hl
      cases h
      exact ⟨rfl, rfl, _, run8 σ s l k N n d (idxP_of hl) (l.length + 30) (Nat.le_refl _)⟩
    · cases h
  · cases h
noncomputable def D9 : Ctx := (((CV9.lay 61 pSortQ).lay 7 pCheck).lay 8 pCheck).lay 9 (pBool true)
theorem D9_good : D9.Good Try.prog := Ctx.lay_good (Ctx.lay_good (Ctx.lay_good (Ctx.lay_good CV9_good okSortQ) ok7) ok8) okAw
theorem D9_code (f : Nat) : D9.code f = codeOf f := by kernel_rfl
theorem D9_prim (f : Nat) (h : f ≠ 9 := by decide) (h2 : f ≠ 7 := by decide) (h3 : f ≠ 8 := by decide) (v0 : f ≠ 65 := by decide) (v1 : f ≠ 66 := by decide) (v2 : f ≠ 67 := by decide) (v3 : f ≠ 68 := by decide) (v4 : f ≠ 76 := by decide) (v5 : f ≠ 74 := by decide) (v6 : f ≠ 75 := by decide) (v7 : f ≠ 69 := by decide) (v8 : f ≠ 59 := by decide) (hS : f ≠ 61 := by decide) : D9.prim f = none := by
  simp [D9, CV9, CV8, CV7, CV6, CV5, CV4, CV3, CV2, CV1, Ctx.lay, h, h2, h3, v0, v1, v2, v3, v4, v5, v6, v7, v8, hS, plainC]
theorem D9_9 (n : Nat) (args : List AV) (σ : AHeap) : evCall D9 (n + 1) 9 args σ = pBool true args σ := evCall_prim (by kernel_rfl) _ _ _
theorem D9_7 (n : Nat) (args : List AV) (σ : AHeap) : evCall D9 (n + 1) 7 args σ = pCheck args σ := evCall_prim (by kernel_rfl) _ _ _
theorem D9_8 (n : Nat) (args : List AV) (σ : AHeap) : evCall D9 (n + 1) 8 args σ = pCheck args σ := evCall_prim (by kernel_rfl) _ _ _
theorem D9_Order (n : Nat) (args : List AV) (σ : AHeap) : evCall D9 (n + 1) 59 args σ = pv56 args σ := evCall_prim (by kernel_rfl) _ _ _
theorem D9_Sort (n : Nat) (args : List AV) (σ : AHeap) : evCall D9 (n + 1) 61 args σ = pSortQ args σ := evCall_prim (by kernel_rfl) _ _ _
theorem slInts_keeps {σ τ : AHeap} (hk : Keeps σ τ) {s : AV} {l : List Int} (h : slInts σ s = some l) : slInts τ s = some l := by
  unfold slInts at h ⊢
  split at h
  · exact h
  · rename_i id off e len cap
    split at h
    · rename_i l' he hr
      by_cases hid : id < σ.size
      · rw [hk.2 id hid, he, hr]
        exact h
      · have : σ.get id = none := AHeap.get_ge (by omega)
        rw [this] at hr
        cases len with
        | zero =>
          simp only [rdList, Option.some.injEq] at hr
          subst hr
          rw [he]
          simp only [rdList]
          exact h
        | succ n => simp [rdList, rd] at hr
    · cases h
  · cases h
end Go.Proofs.Ythjijjkoeoemgaa.Ab
