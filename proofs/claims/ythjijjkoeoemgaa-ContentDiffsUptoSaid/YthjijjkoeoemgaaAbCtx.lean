/- The program's own functions as the abstract machine's, looked up by number. -/
import Derived.Test.YthjijjkoeoemgaaAbRow
import Derived.Test.YthjijjkoeoemgaaRows
namespace Go.Proofs.Ythjijjkoeoemgaa.Ab
open Go

/-- A function's code, made of the loaded program's. -/
noncomputable def codeOf (f : Nat) : Option AFunc := match Try.prog.funcs[f]? with
  | some fn => compFunc Try.prog fn
  | none => none

/-- Nothing laid. -/
noncomputable def plainC : Ctx := ⟨codeOf, fun _ => none⟩

theorem codeOf_good {f : Nat} {F : AFunc} (h : codeOf f = some F) : ∃ fn, Try.prog.funcs[f]? = some fn ∧ compFunc Try.prog fn = some F := by
  unfold codeOf at h
  split at h
  · rename_i fn hfn
    exact ⟨fn, hfn, h⟩
  · cases h

theorem plainC_good : plainC.Good Try.prog := ⟨fun _ _ h => codeOf_good h, fun _ _ h => by cases h⟩

/-- The answer is true. -/
def saysTrue : Option (AV × AHeap) → Bool
  | some (.one (.bool true), _) => true
  | _ => false

theorem saysTrue_spec {r : Option (AV × AHeap)} (h : saysTrue r = true) : ∃ σ, r = some (.one (.bool true), σ) := by
  unfold saysTrue at h
  split at h
  · exact ⟨_, rfl⟩
  · cases h

theorem laidOut : laidOutB Try.prog = true := by kernel_rfl
theorem ownKn : ownKnob Try.prog.godebug = none := by kernel_rfl

end Go.Proofs.Ythjijjkoeoemgaa.Ab
