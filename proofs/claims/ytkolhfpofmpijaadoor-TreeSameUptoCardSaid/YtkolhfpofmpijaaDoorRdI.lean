/- What arguments are that were read as values. -/
import Derived.Test.YtkolhfpofmpijaaDoorAbD
namespace Go.Proofs.YtkolhfpofmpijaaDoor.Ab
open Go Go.RowKit
set_option maxRecDepth 100000
set_option linter.unusedSimpArgs false

section
variable {P : Program} {t : TypeId} {ss : List SV} {b : Nat}
theorem RdV.strI (ht : P.underlying t = some .string) (h : RdV P t ss b) : ∃ s, ss = [.str s] ∧ b = s.length + 1 := by
  cases h with
  | str h' s => exact ⟨s, rfl, rfl⟩
  | bool h' => rw [ht] at h'; cases h'
  | int h' => rw [ht] at h'; cases h'
  | slice h' => rw [ht] at h'; cases h'
  | struct h' => rw [ht] at h'; cases h'
  | array h' => rw [ht] at h'; cases h'
theorem RdV.intI {k : IntKind} (ht : P.underlying t = some (.int k)) (h : RdV P t ss b) : ∃ n, ss = [.int k n] ∧ (Lit.int k n).wf = true ∧ b = 1 := by
  cases h with
  | int h' n hw => rw [ht] at h'; cases h'; exact ⟨n, rfl, hw, rfl⟩
  | bool h' => rw [ht] at h'; cases h'
  | str h' => rw [ht] at h'; cases h'
  | slice h' => rw [ht] at h'; cases h'
  | struct h' => rw [ht] at h'; cases h'
  | array h' => rw [ht] at h'; cases h'
theorem RdV.boolI (ht : P.underlying t = some .bool) (h : RdV P t ss b) : ∃ x, ss = [.bool x] ∧ b = 1 := by
  cases h with
  | bool h' x => exact ⟨x, rfl, rfl⟩
  | int h' => rw [ht] at h'; cases h'
  | str h' => rw [ht] at h'; cases h'
  | slice h' => rw [ht] at h'; cases h'
  | struct h' => rw [ht] at h'; cases h'
  | array h' => rw [ht] at h'; cases h'
theorem RdV.sliceI {e : TypeId} (ht : P.underlying t = some (.slice e)) (h : RdV P t ss b) : ∃ elems c, ss = [.lst elems] ∧ b = c + 1 ∧ RdVE P e elems c := by
  cases h with
  | slice h' elems c hl => rw [ht] at h'; cases h'; exact ⟨elems, c, rfl, rfl, hl⟩
  | bool h' => rw [ht] at h'; cases h'
  | int h' => rw [ht] at h'; cases h'
  | str h' => rw [ht] at h'; cases h'
  | struct h' => rw [ht] at h'; cases h'
  | array h' => rw [ht] at h'; cases h'
theorem RdV.structI {fs : Array Field} (ht : P.underlying t = some (.struct fs)) (h : RdV P t ss b) : ∃ c, b = c + 1 ∧ RdVF P (fs.toList.map (·.type)) ss c := by
  cases h with
  | struct h' cells c hl => rw [ht] at h'; cases h'; exact ⟨c, rfl, hl⟩
  | bool h' => rw [ht] at h'; cases h'
  | int h' => rw [ht] at h'; cases h'
  | str h' => rw [ht] at h'; cases h'
  | slice h' => rw [ht] at h'; cases h'
  | array h' => rw [ht] at h'; cases h'
theorem RdVF.consI {e : TypeId} {es : List TypeId} (h : RdVF P (e :: es) ss b) : ∃ s1 s2 b1 b2, ss = s1 ++ s2 ∧ b = b1 + b2 ∧ RdV P e s1 b1 ∧ RdVF P es s2 b2 := by
  cases h with
  | cons h t => exact ⟨_, _, _, _, rfl, rfl, h, t⟩
theorem RdVA.aggI {ts : List TypeId} {avs : List AV} (ha : aggT P t = true) (h : RdVA P (t :: ts) avs b) : ∃ ss l b1 b2, avs = .agg ss :: l ∧ b = b1 + b2 ∧ RdV P t ss b1 ∧ RdVA P ts l b2 := by
  cases h with
  | one ha' => rw [ha] at ha'; cases ha'
  | agg _ h k => exact ⟨_, _, _, _, rfl, rfl, h, k⟩
theorem RdVA.oneI {ts : List TypeId} {avs : List AV} (ha : aggT P t = false) (h : RdVA P (t :: ts) avs b) : ∃ s l b1 b2, avs = .one s :: l ∧ b = b1 + b2 ∧ RdV P t [s] b1 ∧ RdVA P ts l b2 := by
  cases h with
  | agg ha' => rw [ha] at ha'; cases ha'
  | one _ h k => exact ⟨_, _, _, _, rfl, rfl, h, k⟩
theorem RdVA.nilI {avs : List AV} (h : RdVA P [] avs b) : avs = [] := by cases h; rfl
theorem RdVF.nilI (h : RdVF P [] ss b) : ss = [] := by cases h; rfl
end

end Go.Proofs.YtkolhfpofmpijaaDoor.Ab
