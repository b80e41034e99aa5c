/- Arrivals sorted by their numbers; the library's SortFunc as one step. -/
import Derived.Test.YthjijjkoeoemgaaCtVals
namespace Go.Proofs.Ythjijjkoeoemgaa.Ab
open Go
set_option maxRecDepth 20000
set_option maxHeartbeats 4000000
set_option linter.unusedSimpArgs false
set_option linter.unusedVariables false

/-! ### sorted by number -/
abbrev SrtQ (l : List Arr) : Prop := l.Pairwise fun a b => a.seq < b.seq
def insQ (x : Arr) : List Arr → List Arr
  | [] => [x]
  | y :: l => if x.seq < y.seq then x :: y :: l else y :: insQ x l
def isortQ : List Arr → List Arr
  | [] => []
  | x :: l => insQ x (isortQ l)
theorem insQ_perm (x : Arr) : ∀ l, (insQ x l).Perm (x :: l)
  | [] => .refl _
  | y :: l => by
    unfold insQ
    split
    · exact .refl _
    · exact ((insQ_perm x l).cons y).trans (.swap x y l)
theorem isortQ_perm : ∀ l, (isortQ l).Perm l
  | [] => .refl _
  | x :: l => (insQ_perm x _).trans ((isortQ_perm l).cons x)
theorem insQ_srt (x : Arr) : ∀ l, SrtQ l → (∀ y ∈ l, x.seq ≠ y.seq) → SrtQ (insQ x l)
  | [], _, _ => by simp [insQ]
  | y :: l, h, hs => by
    rw [SrtQ, List.pairwise_cons] at h
    have hxy := hs y (by simp)
    unfold insQ
    split
    · rename_i hl
      rw [SrtQ, List.pairwise_cons, List.pairwise_cons]
      refine ⟨fun z hz => ?_, h⟩
      rcases List.mem_cons.1 hz with rfl | hz
      · exact hl
      · have := h.1 z hz; omega
    · rename_i hl
      rw [SrtQ, List.pairwise_cons]
      refine ⟨fun z hz => ?_, insQ_srt x l h.2 (fun z hz => hs z (by simp [hz]))⟩
      rcases List.mem_cons.1 ((insQ_perm x l).mem_iff.1 hz) with rfl | hz
      · omega
      · exact h.1 z hz
theorem isortQ_srt : ∀ l, (l.map Arr.seq).Nodup → SrtQ (isortQ l)
  | [], _ => List.Pairwise.nil
  | x :: l, h => by
    rw [List.map_cons, List.nodup_cons] at h
    refine insQ_srt x _ (isortQ_srt l h.2) (fun y hy e => h.1 ?_)
    exact List.mem_map.2 ⟨y, (isortQ_perm l).mem_iff.1 hy, e.symm⟩
theorem srtQ_uniq : ∀ (l m : List Arr), SrtQ l → SrtQ m → l.Perm m → l = m
  | [], m, _, _, h => (List.nil_perm.1 h).symm
  | x :: l, m, hl, hm, h => by
    cases m with
    | nil => exact absurd h.length_eq (by simp)
    | cons y m =>
      rw [SrtQ, List.pairwise_cons] at hl hm
      have hxy : x = y := by
        rcases List.mem_cons.1 (h.mem_iff.1 (by simp : x ∈ x :: l)) with h1 | h1
        · exact h1
        · rcases List.mem_cons.1 (h.mem_iff.2 (by simp : y ∈ y :: m)) with h2 | h2
          · exact h2.symm
          · have a := hm.1 x h1
            have b := hl.1 y h2
            omega
      subst hxy
      rw [srtQ_uniq l m hl.2 hm.2 ((List.perm_cons x).1 h)]

def toA : List SV → Option (List Arr)
  | [] => some []
  | .int .i64 a :: .int .i64 b :: r :: l => match toA l with
    | some m => some (⟨a, b, r, []⟩ :: m)
    | none => none
  | _ => none
def er (a : Arr) : Arr := ⟨a.seq, a.time, a.row, []⟩
theorem toA_acells : ∀ l, toA (acells l) = some (l.map er)
  | [] => rfl
  | t :: l => by simp [acells, Arr.cells, toA, toA_acells l, er]
theorem toA_spec : ∀ (n : Nat) {cs : List SV} {l : List Arr}, cs.length ≤ n → toA cs = some l → cs = acells l
  | _, [], l, _, h => by simp [toA] at h; subst h; rfl
  | 0, _ :: _, _, hn, _ => by simp at hn
  | n + 1, .int .i64 a :: .int .i64 b :: c :: r, l, hn, h => by
    simp only [toA] at h
    split at h
    · rename_i l' hl
      cases h
      rw [toA_spec n (by simp at hn; omega) hl]
      rfl
    · cases h
def bndQ (l : List Arr) : Bool := l.all fun a => decide (0 ≤ a.seq) && decide (a.seq ≤ 1073741824)
def pSortQ : Prim := fun args σ => match args with
  | [.one .nilSlice, .one (.func 62 [])] => some (.tup [], σ)
  | [.one (.slice q 0 3 (n + 1) _), .one (.func 62 [])] => match σ.get q with
    | some ⟨cs, .own⟩ => match toA (cs.take ((n + 1) * 3)) with
      | some l => if l.length = n + 1 ∧ n + 1 ≤ maxElems ∧ (l.map Arr.seq).Nodup ∧ bndQ l = true then some (.tup [], σ.put q ⟨acells (isortQ l) ++ cs.drop ((n + 1) * 3), .own⟩) else none
      | none => none
    | _ => none
  | _ => none
end Go.Proofs.Ythjijjkoeoemgaa.Ab
