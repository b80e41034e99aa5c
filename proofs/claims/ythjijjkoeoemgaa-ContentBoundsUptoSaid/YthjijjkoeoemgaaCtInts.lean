/- Ints of a slice. -/
import Derived.Test.YthjijjkoeoemgaaAbD
namespace Go.Proofs.Ythjijjkoeoemgaa.Ab
open Go
set_option linter.unusedSimpArgs false

def intsOf : List AV → Option (List Int)
  | [] => some []
  | .one (.int .i64 n) :: l => match intsOf l with
    | some r => some (n :: r)
    | none => none
  | _ => none
theorem intsOf_spec : ∀ {l : List AV} {r : List Int}, intsOf l = some r → l = r.map fun n => .one (.int .i64 n)
  | [], r, h => by simp [intsOf] at h; subst h; rfl
  | a :: l, r, h => by
    unfold intsOf at h
    split at h
    · rename_i he; cases he
    · rename_i n l' he
      cases he
      split at h
      · rename_i r' hr
        cases h
        simp [intsOf_spec hr]
      · cases h
    · cases h
/-- The ints of a slice. -/
def slInts (σ : AHeap) : AV → Option (List Int)
  | .one .nilSlice => some []
  | .one (.slice id off e len _) => match Nat.beq e 1 && Nat.ble len maxElems, rdList (σ.get id) none 1 off len with
    | true, some l => intsOf l
    | _, _ => none
  | _ => none
theorem slInts_spec {σ : AHeap} {s : AV} {l : List Int} (h : slInts σ s = some l) : (s = .one .nilSlice ∧ l = []) ∨
    ∃ id off cap, s = .one (.slice id off 1 l.length cap) ∧ (∀ i (h : i < l.length), rd (σ.get id) none (off + i) = some (.one (.int .i64 l[i]))) ∧ l.length ≤ maxElems := by
  unfold slInts at h
  split at h
  · cases h; exact .inl ⟨rfl, rfl⟩
  · rename_i id off e len cap
    split at h
    · rename_i l' he hr
      obtain ⟨k1, k2⟩ := rdList_spec hr
      have := intsOf_spec h
      subst this
      simp at he
      obtain ⟨rfl, hm⟩ := he
      simp only [List.length_map] at k1
      subst k1
      refine .inr ⟨id, off, cap, rfl, fun i hi => ?_, hm⟩
      have := k2 i (by simpa using hi)
      simpa using this
    · cases h
  · cases h


theorem intsOf_map : ∀ l : List Int, intsOf ((l.map (SV.int .i64)).map AV.one) = some l
  | [] => rfl
  | n :: l => by
    have := intsOf_map l
    simp only [List.map_cons, intsOf, this]
theorem rd_slInts {P : Program} {σ : AHeap} {tl t : TypeId} (htl : P.underlying tl = some (.slice t)) (ht : P.underlying t = some (.int .i64)) (hc : P.cellsOf t = 1) {s : SV} {b : Nat} (h : Rd P σ.get tl [s] b) (hb : b ≤ 1048576) :
    ∃ l : List Int, slInts σ (.one s) = some l ∧ l.length ≤ b := by
  rcases rd_slice htl h with h3 | ⟨id, len, c, cap, cells, h3, rfl, hg, hl⟩
  · cases h3
    exact ⟨[], rfl, Nat.zero_le _⟩
  · cases h3
    obtain ⟨l, hlen, rfl, _⟩ := rdL_ints ht hl
    have hle := hl.le
    have hmx : l.length ≤ maxElems := by unfold maxElems; omega
    have hrd := rdList_one .ro (.inr rfl) (l.map (SV.int .i64)) [] []
    simp only [List.nil_append, List.append_nil, List.length_nil, List.length_map] at hrd
    subst hlen
    refine ⟨l, ?_, by omega⟩
    have h7 := intsOf_map l
    simp only [slInts, hc, hg, hrd]
    simp [hmx]
    simpa using h7
end Go.Proofs.Ythjijjkoeoemgaa.Ab
