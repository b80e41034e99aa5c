/- Types' sizes, parts of structs, and the filling of structs and slices. -/
import Derived.Test.YthjijjkoeoemgaaAbOp0
import Derived.Laws.Tables
namespace Go.Proofs.Ythjijjkoeoemgaa.Ab
open Go
set_option linter.unusedSimpArgs false
set_option linter.unusedVariables false

section
variable {P : Program} {ρ : Loc}

theorem tSize_info {t : TypeId} {n : Nat} (h : tSize P t = some n) : ∃ i, P.info? t = some i ∧ i.size = n := by
  unfold tSize at h
  split at h
  · rename_i i hi; cases h; exact ⟨i, hi, rfl⟩
  · cases h

theorem tSize_run {t : TypeId} {n : Nat} (h : tSize P t = some n) (w : World) : (sizeOf t).run P w = .ok n w := by
  obtain ⟨i, hi, rfl⟩ := tSize_info h
  simp [sizeOf, typeInfo, hi]

theorem tAgg_some {t : TypeId} {n : Nat} (h : tAgg P t = some (some n)) (w : World) : (isAgg t).run P w = .ok true w ∧ (sizeOf t).run P w = .ok n w ∧ tSize P t = some n := by
  unfold tAgg at h
  split at h
  · rename_i fs hu
    split at h
    · rename_i m hm
      cases h
      exact ⟨by simp [isAgg, run_underlying hu], tSize_run hm w, hm⟩
    · cases h
  · rename_i k e hu
    split at h
    · rename_i m hm
      cases h
      exact ⟨by simp [isAgg, run_underlying hu], tSize_run hm w, hm⟩
    · cases h
  · cases h
  · cases h

theorem tAgg_none {t : TypeId} (h : tAgg P t = some none) (w : World) : (isAgg t).run P w = .ok false w := by
  unfold tAgg at h
  split at h
  · split at h <;> cases h
  · split at h <;> cases h
  · rename_i d h1 h2 hu
    cases d <;> first
      | exact (h1 _ rfl).elim
      | exact (h2 _ _ rfl).elim
      | simp [isAgg, run_underlying hu]
  · cases h

theorem tElem_run {t e : TypeId} (h : tElem P t = some e) : P.underlying t = some (.slice e) := by
  unfold tElem at h
  split at h
  · rename_i e' hu; cases h; exact hu
  · cases h

theorem tZero_info {t : TypeId} {z : List SV} (h : tZero P t = some z) : ∃ i v, P.info? t = some i ∧ i.zero = some v ∧ z.length = i.size ∧ ∀ ρ, SRs ρ z v.cells.toList := by
  unfold tZero at h
  split at h
  · rename_i i hi
    split at h
    · rename_i v hv
      split at h
      · cases h
      · rename_i a hnt ha
        split at h
        · rename_i hl
          cases h
          have hlen : a.cells.length = i.size := by simpa using hl
          exact ⟨i, v, hi, hv, hlen, fun ρ => (absV_rel (ρ := ρ) ha).cells (fun l e => hnt l e)⟩
        · cases h
      · cases h
    · cases h
  · cases h

/-! ### parts -/
theorem part_run {t : TypeId} {g : Option Nat} {off : Nat} {cs : List SV} {vs : List Value} {v : AV} (hg : tAgg P t = some g) (hc : SRs ρ cs vs) (hp : partA cs g off = some v) :
    ∃ u, VR ρ v u ∧ ∀ w, (part t vs.toArray off).run P w = .ok u w := by
  unfold partA at hp
  cases g with
  | none =>
    · simp only at hp
      split at hp
      · rename_i s hs
        cases hp
        obtain ⟨u, h1, h2⟩ := hc.get hs
        exact ⟨u, .one h2, fun w => by simp [part, tAgg_none hg w, h1]⟩
      · cases hp
  | some n =>
    simp only at hp
    split at hp
    · rename_i hl
      cases hp
      have hl' : off + n ≤ cs.length := by simpa using hl
      refine ⟨.agg (vs.toArray.extract off (off + n)), ?_, fun w => by simp [part, (tAgg_some hg w).1, (tAgg_some hg w).2.1]⟩
      have h1 := VR.agg ((hc.drop off).take n)
      have h2 : vs.toArray.extract off (off + n) = ((vs.drop off).take n).toArray := by
        apply Array.ext'
        simp [List.take_drop]
      rw [h2]
      exact h1
    · cases hp

/-! ### the filling of cells -/
theorem foldl_fill (off : Nat) : ∀ (xs : List Value) (k : Nat) (arr : Array Value), off + k + xs.length ≤ arr.size →
    ((xs.zipIdx k).foldl (fun (cs : Array Value) (p : Value × Nat) => cs.setIfInBounds (off + p.2) p.1) arr).toList = arr.toList.take (off + k) ++ xs ++ arr.toList.drop (off + k + xs.length)
  | [], k, arr, _ => by simp
  | x :: xs, k, arr, h => by
    simp only [List.zipIdx_cons, List.foldl_cons]
    have hl : off + (k + 1) + xs.length ≤ (arr.setIfInBounds (off + k) x).size := by simp at h ⊢; omega
    rw [foldl_fill off xs (k + 1) _ hl]
    have e := list_seg_step arr.toList (off + k) x xs (by simp at h ⊢; omega)
    simpa [Array.toList_setIfInBounds, Nat.add_assoc] using e

theorem fill_rel {place : Nat → Option (Nat × Nat)} {fr : List AV} {a : Act} (hf : FR ρ fr a.tmps) : ∀ (l : List (Nat × Operand)) (ps : List (Nat × Nat × AOpd)) (cs cs' : List SV) (vs : List Value),
    compParts place l = some ps → fillA fr cs ps = some cs' → SRs ρ cs vs →
    ∃ vs' : List Value, Instr.fill place vs.toArray (l.map fun p => (p.1, a.eval p.2)) = some vs'.toArray ∧ SRs ρ cs' vs'
  | [], ps, cs, cs', vs, hc, hfi, hs => by
    cases hc; cases hfi
    exact ⟨vs, rfl, hs⟩
  | (i, x) :: l, ps, cs, cs', vs, hc, hfi, hs => by
    simp only [compParts] at hc
    split at hc
    · rename_i off n y r hp hx hr
      cases hc
      have hv := opd_rel hx hf
      simp only [fillA] at hfi
      split at hfi
      · cases hfi
      · rename_i hnt
        split at hfi
        · rename_i hl
          have hl1 : (ev fr y).cells.length = n ∧ off + n ≤ cs.length := by simpa using hl
          have hcells := hv.cells (fun l' e => hnt l' e)
          have hlen := hcells.length
          have hsz : (a.eval x).cells.size = n := by rw [← hl1.1, hlen]; simp
          have hvs := hs.length
          obtain ⟨vs', h1, h2⟩ := fill_rel hf l r _ cs' _ hr hfi (hs.splice hcells off)
          refine ⟨vs', ?_, h2⟩
          simp only [List.map_cons, Instr.fill, hp]
          rw [if_neg (by rw [hsz]; simp; omega)]
          rw [← h1]
          congr 1
          rw [← Array.foldl_toList]
          apply Array.ext'
          have := foldl_fill off (a.eval x).cells.toList 0 vs.toArray (by simp [hsz]; omega)
          simpa [hsz] using this
        · cases hfi
    · cases hc

end
end Go.Proofs.Ythjijjkoeoemgaa.Ab
