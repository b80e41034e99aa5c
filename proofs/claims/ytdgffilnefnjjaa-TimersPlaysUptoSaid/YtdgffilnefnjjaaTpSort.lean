/- The library's sort of timers, laid as one step: what the row holds is the sorted list, of timers of unlike numbers. -/
import Derived.Test.YtdgffilnefnjjaaTpWalk
import Derived.Test.YtdgffilnefnjjaaLitTp
import Derived.Shelf.SlSortCmp.WholeK
import Derived.Ground.SlsfProg
namespace Go.Proofs.Ytdgffilnefnjjaa.Ab
open Go Go.RowKit
set_option maxRecDepth 20000
set_option maxHeartbeats 4000000
set_option linter.unusedSimpArgs false

/-! ### the sorted list -/
def insT (x : T) : List T → List T
  | [] => [x]
  | y :: l => if lessT x y = true then x :: y :: l else y :: insT x l
def isortT : List T → List T
  | [] => []
  | x :: l => insT x (isortT l)
abbrev Srt (l : List T) : Prop := l.Pairwise fun a b => lessT a b = true
theorem less_iff' (a b : T) : lessT a b = true ↔ (a.at' < b.at' ∨ (a.at' = b.at' ∧ (a.stmt < b.stmt ∨ (a.stmt = b.stmt ∧ a.seq < b.seq)))) := by
  unfold lessT
  by_cases h1 : a.at' = b.at'
  · by_cases h2 : a.stmt = b.stmt
    · simp [h1, h2]
    · simp [h1, h2]
  · simp [h1]
theorem less_trans {a b c : T} (h : lessT a b = true) (k : lessT b c = true) : lessT a c = true := by rw [less_iff'] at *; omega
theorem less_irr (a : T) : lessT a a = false := by
  cases h : lessT a a with
  | false => rfl
  | true => rw [less_iff'] at h; omega
theorem less_tot {a b : T} (h : ¬ lessT a b = true) (hs : a.seq ≠ b.seq) : lessT b a = true := by rw [less_iff'] at *; omega
theorem ins_perm (x : T) : ∀ l, (insT x l).Perm (x :: l)
  | [] => .refl _
  | y :: l => by
    unfold insT
    split
    · exact .refl _
    · exact ((ins_perm x l).cons y).trans (.swap x y l)
theorem isort_perm : ∀ l, (isortT l).Perm l
  | [] => .refl _
  | x :: l => (ins_perm x _).trans ((isort_perm l).cons x)
theorem ins_srt (x : T) : ∀ l, Srt l → (∀ y ∈ l, x.seq ≠ y.seq) → Srt (insT x l)
  | [], _, _ => by simp [insT]
  | y :: l, h, hs => by
    rw [Srt, List.pairwise_cons] at h
    unfold insT
    split
    · rename_i hl
      rw [Srt, List.pairwise_cons, List.pairwise_cons]
      refine ⟨fun z hz => ?_, h⟩
      cases hz with
      | head => exact hl
      | tail _ hz => exact less_trans hl (h.1 z hz)
    · rename_i hl
      rw [Srt, List.pairwise_cons]
      refine ⟨fun z hz => ?_, ins_srt x l h.2 (fun z hz => hs z (by simp [hz]))⟩
      have := (ins_perm x l).mem_iff.1 hz
      cases this with
      | head => exact less_tot hl (hs y (by simp))
      | tail _ hz => exact h.1 z hz
theorem isort_srt : ∀ l, (l.map T.seq).Nodup → Srt (isortT l)
  | [], _ => List.Pairwise.nil
  | x :: l, h => by
    rw [List.map_cons, List.nodup_cons] at h
    refine ins_srt x _ (isort_srt l h.2) (fun y hy e => h.1 ?_)
    exact List.mem_map.2 ⟨y, (isort_perm l).mem_iff.1 hy, e.symm⟩
/-- One sorted list alone. -/
theorem srt_uniq : ∀ (l m : List T), Srt l → Srt m → l.Perm m → l = m
  | [], m, _, _, h => (List.nil_perm.1 h).symm
  | x :: l, m, hl, hm, h => by
    cases m with
    | nil => exact absurd h.length_eq (by simp)
    | cons y m =>
      rw [Srt, List.pairwise_cons] at hl hm
      have hxy : x = y := by
        have h1 : x ∈ y :: m := h.mem_iff.1 (by simp)
        have h2 : y ∈ x :: l := h.mem_iff.2 (by simp)
        rcases List.mem_cons.1 h1 with h1 | h1
        · exact h1
        · rcases List.mem_cons.1 h2 with h2 | h2
          · exact h2.symm
          · have a := hm.1 x h1
            have b := hl.1 y h2
            have := less_trans a b
            rw [less_irr] at this
            cases this
      subst hxy
      rw [srt_uniq l m hl.2 hm.2 ((List.perm_cons x).1 h)]

/-! ### a row written -/
theorem Post.row {ρ : Loc} {σ : AHeap} {w w' : World} (h : HR ρ σ.get w) {id : Nat} {B : Blk} {cs cs' : List SV} {vs' : List Value} (hB : ρ id = some B) (hcs : σ.get id = some ⟨cs, .own⟩) (hv : SRs ρ cs' vs') (hlen : cs'.length = cs.length)
    (hother : ∀ b, b < w.heap.size → b ≠ B.b → w'.heap[b]? = w.heap[b]?) (hsize : w.heap.size ≤ w'.heap.size) (hcell : ∀ j v, vs'[j]? = some v → w'.cell? ⟨B.b, B.base + j, none⟩ = some v) (hown : Own w' B)
    (h1 : w'.os = w.os) (h2 : w'.tape = w.tape) (h3 : w'.output = w.output) : Post ρ σ w ρ (σ.put id ⟨cs', .own⟩) w' := by
  have hid := AHeap.get_lt hcs
  have hgp : ∀ j, (σ.put id ⟨cs', .own⟩).get j = if j = id then some ⟨cs', .own⟩ else σ.get j := fun j => AHeap.get_put σ _ id j hid
  obtain ⟨o0, g0, ok0, hlt0⟩ := h.dom id B hB
  rw [hcs] at g0
  cases g0
  exact {
    le := .refl ρ
    size := by rw [AHeap.size_put]; exact Nat.le_refl _
    new := fun j a b => by rw [AHeap.size_put] at b; omega
    old := fun _ _ => rfl
    dom := fun j B' hj => by rw [AHeap.size_put]; exact h.lt hj
    same := fun j hj hn => by
      rw [hgp, if_neg (fun e => by subst e; rw [hB] at hn; cases hn)]
    md := fun j B' o' hj ho hm => by
      rw [hgp] at ho
      split at ho
      · rename_i e; subst e; exact ⟨_, hcs, rfl⟩
      · exact ⟨o', ho, hm⟩
    md' := fun j B' o hj ho hm => by
      rw [hgp]
      split
      · rename_i e; subst e; rw [hcs] at ho; cases ho; cases hm
      · exact ⟨o, ho, hm⟩
    hr := {
      dom := fun j B' hj => by
        by_cases e : j = id
        · subst e
          rw [hB] at hj
          cases hj
          exact ⟨⟨cs', .own⟩, by rw [hgp, if_pos rfl], ⟨by rw [← ok0.len]; exact hlen, ok0.fit, fun _ => ⟨vs', hv, hcell⟩, fun _ => hown⟩, Nat.lt_of_lt_of_le hlt0 hsize⟩
        · obtain ⟨o, g, ok, hlt⟩ := h.dom j B' hj
          refine ⟨o, by rw [hgp, if_neg e, g], ?_, Nat.lt_of_lt_of_le hlt hsize⟩
          by_cases hd : o.md = .dead
          · exact ⟨ok.len, ok.fit, fun hn => absurd hd hn, fun ho => by rw [hd] at ho; cases ho⟩
          · have hne : B'.b ≠ B.b := fun e2 => h.excl id j B B' _ o hB hj hcs g (fun e3 => e e3.symm) rfl hd e2.symm
            exact ok.of_heap (.refl ρ) (hother _ hlt hne)
      excl := fun i j B1 B2 o o' hi hj gi gj hne ho hd => by
        rw [hgp] at gi gj
        split at gi
        · rename_i e
          subst e
          cases gi
          rw [if_neg (fun e => hne e.symm)] at gj
          exact h.excl i j B1 B2 _ o' hi hj hcs gj hne rfl hd
        · split at gj
          · rename_i e
            subst e
            cases gj
            exact h.excl i j B1 B2 o _ hi hj gi hcs hne ho (by intro e; cases e)
          · exact h.excl i j B1 B2 o o' hi hj gi gj hne ho hd }
    hsize := hsize
    frame := fun b hb hno => hother b hb (fun e => hno ⟨id, B, _, hB, hcs, rfl, e.symm⟩)
    fresh := fun j B' a b => absurd (h.lt b) (by omega)
    os := h1
    tape := h2
    output := h3 }
end Go.Proofs.Ytdgffilnefnjjaa.Ab
