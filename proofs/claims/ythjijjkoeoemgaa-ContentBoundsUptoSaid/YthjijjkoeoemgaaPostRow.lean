/- A row of the machine's own that is written anew. -/
import Derived.Test.YthjijjkoeoemgaaAbD
namespace Go.Proofs.Ythjijjkoeoemgaa.Ab
open Go
set_option maxRecDepth 20000
set_option maxHeartbeats 4000000
set_option linter.unusedSimpArgs false
/-! ### a row written -/
theorem Post.row {ρ : Loc} {σ : AHeap} {w w' : World} (h : HR ρ σ.get w) {id : Nat} {B : Blk} {cs cs' : List SV} {vs' : List Value} (hB : ρ id = some B) (hcs : σ.get id = some ⟨cs, .own⟩) (hv : SRs ρ cs' vs') (hlen : cs'.length = cs.length)
    (hother : ∀ b, b < w.heap.size → b ≠ B.b → w'.heap[b]? = w.heap[b]?) (hsize : w.heap.size ≤ w'.heap.size) (hcell : ∀ j v, vs'[j]? = some v → w'.cell? ⟨B.b, B.base + j, none⟩ = some v) (hown : Own w' B)
    (h1 : w'.os = w.os) (h2 : w'.tape = w.tape) (h3 : w'.output = w.output) : Post ρ σ w ρ (σ.put id ⟨cs', .own⟩) w' := by
  have hid := AHeap.get_lt hcs
  have hgp : ∀ j, (σ.put id ⟨cs', .own⟩).get j = if j = id then some ⟨cs', .own⟩ else σ.get j := fun j => AHeap.get_put σ _ id j hid
  obtain ⟨o0, g0, ok0, hlt0⟩ := h.dom id B hB
  rw [hcs] at g0
  cases g0
  exact {
    le := .refl ρ
    size := by rw [AHeap.size_put]; exact Nat.le_refl _
    new := fun j a b => by rw [AHeap.size_put] at b; omega
    old := fun _ _ => rfl
    dom := fun j B' hj => by rw [AHeap.size_put]; exact h.lt hj
    same := fun j hj hn => by
      rw [hgp, if_neg (fun e => by subst e; rw [hB] at hn; cases hn)]
    md := fun j B' o' hj ho hm => by
      rw [hgp] at ho
      split at ho
      · rename_i e; subst e; exact ⟨_, hcs, rfl⟩
      · exact ⟨o', ho, hm⟩
    md' := fun j B' o hj ho hm => by
      rw [hgp]
      split
      · rename_i e; subst e; rw [hcs] at ho; cases ho; cases hm
      · exact ⟨o, ho, hm⟩
    hr := {
      dom := fun j B' hj => by
        by_cases e : j = id
        · subst e
          rw [hB] at hj
          cases hj
          exact ⟨⟨cs', .own⟩, by rw [hgp, if_pos rfl], ⟨by rw [← ok0.len]; exact hlen, ok0.fit, fun _ => ⟨vs', hv, hcell⟩, fun _ => hown⟩, Nat.lt_of_lt_of_le hlt0 hsize⟩
        · obtain ⟨o, g, ok, hlt⟩ := h.dom j B' hj
          refine ⟨o, by rw [hgp, if_neg e, g], ?_, Nat.lt_of_lt_of_le hlt hsize⟩
          by_cases hd : o.md = .dead
          · exact ⟨ok.len, ok.fit, fun hn => absurd hd hn, fun ho => by rw [hd] at ho; cases ho⟩
          · have hne : B'.b ≠ B.b := fun e2 => h.excl id j B B' _ o hB hj hcs g (fun e3 => e e3.symm) rfl hd e2.symm
            exact ok.of_heap (.refl ρ) (hother _ hlt hne)
      excl := fun i j B1 B2 o o' hi hj gi gj hne ho hd => by
        rw [hgp] at gi gj
        split at gi
        · rename_i e
          subst e
          cases gi
          rw [if_neg (fun e => hne e.symm)] at gj
          exact h.excl i j B1 B2 _ o' hi hj hcs gj hne rfl hd
        · split at gj
          · rename_i e
            subst e
            cases gj
            exact h.excl i j B1 B2 o _ hi hj gi hcs hne ho (by intro e; cases e)
          · exact h.excl i j B1 B2 o o' hi hj gi gj hne ho hd }
    hsize := hsize
    frame := fun b hb hno => hother b hb (fun e => hno ⟨id, B, _, hB, hcs, rfl, e.symm⟩)
    fresh := fun j B' a b => absurd (h.lt b) (by omega)
    os := h1
    tape := h2
    output := h3 }
end Go.Proofs.Ythjijjkoeoemgaa.Ab
