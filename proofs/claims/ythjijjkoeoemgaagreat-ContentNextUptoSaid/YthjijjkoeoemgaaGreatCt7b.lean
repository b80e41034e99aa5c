/- Lists that grew. -/
import Derived.Test.YthjijjkoeoemgaaGreatCt7
namespace Go.Proofs.YthjijjkoeoemgaaGreat.Ab
open Go
theorem OutSl.one {b : Nat} {τ : AHeap} {e n : Nat} {s : AV} {c : List SV} (h : OutSl b τ e s c n) : ∃ x, s = .one x := by
  rcases h.2 with ⟨h, _⟩ | ⟨_, h, _⟩
  · exact ⟨_, h⟩
  · exact ⟨_, h⟩
theorem OutSl.low {b b' : Nat} {τ : AHeap} {e n : Nat} {s : AV} {c : List SV} (h : OutSl b τ e s c n) (hb : b' ≤ b) : OutSl b' τ e s c n := by
  refine ⟨h.1, ?_⟩
  rcases h.2 with h | ⟨q, h1, h0, h2, h3⟩
  · exact .inl h
  · exact .inr ⟨q, h1, h0, by omega, h3⟩
theorem Arrs.one {σ : AHeap} {s : AV} {l : List Arr} (h : Arrs σ s l) : ∃ x, s = .one x := by
  rcases h.1 with ⟨h, _⟩ | ⟨_, _, _, _, h, _⟩
  · exact ⟨_, h⟩
  · exact ⟨_, h⟩
end Go.Proofs.YthjijjkoeoemgaaGreat.Ab
