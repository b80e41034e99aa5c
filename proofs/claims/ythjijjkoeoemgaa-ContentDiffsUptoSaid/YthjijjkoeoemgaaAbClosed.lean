/- Closed calls: what they answer, laid as one step. -/
import Derived.Test.YthjijjkoeoemgaaAbSim3
import Derived.Test.YthjijjkoeoemgaaAbCtx
namespace Go.Proofs.Ythjijjkoeoemgaa.Ab
open Go

/-- What a run without any memory does leaves all memory as it was. -/
theorem Post.ofEmpty {ρ ρ1 : Loc} {σ σ1 : AHeap} {w w1 : World} (hr : HR ρ σ.get w) (h : Post noLoc emptyH w ρ1 σ1 w1) : Post ρ σ w ρ σ w1 :=
  have fr : ∀ b, b < w.heap.size → w1.heap[b]? = w.heap[b]? := fun b hb => h.frame b hb (noOwn b)
  { le := fun _ _ h => h
    size := Nat.le_refl _
    new := fun id h1 h2 => by omega
    old := fun _ _ => rfl
    dom := fun id B hB => hr.lt hB
    same := fun _ _ _ => rfl
    md := fun id B o' h1 h2 h3 => ⟨o', h2, h3⟩
    md' := fun id B o h1 h2 h3 => ⟨o, h2, h3⟩
    hr := {
      dom := fun id B hB => by
        obtain ⟨o, h1, h2, h3⟩ := hr.dom id B hB
        exact ⟨o, h1, h2.of_heap (fun _ _ h => h) (fr _ h3), Nat.lt_of_lt_of_le h3 h.hsize⟩
      excl := hr.excl }
    hsize := h.hsize
    frame := fun b hb _ => fr b hb
    fresh := fun id B h1 h2 => absurd (hr.lt h2) (by omega)
    os := h.os
    tape := h.tape
    output := h.output }

def pBool (b : Bool) : Prim := fun args σ => match args with
  | [] => some (.one (.bool b), σ)
  | _ => none
theorem primOk_closed {P : Program} {C : Ctx} (hC : C.Good P) {f n : Nat} (h : saysTrue (evCall C n f [] emptyH) = true) : PrimOk P f (pBool true) := by
  intro args σ v σ' hp
  unfold pBool at hp
  split at hp
  · cases hp
    obtain ⟨σ1, h1⟩ := saysTrue_spec h
    obtain ⟨h2, h3⟩ := sound hC n f [] emptyH _ σ1 h1
    refine ⟨h2, fun ρ w vs hv hr => ?_⟩
    cases hv
    refine (h3 noLoc w [] .nil (HR.empty w)).mono ?_
    rintro e w' ⟨u, ρ', rfl, hpost, hu⟩
    refine ⟨u, ρ, rfl, hpost.ofEmpty hr, ?_⟩
    cases hu with
    | one hu => cases hu; exact .one (.bool _)
  · cases hp

end Go.Proofs.Ythjijjkoeoemgaa.Ab
