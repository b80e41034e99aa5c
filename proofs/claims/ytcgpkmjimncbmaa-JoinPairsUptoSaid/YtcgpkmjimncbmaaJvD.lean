/- The context of views and joins: the chapters' examples as one step, what keeps no memory. -/
import Derived.Test.YtcgpkmjimncbmaaJvSure
import Derived.Test.YtcgpkmjimncbmaaRdI
namespace Go.Proofs.Ytcgpkmjimncbmaa.Ab
open Go
set_option maxRecDepth 100000
def memN (f : Nat) : List Nat → Bool
  | [] => false
  | g :: l => match Nat.beq f g with
    | true => true
    | false => memN f l
def primAt : List (Nat × Prim) → Nat → Option Prim
  | [], _ => none
  | (g, p) :: l, f => match Nat.beq f g with
    | true => some p
    | false => primAt l f
theorem primAt_ok {P : Program} : ∀ {l : List (Nat × Prim)}, (∀ g p, (g, p) ∈ l → PrimOk P g p) → ∀ f p, primAt l f = some p → PrimOk P f p
  | [], _, f, p, h => by cases h
  | (g, q) :: l, hl, f, p, h => by
    unfold primAt at h
    cases h1 : Nat.beq f g with
    | true =>
      rw [h1] at h
      cases h
      rw [Nat.eq_of_beq_eq_true h1]
      exact hl g q (by simp)
    | false =>
      rw [h1] at h
      exact primAt_ok (fun g p hm => hl g p (by simp [hm])) f p h
def jvPure : List Nat := [14, 15, 16, 17, 18,
  10, 12]
def jvHint (f : Nat) : Hint := match memN f jvPure with
  | true => .pure
  | false => .no
def jvPrims : List (Nat × Prim) := [(19, pBool true), (13, pBool true)]
noncomputable def JvD : Ctx := ⟨codeOf, primAt jvPrims, jvHint⟩
theorem JvD_good : JvD.Good Try.prog where
  code := fun f F h => codeOf_good h
  prim := fun f p h => primAt_ok (l := jvPrims) (fun g p hm => by
    simp only [jvPrims, List.mem_cons, Prod.mk.injEq, List.not_mem_nil, or_false] at hm
    rcases hm with ⟨rfl, rfl⟩ | ⟨rfl, rfl⟩
    · exact primOk_closed plainC_good sure_runs
    · exact primOk_closed plainC_good awake19_runs) f p h
end Go.Proofs.Ytcgpkmjimncbmaa.Ab
