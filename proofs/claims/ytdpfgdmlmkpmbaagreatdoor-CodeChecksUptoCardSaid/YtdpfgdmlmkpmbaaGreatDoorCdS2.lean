/- The chapter's own examples of programs, run whole. -/
import Derived.Test.YtdpfgdmlmkpmbaaGreatDoorCdS
namespace Go.Proofs.YtdpfgdmlmkpmbaaGreatDoor.Ab
open Go
set_option maxRecDepth 100000
set_option maxHeartbeats 40000000
def cmPrims : List (Nat × Prim) := [(33, pForm), (7, pExpr)]
noncomputable def CdM : Ctx := ⟨codeOf, primAt cmPrims, fun _ => .no⟩
theorem CdM_good : CdM.Good Tryz.prog where
  code := fun f F h => codeOf_good h
  prim := fun f p h => primAt_ok (l := cmPrims) (fun g p hm => by
    simp only [cmPrims, List.mem_cons, Prod.mk.injEq, List.not_mem_nil, or_false] at hm
    rcases hm with ⟨rfl, rfl⟩ | ⟨rfl, rfl⟩
    · exact primOk_form
    · exact primOk_expr) f p h
theorem sure12_runs : saysTrue (evCall CdM 300 12 [] emptyH) = true := by kernel_rfl
end Go.Proofs.YtdpfgdmlmkpmbaaGreatDoor.Ab
