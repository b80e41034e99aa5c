/- The lower functions of values and of aggregates: what each computes. -/
import Derived.Test.YtdgffilnefnjjaaAbSim
import Derived.Test.YtdgffilnefnjjaaLitAggs
namespace Go.Proofs.Ytdgffilnefnjjaa.Ab
open Go
set_option maxRecDepth 20000
set_option maxHeartbeats 4000000
set_option linter.unusedSimpArgs false

/-! ### cmp.isNaN of an int -/
def p90 : Prim := fun args σ => match args with
  | [.one (.int .i64 _)] => some (.one (.bool false), σ)
  | _ => none
noncomputable def C1 : Ctx := plainC.lay 90 p90
theorem ok90 : PrimOk Try.prog 90 p90 := primOk_pure plainC_good fun args σ v σ' h => by
  unfold p90 at h
  split at h
  · cases h
    refine ⟨rfl, rfl, 3, evCall_code rfl code90 ?_⟩
    simp [c90]
  · cases h
theorem C1_good : C1.Good Try.prog := Ctx.lay_good plainC_good ok90

/-! ### cmp.Compare of ints -/
def cmpZ (a b : Int) : Int := if a < b then -1 else if b < a then 1 else 0
def p72 : Prim := fun args σ => match args with
  | [.one (.int .i64 a), .one (.int .i64 b)] => some (.one (.int .i64 (cmpZ a b)), σ)
  | _ => none
noncomputable def C2 : Ctx := C1.lay 72 p72
theorem ok72 : PrimOk Try.prog 72 p72 := primOk_pure C1_good fun args σ v σ' h => by
  unfold p72 at h
  split at h
  · rename_i a b
    cases h
    refine ⟨rfl, rfl, 3, evCall_code rfl code72 ?_⟩
    have hp : ∀ n args σ, evCall C1 (n + 1) 90 args σ = p90 args σ := evCall_prim rfl
    unfold cmpZ
    by_cases h1 : a < b
    · simp [c72, hp, p90, h1]
    · by_cases h2 : b < a <;> simp [c72, hp, p90, h1, h2]
  · cases h
theorem C2_good : C2.Good Try.prog := Ctx.lay_good C1_good ok72

/-! ### value.rank -/
def rankZ (a : Int) : Int := if a = 0 then 0 else if a = 1 then 1 else if a = 2 then 2 else if a = 3 then 2 else if a = 4 then 3 else 4
def p71 : Prim := fun args σ => match args with
  | [.one (.int .i64 a)] => some (.one (.int .i64 (rankZ a)), σ)
  | _ => none
noncomputable def C3 : Ctx := C2.lay 71 p71
theorem ok71 : PrimOk Try.prog 71 p71 := primOk_pure C2_good fun args σ v σ' h => by
  unfold p71 at h
  split at h
  · rename_i a
    cases h
    refine ⟨rfl, rfl, 3, evCall_code rfl code71 ?_⟩
    by_cases h1 : a < 0
    · simp [c71, h1, rankZ]
      omega
    by_cases h2 : 5 ≤ a
    · simp [c71, h1, h2, rankZ]
      omega
    have : a = 0 ∨ a = 1 ∨ a = 2 ∨ a = 3 ∨ a = 4 := by omega
    rcases this with rfl | rfl | rfl | rfl | rfl <;> simp [c71, rankZ]
  · cases h
theorem C3_good : C3.Good Try.prog := Ctx.lay_good C2_good ok71
end Go.Proofs.Ytdgffilnefnjjaa.Ab
