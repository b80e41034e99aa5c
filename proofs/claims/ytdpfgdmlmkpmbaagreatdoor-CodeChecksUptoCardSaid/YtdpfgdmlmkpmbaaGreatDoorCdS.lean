/- The chapter's own examples of programs: their texts, read. -/
import Derived.Test.YtdpfgdmlmkpmbaaGreatDoorCdA
namespace Go.Proofs.YtdpfgdmlmkpmbaaGreatDoor.Ab
open Go
set_option maxRecDepth 100000
set_option maxHeartbeats 40000000
def txCase : List UInt8 := bytes [99, 97, 115, 101, 32, 119, 104, 101, 110, 32, 115, 32, 61, 32, 39, 65, 39, 32, 116, 104, 101, 110, 32, 49, 32, 101, 108, 115, 101, 32, 50, 46, 53, 32, 101, 110, 100]
def trCase : T := (.mk 12 ([]) 0 0 [(.mk 8 (bytes [61]) 0 12 [(.mk 6 (bytes [115]) 0 10 []), (.mk 5 (bytes [65]) 0 14 [])]), (.mk 3 ([]) 1 23 []), (.mk 4 ([]) 25000 30 [])])
theorem rdCase (σ : AHeap) : evCall CdK 100 7 [.one (.str txCase)] σ = some (.agg trCase.cells, σ) := by kernel_rfl
def txNope : List UInt8 := bytes [110, 111, 112, 101]
def trNope : T := (.mk 6 (bytes [110, 111, 112, 101]) 0 0 [])
theorem rdNope (σ : AHeap) : evCall CdK 100 7 [.one (.str txNope)] σ = some (.agg trNope.cells, σ) := by kernel_rfl
def txSumN : List UInt8 := bytes [115, 117, 109, 40, 110, 41]
def trSumN : T := (.mk 14 (bytes [115, 117, 109]) 0 0 [(.mk 6 (bytes [110]) 0 4 [])])
theorem rdSumN (σ : AHeap) : evCall CdK 100 7 [.one (.str txSumN)] σ = some (.agg trSumN.cells, σ) := by kernel_rfl
def txSum1 : List UInt8 := bytes [115, 117, 109, 40, 110, 41, 32, 43, 32, 49]
def trSum1 : T := (.mk 8 (bytes [43]) 0 7 [(.mk 14 (bytes [115, 117, 109]) 0 0 [(.mk 6 (bytes [110]) 0 4 [])]), (.mk 3 ([]) 1 9 [])])
theorem rdSum1 (σ : AHeap) : evCall CdK 100 7 [.one (.str txSum1)] σ = some (.agg trSum1.cells, σ) := by kernel_rfl
def txCnt : List UInt8 := bytes [99, 111, 117, 110, 116, 40, 42, 41]
def trCnt : T := (.mk 14 (bytes [99, 111, 117, 110, 116]) 0 0 [])
theorem rdCnt (σ : AHeap) : evCall CdK 100 7 [.one (.str txCnt)] σ = some (.agg trCnt.cells, σ) := by kernel_rfl
def exTab : List (List UInt8 × T) := [(txCase, trCase), (txNope, trNope), (txSumN, trSumN), (txSum1, trSum1), (txCnt, trCnt)]
def exAt (s : List UInt8) : List (List UInt8 × T) → Option T
  | [] => none
  | (x, t) :: l => match beqL s x with
    | true => some t
    | false => exAt s l
def pExpr : Prim := fun args σ => match args with
  | [.one (.str s)] => match exAt s exTab with
    | some t => some (.agg t.cells, σ)
    | none => none
  | _ => none
theorem exAt_ok {s : List UInt8} {t : T} : ∀ {l : List (List UInt8 × T)}, exAt s l = some t → (s, t) ∈ l
  | [], h => by cases h
  | (x, u) :: l, h => by
    unfold exAt at h
    cases hb : beqL s x with
    | true =>
      rw [hb] at h
      cases h
      rw [beqL_iff] at hb
      rw [show s = x by simpa using hb]
      simp
    | false =>
      rw [hb] at h
      exact List.mem_cons_of_mem _ (exAt_ok h)
theorem primOk_expr : PrimOk Tryz.prog 7 pExpr := by
  intro args σ v σ' h
  unfold pExpr at h
  split at h
  · rename_i s
    split at h
    · rename_i t ht
      cases h
      have hm := exAt_ok ht
      simp only [exTab, List.mem_cons, Prod.mk.injEq, List.not_mem_nil, or_false] at hm
      rcases hm with ⟨rfl, rfl⟩ | ⟨rfl, rfl⟩ | ⟨rfl, rfl⟩ | ⟨rfl, rfl⟩ | ⟨rfl, rfl⟩
      · exact sound CdK_good _ _ _ σ _ σ (rdCase σ)
      · exact sound CdK_good _ _ _ σ _ σ (rdNope σ)
      · exact sound CdK_good _ _ _ σ _ σ (rdSumN σ)
      · exact sound CdK_good _ _ _ σ _ σ (rdSum1 σ)
      · exact sound CdK_good _ _ _ σ _ σ (rdCnt σ)
    · cases h
  · cases h
end Go.Proofs.YtdpfgdmlmkpmbaaGreatDoor.Ab
