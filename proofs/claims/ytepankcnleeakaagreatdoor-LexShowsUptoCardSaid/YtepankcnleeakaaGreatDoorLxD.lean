/- The lexer's context: the words of the language; what it reads, run by the kernel. -/
import Derived.Test.YtepankcnleeakaaGreatDoorLxJ
import Derived.Test.YtepankcnleeakaaGreatDoorAbD
namespace Go.Proofs.YtepankcnleeakaaGreatDoor.Ab
open Go
set_option maxRecDepth 100000
set_option maxHeartbeats 40000000
def primAt : List (Nat × Prim) → Nat → Option Prim
  | [], _ => none
  | (g, p) :: l, f => match Nat.beq f g with
    | true => some p
    | false => primAt l f
theorem primAt_ok {P : Program} : ∀ {l : List (Nat × Prim)}, (∀ g p, (g, p) ∈ l → PrimOk P g p) → ∀ f p, primAt l f = some p → PrimOk P f p
  | [], _, f, p, h => by cases h
  | (g, q) :: l, hl, f, p, h => by
    unfold primAt at h
    cases h1 : Nat.beq f g with
    | true =>
      rw [h1] at h
      cases h
      rw [Nat.eq_of_beq_eq_true h1]
      exact hl g q (by simp)
    | false =>
      rw [h1] at h
      exact primAt_ok (fun g p hm => hl g p (by simp [hm])) f p h
def wordsL : List (List UInt8) := [[97, 108, 108], [97, 110, 100], [97, 115], [97, 118, 103], [98, 101, 116, 119, 101, 101, 110], [98, 121], [99, 97, 115, 101], [99, 111, 110, 116, 101, 120, 116], [99, 111, 117, 110, 116], [99, 114, 101, 97, 116, 101], [100, 101, 108, 101, 116, 101], [100, 101, 115, 99], [100, 105, 115, 116, 105, 110, 99, 116], [101, 108, 115, 101], [101, 110, 100], [101, 118, 101, 110, 116, 115], [101, 118, 101, 114, 121], [102, 97, 108, 115, 101], [102, 105, 114, 115, 116], [102, 114, 111, 109], [103, 114, 111, 117, 112], [104, 97, 118, 105, 110, 103], [105, 110], [105, 110, 115, 101, 114, 116], [105, 110, 116, 111], [105, 114, 115, 116, 114, 101, 97, 109], [105, 115], [105, 115, 116, 114, 101, 97, 109], [108, 97, 115, 116], [109, 97, 116, 99, 104, 101, 100], [109, 97, 120], [109, 101, 114, 103, 101], [109, 105, 110], [109, 115], [110, 111, 116], [110, 117, 108, 108], [111, 110], [111, 114], [111, 114, 100, 101, 114], [111, 117, 116, 112, 117, 116], [111, 118, 101, 114, 108, 97, 112, 112, 105, 110, 103], [112, 97, 114, 116, 105, 116, 105, 111, 110], [112, 97, 116, 116, 101, 114, 110], [114, 115, 116, 114, 101, 97, 109], [115, 99, 104, 101, 109, 97], [115, 101, 108, 101, 99, 116], [115, 101, 116], [115, 110, 97, 112, 115, 104, 111, 116], [115, 116, 97, 114, 116], [115, 117, 109], [116, 104, 101, 110], [116, 105, 109, 101, 114], [116, 114, 117, 101], [117, 112, 100, 97, 116, 101], [119, 104, 101, 110], [119, 104, 101, 114, 101], [119, 105, 110, 100, 111, 119], [119, 105, 116, 104, 105, 110]]
def lx0Prims : List (Nat × Prim) := [(16, pFields)]
noncomputable def Lx0 : Ctx := ⟨codeOf, primAt lx0Prims, fun _ => .no⟩
theorem Lx0_good : Lx0.Good Tryz.prog where
  code := fun f F h => codeOf_good h
  prim := fun f p h => primAt_ok (l := lx0Prims) (fun g p hm => by
    simp only [lx0Prims, List.mem_cons, Prod.mk.injEq, List.not_mem_nil, or_false] at hm
    obtain ⟨rfl, rfl⟩ := hm
    exact primOk_fields) f p h
theorem words_run (σ : AHeap) : evCall Lx0 20 8 [] σ = some (.one (.slice σ.size 0 1 58 none), σ.alloc ⟨wordsL.map SV.str, .own⟩) := by kernel_rfl
def pWords : Prim := fun args σ => match args with
  | [] => some (.one (.slice σ.size 0 1 58 none), σ.alloc ⟨wordsL.map SV.str, .own⟩)
  | _ => none
theorem primOk_words : PrimOk Tryz.prog 8 pWords := by
  intro args σ v σ' h
  unfold pWords at h
  split at h
  · cases h
    exact sound Lx0_good _ _ _ σ _ _ (words_run σ)
  · cases h
def lxPrims : List (Nat × Prim) := [(8, pWords), (59, pLower), (85, pIdxB), (19, pJoin)]
def lxHint (f : Nat) : Hint := match Nat.beq f 13 with
  | true => .mv
  | false => .no
noncomputable def LxC : Ctx := ⟨codeOf, primAt lxPrims, lxHint⟩
theorem LxC_good : LxC.Good Tryz.prog where
  code := fun f F h => codeOf_good h
  prim := fun f p h => primAt_ok (l := lxPrims) (fun g p hm => by
    simp only [lxPrims, List.mem_cons, Prod.mk.injEq, List.not_mem_nil, or_false] at hm
    rcases hm with ⟨rfl, rfl⟩ | ⟨rfl, rfl⟩ | ⟨rfl, rfl⟩ | ⟨rfl, rfl⟩
    · exact primOk_words
    · exact primOk_lower
    · exact primOk_idxB
    · exact primOk_join) f p h
def tokC (k : Int) (s : List UInt8) (n a : Int) : List SV := [.int .i64 k, .str s, .int .i64 n, .int .i64 a]
end Go.Proofs.YtepankcnleeakaaGreatDoor.Ab
