/- The chapter's own examples of sources, run whole. -/
import Derived.Test.YtepankcnleeakaaGreatDoorLxS0
namespace Go.Proofs.YtepankcnleeakaaGreatDoor.Ab
open Go
set_option maxRecDepth 100000
set_option maxHeartbeats 40000000
def lexTab : List (List UInt8 × List (List SV) × Int × Int) := [
  ([83, 69, 76, 69, 67, 84, 32, 97, 49, 32, 62, 61, 32, 49, 48, 115], [tokC 2 [115, 101, 108, 101, 99, 116] 0 0, tokC 1 [97, 49] 0 7, tokC 6 [62, 61] 0 10, tokC 7 [] 10000 13], 0, 0),
  ([39, 97], [], 0, 52),
  ([115, 101, 108, 101, 99, 116], [tokC 2 [115, 101, 108, 101, 99, 116] 0 0], 0, 0),
  ([97, 49], [tokC 1 [97, 49] 0 0], 0, 0),
  ([62, 61], [tokC 6 [62, 61] 0 0], 0, 0),
  ([49, 48, 48, 48, 48, 109, 115], [tokC 7 [] 10000 0], 0, 0)]
def lexAt (s : List UInt8) : List (List UInt8 × List (List SV) × Int × Int) → Option (List (List SV) × Int × Int)
  | [] => none
  | (x, t) :: l => match beqL s x with
    | true => some t
    | false => lexAt s l
theorem lexAt_ok {s : List UInt8} {t : List (List SV) × Int × Int} : ∀ {l : List (List UInt8 × List (List SV) × Int × Int)}, lexAt s l = some t → (s, t) ∈ l
  | [], h => by cases h
  | (x, u) :: l, h => by
    unfold lexAt at h
    cases hb : beqL s x with
    | true =>
      rw [hb] at h
      cases h
      rw [beqL_iff] at hb
      rw [show s = x by simpa using hb]
      simp
    | false =>
      rw [hb] at h
      exact List.mem_cons_of_mem _ (lexAt_ok h)
def pLexA : Prim := fun args σ => match args with
  | [.one (.str s)] => match lexAt s lexTab with
    | some (t, a, e) => some (.tup [.one (.lst t), .one (.int .i64 a), .one (.int .i64 e)], σ)
    | none => none
  | _ => none
theorem primOk_lexA : PrimOk Tryz.prog 13 pLexA := by
  intro args σ v σ' h
  unfold pLexA at h
  split at h
  · rename_i s
    split at h
    · rename_i t a e ht
      cases h
      have hm := lexAt_ok ht
      simp only [lexTab, List.mem_cons, Prod.mk.injEq, List.not_mem_nil, or_false] at hm
      rcases hm with ⟨rfl, rfl, rfl, rfl⟩ | ⟨rfl, rfl, rfl, rfl⟩ | ⟨rfl, rfl, rfl, rfl⟩ | ⟨rfl, rfl, rfl, rfl⟩ | ⟨rfl, rfl, rfl, rfl⟩ | ⟨rfl, rfl, rfl, rfl⟩
      · exact sound LxC_good _ _ _ σ _ σ (lxeSel σ)
      · exact sound LxC_good _ _ _ σ _ σ (lxeQ σ)
      · exact sound LxC_good _ _ _ σ _ σ (lxeW σ)
      · exact sound LxC_good _ _ _ σ _ σ (lxeN σ)
      · exact sound LxC_good _ _ _ σ _ σ (lxeG σ)
      · exact sound LxC_good _ _ _ σ _ σ (lxeP σ)
    · cases h
  · cases h
def laPrims : List (Nat × Prim) := [(8, pWords), (13, pLexA), (19, pJoin)]
noncomputable def LxM : Ctx := ⟨codeOf, primAt laPrims, fun _ => .no⟩
theorem LxM_good : LxM.Good Tryz.prog where
  code := fun f F h => codeOf_good h
  prim := fun f p h => primAt_ok (l := laPrims) (fun g p hm => by
    simp only [laPrims, List.mem_cons, Prod.mk.injEq, List.not_mem_nil, or_false] at hm
    rcases hm with ⟨rfl, rfl⟩ | ⟨rfl, rfl⟩ | ⟨rfl, rfl⟩
    · exact primOk_words
    · exact primOk_lexA
    · exact primOk_join) f p h
theorem awake05 : saysTrue (evCall LxM 300 12 [] emptyH) = true := by kernel_rfl
end Go.Proofs.YtepankcnleeakaaGreatDoor.Ab
