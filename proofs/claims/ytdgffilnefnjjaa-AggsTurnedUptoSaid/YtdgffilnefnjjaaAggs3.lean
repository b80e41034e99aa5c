/- Numbers and values compared, values in their order. -/
import Derived.Test.YtdgffilnefnjjaaAggs2
import Derived.Test.YtdgffilnefnjjaaAbSim2
namespace Go.Proofs.Ytdgffilnefnjjaa.Ab
open Go
set_option maxRecDepth 20000
set_option maxHeartbeats 4000000
set_option linter.unusedSimpArgs false

noncomputable def C6 : Ctx := C5.lay 73 p73
theorem C6_good : C6.Good Try.prog := Ctx.lay_good C5_good ok73
theorem C6_72 (n : Nat) (args : List AV) (σ : AHeap) : evCall C6 (n + 1) 72 args σ = p72 args σ := evCall_prim (by kernel_rfl) _ _ _
theorem C6_73 (n : Nat) (args : List AV) (σ : AHeap) : evCall C6 (n + 1) 73 args σ = p73 args σ := evCall_prim (by kernel_rfl) _ _ _
theorem C6_no77 : C6.prim 77 = none := by kernel_rfl

/-! ### value.numbers -/
def mixZ (a b : Int) : Int := orZ [cmpZ a (wr .i64 (b.tdiv 10000)), cmpZ 0 (b.tmod 10000)]
def numZ (k1 n1 k2 n2 : Int) : Int := if k1 = k2 then cmpZ n1 n2 else if k1 = 3 then wr .i64 (0 - mixZ n2 n1) else mixZ n1 n2

theorem run77a (n : Nat) (k1 n1 k2 n2 : Int) (s1 s2 : List UInt8) (σ : AHeap) (h : k1 ≠ k2) (h3 : k1 ≠ 3) :
    OptP (evCall C6 (n + 2) 77 [.agg [.int .i64 k1, .int .i64 n1, .str s1], .agg [.int .i64 k2, .int .i64 n2, .str s2]] σ) (fun _ v1 σ1 => v1 = .one (.int .i64 (mixZ n1 n2)) ∧ Keeps σ σ1) := by
  refine evCall_code C6_no77 code77 ?_
  simp (maxDischargeDepth := 99) [c77, C6_72, C6_73, p72, p73, slInts, rdList, intsOf, h, h3, mixZ, maxElems]

theorem run77b (n : Nat) (k n1 n2 : Int) (s1 s2 : List UInt8) (σ : AHeap) :
    OptP (evCall C6 (n + 2) 77 [.agg [.int .i64 k, .int .i64 n1, .str s1], .agg [.int .i64 k, .int .i64 n2, .str s2]] σ) (fun _ v1 σ1 => v1 = .one (.int .i64 (cmpZ n1 n2)) ∧ Keeps σ σ1) := by
  refine evCall_code C6_no77 code77 ?_
  simp [c77, C6_72, p72]

theorem run77c (n : Nat) (n1 k2 n2 : Int) (s1 s2 : List UInt8) (σ : AHeap) (h : k2 ≠ 3) :
    OptP (evCall C6 (n + 3) 77 [.agg [.int .i64 3, .int .i64 n1, .str s1], .agg [.int .i64 k2, .int .i64 n2, .str s2]] σ) (fun _ v1 σ1 => v1 = .one (.int .i64 (wr .i64 (0 - mixZ n2 n1))) ∧ Keeps σ σ1) := by
  refine evCall_code C6_no77 code77 ?_
  simp [c77, Ne.symm h]
  refine (run77a n k2 n2 3 n1 s2 s1 _ h h).mono ?_
  rintro v σ1 ⟨rfl, hk⟩
  simp
  exact ((Keeps.refl σ).alloc.alloc).trans hk

/-- One value of the program's. -/
structure V where
  k : Int
  n : Int
  s : List UInt8
def V.av (v : V) : AV := .agg [.int .i64 v.k, .int .i64 v.n, .str v.s]
def numV (a b : V) : Int := numZ a.k a.n b.k b.n

def p77 : Prim := fun args σ => match args with
  | [.agg [.int .i64 k1, .int .i64 n1, .str _], .agg [.int .i64 k2, .int .i64 n2, .str _]] => some (.one (.int .i64 (numZ k1 n1 k2 n2)), σ)
  | _ => none
theorem ok77 : PrimOk Try.prog 77 p77 := primOk_pure C6_good fun args σ v σ' h => by
  unfold p77 at h
  split at h
  · rename_i k1 n1 s1 k2 n2 s2
    cases h
    refine ⟨rfl, rfl, 5, ?_⟩
    unfold numZ
    by_cases h : k1 = k2
    · subst h
      simpa using run77b 3 k1 n1 n2 s1 s2 σ
    · by_cases h3 : k1 = 3
      · subst h3
        simpa [h] using run77c 2 n1 k2 n2 s1 s2 σ (Ne.symm h)
      · simpa [h, h3] using run77a 3 k1 n1 k2 n2 s1 s2 σ h h3
  · cases h
noncomputable def C7 : Ctx := C6.lay 77 p77
theorem C7_good : C7.Good Try.prog := Ctx.lay_good C6_good ok77
theorem C7_71 (n : Nat) (args : List AV) (σ : AHeap) : evCall C7 (n + 1) 71 args σ = p71 args σ := evCall_prim (by kernel_rfl) _ _ _
theorem C7_72 (n : Nat) (args : List AV) (σ : AHeap) : evCall C7 (n + 1) 72 args σ = p72 args σ := evCall_prim (by kernel_rfl) _ _ _
theorem C7_74 (n : Nat) (args : List AV) (σ : AHeap) : evCall C7 (n + 1) 74 args σ = p91 args σ := evCall_prim (by kernel_rfl) _ _ _
theorem C7_77 (n : Nat) (args : List AV) (σ : AHeap) : evCall C7 (n + 1) 77 args σ = p77 args σ := evCall_prim (by kernel_rfl) _ _ _

/-! ### value.Compare -/
def compareV (a b : V) : Int × Bool :=
  if rankZ a.k = rankZ b.k then
    if rankZ a.k = 1 then (cmpZ a.n b.n, true)
    else if rankZ a.k = 2 then (numZ a.k a.n b.k b.n, true)
    else if rankZ a.k = 3 then (Lib.compareBytes a.s b.s, true)
    else (0, false)
  else (0, false)
def p60 : Prim := fun args σ => match args with
  | [.agg [.int .i64 k1, .int .i64 n1, .str s1], .agg [.int .i64 k2, .int .i64 n2, .str s2]] =>
    some (.tup [.one (.int .i64 (compareV ⟨k1, n1, s1⟩ ⟨k2, n2, s2⟩).1), .one (.bool (compareV ⟨k1, n1, s1⟩ ⟨k2, n2, s2⟩).2)], σ)
  | _ => none
theorem ok60 : PrimOk Try.prog 60 p60 := primOk_pure C7_good fun args σ v σ' h => by
  unfold p60 at h
  split at h
  · rename_i k1 n1 s1 k2 n2 s2
    cases h
    refine ⟨rfl, rfl, 5, evCall_code (by kernel_rfl) code60 ?_⟩
    unfold compareV
    simp [c60]
    refine ends_draw ?_
    by_cases h : rankZ k1 = rankZ k2
    · by_cases h1 : rankZ k2 = 1
      · simp [C7_71, C7_72, C7_74, C7_77, p71, p72, p91, p77, h, h1]
      · by_cases h2 : rankZ k2 = 2
        · simp [C7_71, C7_72, C7_74, C7_77, p71, p72, p91, p77, h, h1, h2]
        · by_cases h3 : rankZ k2 = 3
          · simp [C7_71, C7_72, C7_74, C7_77, p71, p72, p91, p77, h, h1, h2, h3]
          · simp [C7_71, C7_72, C7_74, C7_77, p71, p72, p91, p77, h, h1, h2, h3]
    · simp [C7_71, C7_72, C7_74, C7_77, p71, p72, p91, p77, h]
  · cases h
noncomputable def C8 : Ctx := C7.lay 60 p60
theorem C8_good : C8.Good Try.prog := Ctx.lay_good C7_good ok60
end Go.Proofs.Ytdgffilnefnjjaa.Ab
