/- Values compared and ordered, as the program does it. -/
import Derived.Test.YthjijjkoeoemgaaCtVals
import Derived.Test.YthjijjkoeoemgaaLitVal
import Derived.Lib.Strings
import Derived.Lib.Slices
import Derived.Lib.Walk
import Derived.Lib.Bytealg
namespace Go.Proofs.Ythjijjkoeoemgaa.Ab
open Go
set_option maxRecDepth 20000
set_option maxHeartbeats 4000000
set_option linter.unusedSimpArgs false

/-! ### cmp.isNaN of an int -/
def pv90 : Prim := fun args σ => match args with
  | [.one (.int .i64 _)] => some (.one (.bool false), σ)
  | _ => none
noncomputable def CV1 : Ctx := plainC.lay 74 pv90
theorem okv90 : PrimOk Try.prog 74 pv90 := primOk_pure plainC_good fun args σ v σ' h => by
  unfold pv90 at h
  split at h
  · cases h
    refine ⟨rfl, rfl, 3, evCall_code rfl codev90 ?_⟩
    simp [cv90]
  · cases h
theorem CV1_good : CV1.Good Try.prog := Ctx.lay_good plainC_good okv90

/-! ### cmp.Compare of ints -/
def cmpZ (a b : Int) : Int := if a < b then -1 else if b < a then 1 else 0
def pv72 : Prim := fun args σ => match args with
  | [.one (.int .i64 a), .one (.int .i64 b)] => some (.one (.int .i64 (cmpZ a b)), σ)
  | _ => none
noncomputable def CV2 : Ctx := CV1.lay 66 pv72
theorem okv72 : PrimOk Try.prog 66 pv72 := primOk_pure CV1_good fun args σ v σ' h => by
  unfold pv72 at h
  split at h
  · rename_i a b
    cases h
    refine ⟨rfl, rfl, 3, evCall_code rfl codev72 ?_⟩
    have hp : ∀ n args σ, evCall CV1 (n + 1) 74 args σ = pv90 args σ := evCall_prim rfl
    unfold cmpZ
    by_cases h1 : a < b
    · simp [cv72, hp, pv90, h1]
    · by_cases h2 : b < a <;> simp [cv72, hp, pv90, h1, h2]
  · cases h
theorem CV2_good : CV2.Good Try.prog := Ctx.lay_good CV1_good okv72

/-! ### value.rank -/
def rankZ (a : Int) : Int := if a = 0 then 0 else if a = 1 then 1 else if a = 2 then 2 else if a = 3 then 2 else if a = 4 then 3 else 4
def pv71 : Prim := fun args σ => match args with
  | [.one (.int .i64 a)] => some (.one (.int .i64 (rankZ a)), σ)
  | _ => none
noncomputable def CV3 : Ctx := CV2.lay 65 pv71
theorem okv71 : PrimOk Try.prog 65 pv71 := primOk_pure CV2_good fun args σ v σ' h => by
  unfold pv71 at h
  split at h
  · rename_i a
    cases h
    refine ⟨rfl, rfl, 3, evCall_code rfl codev71 ?_⟩
    by_cases h1 : a < 0
    · simp [cv71, h1, rankZ]
      omega
    by_cases h2 : 5 ≤ a
    · simp [cv71, h1, h2, rankZ]
      omega
    have : a = 0 ∨ a = 1 ∨ a = 2 ∨ a = 3 ∨ a = 4 := by omega
    rcases this with rfl | rfl | rfl | rfl | rfl <;> simp [cv71, rankZ]
  · cases h
theorem CV3_good : CV3.Good Try.prog := Ctx.lay_good CV2_good okv71

/-! ### internal/bytealg.CompareString: the model's own entry -/
theorem walk91 (a b : ByteArray) (w : World) :
    Calls Try.prog 75 #[.string a, .string b] w fun e w' => e = .returned (.int .i64 (Lib.compareBytes a.data.toList b.data.toList)) ∧ w' = w := by
  go_enter Try.func75, Try.ntmps75
  go_wp2
  rw [run_callFunc_extern Try.func87 (by kernel_rfl) (by kernel_rfl) (by kernel_rfl) (e := Extern.BytealgCompare.compare) (by kernel_rfl), Lib.run_compareString]
  simp only [Result.andThen]
  rw [Oper.upon_value]
  go_wp2
  go_ret
  exact ⟨rfl, rfl⟩
def pv91 : Prim := fun args σ => match args with
  | [.one (.str a), .one (.str b)] => some (.one (.int .i64 (Lib.compareBytes a b)), σ)
  | _ => none
theorem okv91 : PrimOk Try.prog 75 pv91 := by
  intro args σ v σ' h
  unfold pv91 at h
  split at h
  · rename_i a b
    cases h
    refine ⟨⟨_, Try.func75, by decide +kernel, by kernel_rfl⟩, fun ρ w vs hv hr => ?_⟩
    cases hv with
    | cons h1 t =>
      cases t with
      | cons h2 t =>
        cases t with
        | nil =>
          cases h1 with
          | one h1 =>
            cases h1
            cases h2 with
            | one h2 =>
              cases h2
              refine (walk91 _ _ w).mono ?_
              rintro e w' ⟨rfl, rfl⟩
              exact ⟨_, ρ, rfl, Post.refl hr, .one (.int _ _)⟩
  · cases h
noncomputable def CV4 : Ctx := CV3.lay 75 pv91
theorem CV4_good : CV4.Good Try.prog := Ctx.lay_good CV3_good okv91

/-! ### strings.Compare -/
theorem okv74 : PrimOk Try.prog 68 pv91 := primOk_pure CV4_good fun args σ v σ' h => by
  unfold pv91 at h
  split at h
  · cases h
    refine ⟨rfl, rfl, 3, evCall_code rfl codev74 ?_⟩
    have hp : ∀ n args σ, evCall CV4 (n + 1) 75 args σ = pv91 args σ := evCall_prim rfl
    simp [cv74, hp, pv91]
  · cases h
noncomputable def CV5 : Ctx := CV4.lay 68 pv91
theorem CV5_good : CV5.Good Try.prog := Ctx.lay_good CV4_good okv74

/-! ### cmp.Or of ints -/
def orZ : List Int → Int
  | [] => 0
  | a :: l => if a = 0 then orZ l else a
def pv73 : Prim := fun args σ => match args with
  | [s] => match slInts σ s with
    | some l => some (.one (.int .i64 (orZ l)), σ)
    | none => none
  | _ => none
theorem okv73 : PrimOk Try.prog 67 pv73 := primOk_pure CV5_good fun args σ v σ' h => by
  unfold pv73 at h
  split at h
  · rename_i s
    split at h
    · rename_i l hl
      cases h
      refine ⟨rfl, rfl, l.length + 4, evCall_code rfl codev73 ?_⟩
      rcases slInts_spec hl with ⟨rfl, rfl⟩ | ⟨id, off, cap, rfl, hr, hm⟩
      · simp [cv73]
        refine ends_loop (I := fun k fr σ1 => k = 0 ∧ σ1 = σ ∧ fr.length = 18 ∧ getSlot fr 7 = .one (.int .i64 0) ∧ getSlot fr 8 = .one (.int .i64 0) ∧ getSlot fr 3 = .one (.int .i64 0)) ?_ (k := 0) ?_ (by omega)
        · rintro k fr σ1 ⟨rfl, rfl, hlen, h7, h8, h3⟩
          simp [cv73_0, hlen, h7, h8, h3, orZ]
        · simp
      · simp [cv73]
        refine ends_loop (I := fun k fr σ1 => ∃ i, k = l.length - i ∧ i ≤ l.length ∧ σ1 = σ ∧ fr.length = 18 ∧ getSlot fr 6 = .one (.slice id off 1 l.length cap) ∧ getSlot fr 7 = .one (.int .i64 l.length) ∧
          getSlot fr 8 = .one (.int .i64 i) ∧ getSlot fr 3 = .one (.int .i64 0) ∧ orZ (l.drop i) = orZ l) ?_ (k := l.length) ?_ (by omega)
        · rintro k fr σ1 ⟨i, rfl, hi, rfl, hlen, h6, h7, h8, h3, ho⟩
          by_cases hlt : i < l.length
          · have hd : l.drop i = l[i] :: l.drop (i + 1) := List.drop_eq_getElem_cons hlt
            have hw := wr_next hlt hm
            rw [hd] at ho
            by_cases hz : l[i] = 0
            · simp [cv73_0, hlen, h6, h7, h8, h3, hlt, hr i hlt, hz, hw]
              simp [orZ, hz] at ho
              exact ⟨l.length - (i + 1), by omega, i + 1, rfl, by omega, by omega, ho⟩
            · simp [cv73_0, hlen, h6, h7, h8, h3, hlt, hr i hlt, hz]
              simpa [orZ, hz] using ho
          · simp [cv73_0, hlen, h6, h7, h8, h3, hlt]
            rw [List.drop_of_length_le (by omega)] at ho
            exact ho
        · exact ⟨0, by simp⟩
    · cases h
  · cases h

noncomputable def CV6 : Ctx := CV5.lay 67 pv73
theorem CV6_good : CV6.Good Try.prog := Ctx.lay_good CV5_good okv73
theorem CV6_72 (n : Nat) (args : List AV) (σ : AHeap) : evCall CV6 (n + 1) 66 args σ = pv72 args σ := evCall_prim (by kernel_rfl) _ _ _
theorem CV6_73 (n : Nat) (args : List AV) (σ : AHeap) : evCall CV6 (n + 1) 67 args σ = pv73 args σ := evCall_prim (by kernel_rfl) _ _ _
theorem CV6_no77 : CV6.prim 76 = none := by kernel_rfl

/-! ### value.numbers -/
def mixZ (a b : Int) : Int := orZ [cmpZ a (wr .i64 (b.tdiv 10000)), cmpZ 0 (b.tmod 10000)]
def numZ (k1 n1 k2 n2 : Int) : Int := if k1 = k2 then cmpZ n1 n2 else if k1 = 3 then wr .i64 (0 - mixZ n2 n1) else mixZ n1 n2

theorem runv77a (n : Nat) (k1 n1 k2 n2 : Int) (s1 s2 : List UInt8) (σ : AHeap) (h : k1 ≠ k2) (h3 : k1 ≠ 3) :
    OptP (evCall CV6 (n + 2) 76 [.agg [.int .i64 k1, .int .i64 n1, .str s1], .agg [.int .i64 k2, .int .i64 n2, .str s2]] σ) (fun _ v1 σ1 => v1 = .one (.int .i64 (mixZ n1 n2)) ∧ Keeps σ σ1) := by
  refine evCall_code CV6_no77 codev77 ?_
  simp (maxDischargeDepth := 99) [cv77, CV6_72, CV6_73, pv72, pv73, slInts, rdList, intsOf, h, h3, mixZ, maxElems]

theorem runv77b (n : Nat) (k n1 n2 : Int) (s1 s2 : List UInt8) (σ : AHeap) :
    OptP (evCall CV6 (n + 2) 76 [.agg [.int .i64 k, .int .i64 n1, .str s1], .agg [.int .i64 k, .int .i64 n2, .str s2]] σ) (fun _ v1 σ1 => v1 = .one (.int .i64 (cmpZ n1 n2)) ∧ Keeps σ σ1) := by
  refine evCall_code CV6_no77 codev77 ?_
  simp [cv77, CV6_72, pv72]

theorem runv77c (n : Nat) (n1 k2 n2 : Int) (s1 s2 : List UInt8) (σ : AHeap) (h : k2 ≠ 3) :
    OptP (evCall CV6 (n + 3) 76 [.agg [.int .i64 3, .int .i64 n1, .str s1], .agg [.int .i64 k2, .int .i64 n2, .str s2]] σ) (fun _ v1 σ1 => v1 = .one (.int .i64 (wr .i64 (0 - mixZ n2 n1))) ∧ Keeps σ σ1) := by
  refine evCall_code CV6_no77 codev77 ?_
  simp [cv77, Ne.symm h]
  refine (runv77a n k2 n2 3 n1 s2 s1 _ h h).mono ?_
  rintro v σ1 ⟨rfl, hk⟩
  simp
  exact ((Keeps.refl σ).alloc.alloc).trans hk

def numV (a b : V) : Int := numZ a.k a.n b.k b.n

def pv77 : Prim := fun args σ => match args with
  | [.agg [.int .i64 k1, .int .i64 n1, .str _], .agg [.int .i64 k2, .int .i64 n2, .str _]] => some (.one (.int .i64 (numZ k1 n1 k2 n2)), σ)
  | _ => none
theorem okv77 : PrimOk Try.prog 76 pv77 := primOk_pure CV6_good fun args σ v σ' h => by
  unfold pv77 at h
  split at h
  · rename_i k1 n1 s1 k2 n2 s2
    cases h
    refine ⟨rfl, rfl, 5, ?_⟩
    unfold numZ
    by_cases h : k1 = k2
    · subst h
      simpa using runv77b 3 k1 n1 n2 s1 s2 σ
    · by_cases h3 : k1 = 3
      · subst h3
        simpa [h] using runv77c 2 n1 k2 n2 s1 s2 σ (Ne.symm h)
      · simpa [h, h3] using runv77a 3 k1 n1 k2 n2 s1 s2 σ h h3
  · cases h
noncomputable def CV7 : Ctx := CV6.lay 76 pv77
theorem CV7_good : CV7.Good Try.prog := Ctx.lay_good CV6_good okv77
theorem CV7_71 (n : Nat) (args : List AV) (σ : AHeap) : evCall CV7 (n + 1) 65 args σ = pv71 args σ := evCall_prim (by kernel_rfl) _ _ _
theorem CV7_72 (n : Nat) (args : List AV) (σ : AHeap) : evCall CV7 (n + 1) 66 args σ = pv72 args σ := evCall_prim (by kernel_rfl) _ _ _
theorem CV7_74 (n : Nat) (args : List AV) (σ : AHeap) : evCall CV7 (n + 1) 68 args σ = pv91 args σ := evCall_prim (by kernel_rfl) _ _ _
theorem CV7_77 (n : Nat) (args : List AV) (σ : AHeap) : evCall CV7 (n + 1) 76 args σ = pv77 args σ := evCall_prim (by kernel_rfl) _ _ _

/-! ### value.Compare -/
def compareV (a b : V) : Int × Bool :=
  if rankZ a.k = rankZ b.k then
    if rankZ a.k = 1 then (cmpZ a.n b.n, true)
    else if rankZ a.k = 2 then (numZ a.k a.n b.k b.n, true)
    else if rankZ a.k = 3 then (Lib.compareBytes a.s b.s, true)
    else (0, false)
  else (0, false)
def pv60 : Prim := fun args σ => match args with
  | [.agg [.int .i64 k1, .int .i64 n1, .str s1], .agg [.int .i64 k2, .int .i64 n2, .str s2]] =>
    some (.tup [.one (.int .i64 (compareV ⟨k1, n1, s1⟩ ⟨k2, n2, s2⟩).1), .one (.bool (compareV ⟨k1, n1, s1⟩ ⟨k2, n2, s2⟩).2)], σ)
  | _ => none
theorem okv60 : PrimOk Try.prog 69 pv60 := primOk_pure CV7_good fun args σ v σ' h => by
  unfold pv60 at h
  split at h
  · rename_i k1 n1 s1 k2 n2 s2
    cases h
    refine ⟨rfl, rfl, 5, evCall_code (by kernel_rfl) codev60 ?_⟩
    unfold compareV
    simp [cv60]
    refine ends_draw ?_
    by_cases h : rankZ k1 = rankZ k2
    · by_cases h1 : rankZ k2 = 1
      · simp [CV7_71, CV7_72, CV7_74, CV7_77, pv71, pv72, pv91, pv77, h, h1]
      · by_cases h2 : rankZ k2 = 2
        · simp [CV7_71, CV7_72, CV7_74, CV7_77, pv71, pv72, pv91, pv77, h, h1, h2]
        · by_cases h3 : rankZ k2 = 3
          · simp [CV7_71, CV7_72, CV7_74, CV7_77, pv71, pv72, pv91, pv77, h, h1, h2, h3]
          · simp [CV7_71, CV7_72, CV7_74, CV7_77, pv71, pv72, pv91, pv77, h, h1, h2, h3]
    · simp [CV7_71, CV7_72, CV7_74, CV7_77, pv71, pv72, pv91, pv77, h]
  · cases h
noncomputable def CV8 : Ctx := CV7.lay 69 pv60
theorem CV8_good : CV8.Good Try.prog := Ctx.lay_good CV7_good okv60

theorem CV8_60 (n : Nat) (args : List AV) (σ : AHeap) : evCall CV8 (n + 1) 69 args σ = pv60 args σ := evCall_prim (by kernel_rfl) _ _ _
theorem CV8_71 (n : Nat) (args : List AV) (σ : AHeap) : evCall CV8 (n + 1) 65 args σ = pv71 args σ := evCall_prim (by kernel_rfl) _ _ _
theorem CV8_72 (n : Nat) (args : List AV) (σ : AHeap) : evCall CV8 (n + 1) 66 args σ = pv72 args σ := evCall_prim (by kernel_rfl) _ _ _
theorem CV8_73 (n : Nat) (args : List AV) (σ : AHeap) : evCall CV8 (n + 1) 67 args σ = pv73 args σ := evCall_prim (by kernel_rfl) _ _ _
theorem CV8_74 (n : Nat) (args : List AV) (σ : AHeap) : evCall CV8 (n + 1) 68 args σ = pv91 args σ := evCall_prim (by kernel_rfl) _ _ _

/-! ### value.Order -/
def orderV (a b : V) : Int :=
  if rankZ a.k = rankZ b.k then
    if rankZ a.k = 0 then 0
    else if rankZ a.k = 4 then orZ [cmpZ a.k b.k, cmpZ a.n b.n, Lib.compareBytes a.s b.s]
    else if rankZ a.k = 2 then orZ [(compareV a b).1, cmpZ a.k b.k]
    else (compareV a b).1
  else cmpZ (rankZ a.k) (rankZ b.k)
def pv56 : Prim := fun args σ => match args with
  | [.agg [.int .i64 k1, .int .i64 n1, .str s1], .agg [.int .i64 k2, .int .i64 n2, .str s2]] => some (.one (.int .i64 (orderV ⟨k1, n1, s1⟩ ⟨k2, n2, s2⟩)), σ)
  | _ => none
theorem okv56 : PrimOk Try.prog 59 pv56 := primOk_pure CV8_good fun args σ v σ' h => by
  unfold pv56 at h
  split at h
  · rename_i k1 n1 s1 k2 n2 s2
    cases h
    refine ⟨rfl, rfl, 5, evCall_code (by kernel_rfl) codev56 ?_⟩
    unfold orderV
    simp [cv56]
    refine ends_draw ?_
    by_cases h : rankZ k1 = rankZ k2
    · by_cases h0 : rankZ k2 = 0
      · simp (maxDischargeDepth := 99) [CV8_71, CV8_72, CV8_73, CV8_74, CV8_60, pv71, pv72, pv73, pv91, pv60, h, h0]
      · by_cases h4 : rankZ k2 = 4
        · simp (maxDischargeDepth := 99) [CV8_71, CV8_72, CV8_73, CV8_74, CV8_60, pv71, pv72, pv73, pv91, pv60, h, h0, h4]
          refine ends_draw ?_
          simp (maxDischargeDepth := 99) [CV8_71, CV8_72, CV8_73, CV8_74, CV8_60, pv71, pv72, pv73, pv91, pv60, slInts, rdList, intsOf, maxElems]
        · by_cases h2 : rankZ k2 = 2
          · simp (maxDischargeDepth := 99) [CV8_71, CV8_72, CV8_73, CV8_74, CV8_60, pv71, pv72, pv73, pv91, pv60, slInts, rdList, intsOf, maxElems, h, h0, h4, h2]
          · simp (maxDischargeDepth := 99) [CV8_71, CV8_72, CV8_73, CV8_74, CV8_60, pv71, pv72, pv73, pv91, pv60, slInts, rdList, intsOf, maxElems, h, h0, h4, h2]
    · simp (maxDischargeDepth := 99) [CV8_71, CV8_72, CV8_73, CV8_74, CV8_60, pv71, pv72, pv73, pv91, pv60, h]
  · cases h
noncomputable def CV9 : Ctx := CV8.lay 59 pv56
theorem CV9_good : CV9.Good Try.prog := Ctx.lay_good CV8_good okv56
theorem CV9_56 (n : Nat) (args : List AV) (σ : AHeap) : evCall CV9 (n + 1) 59 args σ = pv56 args σ := evCall_prim (by kernel_rfl) _ _ _

end Go.Proofs.Ythjijjkoeoemgaa.Ab
