/- Values in their order; the first of a slice that is so; slices of values. -/
import Derived.Test.YtdgffilnefnjjaaAggs3
namespace Go.Proofs.Ytdgffilnefnjjaa.Ab
open Go
set_option maxRecDepth 20000
set_option maxHeartbeats 4000000
set_option linter.unusedSimpArgs false

theorem C8_60 (n : Nat) (args : List AV) (σ : AHeap) : evCall C8 (n + 1) 60 args σ = p60 args σ := evCall_prim (by kernel_rfl) _ _ _
theorem C8_71 (n : Nat) (args : List AV) (σ : AHeap) : evCall C8 (n + 1) 71 args σ = p71 args σ := evCall_prim (by kernel_rfl) _ _ _
theorem C8_72 (n : Nat) (args : List AV) (σ : AHeap) : evCall C8 (n + 1) 72 args σ = p72 args σ := evCall_prim (by kernel_rfl) _ _ _
theorem C8_73 (n : Nat) (args : List AV) (σ : AHeap) : evCall C8 (n + 1) 73 args σ = p73 args σ := evCall_prim (by kernel_rfl) _ _ _
theorem C8_74 (n : Nat) (args : List AV) (σ : AHeap) : evCall C8 (n + 1) 74 args σ = p91 args σ := evCall_prim (by kernel_rfl) _ _ _

/-! ### value.Order -/
def orderV (a b : V) : Int :=
  if rankZ a.k = rankZ b.k then
    if rankZ a.k = 0 then 0
    else if rankZ a.k = 4 then orZ [cmpZ a.k b.k, cmpZ a.n b.n, Lib.compareBytes a.s b.s]
    else if rankZ a.k = 2 then orZ [(compareV a b).1, cmpZ a.k b.k]
    else (compareV a b).1
  else cmpZ (rankZ a.k) (rankZ b.k)
def p56 : Prim := fun args σ => match args with
  | [.agg [.int .i64 k1, .int .i64 n1, .str s1], .agg [.int .i64 k2, .int .i64 n2, .str s2]] => some (.one (.int .i64 (orderV ⟨k1, n1, s1⟩ ⟨k2, n2, s2⟩)), σ)
  | _ => none
theorem ok56 : PrimOk Try.prog 56 p56 := primOk_pure C8_good fun args σ v σ' h => by
  unfold p56 at h
  split at h
  · rename_i k1 n1 s1 k2 n2 s2
    cases h
    refine ⟨rfl, rfl, 5, evCall_code (by kernel_rfl) code56 ?_⟩
    unfold orderV
    simp [c56]
    refine ends_draw ?_
    by_cases h : rankZ k1 = rankZ k2
    · by_cases h0 : rankZ k2 = 0
      · simp (maxDischargeDepth := 99) [C8_71, C8_72, C8_73, C8_74, C8_60, p71, p72, p73, p91, p60, h, h0]
      · by_cases h4 : rankZ k2 = 4
        · simp (maxDischargeDepth := 99) [C8_71, C8_72, C8_73, C8_74, C8_60, p71, p72, p73, p91, p60, h, h0, h4]
          refine ends_draw ?_
          simp (maxDischargeDepth := 99) [C8_71, C8_72, C8_73, C8_74, C8_60, p71, p72, p73, p91, p60, slInts, rdList, intsOf, maxElems]
        · by_cases h2 : rankZ k2 = 2
          · simp (maxDischargeDepth := 99) [C8_71, C8_72, C8_73, C8_74, C8_60, p71, p72, p73, p91, p60, slInts, rdList, intsOf, maxElems, h, h0, h4, h2]
          · simp (maxDischargeDepth := 99) [C8_71, C8_72, C8_73, C8_74, C8_60, p71, p72, p73, p91, p60, slInts, rdList, intsOf, maxElems, h, h0, h4, h2]
    · simp (maxDischargeDepth := 99) [C8_71, C8_72, C8_73, C8_74, C8_60, p71, p72, p73, p91, p60, h]
  · cases h
noncomputable def C9 : Ctx := C8.lay 56 p56
theorem C9_good : C9.Good Try.prog := Ctx.lay_good C8_good ok56
theorem C9_56 (n : Nat) (args : List AV) (σ : AHeap) : evCall C9 (n + 1) 56 args σ = p56 args σ := evCall_prim (by kernel_rfl) _ _ _

/-! ### aggs.taken$1: is it in one order with what is held -/
def avV : AV → Option V
  | .agg [.int .i64 k, .int .i64 n, .str s] => some ⟨k, n, s⟩
  | _ => none
theorem avV_spec {a : AV} {v : V} (h : avV a = some v) : a = v.av := by
  unfold avV at h
  split at h
  · cases h; rfl
  · cases h
def rdV (σ : AHeap) (id off : Nat) : Option V := match rd (σ.get id) (some 3) off with
  | some a => avV a
  | none => none
theorem rdV_spec {σ : AHeap} {id off : Nat} {v : V} (h : rdV σ id off = some v) : rd (σ.get id) (some 3) off = some v.av := by
  unfold rdV at h
  split at h
  · rename_i a e; rw [e, avV_spec h]
  · cases h
theorem rd_lt {σ : AHeap} {id off : Nat} {agg : Option Nat} {a : AV} (h : rd (σ.get id) agg off = some a) : id < σ.size := by
  cases hg : σ.get id with
  | none => rw [hg] at h; cases h
  | some o => exact AHeap.get_lt hg

def p55 : Prim := fun args σ => match args with
  | [.agg [.int .i64 k, .int .i64 n, .str s], .one (.ptr id off)] => match rdV σ id off with
    | some v => some (.one (.bool (decide (orderV ⟨k, n, s⟩ v = 0))), σ)
    | none => none
  | _ => none
theorem ok55 : PrimOk Try.prog 55 p55 := primOk_pure C9_good fun args σ v σ' h => by
  unfold p55 at h
  split at h
  · rename_i k1 n1 s1 id off
    split at h
    · rename_i v hv
      cases h
      have hr := rdV_spec hv
      have hlt := rd_lt hr
      refine ⟨rfl, rfl, 5, evCall_code (by kernel_rfl) code55 ?_⟩
      simp [c55, C9_56, p56, Nat.ne_of_lt hlt, hr, V.av]
    · cases h
  · cases h
noncomputable def C10 : Ctx := C9.lay 55 p55
theorem C10_good : C10.Good Try.prog := Ctx.lay_good C9_good ok55
theorem C10_55 (n : Nat) (args : List AV) (σ : AHeap) : evCall C10 (n + 1) 55 args σ = p55 args σ := evCall_prim (by kernel_rfl) _ _ _

/-! ### slices of values -/
def valsOf : List AV → Option (List V)
  | [] => some []
  | a :: l => match avV a, valsOf l with
    | some v, some r => some (v :: r)
    | _, _ => none
theorem valsOf_spec : ∀ {l : List AV} {r : List V}, valsOf l = some r → l = r.map V.av
  | [], r, h => by simp [valsOf] at h; subst h; rfl
  | a :: l, r, h => by
    unfold valsOf at h
    split at h
    · rename_i v r' h1 h2
      cases h
      simp [valsOf_spec h2, avV_spec h1]
    · cases h
/-- The values of a slice. -/
def slVals (σ : AHeap) : AV → Option (List V)
  | .one .nilSlice => some []
  | .one (.slice id off e len _) => match Nat.beq e 3 && Nat.ble len maxElems, rdList (σ.get id) (some 3) 3 off len with
    | true, some l => valsOf l
    | _, _ => none
  | _ => none
theorem slVals_spec {σ : AHeap} {s : AV} {l : List V} (h : slVals σ s = some l) : (s = .one .nilSlice ∧ l = []) ∨
    ∃ id off cap, s = .one (.slice id off 3 l.length cap) ∧ (∀ i (h : i < l.length), rd (σ.get id) (some 3) (off + i * 3) = some l[i].av) ∧ l.length ≤ maxElems := by
  unfold slVals at h
  split at h
  · cases h; exact .inl ⟨rfl, rfl⟩
  · rename_i id off e len cap
    split at h
    · rename_i l' he hr
      obtain ⟨k1, k2⟩ := rdList_spec hr
      have := valsOf_spec h
      subst this
      simp at he
      obtain ⟨rfl, hm⟩ := he
      simp only [List.length_map] at k1
      subst k1
      refine .inr ⟨id, off, cap, rfl, fun i hi => ?_, hm⟩
      have := k2 i (by simpa using hi)
      simpa using this
    · cases h
  · cases h

/-! ### slices.IndexFunc -/
def indexZ (v : V) : List V → Int → Int
  | [], _ => -1
  | x :: l, i => if orderV x v = 0 then i else indexZ v l (i + 1)
def p70 : Prim := fun args σ => match args with
  | [s, .one (.func 55 [.ptr id off])] => match slVals σ s, rdV σ id off with
    | some l, some v => some (.one (.int .i64 (indexZ v l 0)), σ)
    | _, _ => none
  | _ => none
theorem ok70 : PrimOk Try.prog 70 p70 := primOk_pure C10_good fun args σ v σ' h => by
  unfold p70 at h
  split at h
  · rename_i s q o
    split at h
    · rename_i l v hl hv
      cases h
      refine ⟨rfl, rfl, l.length + 4, evCall_code (by kernel_rfl) code70 ?_⟩
      have hq := rdV_spec hv
      rcases slVals_spec hl with ⟨rfl, rfl⟩ | ⟨id, off, cap, rfl, hr, hm⟩
      · simp [c70]
        refine ends_loop (I := fun k fr σ1 => k = 0 ∧ σ1 = σ ∧ fr.length = 19 ∧ getSlot fr 7 = .one (.int .i64 0) ∧ getSlot fr 8 = .one (.int .i64 0)) ?_ (k := 0) ?_ (by omega)
        · rintro k fr σ1 ⟨rfl, rfl, hlen, h7, h8⟩
          simp [c70_0, hlen, h7, h8, indexZ]
        · simp
      · simp [c70]
        refine ends_loop (I := fun k fr σ1 => ∃ i, k = l.length - i ∧ i ≤ l.length ∧ σ1 = σ ∧ fr.length = 19 ∧ getSlot fr 0 = .one (.slice id off 3 l.length cap) ∧ getSlot fr 1 = .one (.func 55 [.ptr q o]) ∧
          getSlot fr 7 = .one (.int .i64 l.length) ∧ getSlot fr 8 = .one (.int .i64 i) ∧ indexZ v (l.drop i) i = indexZ v l 0) ?_ (k := l.length) ?_ (by omega)
        · rintro k fr σ1 ⟨i, rfl, hi, rfl, hlen, h0, h1, h7, h8, ho⟩
          by_cases hlt : i < l.length
          · have hd : l.drop i = l[i] :: l.drop (i + 1) := List.drop_eq_getElem_cons hlt
            have hw := wr_next hlt hm
            rw [hd] at ho
            by_cases hz : orderV l[i] v = 0
            · simp [c70_0, hlen, h0, h1, h7, h8, hlt, hr i hlt, V.av, C10_55, p55, hv, hz]
              simpa [indexZ, hz] using ho
            · simp [c70_0, hlen, h0, h1, h7, h8, hlt, hr i hlt, V.av, C10_55, p55, hv, hz, hw]
              simp [indexZ, hz] at ho
              exact ⟨l.length - (i + 1), by omega, i + 1, rfl, by omega, by omega, ho⟩
          · simp [c70_0, hlen, h0, h1, h7, h8, hlt]
            rw [List.drop_of_length_le (by omega)] at ho
            exact ho
        · exact ⟨0, by simp⟩
    · cases h
  · cases h
noncomputable def C11 : Ctx := C10.lay 70 p70
theorem C11_good : C11.Good Try.prog := Ctx.lay_good C10_good ok70
theorem C11_70 (n : Nat) (args : List AV) (σ : AHeap) : evCall C11 (n + 1) 70 args σ = p70 args σ := evCall_prim (by kernel_rfl) _ _ _

/-! ### slices.ContainsFunc -/
theorem indexZ_ge (v : V) : ∀ (l : List V) (i : Int), 0 ≤ i → (decide (0 ≤ indexZ v l i) = l.any fun x => decide (orderV x v = 0))
  | [], i, h => by simp [indexZ]
  | x :: l, i, h => by
    unfold indexZ
    by_cases hz : orderV x v = 0
    · simp [hz, h]
    · simp [hz, ← indexZ_ge v l (i + 1) (by omega)]
def p54 : Prim := fun args σ => match args with
  | [s, .one (.func 55 [.ptr id off])] => match slVals σ s, rdV σ id off with
    | some l, some v => some (.one (.bool (l.any fun x => decide (orderV x v = 0))), σ)
    | _, _ => none
  | _ => none
theorem ok54 : PrimOk Try.prog 54 p54 := primOk_pure C11_good fun args σ v σ' h => by
  unfold p54 at h
  split at h
  · rename_i s q o
    split at h
    · rename_i l v hl hv
      cases h
      refine ⟨rfl, rfl, 4, evCall_code (by kernel_rfl) code54 ?_⟩
      rw [← indexZ_ge v l 0 (by omega)]
      simp [c54, C11_70, p70, hl, hv]
    · cases h
  · cases h
noncomputable def C12 : Ctx := C11.lay 54 p54
theorem C12_good : C12.Good Try.prog := Ctx.lay_good C11_good ok54
end Go.Proofs.Ytdgffilnefnjjaa.Ab
