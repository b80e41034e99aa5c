/- Which aggregates may be; the values that count. -/
import Derived.Test.YtdgffilnefnjjaaAggs4
import Derived.Test.YtdgffilnefnjjaaAbSim3
namespace Go.Proofs.Ytdgffilnefnjjaa.Ab
open Go
set_option maxRecDepth 20000
set_option maxHeartbeats 4000000
set_option linter.unusedSimpArgs false

/-! ### slices.Index of strings -/
def strsOf : List AV → Option (List (List UInt8))
  | [] => some []
  | .one (.str n) :: l => match strsOf l with
    | some r => some (n :: r)
    | none => none
  | _ => none
theorem strsOf_spec : ∀ {l : List AV} {r : List (List UInt8)}, strsOf l = some r → l = r.map fun n => .one (.str n)
  | [], r, h => by simp [strsOf] at h; subst h; rfl
  | a :: l, r, h => by
    unfold strsOf at h
    split at h
    · rename_i he; cases he
    · rename_i n l' he
      cases he
      split at h
      · rename_i r' hr
        cases h
        simp [strsOf_spec hr]
      · cases h
    · cases h
/-- The strings of a slice. -/
def slStrs (σ : AHeap) : AV → Option (List (List UInt8))
  | .one .nilSlice => some []
  | .one (.slice id off e len _) => match Nat.beq e 1 && Nat.ble len maxElems, rdList (σ.get id) none 1 off len with
    | true, some l => strsOf l
    | _, _ => none
  | _ => none
theorem slStrs_spec {σ : AHeap} {s : AV} {l : List (List UInt8)} (h : slStrs σ s = some l) : (s = .one .nilSlice ∧ l = []) ∨
    ∃ id off cap, s = .one (.slice id off 1 l.length cap) ∧ (∀ i (h : i < l.length), rd (σ.get id) none (off + i) = some (.one (.str l[i]))) ∧ l.length ≤ maxElems := by
  unfold slStrs at h
  split at h
  · cases h; exact .inl ⟨rfl, rfl⟩
  · rename_i id off e len cap
    split at h
    · rename_i l' he hr
      obtain ⟨k1, k2⟩ := rdList_spec hr
      have := strsOf_spec h
      subst this
      simp at he
      obtain ⟨rfl, hm⟩ := he
      simp only [List.length_map] at k1
      subst k1
      refine .inr ⟨id, off, cap, rfl, fun i hi => ?_, hm⟩
      have := k2 i (by simpa using hi)
      simpa using this
    · cases h
  · cases h
def indexS (v : List UInt8) : List (List UInt8) → Int → Int
  | [], _ => -1
  | x :: l, i => if v = x then i else indexS v l (i + 1)
def p69 : Prim := fun args σ => match args with
  | [s, .one (.str v)] => match slStrs σ s with
    | some l => some (.one (.int .i64 (indexS v l 0)), σ)
    | _ => none
  | _ => none
theorem ok69 : PrimOk Try.prog 69 p69 := primOk_pure C12_good fun args σ v σ' h => by
  unfold p69 at h
  split at h
  · rename_i s v
    split at h
    · rename_i l hl
      cases h
      refine ⟨rfl, rfl, l.length + 4, evCall_code (by kernel_rfl) code69 ?_⟩
      rcases slStrs_spec hl with ⟨rfl, rfl⟩ | ⟨id, off, cap, rfl, hr, hm⟩
      · simp [c69]
        refine ends_loop (I := fun k fr σ1 => k = 0 ∧ σ1 = σ ∧ fr.length = 19 ∧ getSlot fr 7 = .one (.int .i64 0) ∧ getSlot fr 8 = .one (.int .i64 0)) ?_ (k := 0) ?_ (by omega)
        · rintro k fr σ1 ⟨rfl, rfl, hlen, h7, h8⟩
          simp [c69_0, hlen, h7, h8, indexS]
        · simp
      · simp [c69]
        refine ends_loop (I := fun k fr σ1 => ∃ i, k = l.length - i ∧ i ≤ l.length ∧ σ1 = σ ∧ fr.length = 19 ∧ getSlot fr 0 = .one (.slice id off 1 l.length cap) ∧ getSlot fr 1 = .one (.str v) ∧
          getSlot fr 7 = .one (.int .i64 l.length) ∧ getSlot fr 8 = .one (.int .i64 i) ∧ indexS v (l.drop i) i = indexS v l 0) ?_ (k := l.length) ?_ (by omega)
        · rintro k fr σ1 ⟨i, rfl, hi, rfl, hlen, h0, h1, h7, h8, ho⟩
          by_cases hlt : i < l.length
          · have hd : l.drop i = l[i] :: l.drop (i + 1) := List.drop_eq_getElem_cons hlt
            have hw := wr_next hlt hm
            rw [hd] at ho
            by_cases hz : v = l[i]
            · have hb : beqL v l[i] = true := by rw [beqL_iff]; simpa using hz
              simp [c69_0, hlen, h0, h1, h7, h8, hlt, hr i hlt, sbin, hb]
              simpa [indexS, hz] using ho
            · have hb : beqL v l[i] = false := by rw [beqL_iff]; simpa using hz
              simp [c69_0, hlen, h0, h1, h7, h8, hlt, hr i hlt, sbin, hb, hw]
              simp [indexS, hz] at ho
              exact ⟨l.length - (i + 1), by omega, i + 1, rfl, by omega, by omega, ho⟩
          · simp [c69_0, hlen, h0, h1, h7, h8, hlt]
            rw [List.drop_of_length_le (by omega)] at ho
            exact ho
        · exact ⟨0, by simp⟩
    · cases h
  · cases h
noncomputable def C13 : Ctx := C12.lay 69 p69
theorem C13_good : C13.Good Try.prog := Ctx.lay_good C12_good ok69
theorem C13_69 (n : Nat) (args : List AV) (σ : AHeap) : evCall C13 (n + 1) 69 args σ = p69 args σ := evCall_prim (by kernel_rfl) _ _ _

theorem indexS_ge (v : List UInt8) : ∀ (l : List (List UInt8)) (i : Int), 0 ≤ i → (decide (0 ≤ indexS v l i) = l.any fun x => decide (v = x))
  | [], i, h => by simp [indexS]
  | x :: l, i, h => by
    unfold indexS
    by_cases hz : v = x
    · simp [hz, h]
    · simp [hz, ← indexS_ge v l (i + 1) (by omega)]
def p53 : Prim := fun args σ => match args with
  | [s, .one (.str v)] => match slStrs σ s with
    | some l => some (.one (.bool (l.any fun x => decide (v = x))), σ)
    | _ => none
  | _ => none
theorem ok53 : PrimOk Try.prog 53 p53 := primOk_pure C13_good fun args σ v σ' h => by
  unfold p53 at h
  split at h
  · rename_i s v
    split at h
    · rename_i l hl
      cases h
      refine ⟨rfl, rfl, 4, evCall_code (by kernel_rfl) code53 ?_⟩
      rw [← indexS_ge v l 0 (by omega)]
      simp [c53, C13_69, p69, hl]
    · cases h
  · cases h
noncomputable def C14 : Ctx := C13.lay 53 p53
theorem C14_good : C14.Good Try.prog := Ctx.lay_good C13_good ok53
theorem C14_53 (n : Nat) (args : List AV) (σ : AHeap) : evCall C14 (n + 1) 53 args σ = p53 args σ := evCall_prim (by kernel_rfl) _ _ _

/-! ### aggs.Check -/
def sCount : List UInt8 := bytes [99, 111, 117, 110, 116]
def sSum : List UInt8 := bytes [115, 117, 109]
def sAvg : List UInt8 := bytes [97, 118, 103]
def sMin : List UInt8 := bytes [109, 105, 110]
def sMax : List UInt8 := bytes [109, 97, 120]
def sFirst : List UInt8 := bytes [102, 105, 114, 115, 116]
def sLast : List UInt8 := bytes [108, 97, 115, 116]
def names7 : List (List UInt8) := [sCount, sSum, sAvg, sMin, sMax, sFirst, sLast]
def checkB (nm : List UInt8) (dist all : Bool) : Bool :=
  (names7.any fun x => decide (nm = x)) && !((all && (!decide (nm = sCount) || dist)) || (dist && (decide (nm = sFirst) || decide (nm = sLast))))
def p34 : Prim := fun args σ => match args with
  | [.agg [.str nm, .bool dist, .bool all]] => some (.one (.int .i64 (if checkB nm dist all then 0 else 170)), σ)
  | _ => none
theorem ok34 : PrimOk Try.prog 34 p34 := primOk_pure C14_good fun args σ v σ' h => by
  unfold p34 at h
  split at h
  · rename_i nm dist all
    cases h
    refine ⟨rfl, rfl, 4, evCall_code (by kernel_rfl) code34 ?_⟩
    have e1 : bytes [99, 111, 117, 110, 116] = sCount := rfl
    have e2 : bytes [115, 117, 109] = sSum := rfl
    have e3 : bytes [97, 118, 103] = sAvg := rfl
    have e4 : bytes [109, 105, 110] = sMin := rfl
    have e5 : bytes [109, 97, 120] = sMax := rfl
    have e6 : bytes [102, 105, 114, 115, 116] = sFirst := rfl
    have e7 : bytes [108, 97, 115, 116] = sLast := rfl
    obtain ⟨K, hK⟩ : ∃ K, K = names7.any fun x => decide (nm = x) := ⟨_, rfl⟩
    have h53 : ∀ (q : Nat) (τ : AHeap), τ.get q = some ⟨[.str sCount, .str sSum, .str sAvg, .str sMin, .str sMax, .str sFirst, .str sLast], .own⟩ →
        p53 [.one (.slice q 0 1 7 (some 7)), .one (.str nm)] τ = some (.one (.bool K), τ) := by
      intro q τ h
      subst hK
      simp [p53, slStrs, h, rdList, strsOf, maxElems, names7]
    unfold checkB
    rw [← hK]
    have b1 : beqL nm sCount = decide (nm = sCount) := beqL_iff _ _
    have b2 : beqL nm sFirst = decide (nm = sFirst) := beqL_iff _ _
    have b3 : beqL nm sLast = decide (nm = sLast) := beqL_iff _ _
    generalize decide (nm = sCount) = B1 at b1 ⊢
    generalize decide (nm = sFirst) = B2 at b2 ⊢
    generalize decide (nm = sLast) = B3 at b3 ⊢
    simp (maxDischargeDepth := 99) only [c34, e1, e2, e3, e4, e5, e6, e7]
    clear hK e1 e2 e3 e4 e5 e6 e7
    cases K <;> cases all <;> cases dist <;> cases B1 <;> (try cases B2) <;> (try cases B3) <;> simp (maxDischargeDepth := 99) [C14_53, h53, sbin, b1, b2, b3]
  · cases h
noncomputable def C15 : Ctx := C14.lay 34 p34
theorem C15_good : C15.Good Try.prog := Ctx.lay_good C14_good ok34
end Go.Proofs.Ytdgffilnefnjjaa.Ab
