/- Rows' values at places: content's at and picked, the document's at and key; rows compared. -/
import Derived.Test.YthjijjkoeoemgaaCt11
import Derived.Test.YthjijjkoeoemgaaVal2
import Derived.Test.YthjijjkoeoemgaaLitB
namespace Go.Proofs.Ythjijjkoeoemgaa.Ab
open Go
set_option maxRecDepth 20000
set_option maxHeartbeats 4000000
set_option linter.unusedSimpArgs false
set_option linter.unusedVariables false

def V0 : V := ⟨0, 0, []⟩
def atV (l : List V) (c : Int) : V := l.getD c.toNat V0
theorem run_at (σ : AHeap) (a : Arr) (c : Int) (hr : slVals σ (.one a.row) = some a.vals) (hc : 0 ≤ c) (f : Nat) (hf : 5 ≤ f) :
    OptP (evCall D9 f 60 [.agg [.int .i64 a.seq, .int .i64 a.time, a.row], .one (.int .i64 c)] σ) (fun _ v τ => v = (atV a.vals c).av ∧ Keeps σ τ) := by
  obtain ⟨f, rfl⟩ : ∃ k, f = k + 1 := ⟨f - 1, by omega⟩
  refine evCall_code (D9_prim 60) ((D9_code 60).trans code68) ?_
  obtain ⟨c, rfl⟩ : ∃ n : Nat, c = (n : Int) := ⟨c.toNat, by omega⟩
  have e0 : (atV a.vals (c : Int)) = a.vals.getD c V0 := by simp [atV]
  rw [e0]
  rcases slVals_spec hr with ⟨e, hl⟩ | ⟨id, off, cap, e, hrd, hm⟩
  · have he : a.row = .nilSlice := by injection e
    simp (maxDischargeDepth := 99) [c68, he, hl, V0, V.av]
  · have he : a.row = .slice id off 3 a.vals.length cap := by injection e
    by_cases hlt : c < a.vals.length
    · have hlt' : ¬ (a.vals.length : Int) ≤ (c : Int) := by omega
      have hlt2 : ¬ a.vals.length ≤ c := by omega
      have h1 := hrd c hlt
      have hid := rd_lt h1
      have n1 : ¬ id = σ.size := by omega
      have n2 : ¬ id = σ.size + 1 := by omega
      have e1 : a.vals.getD c V0 = a.vals[c] := by simp [List.getD, hlt]
      rw [e1]
      generalize a.vals[c] = v at h1
      simp only [V.av] at h1 ⊢
      simp (maxDischargeDepth := 99) [c68, he, hlt, hlt', hlt2, h1, n1, n2]
    · have hlt' : (a.vals.length : Int) ≤ (c : Int) := by omega
      have hlt2 : a.vals.length ≤ c := by omega
      have e1 : a.vals.getD c V0 = V0 := by simp [List.getD, hlt2]
      rw [e1]
      simp (maxDischargeDepth := 99) [c68, he, hlt', hlt2, V0, V.av]
/-! ### keys -/
def keyL (l : List V) (cols : List Int) : List V := cols.map (atV l)
def IKey (σ : AHeap) (l : List V) (cols : List Int) (sl : AV) (ra : AHeap → Prop) (n i1 i2 i3 i4 : Nat) (a1 : AV) (k : Nat) (fr : List AV) (τ : AHeap) : Prop :=
  ∃ i, k = cols.length - i ∧ i ≤ cols.length ∧ fr.length = n ∧ getSlot fr i1 = a1 ∧ getSlot fr i2 = sl ∧ getSlot fr i3 = .one (.int .i64 (cols.length : Int)) ∧ getSlot fr i4 = .one (.int .i64 (i : Int)) ∧
    OutSl (σ.size + 2) τ 3 (getSlot fr 5) (vcells (keyL l (cols.take i))) i ∧ Keeps σ τ ∧ σ.size + 2 ≤ τ.size ∧ ra τ
theorem keyL_next {l : List V} {cols : List Int} {i : Nat} (h : i < cols.length) : keyL l (cols.take (i + 1)) = keyL l (cols.take i) ++ [atV l (iAt cols i)] := by
  have e : cols.take (i + 1) = cols.take i ++ [iAt cols i] := by
    rw [List.take_add_one]
    simp [iAt, List.getD, h]
  unfold keyL
  rw [e, List.map_append]
  rfl
def OKey (b : Nat) (σ : AHeap) (l : List V) (n m : Nat) (fr : List AV) (τ : AHeap) : Prop := fr.length = n ∧ OutSl b τ 3 (getSlot fr 5) (vcells l) m ∧ Keeps σ τ
theorem run_picked (σ : AHeap) (v : VS) (now : Int) (a : Arr) (hv : v.ok σ) (hr : slVals σ (.one a.row) = some a.vals) (hc : ∀ c ∈ v.cols, 0 ≤ c) (f : Nat) (hf : v.cols.length + 20 ≤ f) :
    OptP (evCall D9 f 53 [.agg (v.at' now), .agg [.int .i64 a.seq, .int .i64 a.time, a.row]] σ) (fun _ r τ => OutSl σ.size τ 3 r (vcells (keyL a.vals v.cols)) v.cols.length ∧ Keeps σ τ) := by
  obtain ⟨f, rfl⟩ : ∃ k, f = k + 1 := ⟨f - 1, by omega⟩
  refine evCall_code (D9_prim 53) ((D9_code 53).trans code61) ?_
  rcases idxP_of hv with ⟨hs, hl⟩ | ⟨id, off, cap, hs, hrd, hm⟩
  · have hs : v.s = .nilSlice := by injection hs
    simp (maxDischargeDepth := 99) [c61, VS.at', hs]
    refine ends_loop (I := fun k fr τ => k = 0 ∧ Keeps σ τ ∧ fr.length = 24 ∧ getSlot fr 5 = .one .nilSlice ∧ getSlot fr 11 = .one (.int .i64 0) ∧ getSlot fr 12 = .one (.int .i64 0)) ?_ (k := 0) ?_ (by omega)
    · rintro k fr τ ⟨rfl, hk, hlen, f5, f11, f12⟩
      simp (maxDischargeDepth := 99) [c61_0, hlen, f5, f11, f12, hk, hl, keyL]
      exact OutSl.nil _ _ _
    · simp
  · have hs : v.s = .slice id off 1 v.cols.length cap := by injection hs
    obtain ⟨τ0, hτ0⟩ : ∃ τ0, τ0 = (σ.alloc ⟨[.int .i64 v.k, .int .i64 v.n, .slice id off 1 v.cols.length cap, .bool v.d, .int .i64 now], .own⟩).alloc ⟨[.int .i64 a.seq, .int .i64 a.time, a.row], .own⟩ := ⟨_, rfl⟩
    have hk0 : Keeps σ τ0 := by rw [hτ0]; exact ((Keeps.refl σ).alloc).alloc
    have hz0 : σ.size + 2 ≤ τ0.size := by rw [hτ0, AHeap.size_alloc, AHeap.size_alloc]; omega
    have hb0 : τ0.get (σ.size + 1) = some ⟨[.int .i64 a.seq, .int .i64 a.time, a.row], .own⟩ := by rw [hτ0]; simp
    simp (maxDischargeDepth := 99) [c61, VS.at', hs]
    rw [← hτ0]
    refine ends_to 0 (OKey (σ.size + 2) σ (keyL a.vals v.cols) 24 v.cols.length) ?_ ?_
    · refine ends_loop (I := IKey σ a.vals v.cols (.one (.slice id off 1 v.cols.length cap)) (fun τ => τ.get (σ.size + 1) = some ⟨[.int .i64 a.seq, .int .i64 a.time, a.row], .own⟩) 24 3 10 11 12 (.one (.ptr (σ.size + 1) 0))) ?_ (k := v.cols.length) ?_ (by omega)
      · rintro k fr τ ⟨i, rfl, hi, hlen, f3, f10, f11, f12, hO, hk, hz, hb⟩
        by_cases hlt : i < v.cols.length
        · have p0 := hrd i hlt
          rw [← hk.2 id (rd_lt p0)] at p0
          have hw := wr_next hlt hm
          have hlt' : (i : Int) < (v.cols.length : Int) := Int.ofNat_lt.2 hlt
          have hnx := keyL_next (l := a.vals) hlt
          have hc0 : 0 ≤ iAt v.cols i := hc _ (by rw [iAt_eq hlt]; exact List.getElem_mem hlt)
          have hat := run_at τ a (iAt v.cols i) (slVals_keeps hk hr) hc0 f (by omega)
          generalize iAt v.cols i = c at p0 hnx hat
          simp (maxDischargeDepth := 99) [c61_0, hlen, f3, f10, f11, f12, hlt, hlt', p0, hb]
          refine hat.mono ?_
          rintro r τ2 ⟨rfl, k2⟩
          generalize atV a.vals c = u at hnx
          have hO2 := hO.stay (τ' := τ2) (fun j _ h2 => k2.2 j h2)
          have hb2 : τ2.get (σ.size + 1) = some ⟨[.int .i64 a.seq, .int .i64 a.time, a.row], .own⟩ := by rw [k2.2 _ (AHeap.get_lt hb), hb]
          have hz2 : σ.size + 2 ≤ τ2.size := Nat.le_trans hz k2.1
          have hO4 : OutSl (σ.size + 2) (τ2.alloc ⟨[.int .i64 u.k, .int .i64 u.n, .str u.s], .own⟩) 3 (getSlot fr 5) (vcells (keyL a.vals (v.cols.take i))) i :=
            hO2.stay (fun j h1 h2 => by rw [AHeap.get_alloc, if_neg (by omega)])
          have hap := append_out (b := σ.size + 2) (bytes := 32) (vs := [.int .i64 u.k, .int .i64 u.n, .str u.s]) hO4 (by rw [AHeap.size_alloc]; omega) (by omega) rfl (by omega) (by decide)
          simp (maxDischargeDepth := 99) [hlen, V.av, srcLen, srcCells]
          refine hap.mono ?_
          rintro s' τ4 ⟨q1, q2, q3⟩
          have low : ∀ j, j < σ.size + 2 → τ4.get j = τ2.get j := fun j hj => by rw [q3 j hj, AHeap.get_alloc, if_neg (by omega)]
          have k4 : Keeps σ τ4 := ⟨by rw [q2, AHeap.size_alloc]; omega, fun j hj => by rw [low j (by omega), k2.2 j (by have := hk.1; omega), hk.2 j hj]⟩
          simp (maxDischargeDepth := 99) [hlen, f12, hw]
          refine ⟨v.cols.length - (i + 1), y1 hlt, i + 1, rfl, hlt, by simp [hlen], by simp [hlen, f3], by simp [hlen, f10], by simp [hlen, f11], by simp [hlen], ?_, k4, by rw [q2, AHeap.size_alloc]; omega, by show τ4.get (σ.size + 1) = _; rw [low _ (by omega), hb2]⟩
          rw [hnx, vcells_append]
          simp [hlen, vcells, V.cells]
          exact q1
        · obtain rfl : i = v.cols.length := by omega
          rw [List.take_of_length_le (Nat.le_refl _)] at hO
          simp (maxDischargeDepth := 99) [c61_0, hlen, f11, f12]
          exact ⟨by simp [hlen], by simpa [hlen] using hO, hk⟩
      · exact ⟨0, rfl, Nat.zero_le _, by simp, by simp, by simp, by simp, by simp, by simpa [keyL, vcells] using OutSl.nil _ _ _, hk0, hz0, hb0⟩
    · rintro fr τ ⟨hlen, hO, hk⟩
      simp (maxDischargeDepth := 99) [hlen]
      exact ⟨hO.low (by omega), hk⟩
end Go.Proofs.Ythjijjkoeoemgaa.Ab
