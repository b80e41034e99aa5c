/- The document's at and key. -/
import Derived.Test.YthjijjkoeoemgaaGreatCt20
namespace Go.Proofs.YthjijjkoeoemgaaGreat.Ab
open Go
set_option maxRecDepth 20000
set_option maxHeartbeats 4000000
set_option linter.unusedSimpArgs false
set_option linter.unusedVariables false

theorem r_at (σ : AHeap) (s : SV) (l : List V) (c : Int) (hr : slVals σ (.one s) = some l) (hc : 0 ≤ c) (f : Nat) (hf : 5 ≤ f) :
    OptP (evCall D9 f 54 [.one s, .one (.int .i64 c)] σ) (fun _ v τ => v = (atV l c).av ∧ Keeps σ τ) := by
  obtain ⟨f, rfl⟩ : ∃ k, f = k + 1 := ⟨f - 1, by omega⟩
  refine evCall_code (D9_prim 54) ((D9_code 54).trans coder54) ?_
  obtain ⟨c, rfl⟩ : ∃ n : Nat, c = (n : Int) := ⟨c.toNat, by omega⟩
  have e0 : (atV l (c : Int)) = l.getD c V0 := by simp [atV]
  rw [e0]
  rcases slVals_spec hr with ⟨e, hl⟩ | ⟨id, off, cap, e, hrd, hm⟩
  · cases e
    have hlt' : ¬ (c : Int) < 0 := by omega
    simp (maxDischargeDepth := 99) [cr54, hl, V0, V.av, hlt']
  · cases e
    by_cases hlt : c < l.length
    · have hlt' : (c : Int) < (l.length : Int) := by omega
      have h1 := hrd c hlt
      have hid := rd_lt h1
      have n1 : ¬ id = σ.size := by omega
      have e1 : l.getD c V0 = l[c] := by simp [List.getD, hlt]
      rw [e1]
      generalize l[c] = v at h1
      simp only [V.av] at h1 ⊢
      simp (maxDischargeDepth := 99) [cr54, hlt, hlt', h1, n1]
    · have hlt' : ¬ (c : Int) < (l.length : Int) := by omega
      have hlt2 : l.length ≤ c := by omega
      have e1 : l.getD c V0 = V0 := by simp [List.getD, hlt2]
      rw [e1]
      simp (maxDischargeDepth := 99) [cr54, hlt, hlt', V0, V.av]

def JKey (σ : AHeap) (l : List V) (cols : List Int) (s sl : AV) (k : Nat) (fr : List AV) (τ : AHeap) : Prop :=
  ∃ i, k = cols.length - i ∧ i ≤ cols.length ∧ fr.length = 23 ∧ getSlot fr 0 = s ∧ getSlot fr 1 = sl ∧ getSlot fr 6 = .one (.int .i64 (i : Int)) ∧ OutSl σ.size τ 3 (getSlot fr 5) (vcells (keyL l (cols.take i))) i ∧ Keeps σ τ
theorem r_key (σ : AHeap) (s cs : SV) (l : List V) (cols : List Int) (hr : slVals σ (.one s) = some l) (hcs : slInts σ (.one cs) = some cols) (hc : ∀ c ∈ cols, 0 ≤ c) (f : Nat) (hf : cols.length + 20 ≤ f) :
    OptP (evCall D9 f 34 [.one s, .one cs] σ) (fun _ r τ => OutSl σ.size τ 3 r (vcells (keyL l cols)) cols.length ∧ Keeps σ τ) := by
  obtain ⟨f, rfl⟩ : ∃ k, f = k + 1 := ⟨f - 1, by omega⟩
  refine evCall_code (D9_prim 34) ((D9_code 34).trans coder34) ?_
  rcases idxP_of hcs with ⟨hs, hl⟩ | ⟨id, off, cap, hs, hrd, hm⟩
  · cases hs
    simp (maxDischargeDepth := 99) [cr34]
    refine ends_loop (I := fun k fr τ => k = 0 ∧ Keeps σ τ ∧ fr.length = 23 ∧ getSlot fr 1 = .one .nilSlice ∧ getSlot fr 5 = .one .nilSlice ∧ getSlot fr 6 = .one (.int .i64 0)) ?_ (k := 0) ?_ (by omega)
    · rintro k fr τ ⟨rfl, hk, hlen, f1, f5, f6⟩
      simp (maxDischargeDepth := 99) [cr34_0, hlen, f1, f5, f6, hk, hl, keyL]
      exact OutSl.nil _ _ _
    · simp
  · cases hs
    simp (maxDischargeDepth := 99) [cr34]
    refine ends_to 0 (OKey σ.size σ (keyL l cols) 23 cols.length) ?_ ?_
    · refine ends_loop (I := JKey σ l cols (.one s) (.one (.slice id off 1 cols.length cap))) ?_ (k := cols.length) ?_ (by omega)
      · rintro k fr τ ⟨i, rfl, hi, hlen, f0, f1, f6, hO, hk⟩
        by_cases hlt : i < cols.length
        · have p0 := hrd i hlt
          rw [← hk.2 id (rd_lt p0)] at p0
          have hw := wr_next hlt hm
          have hlt' : (i : Int) < (cols.length : Int) := Int.ofNat_lt.2 hlt
          have hnx := keyL_next (l := l) hlt
          have hc0 : 0 ≤ iAt cols i := hc _ (by rw [iAt_eq hlt]; exact List.getElem_mem hlt)
          have hat := r_at τ s l (iAt cols i) (slVals_keeps hk hr) hc0 f (by omega)
          generalize iAt cols i = c at p0 hnx hat
          simp (maxDischargeDepth := 99) [cr34_0, hlen, f0, f1, f6, hlt, hlt', p0]
          refine hat.mono ?_
          rintro r τ2 ⟨rfl, k2⟩
          generalize atV l c = u at hnx
          have hO2 := hO.stay (τ' := τ2) (fun j _ h2 => k2.2 j h2)
          have hk2 := hk.trans k2
          have hO4 : OutSl σ.size (τ2.alloc ⟨[.int .i64 u.k, .int .i64 u.n, .str u.s], .own⟩) 3 (getSlot fr 5) (vcells (keyL l (cols.take i))) i :=
            hO2.stay (fun j h1 h2 => by rw [AHeap.get_alloc, if_neg (by omega)])
          have hap := append_out (b := σ.size) (bytes := 32) (vs := [.int .i64 u.k, .int .i64 u.n, .str u.s]) hO4 (by rw [AHeap.size_alloc]; have := hk2.1; omega) (by omega) rfl (by omega) (by decide)
          simp (maxDischargeDepth := 99) [hlen, V.av, srcLen, srcCells]
          refine hap.mono ?_
          rintro s' τ4 ⟨q1, q2, q3⟩
          have hz2 := hk2.1
          have k4 : Keeps σ τ4 := ⟨by rw [q2, AHeap.size_alloc]; omega, fun j hj => by rw [q3 j hj, AHeap.get_alloc, if_neg (by omega), hk2.2 j hj]⟩
          simp (maxDischargeDepth := 99) [hlen, f6, hw]
          refine ⟨cols.length - (i + 1), y1 hlt, i + 1, rfl, hlt, by simp [hlen], by simp [hlen, f0], by simp [hlen, f1], by simp [hlen], ?_, k4⟩
          rw [hnx, vcells_append]
          simp [hlen, vcells, V.cells]
          exact q1
        · obtain rfl : i = cols.length := by omega
          rw [List.take_of_length_le (Nat.le_refl _)] at hO
          simp (maxDischargeDepth := 99) [cr34_0, hlen, f1, f6]
          exact ⟨by simp [hlen], by simpa [hlen] using hO, hk⟩
      · exact ⟨0, rfl, Nat.zero_le _, by simp, by simp, by simp, by simp, by simpa [keyL, vcells] using OutSl.nil _ _ _, Keeps.refl _⟩
    · rintro fr τ ⟨hlen, hO, hk⟩
      simp (maxDischargeDepth := 99) [hlen]
      exact ⟨hO, hk⟩
end Go.Proofs.YthjijjkoeoemgaaGreat.Ab
