/- What views hold together, as the document says. -/
import Derived.Test.YthjijjkoeoemgaaGreatCt28
import Derived.Test.YthjijjkoeoemgaaGreatCt27
namespace Go.Proofs.YthjijjkoeoemgaaGreat.Ab
open Go
set_option maxRecDepth 20000
set_option maxHeartbeats 4000000
set_option linter.unusedSimpArgs false
set_option linter.unusedVariables false

theorem flt_next (p : Arr → Bool) {l : List Arr} {i : Nat} (h : i < l.length) : (l.take (i + 1)).filter p = (l.take i).filter p ++ (if p (rAt l i) = true then [rAt l i] else []) := by
  rw [take_next h, List.filter_append]
  congr 1
  split
  · rename_i hp; simp [hp]
  · rename_i hp; simp [hp]
theorem flt_bound (p : Arr → Bool) {l : List Arr} {i : Nat} (h : i < l.length) (hm : l.length ≤ maxElems) : ((l.take i).filter p).length + 1 ≤ maxElems := by
  have := List.length_filter_le p (l.take i)
  rw [List.length_take] at this
  omega
def IRi (σ : AHeap) (s s1 sx : AV) (now : Int) (i : Nat) (so : AV) (out X : List Arr) (k : Nat) (fr : List AV) (τ : AHeap) : Prop :=
  ∃ j, k = out.length - j ∧ j ≤ out.length ∧ fr.length = 56 ∧ getSlot fr 0 = s ∧ getSlot fr 1 = s1 ∧ getSlot fr 2 = .one (.int .i64 now) ∧ getSlot fr 7 = so ∧ getSlot fr 8 = .one (.int .i64 (i : Int)) ∧ getSlot fr 9 = sx ∧ getSlot fr 11 = .one (.int .i64 (j : Int)) ∧
    OutSl σ.size τ 3 (getSlot fr 10) (acells ((out.take j).filter fun a => hasA X a.seq)) ((out.take j).filter fun a => hasA X a.seq).length ∧ Keeps σ τ
def ORi (σ : AHeap) (s s1 : AV) (now : Int) (i : Nat) (out X : List Arr) (fr : List AV) (τ : AHeap) : Prop :=
  fr.length = 56 ∧ getSlot fr 0 = s ∧ getSlot fr 1 = s1 ∧ getSlot fr 2 = .one (.int .i64 now) ∧ getSlot fr 8 = .one (.int .i64 (i : Int)) ∧
    OutSl σ.size τ 3 (getSlot fr 10) (acells (out.filter fun a => hasA X a.seq)) (out.filter fun a => hasA X a.seq).length ∧ Keeps σ τ
def IRo (σ : AHeap) (s s1 : AV) (l : List Arr) (vs : List VS) (now : Int) (k : Nat) (fr : List AV) (τ : AHeap) : Prop :=
  ∃ i out, k = vs.length - i ∧ i ≤ vs.length ∧ fr.length = 56 ∧ getSlot fr 0 = s ∧ getSlot fr 1 = s1 ∧ getSlot fr 2 = .one (.int .i64 now) ∧ getSlot fr 8 = .one (.int .i64 (i : Int)) ∧
    Arrs τ (getSlot fr 7) out ∧ (∀ a ∈ out, a ∈ l) ∧ out.length ≤ l.length ∧ Keeps σ τ ∧ ofF l now (vs.drop i) out = ofL vs l now
def ORo (σ : AHeap) (l : List Arr) (vs : List VS) (now : Int) (fr : List AV) (τ : AHeap) : Prop :=
  fr.length = 56 ∧ Arrs τ (getSlot fr 7) (ofL vs l now) ∧ Keeps σ τ
theorem rOf (σ : AHeap) (s s1 : AV) (l : List Arr) (vs : List VS) (now : Int) (hV : Views σ s vs) (hA : Arrs σ s1 l) (hL : LOk l now) (C : Nat) (hC : ∀ v ∈ vs, v.cols.length ≤ C) (f : Nat) (hf : C + vs.length + 1500 ≤ f) :
    OptP (evCall D9 f 9 [s, s1, .one (.int .i64 now)] σ) (fun _ r τ => Arrs τ r (ofL vs l now) ∧ Keeps σ τ) := by
  obtain ⟨f, rfl⟩ : ∃ k, f = k + 1 := ⟨f - 1, by omega⟩
  refine evCall_code (D9_prim 9) ((D9_code 9).trans coder9) ?_
  have hnil : ∀ τ, Arrs τ (.one .nilSlice) [] := fun τ => ⟨.inl ⟨rfl, rfl⟩, fun a ha => by cases ha⟩
  have hlen := hL.t.len
  rcases hV.rd with ⟨rfl, rfl⟩ | ⟨id, off, cap, rfl, hid, hm, hrd⟩
  · simp (maxDischargeDepth := 99) [cr9, hnil, ofL]
  · by_cases h0 : vs.length = 0
    · have e : vs = [] := List.length_eq_zero_iff.1 h0
      subst e
      simp (maxDischargeDepth := 99) [cr9, hnil, ofL]
    · have h1 : 0 < vs.length := by omega
      have h0' : ¬ (vs.length : Int) = 0 := by omega
      have h0'' : ¬ vs = [] := by intro e; rw [e] at h0; exact h0 rfl
      have p0 := hrd 0 h1
      simp only [Nat.zero_mul, Nat.add_zero] at p0
      have hmem0 := vAt_mem h1
      have hheld := rOneF σ s1 l (vAt vs 0) now hA (hV.2 _ hmem0) hL C (hC _ hmem0) f (by omega)
      have hfirst : ofL vs l now = ofF l now (vs.drop 1) (heldF (vAt vs 0) l now) := by
        cases vs with
        | nil => simp at h1
        | cons v vs => rfl
      generalize hv0 : vAt vs 0 = v at p0 hheld hfirst
      unfold VS.cells at p0 hheld
      simp (maxDischargeDepth := 99) [cr9, h0, h0', h0'', h1, p0]
      refine hheld.mono ?_
      rintro r τ ⟨hr, hk⟩
      simp (maxDischargeDepth := 99)
      refine ends_to 0 (ORo σ l vs now) ?_ ?_
      · refine ends_loop (I := IRo σ (.one (.slice id off 4 vs.length cap)) s1 l vs now) ?_ (k := vs.length - 1) ?_ (by omega)
        · rintro k fr τ ⟨i, out, rfl, hi, hl, f0, f1, f2, f8, hO, hsub, hol2, hk, hof⟩
          by_cases hlt : i < vs.length
          · have hlt' : (i : Int) < (vs.length : Int) := Int.ofNat_lt.2 hlt
            have p1 := hrd i hlt
            rw [← hk.2 id hid] at p1
            have hw : wr .i64 ((i : Int) + 1) = ((i + 1 : Nat) : Int) := wr_next hlt hm
            have hmem := vAt_mem hlt
            have hheld := rOneF τ s1 l (vAt vs i) now (hA.keeps hk) ((hV.2 _ hmem).keeps hk) hL C (hC _ hmem) f (by omega)
            rw [vdrop_next' hlt] at hof
            simp only [ofF] at hof
            have hXl : (heldF (vAt vs i) l now).length ≤ 200 := Nat.le_trans (heldF_len _ _ _) hlen
            generalize heldF (vAt vs i) l now = X at hheld hof hXl
            generalize vAt vs i = v at p1 hheld
            unfold VS.cells at p1 hheld
            simp (maxDischargeDepth := 99) [cr9_1, hl, f0, f1, f2, f8, hlt, hlt', p1]
            refine hheld.mono ?_
            rintro x τ3 ⟨hX, k3⟩
            have hO3 := hO.keeps k3
            obtain ⟨so, hso⟩ : ∃ so, so = getSlot fr 7 := ⟨_, rfl⟩
            rw [← hso] at hO hO3
            simp (maxDischargeDepth := 99) [hl]
            refine ends_to 2 (ORi τ3 (.one (.slice id off 4 vs.length cap)) s1 now i out X) ?_ ?_
            · refine ends_loop (I := IRi τ3 (.one (.slice id off 4 vs.length cap)) s1 x now i so out X) ?_ (k := out.length) ?_ (by omega)
              · rintro k fr τ ⟨j, rfl, hj, hl, g0, g1, g2, g7, g8, g9, g11, hOu, hk2⟩
                rcases hO3.rd with ⟨rfl, e⟩ | ⟨oid, ooff, ocap, rfl, omx, ord⟩
                · subst e
                  obtain rfl : j = 0 := by simpa using hj
                  simp (maxDischargeDepth := 99) [cr9_0, hl, g7, g11]
                  exact ⟨by simp [hl], by simp [hl, g0], by simp [hl, g1], by simp [hl, g2], by simp [hl, g8], by simpa [hl] using hOu, hk2⟩
                · by_cases hjl : j < out.length
                  · have hjl' : (j : Int) < (out.length : Int) := Int.ofNat_lt.2 hjl
                    obtain ⟨p0, p3, _, _⟩ := ord j hjl
                    have hoid := rd_lt p0
                    rw [← hk2.2 oid hoid] at p0 p3
                    have hwj := wr_next hjl omx
                    have hnx := flt_next (fun a => hasA X a.seq) hjl
                    have hbd := flt_bound (fun a => hasA X a.seq) hjl omx
                    generalize rAt out j = a at p0 p3 hnx
                    have hH := run13 D9 (D9_prim 18) ((D9_code 18).trans code13) τ x X a.seq (hX.keeps hk2) f (by omega)
                    simp only [Arr.av, Arr.cells] at p0
                    simp (maxDischargeDepth := 99) [cr9_0, hl, g7, g9, g11, hjl, hjl', p3]
                    refine hH.mono ?_
                    rintro r τ2 ⟨rfl, rfl⟩
                    have hsz := hk2.1
                    cases hpr : hasA X a.seq with
                    | true =>
                      have hO4 : OutSl τ3.size (τ2.alloc ⟨[.int .i64 a.seq, .int .i64 a.time, a.row], .own⟩) 3 (getSlot fr 10) (acells ((out.take j).filter fun a => hasA X a.seq)) ((out.take j).filter fun a => hasA X a.seq).length :=
                        hOu.stay (fun j h1 h2 => by rw [AHeap.get_alloc, if_neg (by omega)])
                      have hap := append_out (b := τ3.size) (bytes := 40) (vs := [.int .i64 a.seq, .int .i64 a.time, a.row]) hO4 (by rw [AHeap.size_alloc]; omega) (by omega) rfl hbd (by decide)
                      simp (maxDischargeDepth := 99) [hl, g7, g11, hjl, hjl', p0, srcLen, srcCells]
                      refine hap.mono ?_
                      rintro s' τ4 ⟨q1, q2, q3⟩
                      have k4 : Keeps τ3 τ4 := ⟨by rw [q2, AHeap.size_alloc]; omega, fun j hj => by rw [q3 j hj, AHeap.get_alloc, if_neg (by omega)]; exact hk2.2 j hj⟩
                      simp (maxDischargeDepth := 99) [hl, g11, hwj, -Int.natCast_add]
                      refine ⟨out.length - (j + 1), y1 hjl, j + 1, rfl, hjl, by simp [hl], by simp [hl, g0], by simp [hl, g1], by simp [hl, g2], by simp [hl, g7], by simp [hl, g8], by simp [hl, g9], by simp [hl, -Int.natCast_add], ?_, k4⟩
                      rw [hnx]
                      simp [hl, hpr, acells_append, acells, Arr.cells]
                      exact q1
                    | false =>
                      simp (maxDischargeDepth := 99) [hl, g11, hwj, -Int.natCast_add]
                      refine ⟨out.length - (j + 1), y1 hjl, j + 1, rfl, hjl, by simp [hl], by simp [hl, g0], by simp [hl, g1], by simp [hl, g2], by simp [hl, g7], by simp [hl, g8], by simp [hl, g9], by simp [hl, -Int.natCast_add], ?_, hk2⟩
                      rw [hnx]
                      simpa [hl, hpr] using hOu
                  · obtain rfl : j = out.length := by omega
                    rw [List.take_of_length_le (Nat.le_refl _)] at hOu
                    simp (maxDischargeDepth := 99) [cr9_0, hl, g7, g11]
                    exact ⟨by simp [hl], by simp [hl, g0], by simp [hl, g1], by simp [hl, g2], by simp [hl, g8], by simpa [hl] using hOu, hk2⟩
              · exact ⟨0, rfl, Nat.zero_le _, by simp [hl], by simp [hl, f0], by simp [hl, f1], by simp [hl, f2], by simp [hl, hso], by simp [hl, f8], by simp [hl], by simp [hl], by simpa [hl, acells] using OutSl.nil _ _ _, Keeps.refl _⟩
            · rintro fr τ4 ⟨hl, g0, g1, g2, g8, hOu, k4⟩
              have kk := hk.trans (k3.trans k4)
              have hfl := List.length_filter_le (fun a => hasA X a.seq) out
              have hA' := acells_outsl hOu (by unfold maxElems; omega) (fun a ha => (hO3.keeps k4).2 a (List.mem_filter.1 ha).1)
              simp (maxDischargeDepth := 99) [hl, g8, hw, -Int.natCast_add]
              exact ⟨vs.length - (i + 1), y1 hlt, i + 1, _, rfl, hlt, by simp [hl], by simp [hl, g0], by simp [hl, g1], by simp [hl, g2], by simp [hl, -Int.natCast_add], by simpa [hl] using hA', fun a ha => hsub a (List.mem_filter.1 ha).1, by omega, kk, hof⟩
          · obtain rfl : i = vs.length := by omega
            rw [List.drop_of_length_le (Nat.le_refl _)] at hof
            simp only [ofF] at hof
            subst hof
            simp (maxDischargeDepth := 99) [cr9_1, hl, f0, f8]
            exact ⟨by simp [hl], by simpa [hl] using hO, hk⟩
        · exact ⟨1, _, rfl, h1, by simp, by simp, by simp, by simp, by simp, by simpa using hr, heldF_sub _ _ _, heldF_len _ _ _, hk, hfirst.symm⟩
      · rintro fr τ ⟨hl, hO, hk⟩
        simp (maxDischargeDepth := 99) [hl]
        exact ⟨hO, hk⟩
end Go.Proofs.YthjijjkoeoemgaaGreat.Ab
