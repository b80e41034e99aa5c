/- Check and Depth; the law of the long list walked. -/
import Derived.Test.YtdpfgdmlmkpmbaaGreatDoorCdB
import Derived.Test.YtdpfgdmlmkpmbaaGreatDoorCdS2
namespace Go.Proofs.YtdpfgdmlmkpmbaaGreatDoor.Ab
open Go
set_option maxRecDepth 20000
set_option maxHeartbeats 8000000
set_option linter.unusedSimpArgs false

theorem frz_inlst (σ : AHeap) (ops : List Ins) : frzDA frzDepth σ (.one (.lst (ops.map Ins.cells))) = some (.one (.lst (ops.map Ins.cells)), []) := by
  simp only [frzDA]
  rw [frzD_lst σ (ins_lo 0 ops)]
theorem eq_depthP (σ : AHeap) (s : AV) (ops : List Ins) (ids : List Nat) (hs : frzDA frzDepth σ s = some (.one (.lst (ops.map Ins.cells)), ids)) (hm : ops.length ≤ maxElems) :
    lim TyD 15 [s] σ = some (.one (.int .i64 (depthF ops)), σ) := by
  refine lim_rd (args' := [.one (.lst (ops.map Ins.cells))]) (ids := ids ++ []) (TyD_prim rfl) ((TyD_code _).trans codeCDepth) rfl (by simp only [frzDAs, hs]) ?_ rfl
  unfold BodyP depthF
  have hh := fun σ => eq_heights σ _ ops [] (frz_inlst σ ops) hm
  cases hb : (heightsF ops).2 with
  | true =>
    rw [hb] at hh
    simp (maxDischargeDepth := 99) [cCDepth, hh]
  | false =>
    rw [hb] at hh
    simp (maxDischargeDepth := 99) [cCDepth, hh]

/-! ### what the laws lean on -/
theorem primOk_limC {P : Program} [IsProg P] {C : Ctx} (hC : C.Good P) (f : Nat) : PrimOk P f (fun args σ => lim C f args σ) := fun args σ v σ' h => by
  obtain ⟨n, hn⟩ := lim_iff.1 h
  exact sound hC n f args σ v σ' hn
noncomputable def ctPrims : List (Nat × Prim) := [(12, pBool true), (8, fun args σ => lim TyD 8 args σ), (15, fun args σ => lim TyD 15 args σ)]
noncomputable def CtC : Ctx := ⟨codeOf, primAt ctPrims, fun _ => .no⟩
theorem CtC_good : CtC.Good Tryz.prog where
  code := fun f F h => codeOf_good h
  prim := fun f p h => primAt_ok (l := ctPrims) (fun g p hm => by
    simp only [ctPrims, List.mem_cons, Prod.mk.injEq, List.not_mem_nil, or_false] at hm
    rcases hm with ⟨rfl, rfl⟩ | ⟨rfl, rfl⟩ | ⟨rfl, rfl⟩
    · exact primOk_closed CdM_good sure12_runs
    · exact primOk_limC TyD_good _
    · exact primOk_limC TyD_good _) f p h
theorem CtC_sure (σ : AHeap) : lim CtC 12 [] σ = some (.one (.bool true), σ) := (lim_prim (p := pBool true) rfl).trans rfl
theorem CtC_compile (σ : AHeap) (args : List AV) : lim CtC 8 args σ = lim TyD 8 args σ := lim_prim (p := fun args σ => lim TyD 8 args σ) rfl
theorem CtC_depth (σ : AHeap) (args : List AV) : lim CtC 15 args σ = lim TyD 15 args σ := lim_prim (p := fun args σ => lim TyD 15 args σ) rfl

/-! ### the kids as they grow -/
def kcells (n : Int) : List SV := [.int .i64 3, .str [], .int .i64 n, .int .i64 0, .nilSlice]
def krow (l : List Int) : List SV := (l.map kcells).flatten
theorem krow_len : ∀ l : List Int, (krow l).length = l.length * 5
  | [] => rfl
  | n :: l => by
    have := krow_len l
    unfold krow at this ⊢
    simp only [List.map_cons, List.flatten_cons, List.length_append, this, List.length_cons]
    simp [kcells]
    omega
theorem krow_snoc (l : List Int) (n : Int) : krow (l ++ [n]) = krow l ++ kcells n := by simp [krow]
/-- A slice that holds the kids. -/
def KSl (τ : AHeap) (b : Nat) (s : SV) (l : List Int) : Prop := ∃ q cap, s = .slice q 0 5 l.length cap ∧ (cap = some l.length ∨ cap = none) ∧ q ≠ b ∧ τ.get q = some ⟨krow l, .own⟩
theorem KSl.stay {τ τ' : AHeap} {b : Nat} {s : SV} {l : List Int} (h : KSl τ b s l) (hk : ∀ id, id ≠ b → id < τ.size → τ'.get id = τ.get id) : KSl τ' b s l := by
  obtain ⟨q, cap, h1, h2, h3, h4⟩ := h
  exact ⟨q, cap, h1, h2, h3, by rw [hk q h3 (AHeap.get_lt h4)]; exact h4⟩
theorem append_kid {τ : AHeap} {b : Nat} {s : SV} {l : List Int} (h : KSl τ b s l) (hb : b < τ.size) (n : Int) (hn : l.length + 1 ≤ maxElems) :
    OptP (appendA τ 5 64 (.one s) 1 (kcells n)) (fun _ v τ' => ∃ s', v = .one s' ∧ KSl τ' b s' (l ++ [n]) ∧ τ'.size = τ.size + 1 ∧ τ'.get b = τ.get b) := by
  obtain ⟨q, cap, rfl, h2, h3, h4⟩ := h
  have hlt := AHeap.get_lt h4
  have hl := krow_len l
  have h64 : (64 : Nat) ≤ maxBytes := by decide
  have hbq : ¬ b = q := fun e => h3 e.symm
  have hbz : ¬ b = τ.size := by omega
  rcases h2 with rfl | rfl
  · have h6 : ¬ (l.length + 1 ≤ l.length) := by omega
    simp [appendA, appendK, hn, h64, h4, hl, hbz, h6]
    refine ⟨τ.size, none, by simp, .inr rfl, by omega, ?_⟩
    have : List.take (l.length * 5) (krow l) = krow l := List.take_of_length_le (by rw [hl]; exact Nat.le_refl _)
    simp [this, krow_snoc]
  · have h5 : ¬ ((l.length + 1) * 5 ≤ l.length * 5) := by omega
    simp [appendA, appendK, hn, h64, h4, hl, h5, hbz, hbq]
    exact ⟨τ.size, none, by simp, .inr rfl, by omega, by simp [krow_snoc]⟩
theorem kchunks : ∀ l : List Int, chunks 5 l.length (krow l) = l.map kcells
  | [] => rfl
  | n :: l => by
    have h1 : krow (n :: l) = kcells n ++ krow l := by simp [krow]
    have h2 : (kcells n).length = 5 := rfl
    rw [List.length_cons, chunks, h1, List.take_append_of_le_length (by rw [h2]; exact Nat.le_refl _), List.drop_append_of_le_length (by rw [h2]; exact Nat.le_refl _)]
    rw [List.take_of_length_le (by rw [h2]; exact Nat.le_refl _), List.drop_eq_nil_of_le (by rw [h2]; exact Nat.le_refl _), List.nil_append, kchunks l]
    rfl
theorem frz_kids (τ : AHeap) (l : List Int) : frzEW (frzD 8 τ) (l.map kcells) = some (l.map fun n => (litT n).cells, []) := by
  induction l with
  | nil => rfl
  | cons n l ih =>
    have h1 : frzLW (frzD 8 τ) (kcells n) = some ((litT n).cells, []) := rfl
    simp only [List.map_cons, frzEW, h1, ih, List.append_nil]
theorem frz_x {τ : AHeap} {b : Nat} {s : SV} {l : List Int} (h : KSl τ b s (1 :: l)) :
    ∃ ids, frzDAs frzDepth τ [.agg [.int .i64 11, .str [], .int .i64 0, .int .i64 0, s], .one .nilSlice, .one .nilSlice] = some ([.agg (inT l).cells, .one (.lst []), .one (.lst [])], ids) := by
  obtain ⟨q, cap, rfl, h2, h3, h4⟩ := h
  have h5 := frzD_slice (cap := cap) (f := 8) (off := 0) (esz := 5) (len := (1 :: l).length) h4 (by rw [krow_len]; omega) (by rw [List.drop_zero, kchunks]; exact frz_kids τ (1 :: l))
  have hc : (inT l).cells = [.int .i64 11, .str [], .int .i64 0, .int .i64 0, .lst ((1 :: l).map fun n => (litT n).cells)] := by
    simp [inT, T.cells, T.cellsL, T.cellsL_map]
  have h6 : frzD frzDepth τ (.slice q 0 5 (1 :: l).length cap) = some (.lst ((1 :: l).map fun n => (litT n).cells), q :: []) := h5
  refine ⟨[q], ?_⟩
  rw [hc]
  simp only [frzDAs, frzDA, frzLW, frzD_int, frzD_str, frzD_nil, h6]
  rfl

/-! ### the law -/
def upto (n : Nat) : List Int := (List.range n).map fun (i : Nat) => (i : Int)
theorem upto_succ (n : Nat) : upto (n + 1) = upto n ++ [(n : Int)] := by simp [upto, List.range_succ]
theorem upto_len (n : Nat) : (upto n).length = n := by simp [upto]
def ILong (n x : Nat) (i : Nat) (fr : List AV) (τ : AHeap) : Prop :=
  ∃ s, fr.length = 62 ∧ getSlot fr 0 = .one (.int .i64 n) ∧ getSlot fr 3 = .one (.ptr x 0) ∧ getSlot fr 4 = .one (.int .i64 i) ∧ τ.get x = some ⟨[.int .i64 11, .str [], .int .i64 0, .int .i64 0, s], .own⟩ ∧ KSl τ x s (1 :: upto i)
theorem stepLong (n x i : Nat) (hn2 : n ≤ 2000) (fr : List AV) (τ : AHeap) (hlt : i < n) (hI : ILong n x i fr τ) (E : KE) (R : KN) : EndsI .go (lim CtC) cLawLong_0 fr τ (fun _ fr τ => ILong n x (i + 1) fr τ) E R := by
  obtain ⟨s, hlen, f0, f3, f4, hx, hK⟩ := hI
  have hw := wr_next hlt (by unfold maxElems; omega)
  have hlti : (i : Int) < (n : Int) := by omega
  have hxl := AHeap.get_lt hx
  obtain ⟨τ1, hτ1⟩ : ∃ τ1, τ1 = τ.alloc ⟨kcells i, .own⟩ := ⟨_, rfl⟩
  have hk1 : Keeps τ τ1 := by rw [hτ1]; simp
  have hz1 : τ1.size = τ.size + 1 := by rw [hτ1]; simp
  have hK1 : KSl τ1 x s (1 :: upto i) := hK.stay (fun id _ h => hk1.2 id h)
  have hg1 : τ1.get τ.size = some ⟨kcells i, .own⟩ := by rw [hτ1]; simp
  have hx1 : τ1.get x = some ⟨[.int .i64 11, .str [], .int .i64 0, .int .i64 0, s], .own⟩ := by rw [hk1.2 x hxl]; exact hx
  have hcl : (kcells i).length = 5 := rfl
  have htk : List.take 5 (kcells i) = kcells i := rfl
  have hap := append_kid hK1 (by omega) i (by simp [upto_len]; unfold maxElems; omega)
  have hkc : [SV.int .i64 3, .str [], .int .i64 i, .int .i64 0, .nilSlice] = kcells i := rfl
  simp (maxDischargeDepth := 99) [-writeAt, cLawLong_0, hlen, f0, f3, f4, hlti, hlt, hx, repeatCells, hkc, ← hτ1, srcLen, srcCells, hg1, hcl, htk]
  refine hap.mono ?_
  rintro v τ2 ⟨s', rfl, hK2, hz2, hx2⟩
  rw [hx1] at hx2
  obtain ⟨τ3, hτ3⟩ : ∃ τ3, τ3 = τ2.put x ⟨[.int .i64 11, .str [], .int .i64 0, .int .i64 0, s'], .own⟩ := ⟨_, rfl⟩
  have hw3 : writeAt τ2 x 4 [s'] = some τ3 := by
    rw [hτ3]
    simp [writeAt, splice, hx2]
  simp (maxDischargeDepth := 99) [-writeAt, hlen, hw3, f3, f4, hw]
  refine ⟨s', by simp [hlen], by simp [hlen, f0], by simp [hlen, f3], by simp [hlen], by rw [hτ3]; simp [AHeap.get_lt hx2], ?_⟩
  rw [upto_succ]
  exact hK2.stay (fun id h1 h2 => by rw [hτ3, AHeap.get_put', if_neg (by omega)])

theorem law_long (N : Int) : ∃ σ', lim CtC 6 [.one (.int .i64 N)] emptyH = some (.one (.bool true), σ') := by
  have key : OptP (lim CtC 6 [.one (.int .i64 N)] emptyH) (fun _ v _ => v = .one (.bool true)) := by
    refine lim_code rfl (show codeOf 6 = _ from codeLawLong) rfl ?_
    unfold BodyP
    obtain ⟨n, hn, hn1, hn2⟩ : ∃ n : Nat, mm true 1 (mm false N 2000) = (n : Int) ∧ 1 ≤ n ∧ n ≤ 2000 := by
      refine ⟨(mm true 1 (mm false N 2000)).toNat, ?_⟩
      simp only [mm]
      split <;> split <;> omega
    obtain ⟨σ1, hσ1⟩ : ∃ σ1, σ1 = ((emptyH.alloc ⟨kcells 1, .own⟩).alloc ⟨[.int .i64 0, .str [], .int .i64 0, .int .i64 0, .nilSlice], .own⟩).put (emptyH.size + 1) ⟨[.int .i64 11, .str [], .int .i64 0, .int .i64 0, .slice emptyH.size 0 5 1 (some 1)], .own⟩ := ⟨_, rfl⟩
    have hkc : [SV.int .i64 3, .str [], .int .i64 1, .int .i64 0, .nilSlice] = kcells 1 := rfl
    have hw1 : writeAt ((emptyH.alloc ⟨kcells 1, .own⟩).alloc ⟨[.int .i64 0, .str [], .int .i64 0, .int .i64 0, .nilSlice], .own⟩) (emptyH.size + 1) 0 [.int .i64 11, .str [], .int .i64 0, .int .i64 0, .slice emptyH.size 0 5 1 (some 1)] = some σ1 := by
      rw [hσ1]
      simp [writeAt, splice]
    have hx1 : σ1.get (emptyH.size + 1) = some ⟨[.int .i64 11, .str [], .int .i64 0, .int .i64 0, .slice emptyH.size 0 5 1 (some 1)], .own⟩ := by rw [hσ1]; simp
    have hK1 : KSl σ1 (emptyH.size + 1) (.slice emptyH.size 0 5 1 (some 1)) (1 :: upto 0) := ⟨emptyH.size, some 1, rfl, .inl rfl, by omega, by rw [hσ1]; simp [krow, upto]⟩
    have hcl1 : (kcells 1).length = 5 := rfl
    simp (maxDischargeDepth := 99) [-writeAt, cLawLong, mms, hn, hkc, hw1, hcl1]
    refine endsi_to 0 (ILong n (emptyH.size + 1) n) ?_ ?_
    · refine endsi_range n (ILong n (emptyH.size + 1)) ?_ ?_ ?_
      · exact ⟨_, by simp, by simp, by simp, by simp, hx1, hK1⟩
      · intro i fr τ hlt hI
        exact stepLong n _ i hn2 fr τ hlt hI _ _
      · intro fr τ hI
        obtain ⟨s, hlen, f0, f3, f4, hx, hK⟩ := hI
        simp (maxDischargeDepth := 99) [cLawLong_0, hlen, f0, f4]
        exact ⟨s, by simp [hlen], by simp [hlen, f0], by simp [hlen, f3], by simp [hlen, f4], hx, hK⟩
    · rintro fr τ ⟨s, hlen, f0, f3, f4, hx, hK⟩
      obtain ⟨ids, hfr⟩ := frz_x hK
      have h0 : upto n ≠ [] := by
        intro e
        have := upto_len n
        rw [e] at this
        simp at this
        omega
      have hp : ∀ k ∈ upto n, 0 ≤ k := by
        intro k hk
        simp only [upto, List.mem_map] at hk
        obtain ⟨j, _, rfl⟩ := hk
        omega
      have hc := (CtC_compile τ _).trans (eq_compile τ _ ids (upto n) h0 hp (by rw [upto_len]; unfold maxElems; omega) hfr)
      obtain ⟨hL1, hL2⟩ := comp_long (upto n) h0
      rw [upto_len] at hL1 hL2
      have hw4 : wr .i64 (4 * (n : Int)) = 4 * n := wr64 (by omega) (by omega)
      have hw5 : wr .i64 (4 * (n : Int) - 1) = 4 * n - 1 := wr64 (by omega) (by omega)
      by_cases hbig : 4 * n ≤ 4097
      · obtain ⟨e1, e2, e3⟩ := hL1 hbig
        rw [e1] at hc
        have hd := fun σ => (CtC_depth σ _).trans (eq_depthP σ (.one (.lst ((blks 0 (upto n)).map Ins.cells))) (blks 0 (upto n)) [] (frz_inlst σ _) (by rw [e2]; unfold maxElems; omega))
        have hb1 : ¬ (4096 : Int) < 4 * (n : Int) - 1 := by omega
        have hle : ((blks 0 (upto n)).length : Int) = 4 * (n : Int) - 1 := by rw [e2]; omega
        simp (maxDischargeDepth := 99) [hlen, f0, f3, hx, hc, hw4, hw5, hb1, hle, hd, e3, CtC_sure]
      · have e1 := hL2 (by omega)
        rw [e1] at hc
        have hb1 : (4096 : Int) < 4 * (n : Int) - 1 := by omega
        simp (maxDischargeDepth := 99) [hlen, f0, f3, hx, hc, hw4, hw5, hb1, CtC_sure]
  obtain ⟨v, σ', h1, rfl⟩ := key
  exact ⟨σ', h1⟩
end Go.Proofs.YtdpfgdmlmkpmbaaGreatDoor.Ab
