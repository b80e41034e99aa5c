/- Timers: what is taken from the heap; the wheel's own functions. -/
import Derived.Test.YtdgffilnefnjjaaTim4
namespace Go.Proofs.Ytdgffilnefnjjaa.Ab
open Go
set_option maxRecDepth 20000
set_option maxHeartbeats 1000000
set_option linter.unusedSimpArgs false

theorem stepL_append {l m : List T} {n c u : Nat} (hn : n ≤ l.length) (hu : c < n → u < n) : stepL (l ++ m) n c u = stepL l n c u := by
  unfold stepL
  by_cases hc : c < n
  · rw [tAt_append (Nat.lt_of_lt_of_le hc hn), tAt_append (Nat.lt_of_lt_of_le (hu hc) hn)]
  · rw [if_neg (fun e => hc e.1), if_neg (fun e => hc e.1)]
theorem mj_append {l m : List T} {n i : Nat} (hn : n ≤ l.length) : ∀ j, mj (l ++ m) n i j = mj l n i j
  | 0 => rfl
  | j + 1 => by
    unfold mj
    rw [mj_append hn j]
    exact stepL_append hn (fun h => mj_lt (by omega))
theorem sinkL_append (m : List T) (n : Nat) : ∀ (k i : Nat) (l : List T), n - i ≤ k → n ≤ l.length → sinkL n (l ++ m) i = sinkL n l i ++ m
  | 0, i, l, hk, hn => by
    rw [sinkL]
    conv => rhs; rw [sinkL]
    rcases mj_cases l n i 2 with e | e
    · rw [dif_pos (by rw [mj_append hn, e]), dif_pos e]
    · omega
  | k + 1, i, l, hk, hn => by
    rw [sinkL]
    conv => rhs; rw [sinkL]
    rw [mj_append hn]
    split
    · rfl
    · rename_i h
      rcases mj_cases l n i 2 with e | e
      · exact absurd e h
      · rw [swapL_append (by omega) (by omega), sinkL_append m n k _ _ (by omega) (by rw [swapL_length]; exact hn)]

/-- What is left when the first is taken. -/
def popL (L : List T) : List T := sinkL (L.length - 1) ((L.set 0 (tAt L (L.length - 1))).take (L.length - 1)) 0
theorem popL_length (L : List T) : (popL L).length = L.length - 1 := by
  unfold popL
  rw [sinkL_length _ _ _ _ (Nat.le_refl _), List.length_take, List.length_set]
  omega

theorem write3 {τ : AHeap} {i : Nat} {a b c : SV} (h : τ.get i = some ⟨[a, b, c], .own⟩) (x y z : SV) : writeAt τ i 0 [x, y, z] = some (τ.put i ⟨[x, y, z], .own⟩) := by
  simp only [writeAt, h]; rfl
theorem write30 {τ : AHeap} {i : Nat} {a b c : SV} (h : τ.get i = some ⟨[a, b, c], .own⟩) (x : SV) : writeAt τ i 0 [x] = some (τ.put i ⟨[x, b, c], .own⟩) := by
  simp only [writeAt, h]; rfl
theorem write32 {τ : AHeap} {i : Nat} {a b c : SV} (h : τ.get i = some ⟨[a, b, c], .own⟩) (x : SV) : writeAt τ i 2 [x] = some (τ.put i ⟨[a, b, x], .own⟩) := by
  simp only [writeAt, h]; rfl
theorem run47 (σ : AHeap) (id q : Nat) (L : List T) (seq : Int) (h : Whl σ id L seq q) (h0 : 0 < L.length) (hL : L.length ≤ maxElems) (f : Nat) (hf : L.length + 10 ≤ f) :
    OptP (evCall D3 f 47 [.one (.ptr id 0)] σ) (fun _ v τ => v = (tAt L 0).av ∧ Whl τ id (popL L) seq q ∧ Fr σ τ id q) := by
  obtain ⟨f, rfl⟩ : ∃ k, f = k + 1 := ⟨f - 1, by omega⟩
  refine evCall_code (by kernel_rfl) ((D3_code 47).trans code47) ?_
  obtain ⟨sl, hg, hs⟩ := h
  obtain ⟨junk, rfl, hne, hq⟩ : ∃ junk, sl = .slice q 0 3 L.length none ∧ q ≠ id ∧ σ.get q = some ⟨tcells (L ++ junk), .own⟩ := by
    rcases hs with ⟨_, rfl, _⟩ | h
    · simp at h0
    · exact h
  have hid := AHeap.get_lt hg
  have hql := AHeap.get_lt hq
  have hmb : maxElems = 4294967296 := rfl
  have hw : wr .i64 ((L.length : Int) - 1) = ((L.length - 1 : Nat) : Int) := by rw [wr64 (by omega) (by omega)]; omega
  have hrd0 := tcells_part (L ++ junk) 0 (by rw [List.length_append]; omega)
  have hrd1 := tcells_part (L ++ junk) (L.length - 1) (by rw [List.length_append]; omega)
  rw [Nat.zero_mul, tAt_append h0] at hrd0
  rw [tAt_append (by omega)] at hrd1
  obtain ⟨σ1, hσ1⟩ : ∃ σ1, σ1 = ((σ.alloc ⟨[.int .i64 0, .int .i64 0, .int .i64 0], .own⟩).alloc ⟨[.int .i64 0, .int .i64 0, .int .i64 0], .own⟩).put (σ.size + 1) ⟨(tAt L 0).cells, .own⟩ := ⟨_, rfl⟩
  have hs1 : σ1.size = σ.size + 2 := by rw [hσ1]; rfl
  have hold : ∀ j, j < σ.size → σ1.get j = σ.get j := fun j hj => by
    rw [hσ1, AHeap.get_put', if_neg (by omega), AHeap.get_alloc, if_neg (by rw [AHeap.size_alloc]; omega), AHeap.get_alloc, if_neg (by omega)]
  have hgn : σ1.get σ.size = some ⟨[.int .i64 0, .int .i64 0, .int .i64 0], .own⟩ := by
    rw [hσ1, AHeap.get_put', if_neg (by omega), AHeap.get_alloc, if_neg (by rw [AHeap.size_alloc]; omega), AHeap.get_alloc, if_pos rfl]
  have hgx : σ1.get (σ.size + 1) = some ⟨(tAt L 0).cells, .own⟩ := by
    rw [hσ1, AHeap.get_put', if_pos ⟨rfl, by rw [AHeap.size_alloc, AHeap.size_alloc]; omega⟩]
  have hg1 : σ1.get id = _ := (hold id hid).trans hg
  have hq1 : σ1.get q = _ := (hold q hql).trans hq
  have hF1 : Fr σ σ1 id q := ⟨by omega, fun j h1 _ _ => hold j h1⟩
  -- the first cell, then the slice cut, then the sink
  have hwr := write_ts hq1 (i := 0) (by rw [List.length_append]; omega) (tAt L (L.length - 1))
  rw [Nat.zero_mul] at hwr
  have hset : (L ++ junk).set 0 (tAt L (L.length - 1)) = L.set 0 (tAt L (L.length - 1)) ++ junk := List.set_append_left _ _ h0
  rw [hset] at hwr
  have hcut : L.set 0 (tAt L (L.length - 1)) ++ junk = (L.set 0 (tAt L (L.length - 1))).take (L.length - 1) ++ ((L.set 0 (tAt L (L.length - 1))).drop (L.length - 1) ++ junk) := by
    rw [← List.append_assoc, List.take_append_drop]
  obtain ⟨σ2, hσ2⟩ : ∃ σ2, σ2 = σ1.put q ⟨tcells (L.set 0 (tAt L (L.length - 1)) ++ junk), .own⟩ := ⟨_, rfl⟩
  rw [← hσ2] at hwr
  have hg2 : σ2.get id = some ⟨[.slice q 0 3 L.length none, .func 41 [], .int .i64 seq], .own⟩ := by rw [hσ2, AHeap.get_put', if_neg (by omega), hg1]
  have hq2 : σ2.get q = some ⟨tcells (L.set 0 (tAt L (L.length - 1)) ++ junk), .own⟩ := by rw [hσ2, AHeap.get_put', if_pos ⟨rfl, by omega⟩]
  have hgn2 : σ2.get σ.size = some ⟨[.int .i64 0, .int .i64 0, .int .i64 0], .own⟩ := by rw [hσ2, AHeap.get_put', if_neg (by omega), hgn]
  have hgx2 : σ2.get (σ.size + 1) = some ⟨(tAt L 0).cells, .own⟩ := by rw [hσ2, AHeap.get_put', if_neg (by omega), hgx]
  have hs2 : σ2.size = σ.size + 2 := by rw [hσ2, AHeap.size_put, hs1]
  have hF2 : Fr σ σ2 id q := by rw [hσ2]; exact hF1.put (.inr (.inl rfl))
  obtain ⟨σ3, hσ3⟩ : ∃ σ3, σ3 = σ2.put id ⟨[.slice q 0 3 (L.length - 1) none, .func 41 [], .int .i64 seq], .own⟩ := ⟨_, rfl⟩
  have hg3 : σ3.get id = some ⟨[.slice q 0 3 (L.length - 1) none, .func 41 [], .int .i64 seq], .own⟩ := by rw [hσ3, AHeap.get_put', if_pos ⟨rfl, by omega⟩]
  have hq3 : σ3.get q = some ⟨tcells (L.set 0 (tAt L (L.length - 1)) ++ junk), .own⟩ := by rw [hσ3, AHeap.get_put', if_neg (by omega), hq2]
  have hF3 : Fr σ σ3 id q := by rw [hσ3]; exact hF2.put (.inl rfl)
  have hs3 : σ3.size = σ.size + 2 := by rw [hσ3, AHeap.size_put, hs2]
  have hgn3 : σ3.get σ.size = some ⟨[.int .i64 0, .int .i64 0, .int .i64 0], .own⟩ := by rw [hσ3, AHeap.get_put', if_neg (by omega), hgn2]
  have hgx3 : σ3.get (σ.size + 1) = some ⟨(tAt L 0).cells, .own⟩ := by rw [hσ3, AHeap.get_put', if_neg (by omega), hgx2]
  have hsink := run66 σ3 id q (L.length - 1) 0 seq (L.set 0 (tAt L (L.length - 1)) ++ junk) hg3 hq3 hne (by rw [List.length_append, List.length_set]; omega) (by omega) (Nat.zero_le _) f (by omega)
  have hpop : sinkL (L.length - 1) (L.set 0 (tAt L (L.length - 1)) ++ junk) 0 = popL L ++ ((L.set 0 (tAt L (L.length - 1))).drop (L.length - 1) ++ junk) := by
    rw [hcut, sinkL_append _ _ _ _ _ (Nat.le_refl _) (by rw [List.length_take, List.length_set]; omega)]
    rfl
  have hlen3 : (tcells (L.set 0 (tAt L (L.length - 1)) ++ junk)).length = (L.length + junk.length) * 3 := by rw [tcells_length, List.length_append, List.length_set]
  have hcutok : (L.length - 1) * 3 ≤ (L.length + junk.length) * 3 := by omega
  have hl1 : L.length - 1 < L.length := by omega
  have n1 : ¬ id = σ.size := by omega
  have n2 : ¬ q = σ.size := by omega
  have n3 : ¬ id = σ.size + 1 := by omega
  have n4 : ¬ q = σ.size + 1 := by omega
  have wA := write3 (τ := (σ.alloc ⟨[.int .i64 0, .int .i64 0, .int .i64 0], .own⟩).alloc ⟨[.int .i64 0, .int .i64 0, .int .i64 0], .own⟩) (i := σ.size + 1) (a := .int .i64 0) (b := .int .i64 0) (c := .int .i64 0)
    (by rw [AHeap.get_alloc, if_pos (by rw [AHeap.size_alloc])]) (.int .i64 (tAt L 0).at') (.int .i64 (tAt L 0).stmt) (.int .i64 (tAt L 0).seq)
  have wA' : writeAt ((σ.alloc ⟨[.int .i64 0, .int .i64 0, .int .i64 0], .own⟩).alloc ⟨[.int .i64 0, .int .i64 0, .int .i64 0], .own⟩) (σ.size + 1) 0 [.int .i64 (tAt L 0).at', .int .i64 (tAt L 0).stmt, .int .i64 (tAt L 0).seq] = some σ1 := by rw [wA, hσ1]; rfl
  have wC := write30 hg2 (.slice q 0 3 (L.length - 1) none)
  rw [← hσ3] at wC
  clear wA
  simp (maxDischargeDepth := 99) [-partA, -writeAt, pw0, pw1, c47, hg, hq, n1, n2, n3, n4, h0, hrd0, T.av, T.cells, wA', hg1, hq1, hw, hl1, hrd1, hwr, hg2, hq2, hlen3, hcutok, wC]
  refine hsink.mono ?_
  rintro v τ ⟨k1, k2, k3⟩
  have hgnτ : τ.get σ.size = some ⟨[.int .i64 0, .int .i64 0, .int .i64 0], .own⟩ := by rw [k3.2 σ.size (by omega) (by omega) (by omega), hgn3]
  have hgxτ : τ.get (σ.size + 1) = some ⟨(tAt L 0).cells, .own⟩ := by rw [k3.2 (σ.size + 1) (by omega) (by omega) (by omega), hgx3]
  have wD := write3 hgnτ (.int .i64 (tAt L 0).at') (.int .i64 (tAt L 0).stmt) (.int .i64 (tAt L 0).seq)
  have hltτ : σ.size < τ.size := AHeap.get_lt hgnτ
  have hFe : Fr σ (τ.put σ.size ⟨[.int .i64 (tAt L 0).at', .int .i64 (tAt L 0).stmt, .int .i64 (tAt L 0).seq], .own⟩) id q := (hF3.trans k3 (.inl rfl)).put (.inr (.inr (Nat.le_refl _)))
  have hWe : Whl (τ.put σ.size ⟨[.int .i64 (tAt L 0).at', .int .i64 (tAt L 0).stmt, .int .i64 (tAt L 0).seq], .own⟩) id (popL L) seq q := by
    refine ⟨_, by rw [AHeap.get_put', if_neg (by omega), k1], .inr ⟨(L.set 0 (tAt L (L.length - 1))).drop (L.length - 1) ++ junk, by rw [popL_length], hne, ?_⟩⟩
    rw [AHeap.get_put', if_neg (by omega), k2, hpop]
  simp (maxDischargeDepth := 99) [-partA, -writeAt, pw3, hgxτ, T.cells, wD, hltτ]
  exact ⟨hWe, hFe⟩
end Go.Proofs.Ytdgffilnefnjjaa.Ab
