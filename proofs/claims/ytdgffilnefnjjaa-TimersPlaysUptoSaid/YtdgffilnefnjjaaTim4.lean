/- Timers: the heap's sink. -/
import Derived.Test.YtdgffilnefnjjaaTim3
namespace Go.Proofs.Ytdgffilnefnjjaa.Ab
open Go
set_option maxRecDepth 20000
set_option maxHeartbeats 1000000
set_option linter.unusedSimpArgs false

def stepL (l : List T) (n c m : Nat) : Nat := if c < n ∧ lessT (tAt l c) (tAt l m) = true then c else m
def mj (l : List T) (n i : Nat) : Nat → Nat
  | 0 => i
  | j + 1 => stepL l n (2 * i + 1 + j) (mj l n i j)
theorem mj_cases (l : List T) (n i : Nat) : ∀ j, mj l n i j = i ∨ (i < mj l n i j ∧ mj l n i j < n)
  | 0 => .inl rfl
  | j + 1 => by
    have ih := mj_cases l n i j
    unfold mj stepL
    split
    · rename_i h
      right
      omega
    · exact ih
theorem mj_lt {l : List T} {n i j : Nat} (h : i < n) : mj l n i j < n := by
  rcases mj_cases l n i j with e | e <;> omega
def sinkL (n : Nat) (l : List T) (i : Nat) : List T :=
  if _h : mj l n i 2 = i then l else sinkL n (swapL l i (mj l n i 2)) (mj l n i 2)
termination_by n - i
decreasing_by
  rcases mj_cases l n i 2 with e | e
  · exact absurd e _h
  · omega
theorem sinkL_length (n : Nat) : ∀ (k i : Nat) (l : List T), n - i ≤ k → (sinkL n l i).length = l.length
  | 0, i, l, hk => by
    rw [sinkL]
    split
    · rfl
    · rename_i h
      rcases mj_cases l n i 2 with e | e
      · exact absurd e h
      · omega
  | k + 1, i, l, hk => by
    rw [sinkL]
    split
    · rfl
    · rename_i h
      rcases mj_cases l n i 2 with e | e
      · exact absurd e h
      · rw [sinkL_length n k _ _ (by omega), swapL_length]

theorem a_lt {i x j n : Nat} (hx : 2 * i = x) (h : x + 1 + j < n) : i < n := by omega
theorem a_two {j : Nat} (h : j < 2) : 2 - (j + 1) < 2 - j ∧ j + 1 ≤ 2 := by omega
theorem run66 (σ : AHeap) (id q n i : Nat) (seq : Int) (m : List T) (hg : σ.get id = some ⟨[.slice q 0 3 n none, .func 41 [], .int .i64 seq], .own⟩) (hq : σ.get q = some ⟨tcells m, .own⟩) (hne : q ≠ id)
    (hnm : n ≤ m.length) (hn : n ≤ maxElems) (hi : i ≤ n) (f : Nat) (hf : n + 8 ≤ f) :
    OptP (evCall D3 f 66 [.one (.ptr id 0), .one (.int .i64 (i : Int))] σ) (fun _ _ τ => τ.get id = some ⟨[.slice q 0 3 n none, .func 41 [], .int .i64 seq], .own⟩ ∧ τ.get q = some ⟨tcells (sinkL n m i), .own⟩ ∧ Fr σ τ id q) := by
  obtain ⟨f, rfl⟩ : ∃ k, f = k + 2 := ⟨f - 2, by omega⟩
  refine evCall_code (by kernel_rfl) ((D3_code 66).trans code66) ?_
  have hmb : maxElems = 4294967296 := rfl
  simp (maxDischargeDepth := 99) [c66]
  refine ends_loop (I := fun k fr τ => ∃ i' m', k = n - i' ∧ i' ≤ n ∧ fr.length = 80 ∧ getSlot fr 0 = .one (.ptr id 0) ∧ getSlot fr 1 = .one (.int .i64 (i' : Int)) ∧
      τ.get id = some ⟨[.slice q 0 3 n none, .func 41 [], .int .i64 seq], .own⟩ ∧ τ.get q = some ⟨tcells m', .own⟩ ∧ n ≤ m'.length ∧ Fr σ τ id q ∧ sinkL n m' i' = sinkL n m i) ?_ (k := n - i) ?_ (by omega)
  · rintro k fr τ ⟨i, m, rfl, hi, hlen, f0, f1, hgi, hgq, hnm, hF, hsk⟩
    have hql : q < τ.size := AHeap.get_lt hgq
    have hidl : id < τ.size := AHeap.get_lt hgi
    have w1 : wr .i64 (2 * (i : Int)) = ((2 * i : Nat) : Int) := by rw [wr64 (by omega) (by omega)]; omega
    have w2 : wr .i64 (((2 * i : Nat) : Int) + 1) = ((2 * i + 1 : Nat) : Int) := by rw [wr64 (by omega) (by omega)]; omega
    have w3 : wr .i64 (((2 * i : Nat) : Int) + 2) = ((2 * i + 2 : Nat) : Int) := by rw [wr64 (by omega) (by omega)]; omega
    generalize hx : 2 * i = x at w1 w2 w3
    simp (maxDischargeDepth := 99) [c66_1, hlen, f0, f1, w1, w2, w3]
    obtain ⟨τ1, hτ1⟩ : ∃ τ1, τ1 = τ.alloc ⟨[.int .i64 ((x : Int) + 1), .int .i64 ((x : Int) + 2)], .own⟩ := ⟨_, rfl⟩
    rw [← hτ1]
    have hgi1 : τ1.get id = some ⟨[.slice q 0 3 n none, .func 41 [], .int .i64 seq], .own⟩ := by rw [hτ1, AHeap.get_alloc, if_neg (by omega), hgi]
    have hgq1 : τ1.get q = some ⟨tcells m, .own⟩ := by rw [hτ1, AHeap.get_alloc, if_neg (by omega), hgq]
    have hgb1 : τ1.get τ.size = some ⟨[.int .i64 ((x : Int) + 1), .int .i64 ((x : Int) + 2)], .own⟩ := by rw [hτ1, AHeap.get_alloc, if_pos rfl]
    have hF1 : Fr σ τ1 id q := by rw [hτ1]; exact hF.alloc
    have hql1 : q < τ1.size := AHeap.get_lt hgq1
    have hidl1 : id < τ1.size := AHeap.get_lt hgi1
    refine ends_to 2 (fun fr τ' => τ' = τ1 ∧ fr.length = 80 ∧ getSlot fr 0 = .one (.ptr id 0) ∧ getSlot fr 1 = .one (.int .i64 (i : Int)) ∧ getSlot fr 4 = .one (.int .i64 (mj m n i 2 : Int))) ?_ ?_
    · refine ends_loop (I := fun k fr τ' => ∃ j, k = 2 - j ∧ j ≤ 2 ∧ τ' = τ1 ∧ fr.length = 80 ∧ getSlot fr 0 = .one (.ptr id 0) ∧ getSlot fr 1 = .one (.int .i64 (i : Int)) ∧ getSlot fr 4 = .one (.int .i64 (mj m n i j : Int)) ∧
          getSlot fr 14 = .one (.slice τ.size 0 1 2 (some 2)) ∧ getSlot fr 15 = .one (.int .i64 2) ∧ getSlot fr 16 = .one (.int .i64 (j : Int))) ?_ (k := 2) ?_ (by omega)
      · rintro k fr τ' ⟨j, rfl, hj, rfl, hlen, f0, f1, f4, f14, f15, f16⟩
        by_cases hj2 : j < 2
        · have hj2' : (j : Int) < 2 := by omega
          have hrd : rd (τ'.get τ.size) none j = some (.one (.int .i64 ((x + 1 + j : Nat) : Int))) := by
            rw [hgb1]
            match j, hj2 with
            | 0, _ => simp
            | 1, _ => simp; omega
          have hw : wr .i64 ((j : Int) + 1) = ((j + 1 : Nat) : Int) := by rw [wr64 (by omega) (by omega)]; simp
          have hmj : mj m n i (j + 1) = stepL m n (x + 1 + j) (mj m n i j) := by rw [← hx]; rfl
          have hcl : x + 1 + j < n → mj m n i j < n := fun h => mj_lt (a_lt hx h)
          generalize hc : x + 1 + j = c at hrd hmj hcl
          generalize mj m n i j = u at hmj hcl f4
          generalize hmu : mj m n i (j + 1) = u' at hmj
          unfold stepL at hmj
          by_cases hcn : c < n
          · have hu := hcl hcn
            have hrd1 := tcells_part m c (Nat.lt_of_lt_of_le hcn hnm)
            have hrd2 := tcells_part m u (Nat.lt_of_lt_of_le hu hnm)
            by_cases hls : lessT (tAt m c) (tAt m u) = true
            · rw [if_pos ⟨hcn, hls⟩] at hmj
              generalize tAt m c = t at hrd1 hls
              generalize tAt m u = w at hrd2 hls
              have hls' : lessT ⟨t.at', t.stmt, t.seq⟩ ⟨w.at', w.stmt, w.seq⟩ = true := by simpa using hls
              simp (maxDischargeDepth := 99) [-partA, pw0, pw1, c66_0, hlen, f0, f1, f4, f14, f15, f16, hj2, hj2', hrd, hcn, hu, hgi1, hgq1, hrd1, hrd2, T.av, T.cells, D3_41, p41, hls', hw]
              exact ⟨2 - (j + 1), (a_two hj2).1, j + 1, rfl, (a_two hj2).2, by rw [hmu, hmj], by simp⟩
            · rw [if_neg (fun e => hls e.2)] at hmj
              generalize tAt m c = t at hrd1 hls
              generalize tAt m u = w at hrd2 hls
              have hls' : lessT ⟨t.at', t.stmt, t.seq⟩ ⟨w.at', w.stmt, w.seq⟩ = false := by simpa using hls
              simp (maxDischargeDepth := 99) [-partA, pw0, pw1, c66_0, hlen, f0, f1, f4, f14, f15, f16, hj2, hj2', hrd, hcn, hu, hgi1, hgq1, hrd1, hrd2, T.av, T.cells, D3_41, p41, hls', hw]
              exact ⟨2 - (j + 1), (a_two hj2).1, j + 1, rfl, (a_two hj2).2, by rw [hmu, hmj], by simp⟩
          · rw [if_neg (fun e => hcn e.1)] at hmj
            simp (maxDischargeDepth := 99) [-partA, pw0, pw1, c66_0, hlen, f0, f1, f4, f14, f15, f16, hj2, hj2', hrd, hcn, hgi1, hgq1, hw]
            exact ⟨2 - (j + 1), (a_two hj2).1, j + 1, rfl, (a_two hj2).2, by rw [hmu, hmj], by simp⟩
        · have hj2' : ¬ (j : Int) < 2 := by omega
          obtain rfl : j = 2 := by omega
          simp (maxDischargeDepth := 99) [c66_0, hlen, f0, f1, f4, f15, f16]
      · refine ⟨0, rfl, by omega, rfl, by simp [hlen], by simp [hlen, f0], by simp [hlen, f1], by simp [hlen, mj], by simp [hlen], by simp [hlen], by simp [hlen]⟩
    · rintro fr τ' ⟨rfl, hlen, f0, f1, f4⟩
      rw [sinkL] at hsk
      by_cases he : mj m n i 2 = i
      · rw [dif_pos he] at hsk
        simp (maxDischargeDepth := 99) [hlen, f1, f4, he]
        rw [hsk] at hgq1
        exact ⟨hgi1, hgq1, hF1⟩
      · rw [dif_neg he] at hsk
        rcases mj_cases m n i 2 with e | ⟨e1, e2⟩
        · exact absurd e he
        generalize mj m n i 2 = u at hsk he e1 e2 f4
        have hrd1 := tcells_part m i (by omega)
        have hrd2 := tcells_part m u (by omega)
        have hsw1 := write_ts hgq1 (i := i) (by omega) (tAt m u)
        have hsw2 := write_ts (τ := τ'.put q ⟨tcells (m.set i (tAt m u)), .own⟩) (q := q) (m := m.set i (tAt m u)) (by rw [AHeap.get_put', if_pos ⟨rfl, hql1⟩]) (i := u) (by rw [List.length_set]; omega) (tAt m i)
        have hswl : (m.set i (tAt m u)).set u (tAt m i) = swapL m i u := rfl
        rw [hswl] at hsw2
        have hml : (swapL m i u).length = m.length := swapL_length m i u
        have hne' : ¬ id = q := fun e => hne e.symm
        have hin : i < n := by omega
        have hui : ¬ (u : Int) = (i : Int) := by omega
        have hui' : ¬ u = i := he
        generalize swapL m i u = m2 at hsk hsw2 hml
        generalize tAt m i = t at hrd1 hsw2
        generalize tAt m u = w at hrd2 hsw1 hsw2
        simp (maxDischargeDepth := 99) [-partA, -writeAt, pw0, pw1, hlen, f0, f1, f4, hui, hui', hgi1, hgq1, hin, e2, hrd1, hrd2, T.av, T.cells, hsw1, hsw2, hne', hne, hidl1, hql1]
        exact ⟨n - u, by omega, u, rfl, by omega, rfl, m2, rfl, by omega, (hF1.put (.inr (.inl rfl))).put (.inr (.inl rfl)), hsk⟩
  · exact ⟨i, m, rfl, hi, by simp, by simp, by simp, hg, hq, hnm, Fr.refl _ _ _, rfl⟩
end Go.Proofs.Ytdgffilnefnjjaa.Ab
