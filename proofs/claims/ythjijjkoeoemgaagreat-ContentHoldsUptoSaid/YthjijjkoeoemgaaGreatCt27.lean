/- The document's views of any kind: holds and One, whole; Of. -/
import Derived.Test.YthjijjkoeoemgaaGreatCt26
import Derived.Test.YthjijjkoeoemgaaGreatCt25
import Derived.Test.YthjijjkoeoemgaaGreatLitB
namespace Go.Proofs.YthjijjkoeoemgaaGreat.Ab
open Go
set_option maxRecDepth 20000
set_option maxHeartbeats 4000000
set_option linter.unusedSimpArgs false
set_option linter.unusedVariables false

theorem rholdsA (σ : AHeap) (s : AV) (l : List Arr) (v : VS) (now : Int) (i : Nat) (h : Arrs σ s l) (hi : i < l.length) (hm : l.length ≤ 200) (hk : v.k = 1 ∨ v.k = 8 ∨ v.k = 9 ∨ ((v.k = 2 ∨ v.k = 4) ∧ 1 ≤ v.n ∧ v.n ≤ 65536)) (f : Nat) (hf : 5 ≤ f) :
    OptP (evCall D9 f 21 [.agg v.cells, s, .one (.int .i64 (i : Int)), .one (.int .i64 now)] σ) (fun _ r τ => r = .one (.bool (holdsP v l now i (rAt l i))) ∧ Keeps σ τ) := by
  obtain ⟨f, rfl⟩ : ∃ k, f = k + 1 := ⟨f - 1, by omega⟩
  refine evCall_code (D9_prim 21) ((D9_code 21).trans coder21) ?_
  unfold holdsP
  rcases h.rd with ⟨_, rfl⟩ | ⟨id, off, cap, rfl, hmx, hrd⟩
  · simp at hi
  rcases hk with hk | hk | hk | ⟨hk, n1, n2⟩
  · simp (maxDischargeDepth := 99) [cr21, VS.cells, hk]
  · have w1 : wr .i64 ((l.length : Int) - 1) = (l.length : Int) - 1 := wr_near ⟨by omega, by omega⟩
    simp (maxDischargeDepth := 99) [cr21, VS.cells, hk, w1]
  · simp (maxDischargeDepth := 99) [cr21, VS.cells, hk]
  · rcases hk with hk | hk
    · have w1 : wr .i64 ((l.length : Int) - v.n) = (l.length : Int) - v.n := wr_near ⟨by omega, by omega⟩
      simp (maxDischargeDepth := 99) [cr21, VS.cells, hk, w1]
    · obtain ⟨N, hN⟩ : ∃ N : Nat, v.n = (N : Int) := ⟨v.n.toNat, by omega⟩
      obtain ⟨b, hb⟩ : ∃ b, b = l.length / N := ⟨_, rfl⟩
      have hbN : b * N ≤ l.length := by rw [hb]; exact Nat.div_mul_le_self _ _
      have hb1 : b ≤ l.length := by rw [hb]; exact Nat.div_le_self _ _
      have e1 : ((l.length : Int)).tdiv (N : Int) = (b : Int) := by rw [hb, Int.tdiv_eq_ediv_of_nonneg (by omega)]; rfl
      have w0 : wr .i64 (((l.length : Int)).tdiv (N : Int)) = (b : Int) := by rw [e1]; exact wr_nat (by omega)
      have w0' : wr .i64 ((l.length : Int) / (N : Int)) = (b : Int) := by rw [← Int.tdiv_eq_ediv_of_nonneg (by omega)]; exact w0
      have w3 : wr .i64 ((b : Int) * (N : Int)) = ((b * N : Nat) : Int) := by rw [← Int.natCast_mul]; exact wr_nat (by omega)
      have hnz : ¬ (N : Int) = 0 := by omega
      have hnz' : ¬ N = 0 := by omega
      unfold lbP
      rw [hN, Int.toNat_natCast, ← hb]
      by_cases hb0 : 0 < b
      · obtain ⟨b, rfl⟩ : ∃ b', b = b' + 1 := ⟨b - 1, by omega⟩
        have hcN : b * N ≤ (b + 1) * N := Nat.mul_le_mul_right N (Nat.le_succ _)
        have w1 : wr .i64 (((b + 1 : Nat) : Int) - 1) = (b : Int) := wr_pred (by omega)
        have w2 : wr .i64 ((b : Int) * (N : Int)) = ((b * N : Nat) : Int) := by rw [← Int.natCast_mul]; exact wr_nat (by omega)
        have hpos : (0 : Int) < ((b + 1 : Nat) : Int) := by omega
        rw [show (b + 1 - 1) * N = b * N by rw [Nat.add_sub_cancel]]
        by_cases c1 : b * N ≤ i
        · have c1' : ((b * N : Nat) : Int) ≤ (i : Int) := Int.ofNat_le.2 c1
          by_cases c2 : i < (b + 1) * N
          · have c2' : (i : Int) < (((b + 1) * N : Nat) : Int) := Int.ofNat_lt.2 c2
            simp (maxDischargeDepth := 99) [cr21, VS.cells, hk, hN, w0, w0', w1, w2, w3, hnz, hnz', hpos, c1, c1', c2, c2', -Int.natCast_mul, -Int.natCast_add]
          · have c2' : ¬ (i : Int) < (((b + 1) * N : Nat) : Int) := fun e => c2 (Int.ofNat_lt.1 e)
            simp (maxDischargeDepth := 99) [cr21, VS.cells, hk, hN, w0, w0', w1, w2, w3, hnz, hnz', hpos, c1, c1', c2, c2', -Int.natCast_mul, -Int.natCast_add]
        · have c1' : ¬ ((b * N : Nat) : Int) ≤ (i : Int) := fun e => c1 (Int.ofNat_le.1 e)
          simp (maxDischargeDepth := 99) [cr21, VS.cells, hk, hN, w0, w0', w1, w2, w3, hnz, hnz', hpos, c1, c1', -Int.natCast_mul, -Int.natCast_add]
      · obtain rfl : b = 0 := by omega
        simp only [Int.natCast_zero] at w0 w0'
        simp (maxDischargeDepth := 99) [cr21, VS.cells, hk, hN, w0, w0', hnz, hnz']
def IH6 (σ : AHeap) (s : AV) (l : List Arr) (v : VS) (i : Nat) (k : Nat) (fr : List AV) (τ : AHeap) : Prop :=
  ∃ j, k = l.length - j ∧ i < j ∧ j ≤ l.length ∧ fr.length = 173 ∧ getSlot fr 1 = s ∧ getSlot fr 2 = .one (.int .i64 (i : Int)) ∧ getSlot fr 4 = .one (.ptr σ.size 0) ∧ getSlot fr 9 = .one (.int .i64 (l.length : Int)) ∧ getSlot fr 13 = .one (.int .i64 (j : Int)) ∧ Keeps σ τ ∧ τ.get σ.size = some ⟨v.cells, .own⟩ ∧
    ∀ p, i < p → p < j → keyL (rAt l p).vals v.cols ≠ keyL (rAt l i).vals v.cols
theorem uniq_true {v : VS} {l : List Arr} {i : Nat} (h : ∀ p, i < p → p < l.length → keyL (rAt l p).vals v.cols ≠ keyL (rAt l i).vals v.cols) : uniqP v l i (rAt l i) = true := by
  unfold uniqP
  rw [Bool.not_eq_true', List.any_eq_false]
  intro a ha
  obtain ⟨j, hj, rfl⟩ := List.mem_iff_getElem.1 ha
  rw [List.length_drop] at hj
  rw [List.getElem_drop, ← rAt_get (by omega)]
  simpa using h (i + 1 + j) (by omega) (by omega)
theorem uniq_false {v : VS} {l : List Arr} {i p : Nat} (h1 : i < p) (h2 : p < l.length) (h : keyL (rAt l p).vals v.cols = keyL (rAt l i).vals v.cols) : uniqP v l i (rAt l i) = false := by
  unfold uniqP
  rw [Bool.not_eq_false', List.any_eq_true]
  refine ⟨rAt l p, ?_, by simpa using h⟩
  rw [List.mem_iff_getElem]
  refine ⟨p - (i + 1), by rw [List.length_drop]; omega, ?_⟩
  rw [List.getElem_drop, ← rAt_get (by omega)]
  congr 1
  omega
theorem rholds6 (σ : AHeap) (s : AV) (l : List Arr) (v : VS) (now : Int) (i : Nat) (h : Arrs σ s l) (hi : i < l.length) (hk : v.k = 6) (hv : v.ok σ) (hc : ∀ c ∈ v.cols, 0 ≤ c) (hmc : v.cols.length ≤ maxElems) (hm : l.length ≤ 200) (f : Nat) (hf : v.cols.length + 400 ≤ f) :
    OptP (evCall D9 f 21 [.agg v.cells, s, .one (.int .i64 (i : Int)), .one (.int .i64 now)] σ) (fun _ r τ => r = .one (.bool (uniqP v l i (rAt l i))) ∧ Keeps σ τ) := by
  obtain ⟨f, rfl⟩ : ∃ k, f = k + 1 := ⟨f - 1, by omega⟩
  refine evCall_code (D9_prim 21) ((D9_code 21).trans coder21) ?_
  rcases h.rd with ⟨_, rfl⟩ | ⟨id, off, cap, rfl, hmx, hrd⟩
  · simp at hi
  obtain ⟨τ0, hτ0⟩ : ∃ τ0, τ0 = σ.alloc ⟨[.int .i64 6, .int .i64 v.n, v.s, .bool v.d], .own⟩ := ⟨_, rfl⟩
  have k0 : Keeps σ τ0 := by rw [hτ0]; exact (Keeps.refl _).alloc
  have g0 : τ0.get σ.size = some ⟨v.cells, .own⟩ := by rw [hτ0]; simp [VS.cells, hk]
  have hw0 := wr_next hi hmx
  simp (maxDischargeDepth := 99) [cr21, VS.cells, hk, hw0, -Int.natCast_add]
  rw [← hτ0]
  refine ends_to 1 (fun fr τ => fr.length = 173 ∧ Keeps σ τ ∧ uniqP v l i (rAt l i) = true) ?_ ?_
  · refine ends_loop (I := IH6 σ (.one (.slice id off 3 l.length cap)) l v i) ?_ (k := l.length - (i + 1)) ?_ (by omega)
    · rintro k fr τ ⟨j, rfl, hij, hj, hl, f1, f2, f4, f9, f13, hkp, hb, hall⟩
      by_cases hlt : j < l.length
      · have hlt' : (j : Int) < (l.length : Int) := Int.ofNat_lt.2 hlt
        have hw := wr_next hlt hmx
        obtain ⟨_, _, _, p3⟩ := hrd j hlt
        obtain ⟨_, _, _, q3⟩ := hrd i hi
        have hidσ := rd_lt p3
        have hid : id < τ.size := Nat.lt_of_lt_of_le hidσ hkp.1
        rw [← hkp.2 id hidσ] at p3 q3
        have hr1 := slVals_keeps hkp (h.2 _ (rAt_mem hlt))
        have hr2 := slVals_keeps hkp (h.2 _ (rAt_mem hi))
        have hun := uniq_false (v := v) (l := l) hij hlt
        have hK1 := r_key τ (rAt l j).row v.s (rAt l j).vals v.cols hr1 (hv.keeps hkp) hc f (by omega)
        have hbl := AHeap.get_lt hb
        have hvok := hv.keeps hkp
        unfold VS.cells at hb
        simp (maxDischargeDepth := 99) [cr21_0, hl, f1, f2, f4, f9, f13, hlt, hlt']
        refine ends_draw ?_
        simp (maxDischargeDepth := 99) [hl, f1, f2, f4, f9, f13, hlt, hlt', hi, p3, hb, -sameObj]
        refine hK1.mono ?_
        rintro x τ2 ⟨hO1, k2⟩
        have E1 : τ2.get σ.size = τ.get σ.size := k2.2 _ hbl
        have Eid : τ2.get id = τ.get id := k2.2 _ hid
        have hK2 := r_key τ2 (rAt l i).row v.s (rAt l i).vals v.cols (slVals_keeps k2 hr2) (hvok.keeps k2) hc f (by omega)
        simp (maxDischargeDepth := 99) [hl, f1, f2, f4, f9, f13, hlt, hlt', hi, p3, q3, hb, E1, Eid, -sameObj]
        refine hK2.mono ?_
        rintro y τ3 ⟨hO2, k3⟩
        have v1 : slVals τ3 x = some (keyL (rAt l j).vals v.cols) := slVals_keeps k3 (slVals_out (by rw [keyL_len]; exact hO1) (by rw [keyL_len]; exact hmc))
        have v2 : slVals τ3 y = some (keyL (rAt l i).vals v.cols) := slVals_out (by rw [keyL_len]; exact hO2) (by rw [keyL_len]; exact hmc)
        have hE := run19 D9 (D9_prim 15) ((D9_code 15).trans code19) τ3 x y _ _ v1 v2 f (by rw [keyL_len]; omega)
        simp (maxDischargeDepth := 99) [hl, E1, Eid, p3, q3, hb, -sameObj]
        refine hE.mono ?_
        rintro w τ4 ⟨rfl, rfl⟩
        have k23 := k2.trans k3
        have hb4 : τ4.get σ.size = some ⟨[.int .i64 v.k, .int .i64 v.n, v.s, .bool v.d], .own⟩ := by rw [k23.2 _ hbl, hb]
        by_cases he : keyL (rAt l j).vals v.cols = keyL (rAt l i).vals v.cols
        · have hu := hun he
          simp (maxDischargeDepth := 99) [hl, E1, Eid, p3, q3, hb, he, hu, hkp.trans k23, -sameObj]
        · simp (maxDischargeDepth := 99) [hl, E1, Eid, p3, q3, hb, he, f13, hw, -sameObj, -Int.natCast_add]
          refine ⟨l.length - (j + 1), y1 hlt, j + 1, rfl, Nat.lt_succ_of_lt hij, hlt, by simp [hl], by simp [hl, f1], by simp [hl, f2], by simp [hl, f4], by simp [hl, f9], by simp [hl, -Int.natCast_add], hkp.trans k23, hb4, fun p h1 h2 => ?_⟩
          by_cases g : p = j
          · rw [g]; exact he
          · exact hall p h1 (by omega)
      · obtain rfl : j = l.length := by omega
        have hu := uniq_true (v := v) hall
        simp (maxDischargeDepth := 99) [cr21_0, hl, f9, f13, hkp, hu]
    · exact ⟨i + 1, rfl, Nat.lt_succ_self i, hi, by simp, by simp, by simp, by simp, by simp, by simp [-Int.natCast_add], k0, g0, fun p h1 h2 => by omega⟩
  · rintro fr τ ⟨hl, hkp, hu⟩
    simp (maxDischargeDepth := 99) [hl, hkp, hu]
theorem rOneF (σ : AHeap) (s : AV) (l : List Arr) (v : VS) (now : Int) (hA : Arrs σ s l) (hv : v.ok σ) (hL : LOk l now) (C : Nat) (hC : v.cols.length ≤ C) (f : Nat) (hf : C + 1000 ≤ f) :
    OptP (evCall D9 f 11 [.agg v.cells, s, .one (.int .i64 now)] σ) (fun _ r τ => Arrs τ r (heldF v l now) ∧ Keeps σ τ) := by
  have ht := hL.t
  have hlen := ht.len
  refine rOne σ s l v now hA hv (C + 500) (holdsP v l now) _ (fun hpos hok τ hkp i hi f hf => ?_) (fun h => by unfold heldF; rw [if_neg (by omega)]) (fun h => by unfold heldF; rw [if_neg (fun e => h e.2)]) (fun h1 h2 => by unfold heldF; rw [if_pos ⟨h1, h2⟩]) hlen f (by omega)
  rcases okL_cases hok with ⟨hk, hn⟩ | ⟨hk, n1, n2⟩ | ⟨hk, n1, n2⟩ | ⟨hk, hcols⟩ | ⟨hk, n1, n2, c, hcols, hc0, _⟩
  · exact rholdsA τ s l v now i (hA.keeps hkp) hi hlen (by rcases hk with h | h | h; exact .inl h; exact .inr (.inl h); exact .inr (.inr (.inl h))) f (by omega)
  · exact rholdsA τ s l v now i (hA.keeps hkp) hi hlen (.inr (.inr (.inr ⟨hk, n1, n2⟩))) f (by omega)
  · rcases hk with hk | hk
    · have e : holdsP v l now i (rAt l i) = timeP v now (rAt l i) := by unfold holdsP; rw [if_neg (by omega), if_neg (by omega), if_neg (by omega), if_neg (by omega), if_pos hk]
      rw [e]
      exact rholds3 τ s l v now i (hA.keeps hkp) hi hk (near_sub hL.n0 ht.up (by omega) n2) f (by omega)
    · have e : holdsP v l now i (rAt l i) = batchP v (bNo l now v.n) (t0 l + (bNo l now v.n - 1) * v.n) (rAt l i) := by unfold holdsP; rw [if_neg (by omega), if_neg (by omega), if_neg (by omega), if_neg (by omega), if_neg (by omega), if_neg (by omega), if_pos hk]
      rw [e]
      obtain ⟨z0, z1, z2⟩ := ht.zero hpos
      exact rholds5 τ s l v now i (hA.keeps hkp) hi hk z0 z1 (by omega) n1 n2 f (by omega)
  · have e : holdsP v l now i (rAt l i) = uniqP v l i (rAt l i) := by unfold holdsP; rw [if_neg (by omega), if_neg (by omega), if_neg (by omega), if_neg (by omega), if_neg (by omega), if_neg (by omega), if_neg (by omega), if_pos hk]
    rw [e]
    exact rholds6 τ s l v now i (hA.keeps hkp) hi hk (hv.keeps hkp) (fun c hc => (hcols c hc).1) (slInts_max hv) hlen f (by omega)
  · have e : holdsP v l now i (rAt l i) = decide ((cntB v l (rAt l i) : Int) < v.n) := by unfold holdsP; rw [if_neg (by omega), if_neg (by omega), if_neg (by omega), if_neg (by omega), if_neg (by omega), if_neg (by omega), if_neg (by omega), if_neg (by omega)]
    rw [e]
    exact rholds7 τ s l v now c i (hA.keeps hkp) hi hk (hv.keeps hkp) hcols hc0 hL.vin hlen f (by omega)
end Go.Proofs.YthjijjkoeoemgaaGreat.Ab
