/- The document's views of any kind: ahead, holds, One. -/
import Derived.Test.YthjijjkoeoemgaaGreatCt24
import Derived.Test.YthjijjkoeoemgaaGreatCt15
import Derived.Test.YthjijjkoeoemgaaGreatCt20r
import Derived.Test.YthjijjkoeoemgaaGreatVal3
namespace Go.Proofs.YthjijjkoeoemgaaGreat.Ab
open Go
set_option maxRecDepth 20000
set_option maxHeartbeats 4000000
set_option linter.unusedSimpArgs false
set_option linter.unusedVariables false

theorem orZ_range : ∀ (l : List Int), (∀ x ∈ l, -1 ≤ x ∧ x ≤ 1) → -1 ≤ orZ l ∧ orZ l ≤ 1
  | [], _ => by simp [orZ]
  | a :: l, h => by
    unfold orZ
    split
    · exact orZ_range l (fun x hx => h x (by simp [hx]))
    · exact h a (by simp)
theorem cmpZ_range (a b : Int) : -1 ≤ cmpZ a b ∧ cmpZ a b ≤ 1 := by
  unfold cmpZ
  split
  · omega
  · split <;> omega
theorem lexV_range (a b : V) : -1 ≤ lexV a b ∧ lexV a b ≤ 1 := by
  unfold lexV
  apply orZ_range
  intro x hx
  simp only [List.mem_cons, List.not_mem_nil, or_false] at hx
  have := cb_lt (ks a) (ks b)
  rcases hx with rfl | rfl | rfl | rfl
  · exact cmpZ_range _ _
  · exact cmpZ_range _ _
  · exact cmpZ_range _ _
  · omega
theorem r_ahead (σ : AHeap) (v : VS) (a b : Arr) (c : Int) (hv : v.ok σ) (hcols : v.cols = [c]) (hc0 : 0 ≤ c) (ha : slVals σ (.one a.row) = some a.vals) (hb : slVals σ (.one b.row) = some b.vals) (ia : VIn a.vals) (ib : VIn b.vals) (f : Nat) (hf : 50 ≤ f) :
    OptP (evCall D9 f 35 [.agg v.cells, .agg [.int .i64 a.seq, .int .i64 a.time, a.row], .agg [.int .i64 b.seq, .int .i64 b.time, b.row]] σ) (fun _ r τ => r = .one (.bool (ltB v a b)) ∧ Keeps σ τ) := by
  obtain ⟨f, rfl⟩ : ∃ k, f = k + 1 := ⟨f - 1, by omega⟩
  refine evCall_code (D9_prim 35) ((D9_code 35).trans coder35) ?_
  rcases slInts_spec hv with ⟨_, hl⟩ | ⟨id0, off0, cap0, hs0, hrd0, _⟩
  · rw [hcols] at hl; cases hl
  have hs : v.s = .slice id0 off0 1 1 cap0 := by
    rw [hcols] at hs0
    injection hs0
  have hrd := hrd0 0 (by rw [hcols]; exact Nat.one_pos)
  simp only [hcols, List.getElem_cons_zero, Nat.add_zero] at hrd
  have hid0 := rd_lt hrd
  obtain ⟨τ, hτ⟩ : ∃ τ, τ = ((σ.alloc ⟨[.int .i64 v.k, .int .i64 v.n, .slice id0 off0 1 1 cap0, .bool v.d], .own⟩).alloc ⟨[.int .i64 a.seq, .int .i64 a.time, a.row], .own⟩).alloc ⟨[.int .i64 b.seq, .int .i64 b.time, b.row], .own⟩ := ⟨_, rfl⟩
  have k0 : Keeps σ τ := by rw [hτ]; exact (((Keeps.refl σ).alloc).alloc).alloc
  have g1 : τ.get σ.size = some ⟨[.int .i64 v.k, .int .i64 v.n, .slice id0 off0 1 1 cap0, .bool v.d], .own⟩ := by rw [hτ]; simp [ar7]
  have g2 : τ.get (σ.size + 1) = some ⟨[.int .i64 a.seq, .int .i64 a.time, a.row], .own⟩ := by rw [hτ]; simp [ar7]
  have g3 : τ.get (σ.size + 1 + 1) = some ⟨[.int .i64 b.seq, .int .i64 b.time, b.row], .own⟩ := by rw [hτ]; simp
  rw [← k0.2 _ hid0] at hrd
  have h1 := r_at τ a.row a.vals c (slVals_keeps k0 ha) hc0 f (by omega)
  have hlex := lexV_range (atV a.vals c) (atV b.vals c)
  have hanti := lexV_anti (atV a.vals c) (atV b.vals c)
  have hanti2 := lexV_anti (atV b.vals c) (atV a.vals c)
  have hO := fun τ2 => r_Order (atV a.vals c) (atV b.vals c) τ2 (atV_in ia c) (atV_in ib c) f (by omega)
  have hlt : ltB v a b = (decide ((if v.d = true then -(lexV (atV a.vals c) (atV b.vals c)) else lexV (atV a.vals c) (atV b.vals c)) < 0) || (decide ((if v.d = true then -(lexV (atV a.vals c) (atV b.vals c)) else lexV (atV a.vals c) (atV b.vals c)) = 0) && decide (a.seq < b.seq))) := by
    unfold ltB cfV
    rw [hcols]
    show (decide ((if v.d = true then lexV (atV b.vals c) (atV a.vals c) else lexV (atV a.vals c) (atV b.vals c)) < 0) || (decide ((if v.d = true then lexV (atV b.vals c) (atV a.vals c) else lexV (atV a.vals c) (atV b.vals c)) = 0) && decide (a.seq < b.seq))) = _
    by_cases hd : v.d = true
    · rw [if_pos hd, if_pos hd]
      have e1 : (lexV (atV b.vals c) (atV a.vals c) < 0) ↔ -(lexV (atV a.vals c) (atV b.vals c)) < 0 := by omega
      have e2 : (lexV (atV b.vals c) (atV a.vals c) = 0) ↔ -(lexV (atV a.vals c) (atV b.vals c)) = 0 := by omega
      simp only [e1, e2]
    · rw [if_neg hd, if_neg hd]
  obtain ⟨z, hz⟩ : ∃ z, z = lexV (atV a.vals c) (atV b.vals c) := ⟨_, rfl⟩
  rw [← hz] at hlex hlt hO
  have hneg : wr .i64 (0 - z) = -z := by rw [wr_near ⟨by omega, by omega⟩]; omega
  have hneg' : wr .i64 (-z) = -z := wr_near ⟨by omega, by omega⟩
  simp (maxDischargeDepth := 99) [cr35, VS.cells, hs, ar7, ar8, ar9]
  rw [← hτ]
  refine ends_draw ?_
  simp (maxDischargeDepth := 99) [g1, g2, hrd, -sameObj]
  refine h1.mono ?_
  rintro w τ2 ⟨rfl, k2⟩
  have hid1 := rd_lt hrd
  have E1 : τ2.get σ.size = τ.get σ.size := k2.2 _ (AHeap.get_lt g1)
  have E3 : τ2.get (σ.size + 1 + 1) = τ.get (σ.size + 1 + 1) := k2.2 _ (AHeap.get_lt g3)
  have Eid : τ2.get id0 = τ.get id0 := k2.2 _ hid1
  have h2 := r_at τ2 b.row b.vals c (slVals_keeps (k0.trans k2) hb) hc0 f (by omega)
  simp (maxDischargeDepth := 99) [E1, E3, Eid, g1, g2, g3, hrd, -sameObj]
  refine h2.mono ?_
  rintro w τ3 ⟨rfl, k3⟩
  have k23 := k2.trans k3
  have F1 : τ3.get σ.size = τ.get σ.size := k23.2 _ (AHeap.get_lt g1)
  simp (maxDischargeDepth := 99) [E1, E3, Eid, F1, g1, g2, g3, hrd, V.av, -sameObj]
  refine (hO τ3).mono ?_
  rintro w τ4 ⟨rfl, k4⟩
  have k24 := k23.trans k4
  have G1 : τ4.get σ.size = some ⟨[.int .i64 v.k, .int .i64 v.n, .slice id0 off0 1 1 cap0, .bool v.d], .own⟩ := by rw [k24.2 _ (AHeap.get_lt g1), g1]
  have G2 : τ4.get (σ.size + 1) = some ⟨[.int .i64 a.seq, .int .i64 a.time, a.row], .own⟩ := by rw [k24.2 _ (AHeap.get_lt g2), g2]
  have G3 : τ4.get (σ.size + 1 + 1) = some ⟨[.int .i64 b.seq, .int .i64 b.time, b.row], .own⟩ := by rw [k24.2 _ (AHeap.get_lt g3), g3]
  have hK := k0.trans k24
  rw [hlt]
  cases hd : v.d with
  | true =>
    rw [hd] at G1
    by_cases c1 : -z < 0
    · have c1' : 0 < z := by omega
      simp (maxDischargeDepth := 99) [E1, E3, Eid, F1, G1, G2, G3, g1, g2, g3, hrd, hneg, hneg', c1, c1', hK, hd, -sameObj]
    · have c1' : ¬ 0 < z := by omega
      by_cases c2 : -z = 0
      · have c2' : z = 0 := by omega
        have w0 : wr .i64 0 = 0 := wr_near ⟨by omega, by omega⟩
        simp (maxDischargeDepth := 99) [E1, E3, Eid, F1, G1, G2, G3, g1, g2, g3, hrd, w0, c2', hK, hd, -sameObj]
      · have c2' : ¬ z = 0 := by omega
        simp (maxDischargeDepth := 99) [E1, E3, Eid, F1, G1, G2, G3, g1, g2, g3, hrd, hneg, hneg', c1, c1', c2, c2', hK, hd, -sameObj]
  | false =>
    rw [hd] at G1
    by_cases c1 : z < 0
    · simp (maxDischargeDepth := 99) [E1, E3, Eid, F1, G1, G2, G3, g1, g2, g3, hrd, c1, hK, hd, -sameObj]
    · by_cases c2 : z = 0
      · simp (maxDischargeDepth := 99) [E1, E3, Eid, F1, G1, G2, G3, g1, g2, g3, hrd, c1, c2, hK, hd, -sameObj]
      · simp (maxDischargeDepth := 99) [E1, E3, Eid, F1, G1, G2, G3, g1, g2, g3, hrd, c1, c2, hK, hd, -sameObj]

/-! ### holds -/
theorem pref_cnt {v : VS} {l : List Arr} {a : Arr} {i : Nat} (h : i < l.length) : cntB v (l.take (i + 1)) a = cntB v (l.take i) a + (if ltB v (rAt l i) a = true then 1 else 0) := by
  unfold cntB
  rw [take_next h, List.filter_append, List.length_append]
  split
  · rename_i hc; simp [hc]
  · rename_i hc; simp [hc]
def IH7 (σ : AHeap) (s : AV) (l : List Arr) (v : VS) (i : Nat) (k : Nat) (fr : List AV) (τ : AHeap) : Prop :=
  ∃ j, k = l.length - j ∧ j ≤ l.length ∧ fr.length = 173 ∧ getSlot fr 1 = s ∧ getSlot fr 2 = .one (.int .i64 (i : Int)) ∧ getSlot fr 4 = .one (.ptr σ.size 0) ∧ getSlot fr 9 = .one (.int .i64 (l.length : Int)) ∧ getSlot fr 14 = .one (.int .i64 ((cntB v (l.take j) (rAt l i) : Nat) : Int)) ∧ getSlot fr 15 = .one (.int .i64 (j : Int)) ∧ Keeps σ τ ∧ τ.get σ.size = some ⟨v.cells, .own⟩
theorem rholds7 (σ : AHeap) (s : AV) (l : List Arr) (v : VS) (now c : Int) (i : Nat) (h : Arrs σ s l) (hi : i < l.length) (hk : v.k = 7) (hv : v.ok σ) (hcols : v.cols = [c]) (hc0 : 0 ≤ c) (hin : ∀ a ∈ l, VIn a.vals) (hm : l.length ≤ 200) (f : Nat) (hf : 400 ≤ f) :
    OptP (evCall D9 f 21 [.agg v.cells, s, .one (.int .i64 (i : Int)), .one (.int .i64 now)] σ) (fun _ r τ => r = .one (.bool (decide ((cntB v l (rAt l i) : Int) < v.n))) ∧ Keeps σ τ) := by
  obtain ⟨f, rfl⟩ : ∃ k, f = k + 1 := ⟨f - 1, by omega⟩
  refine evCall_code (D9_prim 21) ((D9_code 21).trans coder21) ?_
  rcases h.rd with ⟨_, rfl⟩ | ⟨id, off, cap, rfl, hmx, hrd⟩
  · simp at hi
  obtain ⟨τ0, hτ0⟩ : ∃ τ0, τ0 = σ.alloc ⟨[.int .i64 7, .int .i64 v.n, v.s, .bool v.d], .own⟩ := ⟨_, rfl⟩
  have k0 : Keeps σ τ0 := by rw [hτ0]; exact (Keeps.refl _).alloc
  have g0 : τ0.get σ.size = some ⟨v.cells, .own⟩ := by rw [hτ0]; simp [VS.cells, hk]
  simp (maxDischargeDepth := 99) [cr21, VS.cells, hk]
  rw [← hτ0]
  refine ends_to 3 (IH7 σ (.one (.slice id off 3 l.length cap)) l v i 0) ?_ ?_
  · refine ends_loop (I := IH7 σ (.one (.slice id off 3 l.length cap)) l v i) ?_ (k := l.length) ?_ (by omega)
    · rintro k fr τ ⟨j, rfl, hj, hl, f1, f2, f4, f9, f14, f15, hkp, hb⟩
      by_cases hlt : j < l.length
      · have hlt' : (j : Int) < (l.length : Int) := Int.ofNat_lt.2 hlt
        have hw := wr_next hlt hmx
        have hcn := pref_cnt (v := v) (a := rAt l i) hlt
        have hcl : cntB v (l.take j) (rAt l i) ≤ 200 := by
          unfold cntB
          have := List.length_filter_le (fun b => ltB v b (rAt l i)) (l.take j)
          rw [List.length_take] at this
          omega
        have hend : ∀ fr' τ', fr'.length = 173 → getSlot fr' 1 = getSlot fr 1 → getSlot fr' 2 = getSlot fr 2 → getSlot fr' 4 = getSlot fr 4 → getSlot fr' 9 = getSlot fr 9 → getSlot fr' 14 = .one (.int .i64 ((cntB v (l.take (j + 1)) (rAt l i) : Nat) : Int)) → getSlot fr' 15 = .one (.int .i64 ((j + 1 : Nat) : Int)) → Keeps τ τ' → ∃ z, z < l.length - j ∧ IH7 σ (.one (.slice id off 3 l.length cap)) l v i z fr' τ' :=
          fun fr' τ' a0 a1 a2 a4 a9 a14 a15 a16 => ⟨l.length - (j + 1), y1 hlt, j + 1, rfl, hlt, a0, by rw [a1, f1], by rw [a2, f2], by rw [a4, f4], by rw [a9, f9], a14, a15, hkp.trans a16, by rw [a16.2 _ (AHeap.get_lt hb), hb]⟩
        by_cases hji : j = i
        · have e0 : ltB v (rAt l j) (rAt l i) = false := by rw [hji]; exact ltB_self _ _
          rw [e0, if_neg (by simp)] at hcn
          rw [hcn.trans (Nat.add_zero _)] at hend
          have hji' : (j : Int) = (i : Int) := by rw [hji]
          rw [hji] at hw hend f14
          simp (maxDischargeDepth := 99) [cr21_1, hl, f1, f2, f4, f9, f14, f15, hi, hlt', hji', hji, hw, -Int.natCast_add]
          exact hend _ _ (by simp [hl]) (by simp [hl]) (by simp [hl]) (by simp [hl]) (by simp [hl]) (by simp [hl, f14]) (by simp [hl, -Int.natCast_add]) (Keeps.refl _)
        · have hji' : ¬ (j : Int) = (i : Int) := fun e => hji (Int.ofNat_inj.1 e)
          obtain ⟨p0, _, _, _⟩ := hrd j hlt
          obtain ⟨q0, _, _, _⟩ := hrd i hi
          have hidσ := rd_lt p0
          rw [← hkp.2 id hidσ] at p0 q0
          have hA := r_ahead τ v (rAt l j) (rAt l i) c (hv.keeps hkp) hcols hc0 (slVals_keeps hkp (h.2 _ (rAt_mem hlt))) (slVals_keeps hkp (h.2 _ (rAt_mem hi))) (hin _ (rAt_mem hlt)) (hin _ (rAt_mem hi)) f (by omega)
          obtain ⟨n0, hn0⟩ : ∃ n0, n0 = cntB v (l.take j) (rAt l i) := ⟨_, rfl⟩
          rw [← hn0] at hcn hcl f14
          have hw2 : wr .i64 ((n0 : Int) + 1) = ((n0 + 1 : Nat) : Int) := wr_succ (by omega)
          obtain ⟨n1, hn1⟩ : ∃ n1, n1 = cntB v (l.take (j + 1)) (rAt l i) := ⟨_, rfl⟩
          rw [← hn1] at hcn hend
          unfold VS.cells at hb hA
          generalize rAt l j = x at p0 hA hcn
          generalize rAt l i = y at q0 hA hcn
          simp only [Arr.av, Arr.cells] at p0 q0
          simp (maxDischargeDepth := 99) [cr21_1, hl, f1, f2, f4, f9, f14, f15, hlt, hlt', hi, hji', hji, p0, q0, hb]
          refine hA.mono ?_
          rintro r τ2 ⟨rfl, k2⟩
          cases hB : ltB v x y with
          | true =>
            rw [hB, if_pos rfl] at hcn
            rw [hcn] at hend
            simp (maxDischargeDepth := 99) [hl, f14, f15, hw, hw2, -Int.natCast_add]
            exact hend _ _ (by simp [hl]) (by simp [hl]) (by simp [hl]) (by simp [hl]) (by simp [hl]) (by simp [hl, -Int.natCast_add]) (by simp [hl, -Int.natCast_add]) k2
          | false =>
            rw [hB, if_neg (by simp)] at hcn
            rw [hcn.trans (Nat.add_zero _)] at hend
            simp (maxDischargeDepth := 99) [hl, f14, f15, hw, -Int.natCast_add]
            exact hend _ _ (by simp [hl]) (by simp [hl]) (by simp [hl]) (by simp [hl]) (by simp [hl]) (by simp [hl, f14]) (by simp [hl, -Int.natCast_add]) k2
      · obtain rfl : j = l.length := by omega
        simp (maxDischargeDepth := 99) [cr21_1, hl, f9, f15]
        exact ⟨l.length, by omega, Nat.le_refl _, by simp [hl], by simp [hl, f1], by simp [hl, f2], by simp [hl, f4], by simp [hl, f9], by simp [hl, f14], by simp [hl, f15], hkp, hb⟩
    · exact ⟨0, rfl, Nat.zero_le _, by simp, by simp, by simp, by simp, by simp, by simp [cntB], by simp, k0, g0⟩
  · rintro fr τ ⟨j, hj0, hj, hl, f1, f2, f4, f9, f14, f15, hkp, hb⟩
    obtain rfl : j = l.length := by omega
    rw [List.take_of_length_le (Nat.le_refl _)] at f14
    unfold VS.cells at hb
    simp (maxDischargeDepth := 99) [hl, f4, f14, hb, hkp]
end Go.Proofs.YthjijjkoeoemgaaGreat.Ab
