/- The law of what is held. -/
import Derived.Test.YthjijjkoeoemgaaGreatCt30
import Derived.Test.YthjijjkoeoemgaaGreatCt29
import Derived.Test.YthjijjkoeoemgaaGreatCt28b
import Derived.Test.YthjijjkoeoemgaaGreatLitB
namespace Go.Proofs.YthjijjkoeoemgaaGreat.Ab
open Go
set_option maxRecDepth 20000
set_option maxHeartbeats 4000000
set_option linter.unusedSimpArgs false
set_option linter.unusedVariables false

def IHo (σ : AHeap) (s sl sg : AV) (n : Int) (vs : List VS) (k : Nat) (fr : List AV) (τ : AHeap) : Prop :=
  ∃ i, k = vs.length - i ∧ i ≤ vs.length ∧ fr.length = 59 ∧ getSlot fr 0 = s ∧ getSlot fr 1 = sl ∧ getSlot fr 2 = .one (.int .i64 n) ∧ getSlot fr 7 = sg ∧ getSlot fr 8 = .one (.int .i64 (i : Int)) ∧ Keeps σ τ
def OHo (σ : AHeap) (sl sg : AV) (fr : List AV) (τ : AHeap) : Prop :=
  fr.length = 59 ∧ getSlot fr 1 = sl ∧ getSlot fr 7 = sg ∧ Keeps σ τ
theorem hfuel {x K f n C l : Nat} (h : x ≤ 200) (hf : n + l + C + K + 4000 ≤ f + 1) : x + K + 12 ≤ f := by omega
theorem run_H (σ : AHeap) (s s1 : AV) (l : List Arr) (vs : List VS) (now : Int) (hV : Views σ s vs) (hN : NoCap s) (h : Arrs σ s1 l) (hl : l.length ≤ 1048576) (hvin : ∀ a ∈ l, VIn a.vals) (K : Nat) (hK : ∀ a ∈ l, a.vals.length ≤ K) (C : Nat) (hC : ∀ v ∈ vs, v.cols.length ≤ C) (f : Nat) (hf : vs.length + l.length + C + K + 4000 ≤ f) :
    OptP (evCall D9 f 3 [s, s1, .one (.int .i64 now)] σ) (fun _ v _ => v = .one (.bool true)) := by
  obtain ⟨f, rfl⟩ : ∃ k, f = k + 1 := ⟨f - 1, by omega⟩
  refine evCall_code (D9_prim 3) ((D9_code 3).trans codeh3) ?_
  have hm := hV.1.1
  simp only [List.length_map] at hm
  simp (maxDischargeDepth := 99) [ch3]
  refine (run10 σ s1 l now h hl f (by omega)).mono ?_
  rintro v τ ⟨a', t', rfl, rfl, hO, hk⟩
  have hL := fitL_ok2 hvin now
  have h200 := fitL_len l
  have hA : Arrs τ a' (fitL l).1 := acells_outsl hO (Nat.le_trans (fitL_len l) (by decide)) (fun a ha => (h.keeps hk).2 a (fitL_mem ha))
  have hV2 := hV.keeps hk
  have hK2 : ∀ a ∈ (fitL l).1, a.vals.length ≤ K := fun a ha => hK a (fitL_mem ha)
  generalize (fitL l).1 = A at hL hA h200 hK2
  generalize nowL l now = n at hL ⊢
  simp (maxDischargeDepth := 99)
  refine (run_lc τ a' A hA hL.t.vals f (by omega)).mono ?_
  rintro sg τ1 ⟨B, hB1, hB2, hB3, k1⟩
  have hBl := keys_len' hB1
  have hBA : Arrs τ1 sg B := arrs_copy (by unfold maxElems; omega) hB1 hB2 hB3
  have hBG : 0 < B.length → Grown τ1 sg B := grown_out hB3
  have hLB : LOk B n := LOk.keys hB1 hL
  have hS := ofL_sub vs B n
  have hS2 := ofL_sub vs A n
  simp (maxDischargeDepth := 99)
  refine (run_Of τ1 s sg B vs n (hV2.keeps k1) hN hBA hBG hLB C hC (fun a ha => hS.subset ha) hS.length_le f (by omega)).mono ?_
  rintro r τ2 ⟨⟨O1, e1, hO1, _⟩, k2⟩
  simp (maxDischargeDepth := 99)
  refine (rOf τ2 s a' A vs n ((hV2.keeps k1).keeps k2) ((hA.keeps k1).keeps k2) hL C hC f (by omega)).mono ?_
  rintro r2 τ3 ⟨hO2, k3⟩
  have hsame : sameA O1 (ofL vs A n) = true := sameA_keys' (e1.trans (ofL_keys hB1 vs n))
  have hO1l : O1.length ≤ A.length := by have := keys_len' e1; have := hS.length_le; omega
  have hO1K : ∀ a ∈ O1, a.vals.length ≤ K := keys_vals' (e1.trans (ofL_keys hB1 vs n)) (fun a ha => hK2 a (hS2.subset ha))
  simp (maxDischargeDepth := 99)
  refine (run12 τ3 r r2 O1 (ofL vs A n) (hO1.keeps k3) hO2 K hO1K f (by omega)).mono ?_
  rintro w τ4 ⟨rfl, rfl⟩
  have kk := k1.trans (k2.trans k3)
  have hV3 := hV2.keeps kk
  have hA3 := hA.keeps kk
  have hB3 := hBA.keeps (k2.trans k3)
  have hG3 : 0 < B.length → Grown τ4 sg B := fun h => (hBG h).keeps (k2.trans k3)
  simp (maxDischargeDepth := 99) [hsame]
  refine ends_to 0 (OHo τ4 a' sg) ?_ ?_
  · rcases hV3.rd with ⟨rfl, rfl⟩ | ⟨id, off, cap, rfl, hid, _, hrd⟩
    · refine ends_loop (I := IHo τ4 (.one .nilSlice) a' sg n []) ?_ (k := 0) ?_ (by omega)
      · rintro k fr τ ⟨i, rfl, hi, hl, f0, f1, f2, f7, f8, hk⟩
        obtain rfl : i = 0 := by simpa using hi
        simp (maxDischargeDepth := 99) [ch3_0, hl, f0, f8]
        exact ⟨by simp [hl], by simp [hl, f1], by simp [hl, f7], hk⟩
      · exact ⟨0, rfl, Nat.zero_le _, by simp, by simp, by simp, by simp, by simp, by simp, Keeps.refl _⟩
    · refine ends_loop (I := IHo τ4 (.one (.slice id off 4 vs.length cap)) a' sg n vs) ?_ (k := vs.length) ?_ (by omega)
      · rintro k fr τ ⟨i, rfl, hi, hl, f0, f1, f2, f7, f8, hk⟩
        by_cases hlt : i < vs.length
        · have hlt' : (i : Int) < (vs.length : Int) := Int.ofNat_lt.2 hlt
          by_cases h8 : i < 8
          · have h8' : (i : Int) < 8 := by omega
            have p1 := hrd i hlt
            have hid2 : id < τ.size := Nat.lt_of_lt_of_le hid hk.1
            rw [← hk.2 id hid] at p1
            have hw : wr .i64 ((i : Int) + 1) = ((i + 1 : Nat) : Int) := wr_next hlt hm
            have hmem := vAt_mem hlt
            have hv := (hV3.2 _ hmem).keeps hk
            have hc := hC _ hmem
            generalize vAt vs i = v at p1 hv hc
            have r1 := run_One τ sg B v n (hB3.keeps hk) (fun h => (hG3 h).keeps hk) hv hLB C hc f (by omega)
            have r2 := fun τ2 (k2 : Keeps τ τ2) => rOneF τ2 a' A v n ((hA3.keeps hk).keeps k2) (hv.keeps k2) hL C hc f (by omega)
            have hkeys := heldF_keys hB1 v n
            have hX1 := heldF_len v B n
            have hX2 := heldF_sublist v A n
            unfold VS.cells at p1 r1 r2
            simp (maxDischargeDepth := 99) [ch3_0, hl, f0, f1, f2, f7, f8, hlt, hlt', h8, h8']
            refine ends_draw ?_
            simp (maxDischargeDepth := 99) [hl, f0, f1, f2, f7, f8, hlt, hlt', p1, -sameObj]
            refine r1.mono ?_
            rintro x τ5 ⟨⟨X1, e1, hX1A, _⟩, k5⟩
            have Eid : τ5.get id = τ.get id := k5.2 _ hid2
            simp (maxDischargeDepth := 99) [hl, f0, f1, f2, f7, f8, hlt, hlt', p1, Eid, -sameObj]
            refine (r2 τ5 k5).mono ?_
            rintro y τ6 ⟨hY, k6⟩
            have hsm : sameA X1 (heldF v A n) = true := sameA_keys' (e1.trans hkeys)
            have hXl : X1.length ≤ 200 := by rw [keys_len' e1]; exact Nat.le_trans hX1 hLB.t.len
            have hXK : ∀ a ∈ X1, a.vals.length ≤ K := keys_vals' (e1.trans hkeys) (fun a ha => hK2 a (hX2.subset ha))
            simp (maxDischargeDepth := 99) [hl, Eid, -sameObj]
            refine (run12 τ6 x y X1 (heldF v A n) (hX1A.keeps k6) hY K hXK f (hfuel hXl hf)).mono ?_
            rintro w τ7 ⟨rfl, rfl⟩
            simp (maxDischargeDepth := 99) [hl, f8, hw, Eid, hsm, -sameObj, -Int.natCast_add]
            exact ⟨vs.length - (i + 1), y1 hlt, i + 1, rfl, hlt, by simp [hl], by simp [hl, f0], by simp [hl, f1], by simp [hl, f2], by simp [hl, f7], by simp [hl, -Int.natCast_add], hk.trans (k5.trans k6)⟩
          · have h8' : ¬ (i : Int) < 8 := by omega
            simp (maxDischargeDepth := 99) [ch3_0, hl, f0, f8, hlt, hlt', h8, h8']
            exact ⟨by simp [hl], by simp [hl, f1], by simp [hl, f7], hk⟩
        · obtain rfl : i = vs.length := by omega
          simp (maxDischargeDepth := 99) [ch3_0, hl, f0, f8]
          exact ⟨by simp [hl], by simp [hl, f1], by simp [hl, f7], hk⟩
      · exact ⟨0, rfl, Nat.zero_le _, by simp, by simp, by simp, by simp, by simp, by simp, Keeps.refl _⟩
  · rintro fr τ ⟨hl, f1, f7, hk⟩
    obtain ⟨f, rfl⟩ : ∃ k, f = k + 1 := ⟨f - 1, by omega⟩
    have hsg : sameA B A = true := sameA_keys' hB1
    simp (maxDischargeDepth := 99) [hl, f1, f7]
    refine (run12 τ sg a' B A (hB3.keeps hk) (hA3.keeps hk) K (keys_vals' hB1 hK2) (f + 1) (by omega)).mono ?_
    rintro w τ7 ⟨rfl, rfl⟩
    simp (maxDischargeDepth := 99) [hl, hsg, D9_9, pBool]
end Go.Proofs.YthjijjkoeoemgaaGreat.Ab
