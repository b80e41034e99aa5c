/- The law of how many a view holds. -/
import Derived.Test.YthjijjkoeoemgaaCt34
import Derived.Test.YthjijjkoeoemgaaLitB
namespace Go.Proofs.Ythjijjkoeoemgaa.Ab
open Go
set_option maxRecDepth 20000
set_option maxHeartbeats 8000000
set_option linter.unusedSimpArgs false
set_option linter.unusedVariables false

theorem key_step (a b : List V) {cols : List Int} {j : Nat} (h : j < cols.length) : decide (keyL a (cols.take (j + 1)) = keyL b (cols.take (j + 1))) = (decide (keyL a (cols.take j) = keyL b (cols.take j)) && decide (atV a (iAt cols j) = atV b (iAt cols j))) := by
  rw [keyL_next h, keyL_next h, ← Bool.decide_and]
  congr 1
  apply propext
  constructor
  · intro e
    obtain ⟨e1, e2⟩ := List.append_inj' e rfl
    exact ⟨e1, by simpa using e2⟩
  · rintro ⟨e1, e2⟩
    rw [e1, e2]
theorem keys_wid {l m : List Arr} {n : Nat} (h : l.map Arr.key = m.map Arr.key) (hm : ∀ a ∈ m, a.vals.length = n) : ∀ a ∈ l, a.vals.length = n := fun a ha => by
  obtain ⟨b, hb, e⟩ := keys_mem h ha
  have : b.vals = a.vals := by
    unfold Arr.key at e
    simp only [Prod.mk.injEq] at e
    exact e.2.2
  rw [← this]
  exact hm b hb
theorem keys_pair {l m : List Arr} {cols : List Int} (h : l.map Arr.key = m.map Arr.key) (hm : m.Pairwise (fun a b => keyL b.vals cols ≠ keyL a.vals cols)) : l.Pairwise (fun a b => keyL b.vals cols ≠ keyL a.vals cols) := by
  have e : ∀ l : List Arr, (l.map nr).Pairwise (fun a b => keyL b.vals cols ≠ keyL a.vals cols) ↔ l.Pairwise (fun a b => keyL b.vals cols ≠ keyL a.vals cols) := fun l => List.pairwise_map (R := fun a b : Arr => keyL b.vals cols ≠ keyL a.vals cols) (f := nr)
  rw [← e, er_keys h, e]
  exact hm
def IB0 (σ : AHeap) (p : Nat) (r : AV) (v : VS) (a b : Arr) (i k : Nat) (m : Nat) (fr : List AV) (τ : AHeap) : Prop :=
  ∃ j, m = v.cols.length - j ∧ j ≤ v.cols.length ∧ τ = σ ∧ fr.length = 135 ∧ getSlot fr 3 = .one (.ptr p 0) ∧ getSlot fr 7 = r ∧ getSlot fr 8 = .one (.int .i64 (i : Int)) ∧ getSlot fr 9 = .one (.int .i64 (k : Int)) ∧
    getSlot fr 10 = .one (.bool (decide (keyL a.vals (v.cols.take j) = keyL b.vals (v.cols.take j)))) ∧ getSlot fr 11 = .one (.int .i64 (j : Int))
def OB0 (σ : AHeap) (p : Nat) (r : AV) (v : VS) (a b : Arr) (i k : Nat) (fr : List AV) (τ : AHeap) : Prop :=
  τ = σ ∧ fr.length = 135 ∧ getSlot fr 3 = .one (.ptr p 0) ∧ getSlot fr 7 = r ∧ getSlot fr 8 = .one (.int .i64 (i : Int)) ∧ getSlot fr 9 = .one (.int .i64 (k : Int)) ∧
    getSlot fr 10 = .one (.bool (decide (keyL a.vals v.cols = keyL b.vals v.cols)))
def IB1 (σ : AHeap) (p : Nat) (r : AV) (i : Nat) (m : Nat) (fr : List AV) (τ : AHeap) : Prop :=
  ∃ k, m = i - k ∧ k ≤ i ∧ τ = σ ∧ fr.length = 135 ∧ getSlot fr 3 = .one (.ptr p 0) ∧ getSlot fr 7 = r ∧ getSlot fr 8 = .one (.int .i64 (i : Int)) ∧ getSlot fr 9 = .one (.int .i64 (k : Int))
def OB1 (σ : AHeap) (p : Nat) (r : AV) (i : Nat) (fr : List AV) (τ : AHeap) : Prop :=
  τ = σ ∧ fr.length = 135 ∧ getSlot fr 3 = .one (.ptr p 0) ∧ getSlot fr 7 = r ∧ getSlot fr 8 = .one (.int .i64 (i : Int))
def IB2 (σ : AHeap) (p : Nat) (r : AV) (n : Nat) (m : Nat) (fr : List AV) (τ : AHeap) : Prop :=
  ∃ i, m = n - i ∧ i ≤ n ∧ τ = σ ∧ fr.length = 135 ∧ getSlot fr 3 = .one (.ptr p 0) ∧ getSlot fr 7 = r ∧ getSlot fr 8 = .one (.int .i64 (i : Int))
def OB2 (σ : AHeap) (r : AV) (fr : List AV) (τ : AHeap) : Prop := τ = σ ∧ fr.length = 135 ∧ getSlot fr 7 = r
theorem cols_loop (σ : AHeap) (p : Nat) (rid roff : Nat) (rcap : Option Nat) (v : VS) (X : List Arr) (i k : Nat) (hi : i < X.length) (hk : k < X.length) (w : Nat) (hv : v.ok σ) (hc : ∀ c ∈ v.cols, 0 ≤ c ∧ c < (w : Int)) (hw : ∀ a ∈ X, a.vals.length = w)
    (hp : σ.get p = some ⟨[.int .i64 v.k, .int .i64 v.n, v.s, .bool v.d], .own⟩) (hX : ∀ a ∈ X, slVals σ (.one a.row) = some a.vals) (ord : ∀ j, j < X.length → rd (σ.get rid) none (roff + j * 3 + 2) = some (.one (rAt X j).row)) (f : Nat) (m : Nat) (fr : List AV) (τ : AHeap)
    (hI : IB0 σ p (.one (.slice rid roff 3 X.length rcap)) v (rAt X i) (rAt X k) i k m fr τ) :
    EndsC .go (evCall D9 f) f cs5_0 fr τ (fun _ fr τ => ∃ z, z < m ∧ IB0 σ p (.one (.slice rid roff 3 X.length rcap)) v (rAt X i) (rAt X k) i k z fr τ) (fun j _ fr τ => j = 5 ∧ OB0 σ p (.one (.slice rid roff 3 X.length rcap)) v (rAt X i) (rAt X k) i k fr τ) (fun _ _ _ => False) := by
  obtain ⟨j, rfl, hj, rfl, hl, f3, f7, f8, f9, f10, f11⟩ := hI
  rcases slInts_spec hv with ⟨e, hl0⟩ | ⟨id0, off0, cap0, e, hrd0, hmx⟩
  · have hs : v.s = .nilSlice := by injection e
    rw [hl0] at hj f10
    have hj0 : j = 0 := by simpa using hj
    subst hj0
    simp (maxDischargeDepth := 99) [cs5_0, hl, f3, f11, hp, hs]
    exact ⟨rfl, by simp [hl], by simp [hl, f3], by simp [hl, f7], by simp [hl, f8], by simp [hl, f9], by simpa [hl, hl0] using f10⟩
  · have hs : v.s = .slice id0 off0 1 v.cols.length cap0 := by injection e
    by_cases hlt : j < v.cols.length
    · have hlt' : (j : Int) < (v.cols.length : Int) := Int.ofNat_lt.2 hlt
      have hwj : wr .i64 ((j : Int) + 1) = ((j + 1 : Nat) : Int) := wr_next hlt hmx
      have hst := key_step (rAt X i).vals (rAt X k).vals hlt
      have hnext : ∀ fr' : List AV, fr'.length = 135 → getSlot fr' 3 = getSlot fr 3 → getSlot fr' 7 = getSlot fr 7 → getSlot fr' 8 = getSlot fr 8 → getSlot fr' 9 = getSlot fr 9 → getSlot fr' 10 = .one (.bool (decide (keyL (rAt X i).vals (v.cols.take (j + 1)) = keyL (rAt X k).vals (v.cols.take (j + 1))))) → getSlot fr' 11 = .one (.int .i64 ((j + 1 : Nat) : Int)) →
          ∃ z, z < v.cols.length - j ∧ IB0 τ p (.one (.slice rid roff 3 X.length rcap)) v (rAt X i) (rAt X k) i k z fr' τ := fun fr' a0 a3 a7 a8 a9 a10 a11 =>
        ⟨v.cols.length - (j + 1), y1 hlt, j + 1, rfl, hlt, rfl, a0, by rw [a3, f3], by rw [a7, f7], by rw [a8, f8], by rw [a9, f9], a10, a11⟩
      rw [hst] at hnext
      have hc0 := hc v.cols[j] (List.getElem_mem hlt)
      have hci := hrd0 j hlt
      have eI : iAt v.cols j = v.cols[j] := iAt_eq hlt
      rw [eI] at hnext
      have wa := hw _ (rAt_mem hi)
      have wb := hw _ (rAt_mem hk)
      have ra := ord i hi
      have rb := ord k hk
      have sa := hX _ (rAt_mem hi)
      have sb := hX _ (rAt_mem hk)
      generalize rAt X i = a at wa ra sa hnext f10
      generalize rAt X k = b at wb rb sb hnext f10
      generalize v.cols[j] = c at hc0 hci hnext
      obtain ⟨c, rfl⟩ : ∃ n : Nat, c = (n : Int) := ⟨c.toNat, by omega⟩
      have hca : c < a.vals.length := by omega
      have hcb : c < b.vals.length := by omega
      have ea : atV a.vals (c : Int) = a.vals[c] := by simp [atV, List.getD, hca]
      have eb : atV b.vals (c : Int) = b.vals[c] := by simp [atV, List.getD, hcb]
      rw [ea, eb] at hnext
      rcases slVals_spec sa with ⟨_, e1⟩ | ⟨ia, oa, ca, e1, hra, _⟩
      · rw [e1] at hca; exact absurd hca (Nat.not_lt_zero _)
      rcases slVals_spec sb with ⟨_, e2⟩ | ⟨ib, ob, cb, e2, hrb, _⟩
      · rw [e2] at hcb; exact absurd hcb (Nat.not_lt_zero _)
      have e1 : a.row = .slice ia oa 3 a.vals.length ca := by injection e1
      have e2 : b.row = .slice ib ob 3 b.vals.length cb := by injection e2
      rw [e1] at ra
      rw [e2] at rb
      have ta := hra c hca
      have tb := hrb c hcb
      generalize a.vals[c] = x at ta hnext
      generalize b.vals[c] = y at tb hnext
      clear hst ea eb hra hrb sa sb hrd0 hX ord hw hc
      obtain ⟨q, hq⟩ : ∃ q, q = decide (keyL a.vals (v.cols.take j) = keyL b.vals (v.cols.take j)) := ⟨_, rfl⟩
      rw [← hq] at hnext f10
      cases q with
      | false =>
        simp (maxDischargeDepth := 99) [cs5_0, hl, f3, f7, f8, f9, f10, f11, hp, hs, hlt, hlt', hwj, -Int.natCast_add]
        exact hnext _ (by simp [hl]) (by simp [hl]) (by simp [hl]) (by simp [hl]) (by simp [hl]) (by simp [hl]) (by simp [hl, -Int.natCast_add])
      | true =>
        obtain ⟨xa, xb, xc⟩ := x
        obtain ⟨ya, yb, yc⟩ := y
        simp only [V.av] at ta tb
        by_cases h1 : xa = ya
        · by_cases h2 : xb = yb
          · by_cases h3 : xc = yc
            · simp (maxDischargeDepth := 99) [cs5_0, hl, f3, f7, f8, f9, f10, f11, hp, hs, hlt, hlt', hci, hi, hk, ra, rb, hca, hcb, ta, tb, h1, h2, h3, hwj, beqL_refl, -Int.natCast_add]
              exact hnext _ (by simp [hl]) (by simp [hl]) (by simp [hl]) (by simp [hl]) (by simp [hl]) (by simp [hl, h1, h2, h3]) (by simp [hl, -Int.natCast_add])
            · simp (maxDischargeDepth := 99) [cs5_0, hl, f3, f7, f8, f9, f10, f11, hp, hs, hlt, hlt', hci, hi, hk, ra, rb, hca, hcb, ta, tb, h1, h2, h3, hwj, beqL_iff, -Int.natCast_add]
              exact hnext _ (by simp [hl]) (by simp [hl]) (by simp [hl]) (by simp [hl]) (by simp [hl]) (by simp [hl, h1, h2, h3]) (by simp [hl, -Int.natCast_add])
          · simp (maxDischargeDepth := 99) [cs5_0, hl, f3, f7, f8, f9, f10, f11, hp, hs, hlt, hlt', hci, hi, hk, ra, rb, hca, hcb, ta, tb, h1, h2, hwj, -Int.natCast_add]
            exact hnext _ (by simp [hl]) (by simp [hl]) (by simp [hl]) (by simp [hl]) (by simp [hl]) (by simp [hl, h1, h2]) (by simp [hl, -Int.natCast_add])
        · simp (maxDischargeDepth := 99) [cs5_0, hl, f3, f7, f8, f9, f10, f11, hp, hs, hlt, hlt', hci, hi, hk, ra, rb, hca, hcb, ta, tb, h1, hwj, -Int.natCast_add]
          exact hnext _ (by simp [hl]) (by simp [hl]) (by simp [hl]) (by simp [hl]) (by simp [hl]) (by simp [hl, h1]) (by simp [hl, -Int.natCast_add])
    · obtain rfl : j = v.cols.length := by omega
      rw [List.take_of_length_le (Nat.le_refl _)] at f10
      simp (maxDischargeDepth := 99) [cs5_0, hl, f3, f11, hp, hs]
      exact ⟨rfl, by simp [hl], by simp [hl, f3], by simp [hl, f7], by simp [hl, f8], by simp [hl, f9], by simpa [hl] using f10⟩
end Go.Proofs.Ythjijjkoeoemgaa.Ab
