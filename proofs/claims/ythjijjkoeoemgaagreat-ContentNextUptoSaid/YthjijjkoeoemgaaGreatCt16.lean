/- The document's next time, of one view and of all. -/
import Derived.Test.YthjijjkoeoemgaaGreatCt15
namespace Go.Proofs.YthjijjkoeoemgaaGreat.Ab
open Go
set_option maxRecDepth 20000
set_option maxHeartbeats 4000000
set_option linter.unusedSimpArgs false
set_option linter.unusedVariables false

theorem rOneB (σ : AHeap) (s : AV) (l : List Arr) (v : VS) (now' now : Int) (h : Arrs σ s l) (hv : v.ok σ) (ht : TimesOk l now) (hle : now ≤ now') (hup : now' ≤ 3400000000000) (hk : v.k = 5) (f : Nat) (hf : 400 ≤ f) :
    OptP (evCall D9 f 11 [.agg v.cells, s, .one (.int .i64 now')] σ) (fun _ r τ => Arrs τ r (heldR v l now') ∧ Keeps σ τ) := by
  refine rOne σ s l v now' h hv 5 (fun _ => batchP v (bNo l now' v.n) (t0 l + (bNo l now' v.n - 1) * v.n)) (heldR v l now') ?_ ?_ ?_ ?_ ht.len f (by omega)
  · intro h0 hok τ hkp i hi f hf
    obtain ⟨n1, n2⟩ := okL_n hok (.inr hk)
    obtain ⟨z0, z1, z2⟩ := ht.zero h0
    exact rholds5 τ s l v now' i (h.keeps hkp) hi hk z0 (by omega) hup n1 n2 f hf
  · intro h0; unfold heldR; rw [if_neg (by omega)]
  · intro h0; unfold heldR; rw [if_neg (fun e => h0 e.2)]
  · intro h0 hok; unfold heldR; rw [if_pos ⟨h0, hok⟩, if_neg (by omega), fIdx_filter]

theorem drop_next {l : List Arr} {i : Nat} (h : i < l.length) : l.drop i = rAt l i :: l.drop (i + 1) := by
  rw [List.drop_eq_getElem_cons h]
  simp [rAt, List.getD, h]
def J3 (σ : AHeap) (s : AV) (l : List Arr) (v : VS) (now : Int) (k : Nat) (fr : List AV) (τ : AHeap) : Prop :=
  ∃ i best, k = l.length - i ∧ i ≤ l.length ∧ fr.length = 106 ∧ getSlot fr 1 = s ∧ getSlot fr 2 = .one (.int .i64 now) ∧ getSlot fr 3 = .one (.ptr σ.size 0) ∧ getSlot fr 7 = .one (.int .i64 best) ∧ getSlot fr 8 = .one (.int .i64 (i : Int)) ∧
    Keeps σ τ ∧ τ.get σ.size = some ⟨v.cells, .own⟩ ∧ timeFold v.n now (l.drop i) best = timeFold v.n now l (-1)
def P3 (σ : AHeap) (v : VS) (best : Int) (fr : List AV) (τ : AHeap) : Prop :=
  fr.length = 106 ∧ getSlot fr 3 = .one (.ptr σ.size 0) ∧ getSlot fr 7 = .one (.int .i64 best) ∧ Keeps σ τ ∧ τ.get σ.size = some ⟨v.cells, .own⟩
def J5 (σ : AHeap) (s sh : AV) (l : List Arr) (v : VS) (now t : Int) (k : Nat) (fr : List AV) (τ : AHeap) : Prop :=
  ∃ i best, k = l.length - i ∧ i ≤ l.length ∧ fr.length = 106 ∧ getSlot fr 1 = s ∧ getSlot fr 2 = .one (.int .i64 now) ∧ getSlot fr 3 = .one (.ptr σ.size 0) ∧ getSlot fr 7 = .one (.int .i64 best) ∧ getSlot fr 9 = .one (.int .i64 t) ∧ getSlot fr 10 = sh ∧ getSlot fr 11 = .one (.int .i64 (i : Int)) ∧
    Keeps σ τ ∧ τ.get σ.size = some ⟨v.cells, .own⟩ ∧ Arrs τ sh (heldR v l now) ∧ brdFold v l now (l.drop i) best = brdFold v l now l (-1)
def P5 (σ : AHeap) (best : Int) (fr : List AV) (τ : AHeap) : Prop :=
  fr.length = 106 ∧ getSlot fr 7 = .one (.int .i64 best) ∧ Keeps σ τ
/-- The two borders around one arrival's batch. -/
noncomputable def best5 (v : VS) (l : List Arr) (now β best : Int) : Nat → Int
  | 0 => best
  | r + 1 => brdStep v l now (β + 1 + r) (best5 v l now β best r)
def J6 (σ : AHeap) (s sh : AV) (l : List Arr) (v : VS) (now t β best : Int) (i : Nat) (k : Nat) (fr : List AV) (τ : AHeap) : Prop :=
  ∃ r, k = 2 - r ∧ r ≤ 2 ∧ fr.length = 106 ∧ getSlot fr 1 = s ∧ getSlot fr 2 = .one (.int .i64 now) ∧ getSlot fr 3 = .one (.ptr σ.size 0) ∧ getSlot fr 7 = .one (.int .i64 (best5 v l now β best r)) ∧ getSlot fr 9 = .one (.int .i64 t) ∧ getSlot fr 10 = sh ∧ getSlot fr 11 = .one (.int .i64 (i : Int)) ∧
    getSlot fr 12 = .one (.int .i64 (β + 1)) ∧ getSlot fr 13 = .one (.int .i64 (β + 1 + r)) ∧
    Keeps σ τ ∧ τ.get σ.size = some ⟨v.cells, .own⟩ ∧ Arrs τ sh (heldR v l now)
def P6 (σ : AHeap) (s sh : AV) (l : List Arr) (v : VS) (now t best : Int) (i : Nat) (fr : List AV) (τ : AHeap) : Prop :=
  fr.length = 106 ∧ getSlot fr 1 = s ∧ getSlot fr 2 = .one (.int .i64 now) ∧ getSlot fr 3 = .one (.ptr σ.size 0) ∧ getSlot fr 7 = .one (.int .i64 best) ∧ getSlot fr 9 = .one (.int .i64 t) ∧ getSlot fr 10 = sh ∧ getSlot fr 11 = .one (.int .i64 (i : Int)) ∧
    Keeps σ τ ∧ τ.get σ.size = some ⟨v.cells, .own⟩ ∧ Arrs τ sh (heldR v l now)
theorem j6 {r : Nat} (h : ¬ r = 2) (h2 : r ≤ 2) : 2 - (r + 1) < 2 - r ∧ r + 1 ≤ 2 := by omega
theorem rInner {R : KN} (σ : AHeap) (s sh : AV) (l : List Arr) (v : VS) (now t β best : Int) (i : Nat) (h : Arrs σ s l) (hv : v.ok σ) (ht : TimesOk l now) (hT : t = t0 l) (hk : v.k = 5) (z0 : 0 ≤ t) (n1 : 1 ≤ v.n) (n2 : v.n ≤ 1099511627776)
    (b0 : 0 ≤ β) (b1 : β * v.n ≤ now - t) (b2 : β ≤ 1099511627776) (hup : now ≤ 1099511627776) (hlen : l.length ≤ 200) (f : Nat) (hf : 600 ≤ f) (fr : List AV) (τ : AHeap) (hJ : J6 σ s sh l v now t β best i 2 fr τ) :
    EndsC .go (evCall D9 f) f (ACode.loop cr26_1) fr τ (fun _ _ _ => False) (fun j _ fr τ => j = 4 ∧ P6 σ s sh l v now t (best5 v l now β best 2) i fr τ) R := by
  refine ends_loop (I := J6 σ s sh l v now t β best i) ?_ (k := 2) hJ (by omega)
  rintro k fr τ ⟨r, rfl, hr, hl, f1, f2, f3, f7, f9, f10, f11, f12, f13, hkp, hb, hS⟩
  have w0 : wr .i64 (β + 1 + 1) = β + 1 + 1 := wr_near ⟨by omega, by omega⟩
  by_cases hr2 : r = 2
  · subst hr2
    have hc : ¬ β + 1 + ((2 : Nat) : Int) ≤ β + 1 + 1 := by omega
    rw [show ((2 : Nat) : Int) = 2 from rfl] at hc f13
    simp (maxDischargeDepth := 99) [cr26_1, hl, f1, f2, f3, f7, f9, f10, f11, f12, f13, w0, hc]
    exact ⟨by simp [hl], by simp [hl, f1], by simp [hl, f2], by simp [hl, f3], by simp [hl, f7], by simp [hl, f9], by simp [hl, f10], by simp [hl, f11], hkp, hb, hS⟩
  · obtain ⟨g1, g2⟩ := j6 hr2 hr
    have hc : β + 1 + (r : Int) ≤ β + 1 + 1 := by omega
    have hnx : best5 v l now β best (r + 1) = brdStep v l now (β + 1 + r) (best5 v l now β best r) := rfl
    obtain ⟨B, hB⟩ : ∃ B, B = best5 v l now β best r := ⟨_, rfl⟩
    rw [← hB] at f7 hnx
    obtain ⟨c, hcc⟩ : ∃ c, c = β + 1 + (r : Int) := ⟨_, rfl⟩
    have hwc : wr .i64 (c + 1) = β + 1 + ((r + 1 : Nat) : Int) := by rw [wr_near ⟨by omega, by omega⟩]; omega
    rw [← hcc] at f13 hc hnx
    obtain ⟨m, hm⟩ : ∃ m, m = c * v.n := ⟨_, rfl⟩
    have hmm : m ≤ β * v.n + 2 * v.n := by
      rw [hm, ← Int.add_mul]
      exact Int.mul_le_mul_of_nonneg_right (by omega) (by omega)
    have hm0 : 0 ≤ m := by rw [hm]; exact Int.mul_nonneg (by omega) (by omega)
    have w1 : wr .i64 (c * v.n) = m := by rw [← hm]; exact wr_near ⟨by omega, by omega⟩
    have w2 : wr .i64 (t + m) = t + m := wr_near ⟨by omega, by omega⟩
    have hSt : brdStep v l now c B = if now < t + m ∧ sameQ (heldR v l (t + m)) (heldR v l now) = false then leastI B (t + m) now else B := by
      unfold brdStep
      rw [← hm, ← hT]
    rw [hSt] at hnx
    have hend : ∀ fr' τ', fr'.length = 106 → getSlot fr' 1 = getSlot fr 1 → getSlot fr' 2 = getSlot fr 2 → getSlot fr' 3 = getSlot fr 3 → getSlot fr' 7 = .one (.int .i64 (best5 v l now β best (r + 1))) → getSlot fr' 9 = getSlot fr 9 → getSlot fr' 10 = getSlot fr 10 → getSlot fr' 11 = getSlot fr 11 → getSlot fr' 12 = getSlot fr 12 →
        getSlot fr' 13 = .one (.int .i64 (β + 1 + ((r + 1 : Nat) : Int))) → Keeps σ τ' → τ'.get σ.size = some ⟨v.cells, .own⟩ → Arrs τ' sh (heldR v l now) → ∃ j, j < 2 - r ∧ J6 σ s sh l v now t β best i j fr' τ' := by
      intro fr' τ' a0 a1 a2 a3 a7 a9 a10 a11 a12 a13 a14 a15 a16
      exact ⟨2 - (r + 1), g1, r + 1, rfl, g2, a0, by rw [a1, f1], by rw [a2, f2], by rw [a3, f3], a7, by rw [a9, f9], by rw [a10, f10], by rw [a11, f11], by rw [a12, f12], a13, a14, a15, a16⟩
    by_cases hgt : now < t + m
    · have hOne := rOneB τ s l v (t + m) now (h.keeps hkp) (hv.keeps hkp) ht (by omega) (by omega) hk f (by omega)
      unfold VS.cells at hOne hb
      simp (maxDischargeDepth := 99) [cr26_1, hl, f1, f2, f3, f7, f9, f10, f11, f12, f13, w0, hc, hb, w1, w2, hgt]
      refine hOne.mono ?_
      rintro x τ2 ⟨hA, k2⟩
      have hS2 := hS.keeps k2
      have kk := hkp.trans k2
      have hb2 : τ2.get σ.size = some ⟨[.int .i64 v.k, .int .i64 v.n, v.s, .bool v.d], .own⟩ := by rw [k2.2 _ (AHeap.get_lt hb), hb]
      have hl2 : (heldR v l (t + m)).length ≤ 200 := by
        have : (heldR v l (t + m)).length ≤ l.length := by
          unfold heldR
          split
          · split
            · exact List.length_filter_le _ _
            · exact List.length_filter_le _ _
          · simp
        omega
      have hsm := run_same τ2 x sh (heldR v l (t + m)) (heldR v l now) hA hS2 f (by omega)
      simp (maxDischargeDepth := 99) [hl, f10]
      refine hsm.mono ?_
      rintro y τ3 ⟨rfl, rfl⟩
      cases hq : sameQ (heldR v l (t + m)) (heldR v l now) with
      | true =>
        rw [hq, if_neg (by simp)] at hnx
        rw [hnx] at hend
        simp (maxDischargeDepth := 99) [hl, f13, hwc]
        exact hend _ _ (by simp [hl]) (by simp [hl]) (by simp [hl]) (by simp [hl]) (by simp [hl, f7]) (by simp [hl]) (by simp [hl]) (by simp [hl]) (by simp [hl]) (by simp [hl]) kk hb2 hS2
      | false =>
        rw [hq, if_pos ⟨hgt, rfl⟩] at hnx
        rw [hnx] at hend
        have hL := run_least B (t + m) now τ3 f (by omega)
        simp (maxDischargeDepth := 99) [hl, f2, f7]
        refine hL.mono ?_
        rintro y τ4 ⟨rfl, rfl⟩
        simp (maxDischargeDepth := 99) [hl, f13, hwc]
        exact hend _ _ (by simp [hl]) (by simp [hl]) (by simp [hl]) (by simp [hl]) (by simp [hl, f7]) (by simp [hl]) (by simp [hl]) (by simp [hl]) (by simp [hl]) (by simp [hl]) kk hb2 hS2
    · rw [if_neg (fun e => hgt e.1)] at hnx
      rw [hnx] at hend
      unfold VS.cells at hb
      simp (maxDischargeDepth := 99) [cr26_1, hl, f1, f2, f3, f7, f9, f10, f11, f12, f13, w0, hc, hb, w1, w2, hgt, hwc]
      exact hend _ _ (by simp [hl]) (by simp [hl]) (by simp [hl]) (by simp [hl]) (by simp [hl, f7]) (by simp [hl]) (by simp [hl]) (by simp [hl]) (by simp [hl]) (by simp [hl]) hkp hb hS
end Go.Proofs.YthjijjkoeoemgaaGreat.Ab
