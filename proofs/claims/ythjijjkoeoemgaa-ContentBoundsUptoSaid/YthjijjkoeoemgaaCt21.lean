/- Rows compared; a view without rows of one key; views that are parts of the list. -/
import Derived.Test.YthjijjkoeoemgaaCt20
namespace Go.Proofs.Ythjijjkoeoemgaa.Ab
open Go
set_option maxRecDepth 20000
set_option maxHeartbeats 4000000
set_option linter.unusedSimpArgs false
set_option linter.unusedVariables false

theorem run76 (σ : AHeap) (s1 s2 : AV) (l1 l2 : List V) (h1 : slVals σ s1 = some l1) (h2 : slVals σ s2 = some l2) (f : Nat) (hf : l1.length + 5 ≤ f) :
    OptP (evCall D9 f 63 [s1, s2] σ) (fun _ v τ => v = .one (.bool (decide (l1 = l2))) ∧ τ = σ) := by
  obtain ⟨f, rfl⟩ : ∃ k, f = k + 1 := ⟨f - 1, by omega⟩
  refine evCall_code (D9_prim 63) ((D9_code 63).trans code76) ?_
  by_cases hlen : l1.length = l2.length
  · by_cases h0 : l1.length = 0
    · have e1 : l1 = [] := List.length_eq_zero_iff.1 h0
      have e2 : l2 = [] := List.length_eq_zero_iff.1 (by omega)
      subst e1; subst e2
      rcases slVals_nil h1 with rfl | ⟨i1, o1, c1, rfl⟩ <;> rcases slVals_nil h2 with rfl | ⟨i2, o2, c2, rfl⟩
      all_goals
        simp (maxDischargeDepth := 99) [c76]
        refine ends_loop (I := fun k fr τ => k = 0 ∧ τ = σ ∧ fr.length = 26 ∧ getSlot fr 12 = .one (.int .i64 0) ∧ getSlot fr 13 = .one (.int .i64 0)) ?_ (k := 0) ?_ (by omega)
        · rintro k fr τ ⟨rfl, rfl, hlen, h0, h5⟩
          simp (maxDischargeDepth := 99) [c76_0, hlen, h0, h5]
        · simp
    · rcases slVals_spec h1 with ⟨_, rfl⟩ | ⟨i1, o1, c1, rfl, r1, m1⟩
      · simp at h0
      rcases slVals_spec h2 with ⟨_, rfl⟩ | ⟨i2, o2, c2, rfl, r2, m2⟩
      · simp only [List.length_nil] at hlen; omega
      rw [← hlen]
      simp (maxDischargeDepth := 99) [c76]
      refine ends_loop (I := fun k fr τ => ∃ i, k = l1.length - i ∧ i ≤ l1.length ∧ τ = σ ∧ fr.length = 26 ∧ getSlot fr 0 = .one (.slice i1 o1 3 l1.length c1) ∧ getSlot fr 1 = .one (.slice i2 o2 3 l1.length c2) ∧
          getSlot fr 12 = .one (.int .i64 l1.length) ∧ getSlot fr 13 = .one (.int .i64 i) ∧ ∀ j, j < i → l1[j]? = l2[j]?) ?_ (k := l1.length) ?_ (by omega)
      · rintro k fr τ ⟨i, rfl, hi, rfl, hfl, f0, f1, f12, f13, hall⟩
        by_cases hlt : i < l1.length
        · have hlt2 : i < l2.length := by omega
          have hlt' : (i : Int) < (l1.length : Int) := Int.ofNat_lt.2 hlt
          have hrd1 := r1 i hlt
          have hrd2 := r2 i hlt2
          have hw := wr_next hlt m1
          have hnext : l1[i] = l2[i] → ∀ j, j < i + 1 → l1[j]? = l2[j]? := fun h => y2 hall (by rw [List.getElem?_eq_getElem hlt, List.getElem?_eq_getElem hlt2, h])
          have hne : l1[i] ≠ l2[i] → decide (l1 = l2) = false := by
            intro h
            simp only [decide_eq_false_iff_not]
            intro e
            subst e
            exact h rfl
          generalize l1[i] = t at hrd1 hnext hne
          generalize l2[i] = u at hrd2 hnext hne
          obtain ⟨ta, tb, tc⟩ := t
          obtain ⟨ua, ub, uc⟩ := u
          by_cases ha : ta = ua
          · by_cases hb : tb = ub
            · by_cases hc : tc = uc
              · simp (maxDischargeDepth := 99) [c76_0, hfl, f0, f1, f12, f13, hlt, hlt', hrd1, hrd2, V.av, ha, hb, hc, hw, beqL_refl]
                exact ⟨l1.length - (i + 1), y1 hlt, i + 1, rfl, hlt, by simp, hnext (by rw [ha, hb, hc])⟩
              · have hn := hne (by simp [hc])
                have hbl : beqL tc uc = false := by
                  rw [beqL_iff]; simpa using hc
                simp (maxDischargeDepth := 99) [c76_0, hfl, f0, f1, f12, f13, hlt, hlt', hrd1, hrd2, V.av, ha, hb, hc, hn, hbl]
            · have hn := hne (by simp [hb])
              simp (maxDischargeDepth := 99) [c76_0, hfl, f0, f1, f12, f13, hlt, hlt', hrd1, hrd2, V.av, ha, hb, hn]
          · have hn := hne (by simp [ha])
            simp (maxDischargeDepth := 99) [c76_0, hfl, f0, f1, f12, f13, hlt, hlt', hrd1, hrd2, V.av, ha, hn]
        · have heq : l1 = l2 := List.ext_getElem? fun j => by
            by_cases hj : j < l1.length
            · exact hall j (by omega)
            · rw [List.getElem?_eq_none (by omega), List.getElem?_eq_none (by omega)]
          have hlt' : ¬ (i : Int) < (l1.length : Int) := fun e => hlt (Int.ofNat_lt.1 e)
          simp (maxDischargeDepth := 99) [c76_0, hfl, f12, f13, hlt, hlt']
          exact heq
      · exact ⟨0, by omega, by omega, rfl, by simp, by simp, by simp, by simp, by simp, fun j hj => absurd hj (Nat.not_lt_zero _)⟩
  · have hne : decide (l1 = l2) = false := by
      simp only [decide_eq_false_iff_not]
      intro e
      exact hlen (by rw [e])
    rcases slVals_spec h1 with ⟨rfl, rfl⟩ | ⟨i1, o1, c1, rfl, r1, m1⟩ <;> rcases slVals_spec h2 with ⟨rfl, rfl⟩ | ⟨i2, o2, c2, rfl, r2, m2⟩
    · simp at hlen
    · have hl2 : ¬ (0 : Int) = (l2.length : Int) := by simp only [List.length_nil] at hlen; omega
      have hl3 : ¬ l2 = [] := by intro e; subst e; exact hlen rfl
      simp (maxDischargeDepth := 99) [c76, hne, hl2, hl3]
    · have hl2 : ¬ (l1.length : Int) = 0 := by simp only [List.length_nil] at hlen; omega
      have hl3 : ¬ l1 = [] := by intro e; subst e; exact hlen rfl
      simp (maxDischargeDepth := 99) [c76, hne, hl2, hl3]
    · have hl2 : ¬ (l1.length : Int) = (l2.length : Int) := by omega
      have hl3 : ¬ l1 = l2 := by intro e; subst e; exact hlen rfl
      simp (maxDischargeDepth := 99) [c76, hlen, hne, hl2, hl3]
theorem run63 (σ : AHeap) (s1 s2 : AV) (l1 l2 : List V) (h1 : slVals σ s1 = some l1) (h2 : slVals σ s2 = some l2) (f : Nat) (hf : l1.length + 8 ≤ f) :
    OptP (evCall D9 f 55 [s1, s2] σ) (fun _ v τ => v = .one (.bool (decide (l1 = l2))) ∧ τ = σ) := by
  obtain ⟨f, rfl⟩ : ∃ k, f = k + 1 := ⟨f - 1, by omega⟩
  refine evCall_code (D9_prim 55) ((D9_code 55).trans code63) ?_
  simp (maxDischargeDepth := 99) [c63]
  refine (run76 σ s1 s2 l1 l2 h1 h2 f (by omega)).mono ?_
  rintro v τ ⟨rfl, rfl⟩
  simp (maxDischargeDepth := 99)

/-! ### without rows of one key -/
theorem slVals_same {σ : AHeap} {s : SV} {l : List V} (h : slVals σ (.one s) = some l) : SV.same s s = true := by
  rcases slVals_spec h with ⟨h, _⟩ | ⟨id, off, cap, h, _⟩
  · cases h; rfl
  · cases h; simp [SV.same]
theorem keyL_len (l : List V) (cols : List Int) : (keyL l cols).length = cols.length := by simp [keyL]
theorem run62 (σ : AHeap) (p q : Nat) (v : VS) (now : Int) (mine : List V) (ms : SV) (hv : v.ok σ) (hc : ∀ c ∈ v.cols, 0 ≤ c) (hm : v.cols.length ≤ maxElems) (hp : σ.get p = some ⟨v.at' now, .own⟩) (hq : σ.get q = some ⟨[ms], .own⟩) (hms : slVals σ (.one ms) = some mine) :
    Tells σ 54 [.ptr p 0, .ptr q 0] (v.cols.length + 40) (fun a => slVals σ (.one a.row) = some a.vals) (fun b => decide (keyL b.vals v.cols = mine)) := by
  intro τ hk f hf a hok
  obtain ⟨f, rfl⟩ : ∃ k, f = k + 1 := ⟨f - 1, by omega⟩
  refine evCall_code (D9_prim 54) ((D9_code 54).trans code62) ?_
  rw [← hk.2 p (AHeap.get_lt hp)] at hp
  rw [← hk.2 q (AHeap.get_lt hq)] at hq
  obtain ⟨τ1, hτ1⟩ : ∃ τ1, τ1 = τ.alloc ⟨[.int .i64 a.seq, .int .i64 a.time, a.row], .own⟩ := ⟨_, rfl⟩
  have k1 : Keeps τ τ1 := by rw [hτ1]; exact (Keeps.refl _).alloc
  have g0 : τ1.get τ.size = some ⟨[.int .i64 a.seq, .int .i64 a.time, a.row], .own⟩ := by rw [hτ1]; simp
  have g1 := hp
  rw [← k1.2 p (AHeap.get_lt hp)] at g1
  have g2 := hq
  rw [← k1.2 q (AHeap.get_lt hq)] at g2
  have hP := run_picked τ1 v now a ((hv.keeps hk).keeps k1) (slVals_keeps (hk.trans k1) hok) hc f (by omega)
  have hsame := slVals_same hms
  unfold VS.at' at g1 hP
  simp (maxDischargeDepth := 99) [c62, ← hτ1]
  refine ends_draw ?_
  simp (maxDischargeDepth := 99) [g0, g1, g2, -SV.same]
  refine hP.mono ?_
  rintro r τ2 ⟨hO, k2⟩
  have g3 : τ2.get q = some ⟨[ms], .own⟩ := by rw [k2.2 _ (AHeap.get_lt g2), g2]
  have hr : slVals τ2 r = some (keyL a.vals v.cols) := slVals_out (by rw [keyL_len]; exact hO) (by rw [keyL_len]; exact hm)
  have hE := run63 τ2 r (.one ms) (keyL a.vals v.cols) mine hr (slVals_keeps (hk.trans (k1.trans k2)) hms) f (by rw [keyL_len]; omega)
  simp (maxDischargeDepth := 99) [g2, g3, -SV.same]
  refine hE.mono ?_
  rintro x τ3 ⟨rfl, rfl⟩
  simp (maxDischargeDepth := 99) [g2, g3, hsame, k1.trans k2, -SV.same]
def uniqP (v : VS) (l : List Arr) (i : Nat) (a : Arr) : Bool := !((l.drop (i + 1)).any fun b => decide (keyL b.vals v.cols = keyL a.vals v.cols))
/-- A part of a list of arrivals. -/
theorem Arrs.sub {σ : AHeap} {id o n : Nat} {cap : Option Nat} {l : List Arr} (h : Arrs σ (.one (.slice id o 3 n cap)) l) {a k : Nat} (hl : a + k ≤ n) (cap' : Option Nat) :
    Arrs σ (.one (.slice id (o + a * 3) 3 k cap')) ((l.drop a).take k) := by
  refine ⟨?_, fun x hx => h.2 x (List.mem_of_mem_drop (List.mem_of_mem_take hx))⟩
  rcases h.1 with ⟨h', _⟩ | ⟨id', off, cap2, md, h1, h2, h3, pre, suf, h4, h5⟩
  · cases h'
  · cases h1
    have hlen : ((l.drop a).take k).length = k := by rw [List.length_take, List.length_drop]; omega
    refine .inr ⟨id, off + a, cap', md, by rw [hlen, Nat.add_mul], h2, by rw [hlen]; omega, pre ++ l.take a, (l.drop a).drop k ++ suf, by rw [List.length_append, h4, List.length_take, Nat.min_eq_left (by omega)], ?_⟩
    rw [h5]
    have e : l = l.take a ++ ((l.drop a).take k ++ (l.drop a).drop k) := by rw [List.take_append_drop, List.take_append_drop]
    have : pre ++ l.take a ++ (l.drop a).take k ++ ((l.drop a).drop k ++ suf) = pre ++ l ++ suf := by
      rw [show pre ++ l ++ suf = pre ++ (l.take a ++ ((l.drop a).take k ++ (l.drop a).drop k)) ++ suf by rw [← e]]
      simp only [List.append_assoc]
    rw [this]
/-- The list is one of the machine's own, grown by append. -/
def Grown (σ : AHeap) (s : AV) (l : List Arr) : Prop := ∃ q, s = .one (.slice q 0 3 l.length none) ∧ σ.get q = some ⟨acells l, .own⟩
theorem Grown.keeps {σ τ : AHeap} {s : AV} {l : List Arr} (h : Grown σ s l) (hk : Keeps σ τ) : Grown τ s l := by
  obtain ⟨q, h1, h2⟩ := h
  exact ⟨q, h1, by rw [hk.2 q (AHeap.get_lt h2), h2]⟩
theorem run60 (σ : AHeap) (p r : Nat) (v : VS) (now : Int) (s : SV) (l : List Arr) (hv : v.ok σ) (hc : ∀ c ∈ v.cols, 0 ≤ c) (hm : v.cols.length ≤ maxElems) (hA : Arrs σ (.one s) l) (hG : Grown σ (.one s) l) (hml : l.length ≤ maxElems) (hp : σ.get p = some ⟨v.at' now, .own⟩) (hr : σ.get r = some ⟨[s], .own⟩) :
    TellsI σ 52 [.ptr p 0, .ptr r 0] (l.length + v.cols.length + 80) (fun i a => i < l.length ∧ slVals σ (.one a.row) = some a.vals) (uniqP v l) := by
  intro τ hk f hf i a ⟨hi, hok⟩
  obtain ⟨f, rfl⟩ : ∃ k, f = k + 1 := ⟨f - 1, by omega⟩
  refine evCall_code (D9_prim 52) ((D9_code 52).trans code60) ?_
  rw [← hk.2 p (AHeap.get_lt hp)] at hp
  rw [← hk.2 r (AHeap.get_lt hr)] at hr
  obtain ⟨q, hs, hq⟩ := hG.keeps hk
  have hs : s = .slice q 0 3 l.length none := by injection hs
  subst hs
  obtain ⟨τ1, hτ1⟩ : ∃ τ1, τ1 = τ.alloc ⟨[.int .i64 a.seq, .int .i64 a.time, a.row], .own⟩ := ⟨_, rfl⟩
  have k1 : Keeps τ τ1 := by rw [hτ1]; exact (Keeps.refl _).alloc
  have g0 : τ1.get τ.size = some ⟨[.int .i64 a.seq, .int .i64 a.time, a.row], .own⟩ := by rw [hτ1]; simp
  have g1 := hp
  rw [← k1.2 p (AHeap.get_lt hp)] at g1
  have g2 := hr
  rw [← k1.2 r (AHeap.get_lt hr)] at g2
  have hP := run_picked τ1 v now a ((hv.keeps hk).keeps k1) (slVals_keeps (hk.trans k1) hok) hc f (by omega)
  have hpV : τ1.get p = some ⟨v.at' now, .own⟩ := g1
  unfold VS.at' at g1 hP
  have hw := wr_next hi hml
  simp (maxDischargeDepth := 99) [c60, ← hτ1, g0, g1]
  refine hP.mono ?_
  rintro x τ2 ⟨hO, k2⟩
  have hx : slVals τ2 x = some (keyL a.vals v.cols) := slVals_out (by rw [keyL_len]; exact hO) (by rw [keyL_len]; exact hm)
  obtain ⟨ms, rfl⟩ := hO.one
  obtain ⟨τ3, hτ3⟩ : ∃ τ3, τ3 = (τ2.alloc ⟨[.nilSlice], .own⟩).put τ2.size ⟨[ms], .own⟩ := ⟨_, rfl⟩
  have k3 : Keeps τ2 τ3 := by rw [hτ3]; exact ((Keeps.refl _).alloc).put (Nat.le_refl _)
  have g3 : τ3.get τ2.size = some ⟨[ms], .own⟩ := by rw [hτ3, AHeap.get_put', if_pos ⟨rfl, by rw [AHeap.size_alloc]; omega⟩]
  have hw3 : writeAt (τ2.alloc ⟨[.nilSlice], .own⟩) τ2.size 0 [ms] = some τ3 := by
    rw [hτ3]
    simp [writeAt, splice]
  have k13 := k1.trans (k2.trans k3)
  have g4 : τ3.get r = some ⟨[.slice q 0 3 l.length none], .own⟩ := by rw [(k2.trans k3).2 _ (AHeap.get_lt g2), g2]
  have g5 : τ3.get q = some ⟨acells l, .own⟩ := by rw [k13.2 _ (AHeap.get_lt hq), hq]
  have g6 : τ3.get p = some ⟨v.at' now, .own⟩ := by rw [(k2.trans k3).2 _ (AHeap.get_lt hpV), hpV]
  have hA3 := (hA.keeps (hk.trans k13)).sub (a := i + 1) (k := l.length - (i + 1)) (by omega) none
  rw [List.take_of_length_le (by rw [List.length_drop]; exact Nat.le_refl _)] at hA3
  have hT := run62 τ3 p τ2.size v now (keyL a.vals v.cols) ms (hv.keeps (hk.trans k13)) hc hm g6 g3 (slVals_keeps k3 hx)
  have hR := run30 τ3 _ (l.drop (i + 1)) 54 [.ptr p 0, .ptr τ2.size 0] (v.cols.length + 40) _ _ hT hA3 (fun b hb => (hA.keeps (hk.trans k13)).2 b (List.mem_of_mem_drop hb)) f (by rw [List.length_drop]; omega)
  have hle : (i + 1) + 0 ≤ l.length := hi
  have hlc : (acells l).length = l.length * 3 := acells_length l
  have hi1 : i + 1 ≤ l.length := hi
  simp (maxDischargeDepth := 99) [hw3, g4, g5, hw, hi1, hlc, -writeAt, -Int.natCast_add]
  have e0 : 0 + (i + 1) * 3 = (i + 1) * 3 := by omega
  rw [e0] at hR
  refine hR.mono ?_
  rintro y τ4 ⟨k4, rfl⟩
  simp (maxDischargeDepth := 99) [uniqP, k13.trans k4]
theorem run_u50 (σ : AHeap) (s : SV) (l : List Arr) (v : VS) (now : Int) (hA : Arrs σ (.one s) l) (hG : Grown σ (.one s) l) (hml : l.length ≤ maxElems) (hv : v.ok σ) (hc : ∀ c ∈ v.cols, 0 ≤ c) (hm : v.cols.length ≤ maxElems) (f : Nat) (hf : l.length + l.length + v.cols.length + 120 ≤ f) :
    OptP (evCall D9 f 46 [.agg (v.at' now), .one s] σ) (fun _ r τ => Arrs τ r (fIdx (uniqP v l) 0 l) ∧ Keeps σ τ) := by
  obtain ⟨f, rfl⟩ : ∃ k, f = k + 1 := ⟨f - 1, by omega⟩
  refine evCall_code (D9_prim 46) ((D9_code 46).trans codeu50) ?_
  obtain ⟨τ, hτ⟩ : ∃ τ, τ = (σ.alloc ⟨v.at' now, .own⟩).alloc ⟨[s], .own⟩ := ⟨_, rfl⟩
  have hk : Keeps σ τ := by rw [hτ]; exact ((Keeps.refl _).alloc).alloc
  have g1 : τ.get σ.size = some ⟨v.at' now, .own⟩ := by rw [hτ]; simp
  have g2 : τ.get (σ.size + 1) = some ⟨[s], .own⟩ := by rw [hτ]; simp
  have hA2 := hA.keeps hk
  have hT := run60 τ σ.size (σ.size + 1) v now s l (hv.keeps hk) hc hm hA2 (hG.keeps hk) hml g1 g2
  have hR := run28 τ (.one s) l 52 [.ptr σ.size 0, .ptr (σ.size + 1) 0] (l.length + v.cols.length + 80) _ _ hT hA2 (fun i hi => ⟨hi, hA2.2 _ (rAt_mem hi)⟩) f (by omega)
  simp (maxDischargeDepth := 99) [cu50]
  rw [← hτ]
  refine hR.mono ?_
  rintro r τ2 ⟨h1, h2⟩
  simp (maxDischargeDepth := 99)
  have := fIdx_len (uniqP v l) l 0
  exact ⟨acells_outsl h1 (by omega) (fun a ha => (hA2.keeps h2).2 a (fIdx_mem _ l 0 a ha)), hk.trans h2⟩
end Go.Proofs.Ythjijjkoeoemgaa.Ab
