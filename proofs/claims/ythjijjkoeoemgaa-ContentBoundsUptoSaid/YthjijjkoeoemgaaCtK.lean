/- Several of my texts in one: Ct5, Ct6, Ct7, Ct7b. -/
import Derived.Test.YthjijjkoeoemgaaCt4
/- Arrivals that fit: the law's Fit. -/
namespace Go.Proofs.Ythjijjkoeoemgaa.Ab
open Go
set_option maxRecDepth 20000
set_option maxHeartbeats 2000000
set_option linter.unusedSimpArgs false

/-- Does an arrival not fit behind what came: the last number, the last time, what is there. -/
def badA (q t : Int) (out : List Arr) (a : Arr) : Bool := decide (a.seq ≤ q) || decide (1073741824 < a.seq) || decide (a.time < t) || decide (1099511627776 < a.time) || (decide (0 < out.length) && !decide (a.vals.length = (rAt out 0).vals.length)) || decide (a.vals.length = 0)
def fitGo : Int → Int → List Arr → List Arr → List Arr × Int
  | _, t, out, [] => (out, t)
  | q, t, out, a :: l => if badA q t out a = true then fitGo q t out l else fitGo a.seq a.time (out ++ [a]) l
/-- The arrivals that fit, and the last time. -/
def fitL (l : List Arr) : List Arr × Int := fitGo 0 0 [] (l.take 200)
/-- A row's length. -/
theorem row_len {σ : AHeap} {r : SV} {v : List V} (h : slVals σ (.one r) = some v) : (r = .nilSlice ∧ v.length = 0) ∨ ∃ id off cap, r = .slice id off 3 v.length cap := by
  rcases slVals_spec h with ⟨h, h2⟩ | ⟨id, off, cap, h, _⟩
  · cases h; exact .inl ⟨rfl, by rw [h2]; rfl⟩
  · cases h; exact .inr ⟨id, off, cap, rfl⟩
theorem acells_outsl {b : Nat} {τ : AHeap} {s : AV} {l : List Arr} (h : OutSl b τ 3 s (acells l) l.length) (hm : l.length ≤ maxElems) (hr : RowsOk τ l) : Arrs τ s l := by
  refine ⟨?_, hr⟩
  rcases h.2 with ⟨rfl, h0⟩ | ⟨q, rfl, _, _, hg⟩
  · exact .inl ⟨rfl, List.length_eq_zero_iff.1 h0⟩
  · exact .inr ⟨q, 0, none, .own, rfl, .inl rfl, hm, [], [], rfl, by simpa using hg⟩
theorem fit_rows : ∀ (l : List Arr) (q t : Int) (out : List Arr) (P : Arr → Prop), (∀ a ∈ l, P a) → (∀ a ∈ out, P a) → ∀ a ∈ (fitGo q t out l).1, P a
  | [], _, _, out, P, _, h => h
  | a :: l, q, t, out, P, hl, ho => by
    unfold fitGo
    split
    · exact fit_rows l q t out P (fun x hx => hl x (by simp [hx])) ho
    · refine fit_rows l _ _ _ P (fun x hx => hl x (by simp [hx])) (fun x hx => ?_)
      rcases List.mem_append.1 hx with h | h
      · exact ho x h
      · simp at h; subst h; exact hl x (by simp)
theorem fit_len : ∀ (l : List Arr) (q t : Int) (out : List Arr), (fitGo q t out l).1.length ≤ l.length + out.length
  | [], _, _, out => by simp [fitGo]
  | a :: l, q, t, out => by
    unfold fitGo
    split
    · have := fit_len l q t out
      simp only [List.length_cons]; omega
    · have := fit_len l a.seq a.time (out ++ [a])
      simp only [List.length_append, List.length_cons, List.length_nil] at this ⊢
      omega

theorem y3 {n i : Nat} (h : n ≤ i) (h2 : i ≤ 200) : n + 1 ≤ maxElems := Nat.le_trans (Nat.succ_le_succ (Nat.le_trans h h2)) (by decide)
def I10 (σ : AHeap) (s : AV) (l : List Arr) (now : Int) (k : Nat) (fr : List AV) (τ : AHeap) : Prop :=
  ∃ i q t out, k = l.length - i ∧ i ≤ l.length ∧ i ≤ 200 ∧ out.length ≤ i ∧ fr.length = 80 ∧ getSlot fr 0 = s ∧ getSlot fr 1 = .one (.int .i64 now) ∧ getSlot fr 7 = .one (.int .i64 q) ∧ getSlot fr 8 = .one (.int .i64 t) ∧ getSlot fr 9 = .one (.int .i64 (i : Int)) ∧
    OutSl σ.size τ 3 (getSlot fr 6) (acells out) out.length ∧ Keeps σ τ ∧ (∀ a ∈ out, a ∈ l) ∧ fitGo q t out ((l.take 200).drop i) = fitL l
def O10 (σ : AHeap) (l : List Arr) (now : Int) (fr : List AV) (τ : AHeap) : Prop :=
  fr.length = 80 ∧ getSlot fr 1 = .one (.int .i64 now) ∧ getSlot fr 8 = .one (.int .i64 (fitL l).2) ∧ OutSl σ.size τ 3 (getSlot fr 6) (acells (fitL l).1) (fitL l).1.length ∧ Keeps σ τ
/-- The time at which it is asked. -/
def nowL (l : List Arr) (now : Int) : Int := mm true (fitL l).2 (mm false now 1099511627776)
theorem run10 (σ : AHeap) (s : AV) (l : List Arr) (now : Int) (h : Arrs σ s l) (hl : l.length ≤ 1048576) (f : Nat) (hf : l.length + 12 ≤ f) :
    OptP (evCall D9 f 10 [s, .one (.int .i64 now)] σ) (fun _ v τ => ∃ s' t', v = .tup [s', .one (.int .i64 t')] ∧ t' = nowL l now ∧ OutSl σ.size τ 3 s' (acells (fitL l).1) (fitL l).1.length ∧ Keeps σ τ) := by
  obtain ⟨f, rfl⟩ : ∃ k, f = k + 1 := ⟨f - 1, by omega⟩
  refine evCall_code (D9_prim 10) ((D9_code 10).trans code10) ?_
  simp (maxDischargeDepth := 99) [c10]
  refine ends_to 0 (O10 σ l now) ?_ ?_
  · refine ends_loop (I := I10 σ s l now) ?_ (k := l.length) ?_ (by omega)
    · rintro k fr τ ⟨i, q, t, out, rfl, hi, hi2, hol, hlen, f0, f1, f7, f8, f9, hO, hk, hmem, hfit⟩
      by_cases hlt : i < l.length
      · by_cases hc : i < 200
        · rcases h.rd with ⟨_, rfl⟩ | ⟨id, off, cap, rfl, hm, hr⟩
          · simp at hlt
          obtain ⟨p0, _, _, _⟩ := hr i hlt
          have hid : id < σ.size := by
            cases hg : σ.get id with
            | none => rw [hg] at p0; cases p0
            | some o => exact AHeap.get_lt hg
          rw [← hk.2 id hid] at p0
          have hc' : (i : Int) < 200 := by omega
          have hlt' : (i : Int) < (l.length : Int) := by omega
          have hw := wr_next hlt hm
          have hltk : i < (l.take 200).length := by rw [List.length_take]; omega
          have hdr : (l.take 200).drop i = rAt l i :: (l.take 200).drop (i + 1) := by
            rw [List.drop_eq_getElem_cons hltk]
            simp [rAt, List.getD, hlt]
          rw [hdr] at hfit
          have hmemi : rAt l i ∈ l := rAt_mem hlt
          have hrow := row_len (h.2 _ hmemi)
          have hl10 : out.length = 0 ∨ 0 < out.length := by omega
          have hhead : 0 < out.length → ∃ qo, getSlot fr 6 = .one (.slice qo 0 3 out.length none) ∧ qo < τ.size ∧ rd (τ.get qo) none 2 = some (.one (rAt out 0).row) ∧ (((rAt out 0).row = .nilSlice ∧ (rAt out 0).vals.length = 0) ∨ ∃ id off cap, (rAt out 0).row = .slice id off 3 (rAt out 0).vals.length cap) := by
            intro hpos
            rcases hO.2 with ⟨_, h0⟩ | ⟨qo, e1, _, _, hg⟩
            · omega
            · refine ⟨qo, e1, AHeap.get_lt hg, ?_, row_len (h.2 _ (hmem _ (rAt_mem hpos)))⟩
              obtain ⟨_, _, g3⟩ := acells_get out 0 hpos
              rw [hg, rd_own]
              simp only [Nat.zero_mul, Nat.zero_add] at g3
              simp [partA, g3]
          generalize rAt l i = a at p0 hfit hmemi hrow
          obtain ⟨τ2, hτ2⟩ : ∃ τ2, τ2 = (τ.alloc ⟨[.int .i64 0, .int .i64 0, .nilSlice], .own⟩).put τ.size ⟨[.int .i64 a.seq, .int .i64 a.time, a.row], .own⟩ := ⟨_, rfl⟩
          have k2 : Keeps τ τ2 := by rw [hτ2]; exact (Keeps.alloc (Keeps.refl _)).put (Nat.le_refl _)
          have hb : τ2.get τ.size = some ⟨[.int .i64 a.seq, .int .i64 a.time, a.row], .own⟩ := by rw [hτ2, AHeap.get_put', if_pos ⟨rfl, by rw [AHeap.size_alloc]; omega⟩]
          have hwz : writeAt (τ.alloc ⟨[.int .i64 0, .int .i64 0, .nilSlice], .own⟩) τ.size 0 [.int .i64 a.seq, .int .i64 a.time, a.row] = some τ2 := by
            rw [hτ2]
            simp [writeAt, splice]
          have hO2 := hO.stay (τ' := τ2) (fun j _ h2 => k2.2 j h2)
          have hkk := hk.trans k2
          have hbad : badA q t out a = true → ∀ fr', fr'.length = 80 → getSlot fr' 0 = getSlot fr 0 → getSlot fr' 1 = getSlot fr 1 → getSlot fr' 6 = getSlot fr 6 → getSlot fr' 7 = getSlot fr 7 → getSlot fr' 8 = getSlot fr 8 → getSlot fr' 9 = .one (.int .i64 ((i + 1 : Nat) : Int)) →
              ∃ j, j < l.length - i ∧ I10 σ (.one (.slice id off 3 l.length cap)) l now j fr' τ2 := by
            intro hbd fr' a1 a2 a3 a4 a5 a6 a7
            refine ⟨l.length - (i + 1), y1 hlt, i + 1, q, t, out, rfl, hlt, hc, Nat.le_succ_of_le hol, a1, by rw [a2]; exact f0, by rw [a3]; exact f1, by rw [a5]; exact f7, by rw [a6]; exact f8, a7, by rw [a4]; exact hO2, hkk, hmem, ?_⟩
            rw [← hfit]
            conv => rhs; unfold fitGo
            rw [if_pos hbd]
          simp only [Arr.av, Arr.cells] at p0
          by_cases c1 : a.seq ≤ q
          · have hbd : badA q t out a = true := by simp [badA, c1]
            simp (maxDischargeDepth := 99) [c10_0, hlen, f0, f1, f7, f8, f9, hlt, hlt', hc, hc', p0, hwz, hb, hw, -writeAt, c1]
            exact hbad hbd _ (by simp [hlen]) (by simp [hlen]) (by simp [hlen]) (by simp [hlen]) (by simp [hlen]) (by simp [hlen]) (by simp [hlen])
          by_cases c2 : 1073741824 < a.seq
          · have hbd : badA q t out a = true := by simp [badA, c2]
            simp (maxDischargeDepth := 99) [c10_0, hlen, f0, f1, f7, f8, f9, hlt, hlt', hc, hc', p0, hwz, hb, hw, -writeAt, c1, c2]
            exact hbad hbd _ (by simp [hlen]) (by simp [hlen]) (by simp [hlen]) (by simp [hlen]) (by simp [hlen]) (by simp [hlen]) (by simp [hlen])
          by_cases c3 : a.time < t
          · have hbd : badA q t out a = true := by simp [badA, c3]
            simp (maxDischargeDepth := 99) [c10_0, hlen, f0, f1, f7, f8, f9, hlt, hlt', hc, hc', p0, hwz, hb, hw, -writeAt, c1, c2, c3]
            exact hbad hbd _ (by simp [hlen]) (by simp [hlen]) (by simp [hlen]) (by simp [hlen]) (by simp [hlen]) (by simp [hlen]) (by simp [hlen])
          by_cases c4 : 1099511627776 < a.time
          · have hbd : badA q t out a = true := by simp [badA, c4]
            simp (maxDischargeDepth := 99) [c10_0, hlen, f0, f1, f7, f8, f9, hlt, hlt', hc, hc', p0, hwz, hb, hw, -writeAt, c1, c2, c3, c4]
            exact hbad hbd _ (by simp [hlen]) (by simp [hlen]) (by simp [hlen]) (by simp [hlen]) (by simp [hlen]) (by simp [hlen]) (by simp [hlen])
          have hgood : badA q t out a = false → ∀ fr' s' τ3, fr'.length = 80 → getSlot fr' 0 = getSlot fr 0 → getSlot fr' 1 = getSlot fr 1 → getSlot fr' 6 = s' → getSlot fr' 7 = .one (.int .i64 a.seq) → getSlot fr' 8 = .one (.int .i64 a.time) → getSlot fr' 9 = .one (.int .i64 ((i + 1 : Nat) : Int)) →
              OutSl σ.size τ3 3 s' (acells out ++ [.int .i64 a.seq, .int .i64 a.time, a.row]) (out.length + 1) ∧ τ3.size = (τ2.alloc ⟨[.int .i64 a.seq, .int .i64 a.time, a.row], .own⟩).size + 1 ∧ (∀ id, id < σ.size → τ3.get id = (τ2.alloc ⟨[.int .i64 a.seq, .int .i64 a.time, a.row], .own⟩).get id) →
              ∃ j, j < l.length - i ∧ I10 σ (.one (.slice id off 3 l.length cap)) l now j fr' τ3 := by
            intro hbd fr' s' τ3 a1 a2 a3 a4 a5 a6 a7 ⟨b1, b2, b3⟩
            refine ⟨l.length - (i + 1), y1 hlt, i + 1, a.seq, a.time, out ++ [a], rfl, hlt, hc, by simp only [List.length_append, List.length_cons, List.length_nil]; omega, a1, by rw [a2]; exact f0, by rw [a3]; exact f1, a5, a6, a7, ?_, ⟨by rw [b2, AHeap.size_alloc]; have := hkk.1; omega, fun id hid => by rw [b3 id hid, AHeap.get_alloc, if_neg (by have := hkk.1; omega)]; exact hkk.2 id hid⟩, ?_, ?_⟩
            · rw [a4, acells_append]; simpa [acells, Arr.cells] using b1
            · intro x hx
              rcases List.mem_append.1 hx with h | h
              · exact hmem x h
              · simp at h; subst h; exact hmemi
            · rw [← hfit]
              conv => rhs; unfold fitGo
              rw [hbd, if_neg (by simp)]
          have hO3 : OutSl σ.size (τ2.alloc ⟨[.int .i64 a.seq, .int .i64 a.time, a.row], .own⟩) 3 (getSlot fr 6) (acells out) out.length :=
            hO2.stay (fun j h1 h2 => by rw [AHeap.get_alloc, if_neg (by omega)])
          have hap := append_out (b := σ.size) (bytes := 40) (vs := [.int .i64 a.seq, .int .i64 a.time, a.row]) hO3 (by rw [AHeap.size_alloc]; have := hkk.1; omega) (by omega) rfl (y3 hol hi2) (by decide)
          rcases hl10 with h0 | hpos
          · have hn6 : getSlot fr 6 = .one .nilSlice := by
              rcases hO.2 with ⟨h, _⟩ | ⟨qo, _, h, _, _⟩
              · exact h
              · omega
            rw [hn6] at hap
            obtain ⟨m, hmv⟩ : ∃ m, m = a.vals.length := ⟨_, rfl⟩
            rw [← hmv] at hrow
            rcases hrow with ⟨er, rfl⟩ | ⟨rid, roff, rcap, er⟩
            · rw [er] at p0 hwz hb
              have hbd : badA q t out a = true := by simp [badA, ← hmv]
              simp (maxDischargeDepth := 99) [c10_0, hlen, f0, f1, f7, f8, f9, hlt, hlt', hc, hc', p0, hwz, hb, hw, c1, c2, c3, c4, -writeAt, srcLen, srcCells, hn6]
              exact hbad hbd _ (by simp [hlen]) (by simp [hlen]) (by simp [hlen]) (by simp [hlen]) (by simp [hlen]) (by simp [hlen]) (by simp [hlen])
            · rw [er] at p0 hwz hb hap hgood
              by_cases hv : m = 0
              · subst hv
                have hbd : badA q t out a = true := by simp [badA, ← hmv]
                simp (maxDischargeDepth := 99) [c10_0, hlen, f0, f1, f7, f8, f9, hlt, hlt', hc, hc', p0, hwz, hb, hw, c1, c2, c3, c4, -writeAt, srcLen, srcCells, hn6]
                exact hbad hbd _ (by simp [hlen]) (by simp [hlen]) (by simp [hlen]) (by simp [hlen]) (by simp [hlen]) (by simp [hlen]) (by simp [hlen])
              · have hv2 : ¬ (m : Int) = 0 := by omega
                have hbd : badA q t out a = false := by simp [badA, ← hmv, c1, c2, c3, c4, hv, hv2, h0]
                simp (maxDischargeDepth := 99) [c10_0, hlen, f0, f1, f7, f8, f9, hlt, hlt', hc, hc', p0, hwz, hb, hw, c1, c2, c3, c4, -writeAt, srcLen, srcCells, hn6, hv, hv2]
                refine hap.mono ?_
                rintro s' τ3 hq
                simp (maxDischargeDepth := 99) [hlen, f9, hw]
                exact hgood hbd _ s' τ3 (by simp [hlen]) (by simp [hlen]) (by simp [hlen]) (by simp [hlen]) (by simp [hlen]) (by simp [hlen]) (by simp [hlen]) hq
          · obtain ⟨qo, e6, hqo, hq2, ho⟩ := hhead hpos
            rw [← k2.2 qo hqo] at hq2
            rw [e6] at hap
            have hpos2 : (0 : Int) < (out.length : Int) := by omega
            have hpos3 : ¬ out = [] := by intro e; rw [e] at hpos; exact absurd hpos (by decide)
            have hne : ¬ qo = τ.size := by omega
            generalize hwd : (rAt out 0).vals.length = w at ho
            rcases ho with ⟨eo, rfl⟩ | ⟨oid, ooff, ocap, eo⟩
            · rw [eo] at hq2
              obtain ⟨m, hmv⟩ : ∃ m, m = a.vals.length := ⟨_, rfl⟩
              rw [← hmv] at hrow
              rcases hrow with ⟨er, rfl⟩ | ⟨rid, roff, rcap, er⟩
              · rw [er] at p0 hwz hb
                have hbd : badA q t out a = true := by simp [badA, ← hmv]
                simp (maxDischargeDepth := 99) [c10_0, hlen, f0, f1, f7, f8, f9, hlt, hlt', hc, hc', p0, hwz, hb, hw, c1, c2, c3, c4, -writeAt, srcLen, srcCells, e6, hpos, hpos2, hpos3, hq2, hne]
                exact hbad hbd _ (by simp [hlen]) (by simp [hlen]) (by simp [hlen]) (by simp [hlen]) (by simp [hlen]) (by simp [hlen]) (by simp [hlen])
              · rw [er] at p0 hwz hb hap hgood
                by_cases hv : m = 0
                · subst hv
                  have hbd : badA q t out a = true := by simp [badA, ← hmv]
                  simp (maxDischargeDepth := 99) [c10_0, hlen, f0, f1, f7, f8, f9, hlt, hlt', hc, hc', p0, hwz, hb, hw, c1, c2, c3, c4, -writeAt, srcLen, srcCells, e6, hpos, hpos2, hpos3, hq2, hne]
                  exact hbad hbd _ (by simp [hlen]) (by simp [hlen]) (by simp [hlen]) (by simp [hlen]) (by simp [hlen]) (by simp [hlen]) (by simp [hlen])
                · have hv2 : ¬ (m : Int) = 0 := by omega
                  have hbd : badA q t out a = true := by simp [badA, ← hmv, hpos, hwd, hv, hpos3]
                  simp (maxDischargeDepth := 99) [c10_0, hlen, f0, f1, f7, f8, f9, hlt, hlt', hc, hc', p0, hwz, hb, hw, c1, c2, c3, c4, -writeAt, srcLen, srcCells, e6, hpos, hpos2, hpos3, hq2, hne, hv, hv2]
                  exact hbad hbd _ (by simp [hlen]) (by simp [hlen]) (by simp [hlen]) (by simp [hlen]) (by simp [hlen]) (by simp [hlen]) (by simp [hlen])
            · rw [eo] at hq2
              obtain ⟨m, hmv⟩ : ∃ m, m = a.vals.length := ⟨_, rfl⟩
              rw [← hmv] at hrow
              rcases hrow with ⟨er, rfl⟩ | ⟨rid, roff, rcap, er⟩
              · rw [er] at p0 hwz hb
                by_cases hz : 0 = w
                · subst hz
                  have hbd : badA q t out a = true := by simp [badA, ← hmv]
                  simp (maxDischargeDepth := 99) [c10_0, hlen, f0, f1, f7, f8, f9, hlt, hlt', hc, hc', p0, hwz, hb, hw, c1, c2, c3, c4, -writeAt, srcLen, srcCells, e6, hpos, hpos2, hpos3, hq2, hne]
                  exact hbad hbd _ (by simp [hlen]) (by simp [hlen]) (by simp [hlen]) (by simp [hlen]) (by simp [hlen]) (by simp [hlen]) (by simp [hlen])
                · have hz2 : ¬ (0 : Int) = (w : Int) := by omega
                  have hbd : badA q t out a = true := by simp [badA, ← hmv]
                  simp (maxDischargeDepth := 99) [c10_0, hlen, f0, f1, f7, f8, f9, hlt, hlt', hc, hc', p0, hwz, hb, hw, c1, c2, c3, c4, -writeAt, srcLen, srcCells, e6, hpos, hpos2, hpos3, hq2, hne, hz, hz2]
                  exact hbad hbd _ (by simp [hlen]) (by simp [hlen]) (by simp [hlen]) (by simp [hlen]) (by simp [hlen]) (by simp [hlen]) (by simp [hlen])
              · rw [er] at p0 hwz hb hap hgood
                by_cases hv : m = 0
                · subst hv
                  by_cases hz : 0 = w
                  · subst hz
                    have hbd : badA q t out a = true := by simp [badA, ← hmv]
                    simp (maxDischargeDepth := 99) [c10_0, hlen, f0, f1, f7, f8, f9, hlt, hlt', hc, hc', p0, hwz, hb, hw, c1, c2, c3, c4, -writeAt, srcLen, srcCells, e6, hpos, hpos2, hpos3, hq2, hne]
                    exact hbad hbd _ (by simp [hlen]) (by simp [hlen]) (by simp [hlen]) (by simp [hlen]) (by simp [hlen]) (by simp [hlen]) (by simp [hlen])
                  · have hz2 : ¬ (0 : Int) = (w : Int) := by omega
                    have hbd : badA q t out a = true := by simp [badA, ← hmv]
                    simp (maxDischargeDepth := 99) [c10_0, hlen, f0, f1, f7, f8, f9, hlt, hlt', hc, hc', p0, hwz, hb, hw, c1, c2, c3, c4, -writeAt, srcLen, srcCells, e6, hpos, hpos2, hpos3, hq2, hne, hz, hz2]
                    exact hbad hbd _ (by simp [hlen]) (by simp [hlen]) (by simp [hlen]) (by simp [hlen]) (by simp [hlen]) (by simp [hlen]) (by simp [hlen])
                · have hv2 : ¬ (m : Int) = 0 := by omega
                  by_cases hz : m = w
                  · subst hz
                    have hbd : badA q t out a = false := by simp [badA, ← hmv, c1, c2, c3, c4, hv, hv2, hwd]
                    simp (maxDischargeDepth := 99) [c10_0, hlen, f0, f1, f7, f8, f9, hlt, hlt', hc, hc', p0, hwz, hb, hw, c1, c2, c3, c4, -writeAt, srcLen, srcCells, e6, hpos, hpos2, hpos3, hq2, hne, hv, hv2]
                    refine hap.mono ?_
                    rintro s' τ3 hq
                    simp (maxDischargeDepth := 99) [hlen, f9, hw]
                    exact hgood hbd _ s' τ3 (by simp [hlen]) (by simp [hlen]) (by simp [hlen]) (by simp [hlen]) (by simp [hlen]) (by simp [hlen]) (by simp [hlen]) hq
                  · have hz2 : ¬ (m : Int) = (w : Int) := by omega
                    have hbd : badA q t out a = true := by simp [badA, ← hmv, hpos, hwd, hz, hpos3]
                    simp (maxDischargeDepth := 99) [c10_0, hlen, f0, f1, f7, f8, f9, hlt, hlt', hc, hc', p0, hwz, hb, hw, c1, c2, c3, c4, -writeAt, srcLen, srcCells, e6, hpos, hpos2, hpos3, hq2, hne, hv, hv2, hz, hz2]
                    exact hbad hbd _ (by simp [hlen]) (by simp [hlen]) (by simp [hlen]) (by simp [hlen]) (by simp [hlen]) (by simp [hlen]) (by simp [hlen])
        · have hlt' : (i : Int) < (l.length : Int) := by omega
          have hc' : ¬ (i : Int) < 200 := by omega
          rcases h.rd with ⟨_, rfl⟩ | ⟨id, off, cap, rfl, hm, hr⟩
          · simp at hlt
          rw [List.drop_of_length_le (by rw [List.length_take]; omega)] at hfit
          have hfit' : (out, t) = fitL l := hfit
          simp (maxDischargeDepth := 99) [c10_0, hlen, f0, f9, hlt, hlt', hc, hc']
          refine ⟨by simp [hlen], by simp [hlen, f1], by rw [← hfit']; simp [hlen, f8], by rw [← hfit']; simpa [hlen] using hO, hk⟩
      · have hlt' : ¬ (i : Int) < (l.length : Int) := by omega
        rw [List.drop_of_length_le (by rw [List.length_take]; omega)] at hfit
        have hfit' : (out, t) = fitL l := hfit
        rcases h.rd with ⟨rfl, rfl⟩ | ⟨id, off, cap, rfl, hm, hr⟩
        · have hi0 : i = 0 := by simpa using hi
          subst hi0
          simp (maxDischargeDepth := 99) [c10_0, hlen, f0, f9]
          refine ⟨by simp [hlen], by simp [hlen, f1], by rw [← hfit']; simp [hlen, f8], by rw [← hfit']; simpa [hlen] using hO, hk⟩
        · simp (maxDischargeDepth := 99) [c10_0, hlen, f0, f9, hlt, hlt']
          refine ⟨by simp [hlen], by simp [hlen, f1], by rw [← hfit']; simp [hlen, f8], by rw [← hfit']; simpa [hlen] using hO, hk⟩
    · exact ⟨0, 0, 0, [], rfl, Nat.zero_le _, Nat.zero_le _, Nat.le_refl _, by simp, by simp, by simp, by simp, by simp, by simp, by simpa [acells] using OutSl.nil _ _ _, Keeps.refl _, (fun a ha => by cases ha), rfl⟩
  · rintro fr τ ⟨hlen, f1, f8, hO, hk⟩
    simp (maxDischargeDepth := 99) [hlen, f1, f8, mms]
    exact ⟨_, _, ⟨rfl, rfl⟩, rfl, hO, hk⟩
end Go.Proofs.Ythjijjkoeoemgaa.Ab

/- Closures over arrivals: the library's IndexFunc, ContainsFunc; content's some. -/
namespace Go.Proofs.Ythjijjkoeoemgaa.Ab
open Go
set_option maxRecDepth 20000
set_option maxHeartbeats 2000000
set_option linter.unusedSimpArgs false

/-- A closure that tells of arrivals: what was there it leaves as it is. -/
def Tells (σ0 : AHeap) (fn : Nat) (caps : List SV) (K : Nat) (ok : Arr → Prop) (pr : Arr → Bool) : Prop :=
  ∀ τ, Keeps σ0 τ → ∀ f, K ≤ f → ∀ a : Arr, ok a → OptP (evCall D9 f fn (.agg [.int .i64 a.seq, .int .i64 a.time, a.row] :: caps.map AV.one) τ) (fun _ v τ' => v = .one (.bool (pr a)) ∧ Keeps τ τ')
/-- The same with the place. -/
def TellsI (σ0 : AHeap) (fn : Nat) (caps : List SV) (K : Nat) (ok : Nat → Arr → Prop) (pr : Nat → Arr → Bool) : Prop :=
  ∀ τ, Keeps σ0 τ → ∀ f, K ≤ f → ∀ (i : Nat) (a : Arr), ok i a → OptP (evCall D9 f fn (.one (.int .i64 (i : Int)) :: .agg [.int .i64 a.seq, .int .i64 a.time, a.row] :: caps.map AV.one) τ) (fun _ v τ' => v = .one (.bool (pr i a)) ∧ Keeps τ τ')
theorem Tells.keeps {σ0 σ1 : AHeap} {fn caps K ok pr} (h : Tells σ0 fn caps K ok pr) (hk : Keeps σ0 σ1) : Tells σ1 fn caps K ok pr := fun τ h1 => h τ (hk.trans h1)
theorem TellsI.keeps {σ0 σ1 : AHeap} {fn caps K ok pr} (h : TellsI σ0 fn caps K ok pr) (hk : Keeps σ0 σ1) : TellsI σ1 fn caps K ok pr := fun τ h1 => h τ (hk.trans h1)

theorem run38 (σ : AHeap) (s : AV) (m : List Arr) (fn : Nat) (caps : List SV) (K : Nat) (ok : Arr → Prop) (pr : Arr → Bool) (hp : Tells σ fn caps K ok pr) (h : Arrs σ s m) (hok : ∀ a ∈ m, ok a) (f : Nat) (hf : m.length + K + 8 ≤ f) :
    OptP (evCall D9 f 38 [s, .one (.func fn caps)] σ) (fun _ v τ => Keeps σ τ ∧ ∃ z : Int, v = .one (.int .i64 z) ∧ (decide (0 ≤ z)) = m.any pr) := by
  obtain ⟨f, rfl⟩ : ∃ k, f = k + 1 := ⟨f - 1, by omega⟩
  refine evCall_code (D9_prim 38) ((D9_code 38).trans code38) ?_
  rcases h.rd with ⟨rfl, rfl⟩ | ⟨id, off, cap, rfl, hm, hr⟩
  · simp (maxDischargeDepth := 99) [c38]
    refine ends_loop (I := fun k fr τ => k = 0 ∧ τ = σ ∧ fr.length = 19 ∧ getSlot fr 7 = .one (.int .i64 0) ∧ getSlot fr 8 = .one (.int .i64 0)) ?_ (k := 0) ?_ (by omega)
    · rintro k fr τ ⟨rfl, rfl, hlen, f7, f8⟩
      simp (maxDischargeDepth := 99) [c38_0, hlen, f7, f8]
    · simp
  · simp (maxDischargeDepth := 99) [c38]
    refine ends_loop (I := fun k fr τ => ∃ i, k = m.length - i ∧ i ≤ m.length ∧ Keeps σ τ ∧ fr.length = 19 ∧ getSlot fr 0 = .one (.slice id off 3 m.length cap) ∧ getSlot fr 1 = .one (.func fn caps) ∧ getSlot fr 7 = .one (.int .i64 (m.length : Int)) ∧ getSlot fr 8 = .one (.int .i64 (i : Int)) ∧ ∀ j, j < i → pr (rAt m j) = false) ?_ (k := m.length) ?_ (by omega)
    · rintro k fr τ ⟨i, rfl, hi, hk, hlen, f0, f1, f7, f8, hall⟩
      by_cases hlt : i < m.length
      · obtain ⟨p0, _, _, _⟩ := hr i hlt
        rw [← hk.2 id (rd_lt p0)] at p0
        have hw := wr_next hlt hm
        have hlt' : (i : Int) < (m.length : Int) := by omega
        have hc := hp τ hk f (by omega) (rAt m i) (hok _ (rAt_mem hlt))
        have hany : pr (rAt m i) = true → m.any pr = true := fun h => by
          rw [List.any_eq_true]; exact ⟨_, rAt_mem hlt, h⟩
        have hnext := y2 (P := fun j => pr (rAt m j) = false) hall
        have hi0 : decide (0 ≤ (i : Int)) = true := by rw [decide_eq_true_iff]; omega
        generalize rAt m i = a at p0 hc hany hnext
        simp only [Arr.av, Arr.cells] at p0
        simp (maxDischargeDepth := 99) [c38_0, hlen, f0, f1, f7, f8, hlt, hlt', p0]
        refine hc.mono ?_
        rintro v τ2 ⟨rfl, k2⟩
        cases hpr : pr a with
        | true =>
          have := hany hpr
          simp (maxDischargeDepth := 99) [hlen, hk.trans k2, this]
        | false =>
          simp (maxDischargeDepth := 99) [hlen, f0, f1, f7, f8, hw]
          exact ⟨m.length - (i + 1), y1 hlt, i + 1, rfl, hlt, hk.trans k2, by simp, hnext hpr⟩
      · obtain rfl : i = m.length := by omega
        have hB : m.any pr = false := by
          rw [List.any_eq_false]
          intro a ha
          obtain ⟨j, hj, rfl⟩ := List.mem_iff_getElem.1 ha
          have := hall j hj
          simpa [rAt, List.getD, hj] using this
        simp (maxDischargeDepth := 99) [c38_0, hlen, f0, f1, f7, f8, hk, hB]
    · exact ⟨0, rfl, Nat.zero_le _, Keeps.refl _, by simp, by simp, by simp, by simp, by simp, fun j hj => absurd hj (Nat.not_lt_zero _)⟩
theorem run30 (σ : AHeap) (s : AV) (m : List Arr) (fn : Nat) (caps : List SV) (K : Nat) (ok : Arr → Prop) (pr : Arr → Bool) (hp : Tells σ fn caps K ok pr) (h : Arrs σ s m) (hok : ∀ a ∈ m, ok a) (f : Nat) (hf : m.length + K + 10 ≤ f) :
    OptP (evCall D9 f 30 [s, .one (.func fn caps)] σ) (fun _ v τ => Keeps σ τ ∧ v = .one (.bool (m.any pr))) := by
  obtain ⟨f, rfl⟩ : ∃ k, f = k + 1 := ⟨f - 1, by omega⟩
  refine evCall_code (D9_prim 30) ((D9_code 30).trans code30) ?_
  simp (maxDischargeDepth := 99) [c30]
  refine (run38 σ s m fn caps K ok pr hp h hok f (by omega)).mono ?_
  rintro v τ ⟨hk, z, rfl, hz⟩
  simp (maxDischargeDepth := 99) [hk, ← hz]
/-- Whose number stands in a list. -/
theorem run31 (σ : AHeap) (b : Nat) (x : Arr) (hb : σ.get b = some ⟨[.int .i64 x.seq, .int .i64 x.time, x.row], .own⟩) : Tells σ 31 [.ptr b 0] 5 (fun _ => True) (fun y => decide (y.seq = x.seq)) := by
  intro τ hk f hf a _
  obtain ⟨f, rfl⟩ : ∃ k, f = k + 1 := ⟨f - 1, by omega⟩
  refine evCall_code (D9_prim 31) ((D9_code 31).trans code31) ?_
  have hg := hb
  rw [← hk.2 b (AHeap.get_lt hb)] at hg
  have hlt := AHeap.get_lt hg
  have hne : ¬ b = τ.size := by omega
  simp (maxDischargeDepth := 99) [c31, hg, hne]
  exact eq_comm
theorem run29 (σ : AHeap) (b : Nat) (s : SV) (m : List Arr) (h : Arrs σ (.one s) m) (hb : σ.get b = some ⟨[s], .own⟩) : TellsI σ 29 [.ptr b 0] (m.length + 20) (fun _ _ => True) (fun _ x => !hasA m x.seq) := by
  intro τ hk f hf i x _
  obtain ⟨f, rfl⟩ : ∃ k, f = k + 1 := ⟨f - 1, by omega⟩
  refine evCall_code (D9_prim 29) ((D9_code 29).trans code29) ?_
  have hg := hb
  rw [← hk.2 b (AHeap.get_lt hb)] at hg
  have hlt := AHeap.get_lt hg
  have hne : ¬ b = τ.size := by omega
  have k2 : Keeps τ (τ.alloc ⟨[.int .i64 x.seq, .int .i64 x.time, x.row], .own⟩) := (Keeps.refl _).alloc
  have hr := run30 (τ.alloc ⟨[.int .i64 x.seq, .int .i64 x.time, x.row], .own⟩) (.one s) m 31 [.ptr τ.size 0] 5 (fun _ => True) _ (run31 _ τ.size x (by simp)) ((h.keeps hk).keeps k2) (fun _ _ => trivial) f (by omega)
  simp (maxDischargeDepth := 99) [c29, hg, hne]
  refine hr.mono ?_
  rintro v τ2 ⟨k3, rfl⟩
  simp (maxDischargeDepth := 99) [k2.trans k3]
  rfl

/-! ### some -/
def fIdx (pr : Nat → Arr → Bool) : Nat → List Arr → List Arr
  | _, [] => []
  | i, a :: l => if pr i a = true then a :: fIdx pr (i + 1) l else fIdx pr (i + 1) l
theorem fIdx_append (pr : Nat → Arr → Bool) : ∀ (l m : List Arr) (i : Nat), fIdx pr i (l ++ m) = fIdx pr i l ++ fIdx pr (i + l.length) m
  | [], m, i => by simp [fIdx]
  | a :: l, m, i => by
    have := fIdx_append pr l m (i + 1)
    simp only [List.cons_append, fIdx, this, List.length_cons]
    have e : i + 1 + l.length = i + (l.length + 1) := by omega
    rw [e]
    split <;> simp
theorem fIdx_len (pr : Nat → Arr → Bool) : ∀ (l : List Arr) (i : Nat), (fIdx pr i l).length ≤ l.length
  | [], i => by simp [fIdx]
  | a :: l, i => by
    have := fIdx_len pr l (i + 1)
    unfold fIdx
    split <;> simp only [List.length_cons] <;> omega
theorem fIdx_mem (pr : Nat → Arr → Bool) : ∀ (l : List Arr) (i : Nat) (x : Arr), x ∈ fIdx pr i l → x ∈ l
  | [], i, x, h => by simp [fIdx] at h
  | a :: l, i, x, h => by
    unfold fIdx at h
    split at h
    · rcases List.mem_cons.1 h with rfl | h
      · simp
      · exact List.mem_cons_of_mem _ (fIdx_mem pr l (i + 1) x h)
    · exact List.mem_cons_of_mem _ (fIdx_mem pr l (i + 1) x h)
theorem fIdx_filter (pr : Arr → Bool) : ∀ (l : List Arr) (i : Nat), fIdx (fun _ => pr) i l = l.filter pr
  | [], i => rfl
  | a :: l, i => by
    unfold fIdx
    rw [fIdx_filter pr l (i + 1), List.filter_cons]
theorem take_next {l : List Arr} {i : Nat} (h : i < l.length) : l.take (i + 1) = l.take i ++ [rAt l i] := by
  rw [List.take_add_one]
  simp [rAt, List.getD, h]
theorem fIdx_next (pr : Nat → Arr → Bool) {l : List Arr} {i : Nat} (h : i < l.length) : fIdx pr 0 (l.take (i + 1)) = fIdx pr 0 (l.take i) ++ fIdx pr i [rAt l i] := by
  rw [take_next h, fIdx_append, List.length_take, Nat.min_eq_left (Nat.le_of_lt h), Nat.zero_add]
theorem fIdx_bound (pr : Nat → Arr → Bool) {l : List Arr} {i : Nat} (h : i < l.length) (hm : l.length ≤ maxElems) : (fIdx pr 0 (l.take i)).length + 1 ≤ maxElems := by
  have := fIdx_len pr (l.take i) 0
  rw [List.length_take] at this
  omega

def I28 (σ : AHeap) (s : AV) (l : List Arr) (fn : Nat) (caps : List SV) (pr : Nat → Arr → Bool) (k : Nat) (fr : List AV) (τ : AHeap) : Prop :=
  ∃ i, k = l.length - i ∧ i ≤ l.length ∧ fr.length = 25 ∧ getSlot fr 1 = .one (.func fn caps) ∧ getSlot fr 8 = s ∧ getSlot fr 9 = .one (.int .i64 (l.length : Int)) ∧ getSlot fr 10 = .one (.int .i64 (i : Int)) ∧
    OutSl σ.size τ 3 (getSlot fr 5) (acells (fIdx pr 0 (l.take i))) (fIdx pr 0 (l.take i)).length ∧ Keeps σ τ
def O28 (σ : AHeap) (m : List Arr) (fr : List AV) (τ : AHeap) : Prop :=
  fr.length = 25 ∧ OutSl σ.size τ 3 (getSlot fr 5) (acells m) m.length ∧ Keeps σ τ
theorem run28 (σ : AHeap) (s : AV) (l : List Arr) (fn : Nat) (caps : List SV) (K : Nat) (ok : Nat → Arr → Prop) (pr : Nat → Arr → Bool) (hp : TellsI σ fn caps K ok pr) (h : Arrs σ s l) (hok : ∀ i, i < l.length → ok i (rAt l i)) (f : Nat) (hf : l.length + K + 8 ≤ f) :
    OptP (evCall D9 f 28 [s, .one (.func fn caps)] σ) (fun _ v τ => OutSl σ.size τ 3 v (acells (fIdx pr 0 l)) (fIdx pr 0 l).length ∧ Keeps σ τ) := by
  obtain ⟨f, rfl⟩ : ∃ k, f = k + 1 := ⟨f - 1, by omega⟩
  refine evCall_code (D9_prim 28) ((D9_code 28).trans code28) ?_
  rcases h.rd with ⟨rfl, rfl⟩ | ⟨id, off, cap, rfl, hm, hr⟩
  · simp (maxDischargeDepth := 99) [c28]
    refine ends_loop (I := fun k fr τ => k = 0 ∧ τ = σ ∧ fr.length = 25 ∧ getSlot fr 5 = .one .nilSlice ∧ getSlot fr 9 = .one (.int .i64 0) ∧ getSlot fr 10 = .one (.int .i64 0)) ?_ (k := 0) ?_ (by omega)
    · rintro k fr τ ⟨rfl, rfl, hlen, f5, f9, f10⟩
      simp (maxDischargeDepth := 99) [c28_0, hlen, f5, f9, f10]
      simpa [fIdx, acells] using OutSl.nil _ _ _
    · simp
  · simp (maxDischargeDepth := 99) [c28]
    refine ends_to 0 (O28 σ (fIdx pr 0 l)) ?_ ?_
    · refine ends_loop (I := I28 σ (.one (.slice id off 3 l.length cap)) l fn caps pr) ?_ (k := l.length) ?_ (by omega)
      · rintro k fr τ ⟨i, rfl, hi, hlen, f1, f8, f9, f10, hO, hk⟩
        by_cases hlt : i < l.length
        · obtain ⟨p0, _, _, _⟩ := hr i hlt
          rw [← hk.2 id (rd_lt p0)] at p0
          have hw := wr_next hlt hm
          have hlt' : (i : Int) < (l.length : Int) := by omega
          have hnx := fIdx_next pr hlt
          have hbd := fIdx_bound pr hlt hm
          have hoka := hok i hlt
          generalize rAt l i = a at p0 hnx hoka
          simp only [Arr.av, Arr.cells] at p0
          obtain ⟨τ2, hτ2⟩ : ∃ τ2, τ2 = (τ.alloc ⟨[.int .i64 0, .int .i64 0, .nilSlice], .own⟩).put τ.size ⟨[.int .i64 a.seq, .int .i64 a.time, a.row], .own⟩ := ⟨_, rfl⟩
          have k2 : Keeps τ τ2 := by rw [hτ2]; exact (Keeps.alloc (Keeps.refl _)).put (Nat.le_refl _)
          have hb : τ2.get τ.size = some ⟨[.int .i64 a.seq, .int .i64 a.time, a.row], .own⟩ := by rw [hτ2, AHeap.get_put', if_pos ⟨rfl, by rw [AHeap.size_alloc]; omega⟩]
          have hwz : writeAt (τ.alloc ⟨[.int .i64 0, .int .i64 0, .nilSlice], .own⟩) τ.size 0 [.int .i64 a.seq, .int .i64 a.time, a.row] = some τ2 := by
            rw [hτ2]
            simp [writeAt, splice]
          have hc := hp τ2 (hk.trans k2) f (by omega) i a hoka
          simp (maxDischargeDepth := 99) [c28_0, hlen, f1, f8, f9, f10, hlt, hlt', p0, hwz, hb, -writeAt]
          refine hc.mono ?_
          rintro v τ3 ⟨rfl, k3⟩
          have hb3 := hb
          rw [← k3.2 τ.size (AHeap.get_lt hb)] at hb3
          have hk3 := (hk.trans k2).trans k3
          have hO3 : OutSl σ.size τ3 3 (getSlot fr 5) (acells (fIdx pr 0 (l.take i))) (fIdx pr 0 (l.take i)).length := (hO.stay (fun j _ h2 => k2.2 j h2)).stay (fun j _ h2 => k3.2 j h2)
          cases hpr : pr i a with
          | true =>
            have hO4 : OutSl σ.size (τ3.alloc ⟨[.int .i64 a.seq, .int .i64 a.time, a.row], .own⟩) 3 (getSlot fr 5) (acells (fIdx pr 0 (l.take i))) (fIdx pr 0 (l.take i)).length :=
              hO3.stay (fun j h1 h2 => by rw [AHeap.get_alloc, if_neg (by omega)])
            have hap := append_out (b := σ.size) (bytes := 40) (vs := [.int .i64 a.seq, .int .i64 a.time, a.row]) hO4 (by rw [AHeap.size_alloc]; have := hk3.1; omega) (by omega) rfl hbd (by decide)
            simp (maxDischargeDepth := 99) [hlen, hb3, srcLen, srcCells]
            refine hap.mono ?_
            rintro s' τ4 ⟨q1, q2, q3⟩
            have k4 : Keeps σ τ4 := ⟨by rw [q2, AHeap.size_alloc]; have := hk3.1; omega, fun j hj => by rw [q3 j hj, AHeap.get_alloc, if_neg (by have := hk3.1; omega)]; exact hk3.2 j hj⟩
            simp (maxDischargeDepth := 99) [hlen, f10, hw]
            refine ⟨l.length - (i + 1), y1 hlt, i + 1, rfl, hlt, by simp [hlen], by simp [hlen, f1], by simp [hlen, f8], by simp [hlen, f9], by simp [hlen], ?_, k4⟩
            rw [hnx]
            simp [hlen, fIdx, hpr, acells_append, acells, Arr.cells]
            exact q1
          | false =>
            simp (maxDischargeDepth := 99) [hlen, f10, hw]
            refine ⟨l.length - (i + 1), y1 hlt, i + 1, rfl, hlt, by simp [hlen], by simp [hlen, f1], by simp [hlen, f8], by simp [hlen, f9], by simp [hlen], ?_, hk3⟩
            rw [hnx]
            simpa [hlen, fIdx, hpr] using hO3
        · obtain rfl : i = l.length := by omega
          rw [List.take_of_length_le (Nat.le_refl _)] at hO
          simp (maxDischargeDepth := 99) [c28_0, hlen, f9, f10]
          exact ⟨by simp [hlen], by simpa [hlen] using hO, hk⟩
      · exact ⟨0, rfl, Nat.zero_le _, by simp, by simp, by simp, by simp, by simp, by simpa [fIdx, acells] using OutSl.nil _ _ _, Keeps.refl _⟩
    · rintro fr τ ⟨hlen, hO, hk⟩
      simp (maxDischargeDepth := 99) [hlen]
      exact ⟨hO, hk⟩
end Go.Proofs.Ythjijjkoeoemgaa.Ab

/- Rows copied, content's Diff and the document's. -/
namespace Go.Proofs.Ythjijjkoeoemgaa.Ab
open Go
set_option maxRecDepth 20000
set_option maxHeartbeats 2000000
set_option linter.unusedSimpArgs false

theorem parts_cells {cs : List SV} : ∀ (l : List V) (off : Nat), (∀ i (h : i < l.length), partA cs (some 3) (off + i * 3) = some l[i].av) → (cs.drop off).take (l.length * 3) = vcells l ∧ (l ≠ [] → off + l.length * 3 ≤ cs.length)
  | [], off, _ => by simp [vcells]
  | v :: l, off, h => by
    have h0 := h 0 (by simp)
    simp only [partA, ble_dec, Nat.zero_mul, Nat.add_zero, List.getElem_cons_zero] at h0
    by_cases hle : off + 3 ≤ cs.length
    · simp only [hle, decide_true, Option.some.injEq, V.av, AV.agg.injEq] at h0
      have ih := parts_cells l (off + 3) (fun i hi => by
        have := h (i + 1) (by simp only [List.length_cons]; omega)
        rw [show off + 3 + i * 3 = off + (i + 1) * 3 by omega]
        simpa using this)
      have e : (cs.drop off).take ((l.length + 1) * 3) = (cs.drop off).take 3 ++ (cs.drop (off + 3)).take (l.length * 3) := by
        rw [show (l.length + 1) * 3 = 3 + l.length * 3 by omega, List.take_add, List.drop_drop]
      refine ⟨?_, fun _ => ?_⟩
      · rw [List.length_cons, e, h0, ih.1]
        rfl
      · rw [List.length_cons]
        cases l with
        | nil => simp only [List.length_nil]; omega
        | cons x l => have := ih.2 (by simp); omega
    · simp [hle] at h0
/-- What a row of values gives to append. -/
theorem slVals_src {σ : AHeap} {s : AV} {l : List V} (h : slVals σ s = some l) (h0 : l ≠ []) : ∃ id off cap, s = .one (.slice id off 3 l.length cap) ∧ id < σ.size ∧ srcCells σ 3 l.length s = some (vcells l) ∧ l.length ≤ maxElems := by
  rcases slVals_spec h with ⟨_, rfl⟩ | ⟨id, off, cap, rfl, hr, hm⟩
  · exact absurd rfl h0
  · have hpos : 0 < l.length := by
      cases l with
      | nil => exact absurd rfl h0
      | cons => simp
    have hid := rd_lt (hr 0 hpos)
    refine ⟨id, off, cap, rfl, hid, ?_, hm⟩
    cases hg : σ.get id with
    | none => have := hr 0 hpos; rw [hg] at this; cases this
    | some o =>
      obtain ⟨cs, md⟩ := o
      have hmd : md = .own ∨ md = .ro := by
        have := hr 0 hpos
        rw [hg] at this
        cases md with
        | own => exact .inl rfl
        | ro => exact .inr rfl
        | dead => cases this
      have hp : ∀ i (h : i < l.length), partA cs (some 3) (off + i * 3) = some l[i].av := fun i hi => by
        have := hr i hi
        rw [hg] at this
        rcases hmd with rfl | rfl
        · exact this
        · exact this
      obtain ⟨e1, e2⟩ := parts_cells l off hp
      have e2 := e2 h0
      rcases hmd with rfl | rfl <;> simp [srcCells, hg, e2, e1]
theorem append_many0 {b : Nat} {τ : AHeap} {q esz bytes k : Nat} {vs : List SV} (hg : τ.get q = some ⟨[], .own⟩) (hb : b ≤ τ.size) (hk : 0 < k) (hv : vs.length = k * esz) (hn : k ≤ maxElems) (hby : bytes ≤ maxBytes) :
    OptP (appendA τ esz bytes (.one (.slice q 0 esz 0 (some 0))) k vs) (fun _ s' τ' => OutSl b τ' esz s' vs k ∧ Keeps τ τ') := by
  obtain ⟨k, rfl⟩ : ∃ j, k = j + 1 := ⟨k - 1, by omega⟩
  simp [appendA, appendK, hg, hn, hby]
  exact ⟨hv, .inr ⟨τ.size, rfl, by omega, hb, by simp⟩⟩
/-- Append by one: only the slice's own old object dies, the new one is the newest. -/
theorem append_one {b : Nat} {τ : AHeap} {esz bytes : Nat} {s : AV} {cells vs : List SV} {n : Nat} (h : OutSl b τ esz s cells n) (hb : b ≤ τ.size) (he : 0 < esz)
    (hv : vs.length = esz) (hn : n + 1 ≤ maxElems) (hby : bytes ≤ maxBytes) :
    OptP (appendA τ esz bytes s 1 vs) (fun _ s' τ' => OutSl b τ' esz s' (cells ++ vs) (n + 1) ∧ τ'.size = τ.size + 1 ∧ s' = .one (.slice τ.size 0 esz (n + 1) none) ∧
      ∀ id, id < τ.size → (∀ o e k c, s ≠ .one (.slice id o e k c)) → τ'.get id = τ.get id) := by
  obtain ⟨hc, h⟩ := h
  rcases h with ⟨rfl, rfl⟩ | ⟨q, rfl, h0, hq, hg⟩
  · have h1 : 1 ≤ maxElems := by decide
    have hc0 : cells = [] := by simpa using hc
    subst hc0
    simp [appendA, appendK, h1, hby]
    refine ⟨⟨by simpa using hv, .inr ⟨τ.size, rfl, by omega, hb, by simp⟩⟩, fun id hid hid' => by omega⟩
  · have hlt := AHeap.get_lt hg
    have h2 : ¬ ((n + 1) * esz ≤ cells.length) := by rw [hc, Nat.succ_mul]; omega
    simp [appendA, appendK, hn, hby, hg, h2, hc.symm]
    have hmul : cells.length + esz = (n + 1) * esz := by rw [hc, Nat.succ_mul]
    refine ⟨⟨by simp [hv, hmul], .inr ⟨τ.size, rfl, by omega, hb, by simp⟩⟩, fun id hid hne => ?_⟩
    have e1 : ¬ (id = q ∧ q < τ.size) := fun e => hne 0 esz n none e.1.symm rfl rfl rfl rfl
    rw [if_neg (by omega), if_neg e1]
/-- slices.Clone of a row that is not empty. -/
theorem run33 (σ : AHeap) (s : AV) (l : List V) (h : slVals σ s = some l) (h0 : l ≠ []) (f : Nat) (hf : 5 ≤ f) :
    OptP (evCall D9 f 33 [s] σ) (fun _ v τ => ∃ q, v = .one (.slice q 0 3 l.length none) ∧ σ.size < q ∧ q < τ.size ∧ slVals τ v = some l ∧ Keeps σ τ) := by
  obtain ⟨f, rfl⟩ : ∃ k, f = k + 1 := ⟨f - 1, by omega⟩
  refine evCall_code (D9_prim 33) ((D9_code 33).trans code33) ?_
  obtain ⟨id, off, cap, rfl, hid, hs, hm⟩ := slVals_src h h0
  have hpos : 0 < l.length := by
    cases l with
    | nil => exact absurd rfl h0
    | cons => simp
  have k1 : Keeps σ (σ.alloc ⟨[], .own⟩) := (Keeps.refl _).alloc
  have hs1 : srcCells (σ.alloc ⟨[], .own⟩) 3 l.length (.one (.slice id off 3 l.length cap)) = some (vcells l) := by
    have hge : (σ.alloc ⟨[], .own⟩).get id = σ.get id := by rw [AHeap.get_alloc, if_neg (by omega)]
    simp only [srcCells, hge] at hs ⊢
    exact hs
  have hap := append_many0 (b := σ.size + 1) (bytes := 32) (esz := 3) (vs := vcells l) (k := l.length) (q := σ.size) (τ := σ.alloc ⟨[], .own⟩) (by simp) (by simp) hpos (vcells_length l) hm (by decide)
  simp (maxDischargeDepth := 99) [c33, srcLen, hs1]
  refine hap.mono ?_
  rintro s' τ ⟨q1, q2⟩
  simp (maxDischargeDepth := 99) [slVals_out q1 hm, k1.trans q2]
  rcases q1.2 with ⟨_, e⟩ | ⟨q, e, _, e2, e3⟩
  · omega
  · exact ⟨q, e, by omega, AHeap.get_lt e3⟩
/-- Rows that lie below an object. -/
def RowsLt (s : AV) (l : List Arr) : Prop := ∀ q o e n c, s = .one (.slice q o e n c) → ∀ a ∈ l, ∃ id off cap, a.row = .slice id off 3 a.vals.length cap ∧ id < q
theorem slVals_get {σ τ : AHeap} {id off n : Nat} {cap : Option Nat} {l : List V} (h : slVals σ (.one (.slice id off 3 n cap)) = some l) (hg : τ.get id = σ.get id) : slVals τ (.one (.slice id off 3 n cap)) = some l := by
  simp only [slVals, hg] at h ⊢
  exact h

/-! ### copied -/
def I23 (σ : AHeap) (s : AV) (l : List Arr) (k : Nat) (fr : List AV) (τ : AHeap) : Prop :=
  ∃ i out, k = l.length - i ∧ i ≤ l.length ∧ out.length = i ∧ out.map Arr.key = (l.take i).map Arr.key ∧ RowsOk τ out ∧ RowsLt (getSlot fr 3) out ∧ (getSlot fr 3 = .one .nilSlice → out = []) ∧ fr.length = 22 ∧ getSlot fr 6 = s ∧ getSlot fr 7 = .one (.int .i64 (l.length : Int)) ∧ getSlot fr 8 = .one (.int .i64 (i : Int)) ∧
    OutSl σ.size τ 3 (getSlot fr 3) (acells out) out.length ∧ Keeps σ τ
def O23 (σ : AHeap) (l : List Arr) (fr : List AV) (τ : AHeap) : Prop :=
  ∃ out, out.length = l.length ∧ out.map Arr.key = l.map Arr.key ∧ RowsOk τ out ∧ fr.length = 22 ∧ OutSl σ.size τ 3 (getSlot fr 3) (acells out) out.length ∧ Keeps σ τ
theorem cp1 {out : List Arr} {n i : Nat} (h : out.length = i) (h2 : i < n) (hm : n ≤ maxElems) : out.length + 1 ≤ maxElems := by omega
theorem run23 (σ : AHeap) (s : AV) (l : List Arr) (h : Arrs σ s l) (hne : ∀ a ∈ l, a.vals ≠ []) (f : Nat) (hf : l.length + 12 ≤ f) :
    OptP (evCall D9 f 23 [s] σ) (fun _ v τ => ∃ out, out.map Arr.key = l.map Arr.key ∧ RowsOk τ out ∧ OutSl σ.size τ 3 v (acells out) out.length ∧ Keeps σ τ) := by
  obtain ⟨f, rfl⟩ : ∃ k, f = k + 1 := ⟨f - 1, by omega⟩
  refine evCall_code (D9_prim 23) ((D9_code 23).trans code23) ?_
  rcases h.rd with ⟨rfl, rfl⟩ | ⟨id, off, cap, rfl, hm, hr⟩
  · simp (maxDischargeDepth := 99) [c23]
    refine ends_loop (I := fun k fr τ => k = 0 ∧ τ = σ ∧ fr.length = 22 ∧ getSlot fr 3 = .one .nilSlice ∧ getSlot fr 7 = .one (.int .i64 0) ∧ getSlot fr 8 = .one (.int .i64 0)) ?_ (k := 0) ?_ (by omega)
    · rintro k fr τ ⟨rfl, rfl, hlen, f3, f7, f8⟩
      simp (maxDischargeDepth := 99) [c23_0, hlen, f3, f7, f8]
      exact ⟨(fun a ha => by cases ha), by simpa [acells] using OutSl.nil _ _ _⟩
    · simp
  · simp (maxDischargeDepth := 99) [c23]
    refine ends_to 0 (O23 σ l) ?_ ?_
    · refine ends_loop (I := I23 σ (.one (.slice id off 3 l.length cap)) l) ?_ (k := l.length) ?_ (by omega)
      · rintro k fr τ ⟨i, out, rfl, hi, hol, hkey, hro, hrl, hrn, hlen, f6, f7, f8, hO, hk⟩
        by_cases hlt : i < l.length
        · obtain ⟨p0, _, _, _⟩ := hr i hlt
          rw [← hk.2 id (rd_lt p0)] at p0
          have hw := wr_next hlt hm
          have hlt' : (i : Int) < (l.length : Int) := by omega
          have htk := take_next hlt
          have hrow := h.2 _ (rAt_mem hlt)
          have hnev := hne _ (rAt_mem hlt)
          generalize rAt l i = a at p0 htk hrow hnev
          simp only [Arr.av, Arr.cells] at p0
          obtain ⟨τ2, hτ2⟩ : ∃ τ2, τ2 = (τ.alloc ⟨[.int .i64 0, .int .i64 0, .nilSlice], .own⟩).put τ.size ⟨[.int .i64 a.seq, .int .i64 a.time, a.row], .own⟩ := ⟨_, rfl⟩
          have k2 : Keeps τ τ2 := by rw [hτ2]; exact (Keeps.alloc (Keeps.refl _)).put (Nat.le_refl _)
          have hb : τ2.get τ.size = some ⟨[.int .i64 a.seq, .int .i64 a.time, a.row], .own⟩ := by rw [hτ2, AHeap.get_put', if_pos ⟨rfl, by rw [AHeap.size_alloc]; omega⟩]
          have hwz : writeAt (τ.alloc ⟨[.int .i64 0, .int .i64 0, .nilSlice], .own⟩) τ.size 0 [.int .i64 a.seq, .int .i64 a.time, a.row] = some τ2 := by
            rw [hτ2]
            simp [writeAt, splice]
          have hc := run33 τ2 (.one a.row) a.vals (slVals_keeps (hk.trans k2) hrow) hnev f (by omega)
          simp (maxDischargeDepth := 99) [c23_0, hlen, f6, f7, f8, hlt, hlt', p0, hwz, hb, -writeAt]
          refine hc.mono ?_
          rintro v τ3 ⟨xq, rfl, hx1, hx2, hv, k3⟩
          obtain ⟨x, hx⟩ : ∃ x : SV, x = .slice xq 0 3 a.vals.length none := ⟨_, rfl⟩
          rw [← hx] at hv ⊢
          have hb3 := hb
          rw [← k3.2 τ.size (AHeap.get_lt hb)] at hb3
          have hk3 := (hk.trans k2).trans k3
          obtain ⟨τ4, hτ4⟩ : ∃ τ4, τ4 = τ3.put τ.size ⟨[.int .i64 a.seq, .int .i64 a.time, x], .own⟩ := ⟨_, rfl⟩
          have hw4 : writeAt τ3 τ.size 2 [x] = some τ4 := by
            rw [hτ4]
            simp [writeAt, splice, hb3]
          have k4 : Keeps τ τ4 := by rw [hτ4]; exact (k2.trans k3).put (Nat.le_refl _)
          have hb4 : τ4.get τ.size = some ⟨[.int .i64 a.seq, .int .i64 a.time, x], .own⟩ := by rw [hτ4, AHeap.get_put', if_pos ⟨rfl, AHeap.get_lt hb3⟩]
          have hkk := hk.trans k4
          have hO4 : OutSl σ.size (τ4.alloc ⟨[.int .i64 a.seq, .int .i64 a.time, x], .own⟩) 3 (getSlot fr 3) (acells out) out.length :=
            (hO.stay (fun j _ h2 => k4.2 j h2)).stay (fun j h1 h2 => by rw [AHeap.get_alloc, if_neg (by omega)])
          have hap := append_one (b := σ.size) (bytes := 40) (vs := [.int .i64 a.seq, .int .i64 a.time, x]) hO4 (by rw [AHeap.size_alloc]; have := hkk.1; omega) (by omega) rfl (cp1 hol hlt hm) (by decide)
          simp (maxDischargeDepth := 99) [hlen, hb3, hw4, hb4, srcLen, srcCells, -writeAt]
          refine hap.mono ?_
          rintro s' τ5 ⟨q1, q2, q4, q3⟩
          rw [AHeap.size_alloc] at q2 q4
          have hst : ∀ j, j < τ4.size → (∀ o e k c, getSlot fr 3 ≠ .one (.slice j o e k c)) → τ5.get j = τ4.get j := fun j hj hne => by
            rw [q3 j (by rw [AHeap.size_alloc]; omega) hne, AHeap.get_alloc, if_neg (by omega)]
          have hlow : ∀ j, j < σ.size → ∀ o e k c, getSlot fr 3 ≠ .one (.slice j o e k c) := fun j hj o e k c he => by
            rcases hO.2 with ⟨e2, _⟩ | ⟨q, e2, _, e3, _⟩
            · rw [e2] at he; cases he
            · rw [e2] at he; cases he; omega
          have k5 : Keeps σ τ5 := ⟨by rw [q2]; have := hkk.1; omega, fun j hj => by rw [hst j (by have := hkk.1; omega) (hlow j hj)]; exact hkk.2 j hj⟩
          have hqlt : ∀ q o e n c, getSlot fr 3 = .one (.slice q o e n c) → q < τ.size := fun q o e n c he => by
            rcases hO.2 with ⟨e2, _⟩ | ⟨q, e2, _, _, e3⟩
            · rw [e2] at he; cases he
            · rw [e2] at he; cases he; exact AHeap.get_lt e3
          have hold : ∀ y ∈ out, ∃ id off cap, y.row = .slice id off 3 y.vals.length cap ∧ id < τ.size ∧ ∀ o e k c, getSlot fr 3 ≠ .one (.slice id o e k c) := fun y hy => by
            rcases hO.2 with ⟨e2, _⟩ | ⟨q, e2, _, _, e3⟩
            · rw [hrn e2] at hy; cases hy
            · obtain ⟨id, off, cap, e4, e5⟩ := hrl q _ _ _ _ e2 y hy
              refine ⟨id, off, cap, e4, by have := AHeap.get_lt e3; omega, fun o e k c he => ?_⟩
              rw [e2] at he; cases he; omega
          have hro5 : RowsOk τ5 (out ++ [⟨a.seq, a.time, x, a.vals⟩]) := by
            intro y hy
            rcases List.mem_append.1 hy with hy | hy
            · obtain ⟨id, off, cap, e4, e5, e6⟩ := hold y hy
              have h1 := slVals_keeps k4 (hro y hy)
              rw [e4] at h1 ⊢
              exact slVals_get h1 (hst id (by have := k4.1; omega) e6)
            · simp only [List.mem_singleton] at hy
              subst hy
              have h4 : τ4.get xq = τ3.get xq := by
                rw [hτ4, AHeap.get_put', if_neg (fun e => by have := e.1; have := k2.1; omega)]
              rw [hx] at hv ⊢
              exact slVals_get hv (by rw [hst xq (by rw [hτ4, AHeap.size_put]; omega) (fun o e k c he => by have := hqlt _ _ _ _ _ he; have := k2.1; omega), h4])
          have hrl5 : RowsLt s' (out ++ [⟨a.seq, a.time, x, a.vals⟩]) := by
            intro q o e n c he y hy
            rw [q4] at he
            cases he
            rcases List.mem_append.1 hy with hy | hy
            · obtain ⟨id, off, cap, e4, e5, e6⟩ := hold y hy
              exact ⟨id, off, cap, e4, by have := k4.1; omega⟩
            · simp only [List.mem_singleton] at hy
              subst hy
              exact ⟨xq, 0, none, hx, by have : τ4.size = τ3.size := by rw [hτ4, AHeap.size_put]
                                         omega⟩
          simp (maxDischargeDepth := 99) [hlen, f8, hw]
          refine ⟨l.length - (i + 1), y1 hlt, i + 1, out ++ [⟨a.seq, a.time, x, a.vals⟩], rfl, hlt, by simp [hol], by rw [htk]; simp [hkey, Arr.key], hro5, by simpa [hlen] using hrl5, by simp [hlen, q4], by simp [hlen], by simp [hlen, f6], by simp [hlen, f7], by simp [hlen], ?_, k5⟩
          simp [hlen, acells_append, acells, Arr.cells]
          exact q1
        · obtain rfl : i = l.length := by omega
          rw [List.take_of_length_le (Nat.le_refl _)] at hkey
          simp (maxDischargeDepth := 99) [c23_0, hlen, f7, f8]
          exact ⟨out, hol, hkey, hro, by simp [hlen], by simpa [hlen] using hO, hk⟩
      · exact ⟨0, [], rfl, Nat.zero_le _, rfl, rfl, (fun a ha => by cases ha), (fun _ _ _ _ _ _ a ha => by cases ha), (fun _ => rfl), by simp, by simp, by simp, by simp, by simpa [acells] using OutSl.nil _ _ _, Keeps.refl _⟩
    · rintro fr τ ⟨out, hol, hkey, hro, hlen, hO, hk⟩
      simp (maxDischargeDepth := 99) [hlen]
      exact ⟨out, hkey, hro, hO, hk⟩
end Go.Proofs.Ythjijjkoeoemgaa.Ab

/- Lists that grew. -/
namespace Go.Proofs.Ythjijjkoeoemgaa.Ab
open Go
theorem OutSl.one {b : Nat} {τ : AHeap} {e n : Nat} {s : AV} {c : List SV} (h : OutSl b τ e s c n) : ∃ x, s = .one x := by
  rcases h.2 with ⟨h, _⟩ | ⟨_, h, _⟩
  · exact ⟨_, h⟩
  · exact ⟨_, h⟩
theorem OutSl.low {b b' : Nat} {τ : AHeap} {e n : Nat} {s : AV} {c : List SV} (h : OutSl b τ e s c n) (hb : b' ≤ b) : OutSl b' τ e s c n := by
  refine ⟨h.1, ?_⟩
  rcases h.2 with h | ⟨q, h1, h0, h2, h3⟩
  · exact .inl h
  · exact .inr ⟨q, h1, h0, by omega, h3⟩
theorem Arrs.one {σ : AHeap} {s : AV} {l : List Arr} (h : Arrs σ s l) : ∃ x, s = .one x := by
  rcases h.1 with ⟨h, _⟩ | ⟨_, _, _, _, h, _⟩
  · exact ⟨_, h⟩
  · exact ⟨_, h⟩
theorem wr_nat {n : Nat} (h : n ≤ 4398046511104) : wr .i64 (n : Int) = (n : Int) := wr64 (by omega) (by omega)
end Go.Proofs.Ythjijjkoeoemgaa.Ab
