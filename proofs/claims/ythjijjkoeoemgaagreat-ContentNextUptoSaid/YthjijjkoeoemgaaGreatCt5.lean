/- Arrivals that fit: the law's Fit. -/
import Derived.Test.YthjijjkoeoemgaaGreatCt4
namespace Go.Proofs.YthjijjkoeoemgaaGreat.Ab
open Go
set_option maxRecDepth 20000
set_option maxHeartbeats 2000000
set_option linter.unusedSimpArgs false

/-- Does an arrival not fit behind what came: the last number, the last time, what is there. -/
def badA (q t : Int) (out : List Arr) (a : Arr) : Bool := decide (a.seq ≤ q) || decide (1073741824 < a.seq) || decide (a.time < t) || decide (1099511627776 < a.time) || (decide (0 < out.length) && !decide (a.vals.length = (rAt out 0).vals.length)) || decide (a.vals.length = 0)
def fitGo : Int → Int → List Arr → List Arr → List Arr × Int
  | _, t, out, [] => (out, t)
  | q, t, out, a :: l => if badA q t out a = true then fitGo q t out l else fitGo a.seq a.time (out ++ [a]) l
/-- The arrivals that fit, and the last time. -/
def fitL (l : List Arr) : List Arr × Int := fitGo 0 0 [] (l.take 200)
/-- A row's length. -/
theorem row_len {σ : AHeap} {r : SV} {v : List V} (h : slVals σ (.one r) = some v) : (r = .nilSlice ∧ v.length = 0) ∨ ∃ id off cap, r = .slice id off 3 v.length cap := by
  rcases slVals_spec h with ⟨h, h2⟩ | ⟨id, off, cap, h, _⟩
  · cases h; exact .inl ⟨rfl, by rw [h2]; rfl⟩
  · cases h; exact .inr ⟨id, off, cap, rfl⟩
theorem acells_outsl {b : Nat} {τ : AHeap} {s : AV} {l : List Arr} (h : OutSl b τ 3 s (acells l) l.length) (hm : l.length ≤ maxElems) (hr : RowsOk τ l) : Arrs τ s l := by
  refine ⟨?_, hr⟩
  rcases h.2 with ⟨rfl, h0⟩ | ⟨q, rfl, _, _, hg⟩
  · exact .inl ⟨rfl, List.length_eq_zero_iff.1 h0⟩
  · exact .inr ⟨q, 0, none, .own, rfl, .inl rfl, hm, [], [], rfl, by simpa using hg⟩
theorem fit_rows : ∀ (l : List Arr) (q t : Int) (out : List Arr) (P : Arr → Prop), (∀ a ∈ l, P a) → (∀ a ∈ out, P a) → ∀ a ∈ (fitGo q t out l).1, P a
  | [], _, _, out, P, _, h => h
  | a :: l, q, t, out, P, hl, ho => by
    unfold fitGo
    split
    · exact fit_rows l q t out P (fun x hx => hl x (by simp [hx])) ho
    · refine fit_rows l _ _ _ P (fun x hx => hl x (by simp [hx])) (fun x hx => ?_)
      rcases List.mem_append.1 hx with h | h
      · exact ho x h
      · simp at h; subst h; exact hl x (by simp)
theorem fit_len : ∀ (l : List Arr) (q t : Int) (out : List Arr), (fitGo q t out l).1.length ≤ l.length + out.length
  | [], _, _, out => by simp [fitGo]
  | a :: l, q, t, out => by
    unfold fitGo
    split
    · have := fit_len l q t out
      simp only [List.length_cons]; omega
    · have := fit_len l a.seq a.time (out ++ [a])
      simp only [List.length_append, List.length_cons, List.length_nil] at this ⊢
      omega

theorem y3 {n i : Nat} (h : n ≤ i) (h2 : i ≤ 200) : n + 1 ≤ maxElems := Nat.le_trans (Nat.succ_le_succ (Nat.le_trans h h2)) (by decide)
def I10 (σ : AHeap) (s : AV) (l : List Arr) (now : Int) (k : Nat) (fr : List AV) (τ : AHeap) : Prop :=
  ∃ i q t out, k = l.length - i ∧ i ≤ l.length ∧ i ≤ 200 ∧ out.length ≤ i ∧ fr.length = 80 ∧ getSlot fr 0 = s ∧ getSlot fr 1 = .one (.int .i64 now) ∧ getSlot fr 7 = .one (.int .i64 q) ∧ getSlot fr 8 = .one (.int .i64 t) ∧ getSlot fr 9 = .one (.int .i64 (i : Int)) ∧
    OutSl σ.size τ 3 (getSlot fr 6) (acells out) out.length ∧ Keeps σ τ ∧ (∀ a ∈ out, a ∈ l) ∧ fitGo q t out ((l.take 200).drop i) = fitL l
def O10 (σ : AHeap) (l : List Arr) (now : Int) (fr : List AV) (τ : AHeap) : Prop :=
  fr.length = 80 ∧ getSlot fr 1 = .one (.int .i64 now) ∧ getSlot fr 8 = .one (.int .i64 (fitL l).2) ∧ OutSl σ.size τ 3 (getSlot fr 6) (acells (fitL l).1) (fitL l).1.length ∧ Keeps σ τ
/-- The time at which it is asked. -/
def nowL (l : List Arr) (now : Int) : Int := mm true (fitL l).2 (mm false now 1099511627776)
theorem run10 (σ : AHeap) (s : AV) (l : List Arr) (now : Int) (h : Arrs σ s l) (hl : l.length ≤ 1048576) (f : Nat) (hf : l.length + 12 ≤ f) :
    OptP (evCall D9 f 5 [s, .one (.int .i64 now)] σ) (fun _ v τ => ∃ s' t', v = .tup [s', .one (.int .i64 t')] ∧ t' = nowL l now ∧ OutSl σ.size τ 3 s' (acells (fitL l).1) (fitL l).1.length ∧ Keeps σ τ) := by
  obtain ⟨f, rfl⟩ : ∃ k, f = k + 1 := ⟨f - 1, by omega⟩
  refine evCall_code (D9_prim 5) ((D9_code 5).trans code10) ?_
  simp (maxDischargeDepth := 99) [c10]
  refine ends_to 0 (O10 σ l now) ?_ ?_
  · refine ends_loop (I := I10 σ s l now) ?_ (k := l.length) ?_ (by omega)
    · rintro k fr τ ⟨i, q, t, out, rfl, hi, hi2, hol, hlen, f0, f1, f7, f8, f9, hO, hk, hmem, hfit⟩
      by_cases hlt : i < l.length
      · by_cases hc : i < 200
        · rcases h.rd with ⟨_, rfl⟩ | ⟨id, off, cap, rfl, hm, hr⟩
          · simp at hlt
          obtain ⟨p0, _, _, _⟩ := hr i hlt
          have hid : id < σ.size := by
            cases hg : σ.get id with
            | none => rw [hg] at p0; cases p0
            | some o => exact AHeap.get_lt hg
          rw [← hk.2 id hid] at p0
          have hc' : (i : Int) < 200 := by omega
          have hlt' : (i : Int) < (l.length : Int) := by omega
          have hw := wr_next hlt hm
          have hltk : i < (l.take 200).length := by rw [List.length_take]; omega
          have hdr : (l.take 200).drop i = rAt l i :: (l.take 200).drop (i + 1) := by
            rw [List.drop_eq_getElem_cons hltk]
            simp [rAt, List.getD, hlt]
          rw [hdr] at hfit
          have hmemi : rAt l i ∈ l := rAt_mem hlt
          have hrow := row_len (h.2 _ hmemi)
          have hl10 : out.length = 0 ∨ 0 < out.length := by omega
          have hhead : 0 < out.length → ∃ qo, getSlot fr 6 = .one (.slice qo 0 3 out.length none) ∧ qo < τ.size ∧ rd (τ.get qo) none 2 = some (.one (rAt out 0).row) ∧ (((rAt out 0).row = .nilSlice ∧ (rAt out 0).vals.length = 0) ∨ ∃ id off cap, (rAt out 0).row = .slice id off 3 (rAt out 0).vals.length cap) := by
            intro hpos
            rcases hO.2 with ⟨_, h0⟩ | ⟨qo, e1, _, _, hg⟩
            · omega
            · refine ⟨qo, e1, AHeap.get_lt hg, ?_, row_len (h.2 _ (hmem _ (rAt_mem hpos)))⟩
              obtain ⟨_, _, g3⟩ := acells_get out 0 hpos
              rw [hg, rd_own]
              simp only [Nat.zero_mul, Nat.zero_add] at g3
              simp [partA, g3]
          generalize rAt l i = a at p0 hfit hmemi hrow
          obtain ⟨τ2, hτ2⟩ : ∃ τ2, τ2 = (τ.alloc ⟨[.int .i64 0, .int .i64 0, .nilSlice], .own⟩).put τ.size ⟨[.int .i64 a.seq, .int .i64 a.time, a.row], .own⟩ := ⟨_, rfl⟩
          have k2 : Keeps τ τ2 := by rw [hτ2]; exact (Keeps.alloc (Keeps.refl _)).put (Nat.le_refl _)
          have hb : τ2.get τ.size = some ⟨[.int .i64 a.seq, .int .i64 a.time, a.row], .own⟩ := by rw [hτ2, AHeap.get_put', if_pos ⟨rfl, by rw [AHeap.size_alloc]; omega⟩]
          have hwz : writeAt (τ.alloc ⟨[.int .i64 0, .int .i64 0, .nilSlice], .own⟩) τ.size 0 [.int .i64 a.seq, .int .i64 a.time, a.row] = some τ2 := by
            rw [hτ2]
            simp [writeAt, splice]
          have hO2 := hO.stay (τ' := τ2) (fun j _ h2 => k2.2 j h2)
          have hkk := hk.trans k2
          have hbad : badA q t out a = true → ∀ fr', fr'.length = 80 → getSlot fr' 0 = getSlot fr 0 → getSlot fr' 1 = getSlot fr 1 → getSlot fr' 6 = getSlot fr 6 → getSlot fr' 7 = getSlot fr 7 → getSlot fr' 8 = getSlot fr 8 → getSlot fr' 9 = .one (.int .i64 ((i + 1 : Nat) : Int)) →
              ∃ j, j < l.length - i ∧ I10 σ (.one (.slice id off 3 l.length cap)) l now j fr' τ2 := by
            intro hbd fr' a1 a2 a3 a4 a5 a6 a7
            refine ⟨l.length - (i + 1), y1 hlt, i + 1, q, t, out, rfl, hlt, hc, Nat.le_succ_of_le hol, a1, by rw [a2]; exact f0, by rw [a3]; exact f1, by rw [a5]; exact f7, by rw [a6]; exact f8, a7, by rw [a4]; exact hO2, hkk, hmem, ?_⟩
            rw [← hfit]
            conv => rhs; unfold fitGo
            rw [if_pos hbd]
          simp only [Arr.av, Arr.cells] at p0
          by_cases c1 : a.seq ≤ q
          · have hbd : badA q t out a = true := by simp [badA, c1]
            simp (maxDischargeDepth := 99) [c10_0, hlen, f0, f1, f7, f8, f9, hlt, hlt', hc, hc', p0, hwz, hb, hw, -writeAt, c1]
            exact hbad hbd _ (by simp [hlen]) (by simp [hlen]) (by simp [hlen]) (by simp [hlen]) (by simp [hlen]) (by simp [hlen]) (by simp [hlen])
          by_cases c2 : 1073741824 < a.seq
          · have hbd : badA q t out a = true := by simp [badA, c2]
            simp (maxDischargeDepth := 99) [c10_0, hlen, f0, f1, f7, f8, f9, hlt, hlt', hc, hc', p0, hwz, hb, hw, -writeAt, c1, c2]
            exact hbad hbd _ (by simp [hlen]) (by simp [hlen]) (by simp [hlen]) (by simp [hlen]) (by simp [hlen]) (by simp [hlen]) (by simp [hlen])
          by_cases c3 : a.time < t
          · have hbd : badA q t out a = true := by simp [badA, c3]
            simp (maxDischargeDepth := 99) [c10_0, hlen, f0, f1, f7, f8, f9, hlt, hlt', hc, hc', p0, hwz, hb, hw, -writeAt, c1, c2, c3]
            exact hbad hbd _ (by simp [hlen]) (by simp [hlen]) (by simp [hlen]) (by simp [hlen]) (by simp [hlen]) (by simp [hlen]) (by simp [hlen])
          by_cases c4 : 1099511627776 < a.time
          · have hbd : badA q t out a = true := by simp [badA, c4]
            simp (maxDischargeDepth := 99) [c10_0, hlen, f0, f1, f7, f8, f9, hlt, hlt', hc, hc', p0, hwz, hb, hw, -writeAt, c1, c2, c3, c4]
            exact hbad hbd _ (by simp [hlen]) (by simp [hlen]) (by simp [hlen]) (by simp [hlen]) (by simp [hlen]) (by simp [hlen]) (by simp [hlen])
          have hgood : badA q t out a = false → ∀ fr' s' τ3, fr'.length = 80 → getSlot fr' 0 = getSlot fr 0 → getSlot fr' 1 = getSlot fr 1 → getSlot fr' 6 = s' → getSlot fr' 7 = .one (.int .i64 a.seq) → getSlot fr' 8 = .one (.int .i64 a.time) → getSlot fr' 9 = .one (.int .i64 ((i + 1 : Nat) : Int)) →
              OutSl σ.size τ3 3 s' (acells out ++ [.int .i64 a.seq, .int .i64 a.time, a.row]) (out.length + 1) ∧ τ3.size = (τ2.alloc ⟨[.int .i64 a.seq, .int .i64 a.time, a.row], .own⟩).size + 1 ∧ (∀ id, id < σ.size → τ3.get id = (τ2.alloc ⟨[.int .i64 a.seq, .int .i64 a.time, a.row], .own⟩).get id) →
              ∃ j, j < l.length - i ∧ I10 σ (.one (.slice id off 3 l.length cap)) l now j fr' τ3 := by
            intro hbd fr' s' τ3 a1 a2 a3 a4 a5 a6 a7 ⟨b1, b2, b3⟩
            refine ⟨l.length - (i + 1), y1 hlt, i + 1, a.seq, a.time, out ++ [a], rfl, hlt, hc, by simp only [List.length_append, List.length_cons, List.length_nil]; omega, a1, by rw [a2]; exact f0, by rw [a3]; exact f1, a5, a6, a7, ?_, ⟨by rw [b2, AHeap.size_alloc]; have := hkk.1; omega, fun id hid => by rw [b3 id hid, AHeap.get_alloc, if_neg (by have := hkk.1; omega)]; exact hkk.2 id hid⟩, ?_, ?_⟩
            · rw [a4, acells_append]; simpa [acells, Arr.cells] using b1
            · intro x hx
              rcases List.mem_append.1 hx with h | h
              · exact hmem x h
              · simp at h; subst h; exact hmemi
            · rw [← hfit]
              conv => rhs; unfold fitGo
              rw [hbd, if_neg (by simp)]
          have hO3 : OutSl σ.size (τ2.alloc ⟨[.int .i64 a.seq, .int .i64 a.time, a.row], .own⟩) 3 (getSlot fr 6) (acells out) out.length :=
            hO2.stay (fun j h1 h2 => by rw [AHeap.get_alloc, if_neg (by omega)])
          have hap := append_out (b := σ.size) (bytes := 40) (vs := [.int .i64 a.seq, .int .i64 a.time, a.row]) hO3 (by rw [AHeap.size_alloc]; have := hkk.1; omega) (by omega) rfl (y3 hol hi2) (by decide)
          rcases hl10 with h0 | hpos
          · have hn6 : getSlot fr 6 = .one .nilSlice := by
              rcases hO.2 with ⟨h, _⟩ | ⟨qo, _, h, _, _⟩
              · exact h
              · omega
            rw [hn6] at hap
            obtain ⟨m, hmv⟩ : ∃ m, m = a.vals.length := ⟨_, rfl⟩
            rw [← hmv] at hrow
            rcases hrow with ⟨er, rfl⟩ | ⟨rid, roff, rcap, er⟩
            · rw [er] at p0 hwz hb
              have hbd : badA q t out a = true := by simp [badA, ← hmv]
              simp (maxDischargeDepth := 99) [c10_0, hlen, f0, f1, f7, f8, f9, hlt, hlt', hc, hc', p0, hwz, hb, hw, c1, c2, c3, c4, -writeAt, srcLen, srcCells, hn6]
              exact hbad hbd _ (by simp [hlen]) (by simp [hlen]) (by simp [hlen]) (by simp [hlen]) (by simp [hlen]) (by simp [hlen]) (by simp [hlen])
            · rw [er] at p0 hwz hb hap hgood
              by_cases hv : m = 0
              · subst hv
                have hbd : badA q t out a = true := by simp [badA, ← hmv]
                simp (maxDischargeDepth := 99) [c10_0, hlen, f0, f1, f7, f8, f9, hlt, hlt', hc, hc', p0, hwz, hb, hw, c1, c2, c3, c4, -writeAt, srcLen, srcCells, hn6]
                exact hbad hbd _ (by simp [hlen]) (by simp [hlen]) (by simp [hlen]) (by simp [hlen]) (by simp [hlen]) (by simp [hlen]) (by simp [hlen])
              · have hv2 : ¬ (m : Int) = 0 := by omega
                have hbd : badA q t out a = false := by simp [badA, ← hmv, c1, c2, c3, c4, hv, hv2, h0]
                simp (maxDischargeDepth := 99) [c10_0, hlen, f0, f1, f7, f8, f9, hlt, hlt', hc, hc', p0, hwz, hb, hw, c1, c2, c3, c4, -writeAt, srcLen, srcCells, hn6, hv, hv2]
                refine hap.mono ?_
                rintro s' τ3 hq
                simp (maxDischargeDepth := 99) [hlen, f9, hw]
                exact hgood hbd _ s' τ3 (by simp [hlen]) (by simp [hlen]) (by simp [hlen]) (by simp [hlen]) (by simp [hlen]) (by simp [hlen]) (by simp [hlen]) hq
          · obtain ⟨qo, e6, hqo, hq2, ho⟩ := hhead hpos
            rw [← k2.2 qo hqo] at hq2
            rw [e6] at hap
            have hpos2 : (0 : Int) < (out.length : Int) := by omega
            have hpos3 : ¬ out = [] := by intro e; rw [e] at hpos; exact absurd hpos (by decide)
            have hne : ¬ qo = τ.size := by omega
            generalize hwd : (rAt out 0).vals.length = w at ho
            rcases ho with ⟨eo, rfl⟩ | ⟨oid, ooff, ocap, eo⟩
            · rw [eo] at hq2
              obtain ⟨m, hmv⟩ : ∃ m, m = a.vals.length := ⟨_, rfl⟩
              rw [← hmv] at hrow
              rcases hrow with ⟨er, rfl⟩ | ⟨rid, roff, rcap, er⟩
              · rw [er] at p0 hwz hb
                have hbd : badA q t out a = true := by simp [badA, ← hmv]
                simp (maxDischargeDepth := 99) [c10_0, hlen, f0, f1, f7, f8, f9, hlt, hlt', hc, hc', p0, hwz, hb, hw, c1, c2, c3, c4, -writeAt, srcLen, srcCells, e6, hpos, hpos2, hpos3, hq2, hne]
                exact hbad hbd _ (by simp [hlen]) (by simp [hlen]) (by simp [hlen]) (by simp [hlen]) (by simp [hlen]) (by simp [hlen]) (by simp [hlen])
              · rw [er] at p0 hwz hb hap hgood
                by_cases hv : m = 0
                · subst hv
                  have hbd : badA q t out a = true := by simp [badA, ← hmv]
                  simp (maxDischargeDepth := 99) [c10_0, hlen, f0, f1, f7, f8, f9, hlt, hlt', hc, hc', p0, hwz, hb, hw, c1, c2, c3, c4, -writeAt, srcLen, srcCells, e6, hpos, hpos2, hpos3, hq2, hne]
                  exact hbad hbd _ (by simp [hlen]) (by simp [hlen]) (by simp [hlen]) (by simp [hlen]) (by simp [hlen]) (by simp [hlen]) (by simp [hlen])
                · have hv2 : ¬ (m : Int) = 0 := by omega
                  have hbd : badA q t out a = true := by simp [badA, ← hmv, hpos, hwd, hv, hpos3]
                  simp (maxDischargeDepth := 99) [c10_0, hlen, f0, f1, f7, f8, f9, hlt, hlt', hc, hc', p0, hwz, hb, hw, c1, c2, c3, c4, -writeAt, srcLen, srcCells, e6, hpos, hpos2, hpos3, hq2, hne, hv, hv2]
                  exact hbad hbd _ (by simp [hlen]) (by simp [hlen]) (by simp [hlen]) (by simp [hlen]) (by simp [hlen]) (by simp [hlen]) (by simp [hlen])
            · rw [eo] at hq2
              obtain ⟨m, hmv⟩ : ∃ m, m = a.vals.length := ⟨_, rfl⟩
              rw [← hmv] at hrow
              rcases hrow with ⟨er, rfl⟩ | ⟨rid, roff, rcap, er⟩
              · rw [er] at p0 hwz hb
                by_cases hz : 0 = w
                · subst hz
                  have hbd : badA q t out a = true := by simp [badA, ← hmv]
                  simp (maxDischargeDepth := 99) [c10_0, hlen, f0, f1, f7, f8, f9, hlt, hlt', hc, hc', p0, hwz, hb, hw, c1, c2, c3, c4, -writeAt, srcLen, srcCells, e6, hpos, hpos2, hpos3, hq2, hne]
                  exact hbad hbd _ (by simp [hlen]) (by simp [hlen]) (by simp [hlen]) (by simp [hlen]) (by simp [hlen]) (by simp [hlen]) (by simp [hlen])
                · have hz2 : ¬ (0 : Int) = (w : Int) := by omega
                  have hbd : badA q t out a = true := by simp [badA, ← hmv]
                  simp (maxDischargeDepth := 99) [c10_0, hlen, f0, f1, f7, f8, f9, hlt, hlt', hc, hc', p0, hwz, hb, hw, c1, c2, c3, c4, -writeAt, srcLen, srcCells, e6, hpos, hpos2, hpos3, hq2, hne, hz, hz2]
                  exact hbad hbd _ (by simp [hlen]) (by simp [hlen]) (by simp [hlen]) (by simp [hlen]) (by simp [hlen]) (by simp [hlen]) (by simp [hlen])
              · rw [er] at p0 hwz hb hap hgood
                by_cases hv : m = 0
                · subst hv
                  by_cases hz : 0 = w
                  · subst hz
                    have hbd : badA q t out a = true := by simp [badA, ← hmv]
                    simp (maxDischargeDepth := 99) [c10_0, hlen, f0, f1, f7, f8, f9, hlt, hlt', hc, hc', p0, hwz, hb, hw, c1, c2, c3, c4, -writeAt, srcLen, srcCells, e6, hpos, hpos2, hpos3, hq2, hne]
                    exact hbad hbd _ (by simp [hlen]) (by simp [hlen]) (by simp [hlen]) (by simp [hlen]) (by simp [hlen]) (by simp [hlen]) (by simp [hlen])
                  · have hz2 : ¬ (0 : Int) = (w : Int) := by omega
                    have hbd : badA q t out a = true := by simp [badA, ← hmv]
                    simp (maxDischargeDepth := 99) [c10_0, hlen, f0, f1, f7, f8, f9, hlt, hlt', hc, hc', p0, hwz, hb, hw, c1, c2, c3, c4, -writeAt, srcLen, srcCells, e6, hpos, hpos2, hpos3, hq2, hne, hz, hz2]
                    exact hbad hbd _ (by simp [hlen]) (by simp [hlen]) (by simp [hlen]) (by simp [hlen]) (by simp [hlen]) (by simp [hlen]) (by simp [hlen])
                · have hv2 : ¬ (m : Int) = 0 := by omega
                  by_cases hz : m = w
                  · subst hz
                    have hbd : badA q t out a = false := by simp [badA, ← hmv, c1, c2, c3, c4, hv, hv2, hwd]
                    simp (maxDischargeDepth := 99) [c10_0, hlen, f0, f1, f7, f8, f9, hlt, hlt', hc, hc', p0, hwz, hb, hw, c1, c2, c3, c4, -writeAt, srcLen, srcCells, e6, hpos, hpos2, hpos3, hq2, hne, hv, hv2]
                    refine hap.mono ?_
                    rintro s' τ3 hq
                    simp (maxDischargeDepth := 99) [hlen, f9, hw]
                    exact hgood hbd _ s' τ3 (by simp [hlen]) (by simp [hlen]) (by simp [hlen]) (by simp [hlen]) (by simp [hlen]) (by simp [hlen]) (by simp [hlen]) hq
                  · have hz2 : ¬ (m : Int) = (w : Int) := by omega
                    have hbd : badA q t out a = true := by simp [badA, ← hmv, hpos, hwd, hz, hpos3]
                    simp (maxDischargeDepth := 99) [c10_0, hlen, f0, f1, f7, f8, f9, hlt, hlt', hc, hc', p0, hwz, hb, hw, c1, c2, c3, c4, -writeAt, srcLen, srcCells, e6, hpos, hpos2, hpos3, hq2, hne, hv, hv2, hz, hz2]
                    exact hbad hbd _ (by simp [hlen]) (by simp [hlen]) (by simp [hlen]) (by simp [hlen]) (by simp [hlen]) (by simp [hlen]) (by simp [hlen])
        · have hlt' : (i : Int) < (l.length : Int) := by omega
          have hc' : ¬ (i : Int) < 200 := by omega
          rcases h.rd with ⟨_, rfl⟩ | ⟨id, off, cap, rfl, hm, hr⟩
          · simp at hlt
          rw [List.drop_of_length_le (by rw [List.length_take]; omega)] at hfit
          have hfit' : (out, t) = fitL l := hfit
          simp (maxDischargeDepth := 99) [c10_0, hlen, f0, f9, hlt, hlt', hc, hc']
          refine ⟨by simp [hlen], by simp [hlen, f1], by rw [← hfit']; simp [hlen, f8], by rw [← hfit']; simpa [hlen] using hO, hk⟩
      · have hlt' : ¬ (i : Int) < (l.length : Int) := by omega
        rw [List.drop_of_length_le (by rw [List.length_take]; omega)] at hfit
        have hfit' : (out, t) = fitL l := hfit
        rcases h.rd with ⟨rfl, rfl⟩ | ⟨id, off, cap, rfl, hm, hr⟩
        · have hi0 : i = 0 := by simpa using hi
          subst hi0
          simp (maxDischargeDepth := 99) [c10_0, hlen, f0, f9]
          refine ⟨by simp [hlen], by simp [hlen, f1], by rw [← hfit']; simp [hlen, f8], by rw [← hfit']; simpa [hlen] using hO, hk⟩
        · simp (maxDischargeDepth := 99) [c10_0, hlen, f0, f9, hlt, hlt']
          refine ⟨by simp [hlen], by simp [hlen, f1], by rw [← hfit']; simp [hlen, f8], by rw [← hfit']; simpa [hlen] using hO, hk⟩
    · exact ⟨0, 0, 0, [], rfl, Nat.zero_le _, Nat.zero_le _, Nat.le_refl _, by simp, by simp, by simp, by simp, by simp, by simp, by simpa [acells] using OutSl.nil _ _ _, Keeps.refl _, (fun a ha => by cases ha), rfl⟩
  · rintro fr τ ⟨hlen, f1, f8, hO, hk⟩
    simp (maxDischargeDepth := 99) [hlen, f1, f8, mms]
    exact ⟨_, _, ⟨rfl, rfl⟩, rfl, hO, hk⟩
end Go.Proofs.YthjijjkoeoemgaaGreat.Ab
