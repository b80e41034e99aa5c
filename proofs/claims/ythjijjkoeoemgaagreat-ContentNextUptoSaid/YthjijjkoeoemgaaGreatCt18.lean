/- The next time, of all views, and the law that compares both. -/
import Derived.Test.YthjijjkoeoemgaaGreatCt17
namespace Go.Proofs.YthjijjkoeoemgaaGreat.Ab
open Go
set_option maxRecDepth 20000
set_option maxHeartbeats 4000000
set_option linter.unusedSimpArgs false
set_option linter.unusedVariables false

/-! ### Next, of all views -/
def stepI (best z now : Int) : Int := if 0 ≤ z then leastI best z now else best
noncomputable def foldI (l : List Arr) (now : Int) : List VS → Int → Int
  | [], best => best
  | v :: vs, best => foldI l now vs (stepI best (nextI v l now) now)
theorem stepI_eq {now : Int} (hn0 : 0 ≤ now) (o c : Option Int) (h : ∀ t, o = some t → now < t) (hc : ∀ t, c = some t → now < t) : stepI (optI o) (optI c) now = optI (minO o c) ∧ ∀ t, minO o c = some t → now < t := by
  cases c with
  | none => exact ⟨rfl, fun t ht => h t (by cases o <;> exact ht)⟩
  | some t =>
    have ht' := hc t rfl
    cases o with
    | none =>
      refine ⟨?_, fun u hu => by simp only [minO, Option.some.injEq] at hu; omega⟩
      show stepI (-1) t now = t
      unfold stepI leastI
      rw [if_pos (by omega), if_pos (by omega)]
    | some u =>
      have hu := h u rfl
      show stepI u t now = optI (if t < u then some t else some u) ∧ ∀ x, (if t < u then some t else some u) = some x → now < x
      unfold stepI leastI
      rw [if_pos (by omega)]
      by_cases hlt : t < u
      · rw [if_pos (by omega), if_pos hlt]
        exact ⟨rfl, fun x hx => by simp only [Option.some.injEq] at hx; omega⟩
      · rw [if_neg (by omega), if_neg hlt]
        exact ⟨rfl, fun x hx => by simp only [Option.some.injEq] at hx; omega⟩
theorem foldI_eq {l : List Arr} {now : Int} (ht : TimesOk l now) (hn0 : 0 ≤ now) : ∀ (vs : List VS) (o : Option Int), (∀ t, o = some t → now < t) → foldI l now vs (optI o) = optI (nextO l now vs o) ∧ ∀ t, nextO l now vs o = some t → now < t
  | [], o, h => ⟨rfl, h⟩
  | v :: vs, o, h => by
    have hc := fun t => changeO_gt (v := v) (t := t) ht hn0
    simp only [foldI, nextO, nextI_eq v l now ht hn0]
    generalize changeO v l now = c at hc ⊢
    have e := stepI_eq hn0 o c h hc
    rw [e.1]
    exact foldI_eq ht hn0 vs _ e.2
theorem vdrop_next {l : List VS} {i : Nat} (h : i < l.length) : l.drop i = vAt l i :: l.drop (i + 1) := by
  rw [List.drop_eq_getElem_cons h]
  simp [vAt, List.getD, h]
def J14 (σ : AHeap) (s s1 : AV) (l : List Arr) (vs : List VS) (now : Int) (k : Nat) (fr : List AV) (τ : AHeap) : Prop :=
  ∃ i best, k = vs.length - i ∧ i ≤ vs.length ∧ fr.length = 33 ∧ getSlot fr 0 = s ∧ getSlot fr 1 = s1 ∧ getSlot fr 2 = .one (.int .i64 now) ∧ getSlot fr 8 = .one (.int .i64 best) ∧ getSlot fr 9 = .one (.int .i64 (i : Int)) ∧
    Keeps σ τ ∧ foldI l now (vs.drop i) best = foldI l now vs (-1)
def Q14 (σ : AHeap) (l : List Arr) (vs : List VS) (now : Int) (fr : List AV) (τ : AHeap) : Prop :=
  fr.length = 33 ∧ Keeps σ τ ∧ getSlot fr 8 = .one (.int .i64 (foldI l now vs (-1)))
theorem rNext (σ : AHeap) (s s1 : AV) (l : List Arr) (vs : List VS) (now : Int) (hV : Views σ s vs) (h : Arrs σ s1 l) (ht : TimesOk l now) (hn0 : 0 ≤ now) (f : Nat) (hf : vs.length + 1100 ≤ f) :
    OptP (evCall D9 f 14 [s, s1, .one (.int .i64 now)] σ) (fun _ r τ => r = optT (nextO l now vs none) ∧ Keeps σ τ) := by
  obtain ⟨f, rfl⟩ : ∃ k, f = k + 1 := ⟨f - 1, by omega⟩
  refine evCall_code (D9_prim 14) ((D9_code 14).trans coder14) ?_
  obtain ⟨q1, q2⟩ := foldI_eq ht hn0 vs none (fun t h => by cases h)
  rw [show optI none = -1 from rfl] at q1
  rcases hV.rd with ⟨rfl, rfl⟩ | ⟨id, off, cap, rfl, hid, hm, hrd⟩
  · simp (maxDischargeDepth := 99) [cr14]
    refine ends_to 0 (Q14 σ l [] now) ?_ ?_
    · refine ends_loop (I := fun k fr τ => k = 0 ∧ τ = σ ∧ fr.length = 33 ∧ getSlot fr 0 = .one .nilSlice ∧ getSlot fr 8 = .one (.int .i64 (-1)) ∧ getSlot fr 9 = .one (.int .i64 0)) ?_ (k := 0) ?_ (by omega)
      · rintro k fr τ ⟨rfl, rfl, hlen, f0, f8, f9⟩
        simp (maxDischargeDepth := 99) [cr14_0, hlen, f0, f8, f9]
        exact ⟨by simp [hlen], Keeps.refl _, by simp [hlen, f8, foldI]⟩
      · simp
    · rintro fr τ ⟨a1, a2, a3⟩
      rw [q1] at a3
      generalize nextO l now [] none = o at q2 a3 ⊢
      cases o with
      | none => simp (maxDischargeDepth := 99) [a1, a3, a2, optI, optT]
      | some t =>
        have := q2 t rfl
        have hlt : ¬ t < 0 := by omega
        simp (maxDischargeDepth := 99) [a1, a3, a2, optI, optT, hlt]
  · simp (maxDischargeDepth := 99) [cr14]
    refine ends_to 0 (Q14 σ l vs now) ?_ ?_
    · refine ends_loop (I := J14 σ (.one (.slice id off 4 vs.length cap)) s1 l vs now) ?_ (k := vs.length) ?_ (by omega)
      · rintro k fr τ ⟨i, best, rfl, hi, hlen, f0, f1, f2, f8, f9, hk, hfold⟩
        by_cases hlt : i < vs.length
        · have p0 := hrd i hlt
          rw [← hk.2 id hid] at p0
          have hw := wr_next hlt hm
          have hlt' : (i : Int) < (vs.length : Int) := Int.ofNat_lt.2 hlt
          rw [vdrop_next hlt] at hfold
          simp only [foldI] at hfold
          have hvk := (hV.2 _ (vAt_mem hlt)).keeps hk
          generalize vAt vs i = v at p0 hfold hvk
          have hc := rnext τ s1 l v now (h.keeps hk) hvk ht hn0 f (by omega)
          unfold VS.cells at hc p0
          simp (maxDischargeDepth := 99) [cr14_0, hlen, f0, f1, f2, f8, f9, hlt, hlt', p0]
          refine hc.mono ?_
          rintro r τ3 ⟨rfl, k3⟩
          have kk := hk.trans k3
          generalize nextI v l now = z at hfold ⊢
          unfold stepI at hfold
          by_cases hz : 0 ≤ z
          · rw [if_pos hz] at hfold
            have hL := run_least best z now τ3 f (by omega)
            simp (maxDischargeDepth := 99) [hlen, f2, f8, hz]
            refine hL.mono ?_
            rintro y τ4 ⟨rfl, rfl⟩
            simp (maxDischargeDepth := 99) [hlen, f9, hw]
            exact ⟨vs.length - (i + 1), y1 hlt, i + 1, _, rfl, hlt, by simp [hlen], by simp [hlen, f0], by simp [hlen, f1], by simp [hlen, f2], by simp [hlen], by simp [hlen], kk, hfold⟩
          · rw [if_neg hz] at hfold
            simp (maxDischargeDepth := 99) [hlen, f9, hw, hz]
            exact ⟨vs.length - (i + 1), y1 hlt, i + 1, _, rfl, hlt, by simp [hlen], by simp [hlen, f0], by simp [hlen, f1], by simp [hlen, f2], by simp [hlen, f8], by simp [hlen], kk, hfold⟩
        · obtain rfl : i = vs.length := by omega
          rw [List.drop_length, foldI] at hfold
          subst hfold
          simp (maxDischargeDepth := 99) [cr14_0, hlen, f0, f9]
          exact ⟨by simp [hlen], hk, by simp [hlen, f8]⟩
      · exact ⟨0, -1, rfl, Nat.zero_le _, by simp, by simp, by simp, by simp, by simp, by simp, Keeps.refl _, rfl⟩
    · rintro fr τ ⟨a1, a2, a3⟩
      rw [q1] at a3
      generalize nextO l now vs none = o at q2 a3 ⊢
      cases o with
      | none => simp (maxDischargeDepth := 99) [a1, a3, a2, optI, optT]
      | some t =>
        have := q2 t rfl
        have hlt : ¬ t < 0 := by omega
        simp (maxDischargeDepth := 99) [a1, a3, a2, optI, optT, hlt]

/-! ### what fits -/
theorem badA_all {q t : Int} {out : List Arr} {a : Arr} (h : ¬ badA q t out a = true) : a.vals ≠ [] ∧ q < a.seq ∧ t ≤ a.time ∧ a.time ≤ 1099511627776 ∧ a.seq ≤ 1073741824 := by
  unfold badA at h
  simp only [Bool.or_eq_true, decide_eq_true_eq, not_or] at h
  obtain ⟨⟨⟨⟨⟨h1, h2⟩, h3⟩, h4⟩, _⟩, h6⟩ := h
  exact ⟨fun e => h6 (by rw [e]; rfl), by omega, by omega, by omega, by omega⟩
theorem fitGo_times : ∀ (l : List Arr) (q t : Int) (out : List Arr), out.Pairwise (fun a b => a.seq < b.seq) → out.Pairwise (fun a b => a.time ≤ b.time) → (∀ a ∈ out, a.seq ≤ q ∧ a.vals ≠ [] ∧ 0 ≤ a.time ∧ a.time ≤ t) → 0 ≤ t → t ≤ 1099511627776 →
    (fitGo q t out l).1.Pairwise (fun a b => a.seq < b.seq) ∧ (fitGo q t out l).1.Pairwise (fun a b => a.time ≤ b.time) ∧ (∀ a ∈ (fitGo q t out l).1, a.vals ≠ [] ∧ 0 ≤ a.time ∧ a.time ≤ (fitGo q t out l).2) ∧ 0 ≤ (fitGo q t out l).2 ∧ (fitGo q t out l).2 ≤ 1099511627776
  | [], q, t, out, h1, h2, h3, h4, h5 => ⟨h1, h2, fun a ha => (h3 a ha).2, h4, h5⟩
  | a :: l, q, t, out, h1, h2, h3, h4, h5 => by
    unfold fitGo
    split
    · exact fitGo_times l q t out h1 h2 h3 h4 h5
    · rename_i hb
      obtain ⟨k1, k2, k3, k4, _⟩ := badA_all hb
      refine fitGo_times l _ _ _ ?_ ?_ ?_ (by omega) k4
      · rw [List.pairwise_append]
        refine ⟨h1, List.pairwise_singleton _ _, fun x hx y hy => ?_⟩
        simp only [List.mem_singleton] at hy
        subst hy
        have := (h3 x hx).1
        omega
      · rw [List.pairwise_append]
        refine ⟨h2, List.pairwise_singleton _ _, fun x hx y hy => ?_⟩
        simp only [List.mem_singleton] at hy
        subst hy
        have := (h3 x hx).2.2.2
        omega
      · intro x hx
        rcases List.mem_append.1 hx with hx | hx
        · obtain ⟨g1, g2, g3, g4⟩ := h3 x hx
          exact ⟨by omega, g2, g3, by omega⟩
        · simp only [List.mem_singleton] at hx
          subst hx
          exact ⟨Int.le_refl _, k1, by omega, Int.le_refl _⟩
theorem fitL_len (l : List Arr) : (fitL l).1.length ≤ 200 := by
  have := fit_len (l.take 200) 0 0 []
  rw [List.length_take, List.length_nil] at this
  unfold fitL
  omega
theorem fitL_mem {l : List Arr} {x : Arr} (h : x ∈ (fitL l).1) : x ∈ l := fit_rows (l.take 200) 0 0 [] (fun a => a ∈ l) (fun a ha => List.mem_of_mem_take ha) (fun a ha => by cases ha) x h
theorem fitL_times (l : List Arr) (now : Int) : TimesOk (fitL l).1 (nowL l now) ∧ 0 ≤ nowL l now := by
  obtain ⟨h1, h2, h3, h4, h5⟩ := fitGo_times (l.take 200) 0 0 [] List.Pairwise.nil List.Pairwise.nil (fun a ha => by cases ha) (by omega) (by omega)
  have e : (fitL l).2 ≤ nowL l now ∧ nowL l now ≤ 1099511627776 := by
    have h5' : (fitL l).2 ≤ 1099511627776 := h5
    unfold nowL mm
    simp only
    split <;> split <;> constructor <;> omega
  have h4' : 0 ≤ (fitL l).2 := h4
  exact ⟨⟨fun a ha => (h3 a ha).2.1, fun a ha => Int.le_trans (h3 a ha).2.2 e.1, e.2, h2, h1, fun a ha => (h3 a ha).1, fitL_len l⟩, by omega⟩
/-! ### the law -/
theorem runN4 (σ : AHeap) (s s1 : AV) (l : List Arr) (vs : List VS) (now : Int) (hV : Views σ s vs) (h : Arrs σ s1 l) (hl : l.length ≤ 1048576) (f : Nat) (hf : vs.length + l.length + 1200 ≤ f) :
    OptP (evCall D9 f 4 [s, s1, .one (.int .i64 now)] σ) (fun _ v _ => v = .one (.bool true)) := by
  obtain ⟨f, rfl⟩ : ∃ k, f = k + 1 := ⟨f - 1, by omega⟩
  refine evCall_code (D9_prim 4) ((D9_code 4).trans coden4) ?_
  have hm := hV.1.1
  simp only [List.length_map] at hm
  simp (maxDischargeDepth := 99) [cn4]
  refine (run10 σ s1 l now h hl f (by omega)).mono ?_
  rintro v τ ⟨a', t', rfl, rfl, hO, hk⟩
  obtain ⟨ht, hn0⟩ := fitL_times l now
  have hA : Arrs τ a' (fitL l).1 := acells_outsl hO (Nat.le_trans (fitL_len l) (by decide)) (fun a ha => (h.keeps hk).2 a (fitL_mem ha))
  have hV2 := hV.keeps hk
  generalize (fitL l).1 = A at ht hA
  generalize nowL l now = n at ht hn0 ⊢
  obtain ⟨f, rfl⟩ : ∃ k, f = k + 1 := ⟨f - 1, by omega⟩
  have hlen : s = .one .nilSlice ∧ vs.length = 0 ∨ ∃ id off cap, s = .one (.slice id off 4 vs.length cap) := by
    rcases hV.rd with ⟨h1, h2⟩ | ⟨id, off, cap, h1, _⟩
    · exact .inl ⟨h1, by rw [h2]; rfl⟩
    · exact .inr ⟨id, off, cap, h1⟩
  have r1 := run14 τ s a' A vs n hV2 hA ht hn0 (f + 1) (by omega)
  have r2 := fun τ2 (k2 : Keeps τ τ2) => rNext τ2 s a' A vs n (hV2.keeps k2) (hA.keeps k2) ht hn0 (f + 1) (by omega)
  generalize nextO A n vs none = o at r1 r2
  obtain ⟨z, hz⟩ : ∃ z, z = vs.length := ⟨_, rfl⟩
  rw [← hz] at hlen
  by_cases h8 : 8 < z
  · have h8' : (8 : Int) < (z : Int) := by omega
    rcases hlen with ⟨rfl, h0⟩ | ⟨id, off, cap, rfl⟩
    · omega
    · simp (maxDischargeDepth := 99) [h8, h8', D9_9, pBool]
  · have h8' : ¬ (8 : Int) < (z : Int) := by omega
    rcases hlen with ⟨rfl, h0⟩ | ⟨id, off, cap, rfl⟩
    all_goals
      simp (maxDischargeDepth := 99) [h8, h8']
      refine r1.mono ?_
      rintro v τ2 ⟨rfl, k2⟩
      cases o with
      | none =>
        simp (maxDischargeDepth := 99) [optT]
        refine (r2 τ2 k2).mono ?_
        rintro v τ3 ⟨rfl, k3⟩
        simp (maxDischargeDepth := 99) [optT, D9_9, pBool]
      | some t =>
        simp (maxDischargeDepth := 99) [optT]
        refine (r2 τ2 k2).mono ?_
        rintro v τ3 ⟨rfl, k3⟩
        simp (maxDischargeDepth := 99) [optT, D9_9, pBool]
end Go.Proofs.YthjijjkoeoemgaaGreat.Ab
