/- The law of what stays. -/
import Derived.Test.YthjijjkoeoemgaaCt32
import Derived.Test.YthjijjkoeoemgaaLitB
namespace Go.Proofs.Ythjijjkoeoemgaa.Ab
open Go
set_option maxRecDepth 20000
set_option maxHeartbeats 8000000
set_option linter.unusedSimpArgs false
set_option linter.unusedVariables false

theorem nextO_gt {l : List Arr} {now : Int} (ht : TimesOk l now) (hn0 : 0 ≤ now) : ∀ (vs : List VS) (o : Option Int), (∀ t, o = some t → now < t) → ∀ t, nextO l now vs o = some t → now < t
  | [], o, h => h
  | v :: vs, o, h => nextO_gt ht hn0 vs _ (fun t e => by
      have hc := fun t => changeO_gt (v := v) (t := t) ht hn0
      generalize changeO v l now = c at e hc
      cases c with
      | none => exact h t (by cases o <;> exact e)
      | some c =>
        have h1 := hc c rfl
        cases o with
        | none =>
          have e' : some c = some t := e
          cases e'
          exact h1
        | some o =>
          have h2 := h o rfl
          have e' : (if c < o then some c else some o) = some t := e
          split at e'
          · cases e'; exact h1
          · cases e'; exact h2)
theorem srt_keys {l m : List Arr} (h : l.map Arr.key = m.map Arr.key) (hm : SrtQ m) : SrtQ l := by
  have e : ∀ l : List Arr, SrtQ (l.map nr) ↔ SrtQ l := fun l => List.pairwise_map (R := fun a b : Arr => a.seq < b.seq) (f := nr)
  rw [← e, er_keys h, e]
  exact hm
theorem keys_has {l m A : List Arr} (h : l.map Arr.key = m.map Arr.key) (hs : ∀ a ∈ m, a ∈ A) {a : Arr} (ha : a ∈ l) : hasA A a.seq = true := by
  obtain ⟨b, hb, e⟩ := keys_mem h ha
  have : b.seq = a.seq := by
    unfold Arr.key at e
    simp only [Prod.mk.injEq] at e
    exact e.1
  rw [← this]
  exact hasA_true (hs b hb)
def IS1 (σ : AHeap) (s sA sH : AV) (p : Nat) (n : Int) (vs : List VS) (j : Nat) (fr : List AV) (τ : AHeap) : Prop :=
  j ≤ vs.length ∧ fr.length = 116 ∧ getSlot fr 0 = s ∧ getSlot fr 1 = sA ∧ getSlot fr 5 = .one (.ptr p 0) ∧ getSlot fr 7 = .one (.int .i64 n) ∧ getSlot fr 8 = sH ∧ getSlot fr 10 = .one (.int .i64 ((j : Int) - 1)) ∧
    OutSl σ.size τ 4 (getSlot fr 9) ((vs.drop j).reverse.map VS.cells).flatten (vs.length - j) ∧ Keeps σ τ
def OS1 (σ : AHeap) (s sA sH : AV) (p : Nat) (n : Int) (vs : List VS) (fr : List AV) (τ : AHeap) : Prop :=
  fr.length = 116 ∧ getSlot fr 0 = s ∧ getSlot fr 1 = sA ∧ getSlot fr 5 = .one (.ptr p 0) ∧ getSlot fr 7 = .one (.int .i64 n) ∧ getSlot fr 8 = sH ∧ Views τ (getSlot fr 9) vs.reverse ∧ NoCap (getSlot fr 9) ∧ Keeps σ τ
def IS2 (σ : AHeap) (s sA sH : AV) (p : Nat) (n : Int) (O : List Arr) (k : Nat) (fr : List AV) (τ : AHeap) : Prop :=
  ∃ i, k = O.length - i ∧ i ≤ O.length ∧ fr.length = 116 ∧ getSlot fr 0 = s ∧ getSlot fr 1 = sA ∧ getSlot fr 5 = .one (.ptr p 0) ∧ getSlot fr 7 = .one (.int .i64 n) ∧ getSlot fr 8 = sH ∧ getSlot fr 11 = .one (.int .i64 (i : Int)) ∧ Keeps σ τ
def OS2 (σ : AHeap) (s sA sH : AV) (p : Nat) (n : Int) (fr : List AV) (τ : AHeap) : Prop :=
  fr.length = 116 ∧ getSlot fr 0 = s ∧ getSlot fr 1 = sA ∧ getSlot fr 5 = .one (.ptr p 0) ∧ getSlot fr 7 = .one (.int .i64 n) ∧ getSlot fr 8 = sH ∧ Keeps σ τ
theorem rev_flat {vs : List VS} {j : Nat} (h : j < vs.length) : ((vs.drop j).reverse.map VS.cells).flatten = ((vs.drop (j + 1)).reverse.map VS.cells).flatten ++ (vAt vs j).cells := by
  rw [vdrop_next' h, List.reverse_cons, List.map_append, List.flatten_append]
  simp
theorem noCap_out {b e n : Nat} {τ : AHeap} {s : AV} {c : List SV} (h : OutSl b τ e s c n) : NoCap s := by
  intro id o e' n' c' hs
  rcases h.2 with ⟨h1, _⟩ | ⟨q, h1, _⟩
  · rw [h1] at hs; cases hs
  · rw [h1] at hs; cases hs; rfl
theorem views_rev {σ : AHeap} {s : AV} {vs : List VS} (h : Views σ s vs) {τ : AHeap} {b : Nat} {s' : AV} (hk : Keeps σ τ) (hO : OutSl b τ 4 s' (vs.reverse.map VS.cells).flatten vs.length) : Views τ s' vs.reverse := by
  have hm := h.1.1
  simp only [List.length_map] at hm
  refine ⟨SlOf.of_out (by simpa using hO) (fun r hr => ?_) (by simpa using hm), fun v hv => (h.2 v (List.mem_reverse.1 hv)).keeps hk⟩
  obtain ⟨v, _, rfl⟩ := List.mem_map.1 hr
  rfl
theorem sfuel {O n l C K f : Nat} (h : O ≤ 200) (hf : n + l + C + K + 4000 ≤ f + 1) : O + K + 12 ≤ f ∧ O + 5 ≤ f ∧ O < f := ⟨by omega, by omega, by omega⟩
/-- Between now and the time asked. -/
def laterN (n b1 : Int) : Int := n + mm true 0 (mm false b1 1099511627776)
theorem laterN_ge (n b1 : Int) : n ≤ laterN n b1 ∧ laterN n b1 ≤ n + 1099511627776 := by
  unfold laterN mm
  simp only
  split <;> split <;> constructor <;> omega
theorem run_S (σ : AHeap) (s s1 : AV) (l : List Arr) (vs : List VS) (b0 b1 : Int) (hV : Views σ s vs) (hN : NoCap s) (h : Arrs σ s1 l) (hl : l.length ≤ 1048576) (hvin : ∀ a ∈ l, VIn a.vals) (K : Nat) (hK : ∀ a ∈ l, a.vals.length ≤ K) (C : Nat) (hC : ∀ v ∈ vs, v.cols.length ≤ C) (f : Nat) (hf : vs.length + l.length + C + K + 4000 ≤ f) :
    OptP (evCall D9 f 4 [s, s1, .agg [.int .i64 b0, .int .i64 b1]] σ) (fun _ v _ => v = .one (.bool true)) := by
  obtain ⟨f, rfl⟩ : ∃ k, f = k + 1 := ⟨f - 1, by omega⟩
  refine evCall_code (D9_prim 4) ((D9_code 4).trans codes4) ?_
  have hm := hV.1.1
  simp only [List.length_map] at hm
  obtain ⟨σ0, hσ0⟩ : ∃ σ0, σ0 = σ.alloc ⟨[.int .i64 b0, .int .i64 b1], .own⟩ := ⟨_, rfl⟩
  have k0 : Keeps σ σ0 := by rw [hσ0]; exact (Keeps.refl _).alloc
  have g0 : σ0.get σ.size = some ⟨[.int .i64 b0, .int .i64 b1], .own⟩ := by rw [hσ0]; simp
  have hfit := run10 σ0 s1 l b0 (h.keeps k0) hl f (by omega)
  simp (maxDischargeDepth := 99) [cs4]
  rw [← hσ0]
  refine hfit.mono ?_
  rintro v τ ⟨a', t', rfl, rfl, hO, hk⟩
  have hL := fitL_ok2 hvin b0
  have h200 := fitL_len l
  have hA : Arrs τ a' (fitL l).1 := acells_outsl hO (Nat.le_trans (fitL_len l) (by decide)) (fun a ha => ((h.keeps k0).keeps hk).2 a (fitL_mem ha))
  have hGA : 0 < (fitL l).1.length → Grown τ a' (fitL l).1 := grown_out hO
  have hV2 := (hV.keeps k0).keeps hk
  have hK2 : ∀ a ∈ (fitL l).1, a.vals.length ≤ K := fun a ha => hK a (fitL_mem ha)
  have g1 : τ.get σ.size = some ⟨[.int .i64 b0, .int .i64 b1], .own⟩ := by rw [hk.2 _ (AHeap.get_lt g0), g0]
  generalize (fitL l).1 = A at hL hA hGA h200 hK2
  generalize nowL l b0 = n at hL ⊢
  clear hO
  have hlen : (s = .one .nilSlice ∧ vs.length = 0) ∨ ∃ id off cap, s = .one (.slice id off 4 vs.length cap) := by
    rcases hV.rd with ⟨h1, h2⟩ | ⟨id, off, cap, h1, _⟩
    · exact .inl ⟨h1, by rw [h2]; rfl⟩
    · exact .inr ⟨id, off, cap, h1⟩
  have hS2 := ofL_sub vs A n
  have hOf := run_Of τ s a' A vs n hV2 hN hA hGA hL C hC (fun a ha => hS2.subset ha) hS2.length_le f (by omega)
  have hgt := nextO_gt hL.t hL.n0 vs none (fun t e => by cases e)
  have hOfL : ∀ w, n ≤ w → w ≤ 1099511627776 → (∀ t, nextO A n vs none = some t → w < t) → ∀ τ2, Keeps τ τ2 → OptP (evCall D9 f 11 [s, a', .one (.int .i64 w)] τ2) (fun _ r τ3 => CopyOf τ3 r (ofL vs A n) ∧ Keeps τ2 τ3) := fun w w1 w2 w3 τ2 k2 => by
    have e := ofL_still hL.t w1 w3
    have hS3 := ofL_sub vs A w
    have := run_Of τ2 s a' A vs w (hV2.keeps k2) hN (hA.keeps k2) (fun h => (hGA h).keeps k2) (hL.later w1 w2) C hC (fun a ha => hS3.subset ha) hS3.length_le f (by omega)
    rw [e] at this
    exact this
  have hOfR : ∀ sT τ2, Keeps τ τ2 → Views τ2 sT vs.reverse → NoCap sT → OptP (evCall D9 f 11 [sT, a', .one (.int .i64 n)] τ2) (fun _ r τ3 => CopyOf τ3 r (ofL vs A n) ∧ Keeps τ2 τ3) := fun sT τ2 k2 hVr hNr => by
    have e := ofL_reverse (vs := vs) (now := n) hL.t.seqs
    have hS3 := ofL_sub vs.reverse A n
    have := run_Of τ2 sT a' A vs.reverse n hVr hNr (hA.keeps k2) (fun h => (hGA h).keeps k2) hL C (fun v hv => hC v (List.mem_reverse.1 hv)) (fun a ha => hS3.subset ha) hS3.length_le f (by rw [List.length_reverse]; omega)
    rw [e] at this
    exact this
  have hNx : ∀ τ2, Keeps τ τ2 → OptP (evCall D9 f 14 [s, a', .one (.int .i64 n)] τ2) (fun _ r τ3 => r = optT (nextO A n vs none) ∧ Keeps τ2 τ3) := fun τ2 k2 => run14 τ2 s a' A vs n (hV2.keeps k2) (hA.keeps k2) hL.t hL.n0 f (by omega)
  have hO1K : ∀ {X : List Arr}, X.map Arr.key = (ofL vs A n).map Arr.key → ∀ a ∈ X, a.vals.length ≤ K := fun e => keys_vals' e (fun a ha => hK2 a (hS2.subset ha))
  have hO1l : ∀ {X : List Arr}, X.map Arr.key = (ofL vs A n).map Arr.key → X.length ≤ 200 := fun e => by rw [keys_len' e]; exact Nat.le_trans hS2.length_le h200
  have hfs : ∀ O, O ≤ 200 → O + K + 12 ≤ f ∧ O + 5 ≤ f ∧ O < f := fun O h => sfuel h hf
  have hvl : vs.length < f := by omega
  have hnn := hL.n0
  have hnup := hL.t.up
  have hlat := laterN_ge n b1
  have hwl : wr .i64 (n + mm true 0 (mm false b1 1099511627776)) = laterN n b1 := by
    have : n + mm true 0 (mm false b1 1099511627776) = laterN n b1 := rfl
    rw [this]
    exact wr_near ⟨by omega, by omega⟩
  have hsrt : SrtQ (ofL vs A n) := List.Pairwise.sublist hS2 hL.t.seqs
  obtain ⟨S, hS⟩ : ∃ S, S = s := ⟨_, rfl⟩
  rw [← hS] at hV2 hN hOf hOfL hNx
  have hf' : 3999 ≤ f := by omega
  clear hf
  by_cases h8 : 8 < vs.length
  · have h8' : (8 : Int) < (vs.length : Int) := by omega
    obtain ⟨f, rfl⟩ : ∃ k, f = k + 1 := ⟨f - 1, by omega⟩
    rcases hlen with ⟨rfl, h0⟩ | ⟨id, off, cap, rfl⟩
    · omega
    · simp (maxDischargeDepth := 99) [h8, h8', D9_9, pBool]
  · have h8' : ¬ (8 : Int) < (vs.length : Int) := by omega
    have hw0 : wr .i64 ((vs.length : Int) - 1) = (vs.length : Int) - 1 := wr_near ⟨by omega, by omega⟩
    have hwm : wr .i64 (-1) = -1 := wr_near ⟨by omega, by omega⟩
    have hinit : ∀ fr τ1 r, fr.length = 116 → getSlot fr 0 = S → getSlot fr 1 = a' → getSlot fr 5 = .one (.ptr σ.size 0) → getSlot fr 7 = .one (.int .i64 n) → getSlot fr 8 = r → getSlot fr 9 = .one .nilSlice → getSlot fr 10 = .one (.int .i64 ((vs.length : Int) - 1)) → IS1 τ1 S a' r σ.size n vs vs.length fr τ1 := fun fr τ1 r a0 a1 a2 a3 a4 a5 a6 a7 =>
      ⟨Nat.le_refl _, a0, a1, a2, a3, a4, a5, a7, by rw [a6, List.drop_length, Nat.sub_self]; exact OutSl.nil _ _ _, Keeps.refl _⟩
    rcases hlen with ⟨hs, h0⟩ | ⟨id, off, cap, hs⟩
    all_goals
      subst hs
      simp (maxDischargeDepth := 99) [h8, h8']
      try rw [hS] at hOf
      refine hOf.mono ?_
      rintro r τ1 ⟨⟨O1, e1, hO1, _⟩, k1⟩
      have hV3 := hV2.keeps k1
      simp (maxDischargeDepth := 99) [hw0, hwm]
      refine ends_to 0 (OS1 τ1 S a' r σ.size n vs) ?_ ?_
      · refine ends_loop (I := IS1 τ1 S a' r σ.size n vs) ?_ (k := vs.length) (hinit _ _ _ (by simp) (by simp [hS]) (by simp) (by simp) (by simp) (by simp) (by simp) (by simp [*])) hvl
        rintro j fr τ2 ⟨hj, hl, f0, f1, f5, f7, f8, f10, hO, hk2⟩
        cases j with
        | zero =>
          have e10 : getSlot fr 10 = .one (.int .i64 (-1)) := by rw [f10]; rfl
          simp (maxDischargeDepth := 99) [cs4_0, hl, e10]
          rw [List.drop_zero, Nat.sub_zero] at hO
          exact ⟨by simp [hl], by simp [hl, f0], by simp [hl, f1], by simp [hl, f5], by simp [hl, f7], by simp [hl, f8], by simpa [hl] using views_rev hV3 hk2 hO, by simpa [hl] using noCap_out hO, hk2⟩
        | succ i =>
          have hlt : i < vs.length := hj
          obtain ⟨id, off, cap, e, hid, hmx, hrd⟩ : ∃ id off cap, S = .one (.slice id off 4 vs.length cap) ∧ id < τ1.size ∧ vs.length ≤ maxElems ∧ ∀ i, i < vs.length → rd (τ1.get id) (some 4) (off + i * 4) = some (.agg (vAt vs i).cells) := by
            rcases hV3.rd with ⟨_, e⟩ | h
            · rw [e] at hlt; exact absurd hlt (Nat.not_lt_zero _)
            · exact h
          rw [e] at f0
          have ei : ((i + 1 : Nat) : Int) - 1 = (i : Int) := by omega
          rw [ei] at f10
          have p1 := hrd i hlt
          rw [← hk2.2 id hid] at p1
          have hw : wr .i64 ((i : Int) - 1) = (i : Int) - 1 := wr_near ⟨by omega, by omega⟩
          have hge : (0 : Int) ≤ (i : Int) := Int.natCast_nonneg i
          have hrf := rev_flat hlt
          generalize vAt vs i = v at p1 hrf
          unfold VS.cells at p1
          have hsz := hk2.1
          have hO4 : OutSl τ1.size (τ2.alloc ⟨[.int .i64 v.k, .int .i64 v.n, v.s, .bool v.d], .own⟩) 4 (getSlot fr 9) ((vs.drop (i + 1)).reverse.map VS.cells).flatten (vs.length - (i + 1)) :=
            hO.stay (fun j h1 h2 => by rw [AHeap.get_alloc, if_neg (Nat.ne_of_lt h2)])
          have hap := append_out (b := τ1.size) (bytes := 48) (vs := [.int .i64 v.k, .int .i64 v.n, v.s, .bool v.d]) hO4 (by rw [AHeap.size_alloc]; exact Nat.le_succ_of_le hsz) (by omega) rfl (by omega) (by decide)
          simp (maxDischargeDepth := 99) [cs4_0, hl, f0, f10, hge, hlt, p1, srcLen, srcCells]
          refine hap.mono ?_
          rintro s' τ3 ⟨q1, q2, q3⟩
          have k3 : Keeps τ1 τ3 := ⟨by rw [q2, AHeap.size_alloc]; exact Nat.le_succ_of_le (Nat.le_succ_of_le hsz), fun j hj => by rw [q3 j hj, AHeap.get_alloc, if_neg (Nat.ne_of_lt (Nat.lt_of_lt_of_le hj hsz))]; exact hk2.2 j hj⟩
          simp (maxDischargeDepth := 99) [hl, f10, hw]
          refine ⟨i, Nat.lt_succ_self i, Nat.le_of_lt hlt, by simp [hl], by simp [hl, f0, e], by simp [hl, f1], by simp [hl, f5], by simp [hl, f7], by simp [hl, f8], by simp [hl], ?_, k3⟩
          rw [hrf, show vs.length - i = vs.length - (i + 1) + 1 by omega]
          simpa [hl, VS.cells] using q1
      · rintro fr τ2 ⟨hl, f0, f1, f5, f7, f8, hVr, hNr, hk2⟩
        have kk2 := k1.trans hk2
        simp (maxDischargeDepth := 99) [hl, f1, f7, f8]
        refine (hOfR (getSlot fr 9) τ2 kk2 hVr hNr).mono ?_
        rintro r2 τ3 ⟨⟨O2, e2, hO2, _⟩, k3⟩
        simp (maxDischargeDepth := 99) [hl, f8]
        refine (run12 τ3 r2 r O2 O1 hO2 ((hO1.keeps hk2).keeps k3) K (hO1K e2) f (hfs _ (hO1l e2)).1).mono ?_
        rintro w τ4 ⟨rfl, rfl⟩
        have hs12 : sameA O2 O1 = true := sameA_keys' (e2.trans e1.symm)
        have kk3 := kk2.trans k3
        have hO14 := (hO1.keeps hk2).keeps k3
        have hsO := srt_keys e1 hsrt
        simp (maxDischargeDepth := 99) [hl, hs12]
        refine ends_to 2 (OS2 τ4 S a' r σ.size n) ?_ ?_
        · refine ends_loop (I := IS2 τ4 S a' r σ.size n O1) ?_ (k := O1.length) ⟨0, rfl, Nat.zero_le _, by simp [hl], by simp [hl, f0], by simp [hl, f1], by simp [hl, f5], by simp [hl, f7], by simp [hl, f8], by simp [hl], Keeps.refl _⟩ (hfs _ (hO1l e1)).2.2
          rintro k fr τ5 ⟨i, rfl, hi, hl, f0, f1, f5, f7, f8, f11, hk5⟩
          rcases (hO14.keeps hk5).rd with ⟨er, eO⟩ | ⟨oid, ooff, ocap, er, omx, ord⟩
          · subst eO
            obtain rfl : i = 0 := by simpa using hi
            rw [er] at f8
            simp (maxDischargeDepth := 99) [cs4_1, hl, f8, f11]
            exact ⟨by simp [hl], by simp [hl, f0], by simp [hl, f1], by simp [hl, f5], by simp [hl, f7], by simp [hl, f8, er], hk5⟩
          · by_cases hlt : i < O1.length
            · have hlt' : (i : Int) < (O1.length : Int) := Int.ofNat_lt.2 hlt
              have hw : wr .i64 ((i : Int) + 1) = ((i + 1 : Nat) : Int) := wr_next hlt omx
              obtain ⟨_, p0, _, _⟩ := ord i hlt
              have hHas := run13 D9 (D9_prim 13) ((D9_code 13).trans code13) τ5 a' A (rAt O1 i).seq (hA.keeps (kk3.trans hk5)) f (Nat.le_trans (Nat.add_le_add_right h200 5) (by omega))
              have hHb : hasA A (rAt O1 i).seq = true := keys_has e1 (fun a ha => hS2.subset ha) (rAt_mem hlt)
              rw [hHb] at hHas
              have hend : ∀ fr' τ', fr'.length = 116 → getSlot fr' 0 = getSlot fr 0 → getSlot fr' 1 = getSlot fr 1 → getSlot fr' 5 = getSlot fr 5 → getSlot fr' 7 = getSlot fr 7 → getSlot fr' 8 = getSlot fr 8 → getSlot fr' 11 = .one (.int .i64 ((i + 1 : Nat) : Int)) → Keeps τ5 τ' → ∃ z, z < O1.length - i ∧ IS2 τ4 S a' r σ.size n O1 z fr' τ' :=
                fun fr' τ' x0 x1 x2 x3 x4 x5 x6 x7 => ⟨O1.length - (i + 1), y1 hlt, i + 1, rfl, hlt, x0, by rw [x1, f0], by rw [x2, f1], by rw [x3, f5], by rw [x4, f7], by rw [x5, f8], x6, hk5.trans x7⟩
              have f8' := f8
              rw [er] at f8'
              cases i with
              | zero =>
                simp only [Nat.zero_mul, Nat.add_zero] at p0
                generalize (rAt O1 0).seq = q at p0 hHas
                simp (maxDischargeDepth := 99) [cs4_1, hl, f1, f8', f11, hlt, p0]
                refine hHas.mono ?_
                rintro w τ6 ⟨rfl, rfl⟩
                have hw1 : wr .i64 1 = 1 := wr_near ⟨by decide, by decide⟩
                simp (maxDischargeDepth := 99) [hl, f1, f8', f11, hlt, p0, hw1, -sameObj]
                exact hend _ _ (by simp [hl]) (by simp [hl]) (by simp [hl]) (by simp [hl]) (by simp [hl]) (by simp [hl]) (by simp [hl]) (Keeps.refl _)
              | succ j =>
                have hjl : j < O1.length := Nat.lt_of_succ_lt hlt
                obtain ⟨_, p1, _, _⟩ := ord j hjl
                have hlt2 : (rAt O1 j).seq < (rAt O1 (j + 1)).seq := srt_at hsO (Nat.lt_succ_self j) hlt
                have hng : ¬ (rAt O1 (j + 1)).seq ≤ (rAt O1 j).seq := Int.not_le.2 hlt2
                have hpos : (0 : Int) < ((j + 1 : Nat) : Int) := Int.ofNat_lt.2 (Nat.succ_pos j)
                have hwp : wr .i64 (((j + 1 : Nat) : Int) - 1) = (j : Int) := wr_pred (Nat.le_trans (Nat.le_of_lt hlt) (Nat.le_trans omx (by decide)))
                generalize (rAt O1 (j + 1)).seq = q at p0 hHas hng
                generalize (rAt O1 j).seq = q2 at p1 hng
                simp (maxDischargeDepth := 99) [cs4_1, hl, f1, f8', f11, hlt, hlt', p0, -Int.natCast_add]
                refine hHas.mono ?_
                rintro w τ6 ⟨rfl, rfl⟩
                simp (maxDischargeDepth := 99) [hl, f1, f8', f11, hlt, hlt', hjl, p0, p1, hpos, hwp, hng, hw, -sameObj, -Int.natCast_add]
                exact hend _ _ (by simp [hl]) (by simp [hl]) (by simp [hl]) (by simp [hl]) (by simp [hl]) (by simp [hl]) (by simp [hl, hw, -Int.natCast_add]) (Keeps.refl _)
            · obtain rfl : i = O1.length := by omega
              have f8' := f8
              rw [er] at f8'
              simp (maxDischargeDepth := 99) [cs4_1, hl, f8', f11]
              exact ⟨by simp [hl], by simp [hl, f0], by simp [hl, f1], by simp [hl, f5], by simp [hl, f7], by simp [hl, f8], hk5⟩
        · rintro fr τ5 ⟨hl, f0, f1, f5, f7, f8, hk5⟩
          have kk5 := kk3.trans hk5
          simp (maxDischargeDepth := 99) [hl, f0, f1, f7]
          refine (hNx τ5 kk5).mono ?_
          rintro v τ6 ⟨rfl, k6⟩
          have kk6 := kk5.trans k6
          have g6 : τ6.get σ.size = some ⟨[.int .i64 b0, .int .i64 b1], .own⟩ := by rw [kk6.2 _ (AHeap.get_lt g1), g1]
          have hO16 := (hO14.keeps hk5).keeps k6
          generalize laterN n b1 = u at hwl hlat
          have hfin : ∀ w, n ≤ w → w ≤ 1099511627776 → (∀ t, nextO A n vs none = some t → w < t) → OptP (evCall D9 f 11 [S, a', .one (.int .i64 w)] τ6) (fun _ r3 τ7 => (∃ O3, Arrs τ7 r3 O3 ∧ sameA O3 O1 = true ∧ O3.length ≤ 200 ∧ ∀ a ∈ O3, a.vals.length ≤ K) ∧ Keeps τ6 τ7) := fun w w1 w2 w3 =>
            (hOfL w w1 w2 w3 τ6 kk6).mono (fun r3 τ7 ⟨⟨O3, e3, hO3, _⟩, k7⟩ => ⟨⟨O3, hO3, sameA_keys' (e3.trans e1.symm), hO1l e3, hO1K e3⟩, k7⟩)
          have hfs3 := fun O h => (hfs O h).1
          clear hOfL hOfR hNx hOf hfit hfs hvl hinit
          have hpos : 0 < f := Nat.lt_of_lt_of_le (by decide) hf'
          generalize nextO A n vs none = o at hfin hgt
          obtain ⟨f, rfl⟩ : ∃ k, f = k + 1 := ⟨f - 1, (Nat.succ_pred_eq_of_pos hpos).symm⟩
          by_cases hup : 1099511627776 < u
          · cases o with
            | none => simp (maxDischargeDepth := 99) [hl, f1, f5, f7, g6, hwl, hup, optT, mms, D9_9, pBool]
            | some t => simp (maxDischargeDepth := 99) [hl, f1, f5, f7, g6, hwl, hup, optT, mms, D9_9, pBool]
          · have hup' : u ≤ 1099511627776 := Int.not_lt.1 hup
            cases o with
            | none =>
              simp (maxDischargeDepth := 99) [hl, f0, f1, f5, f7, g6, hwl, hup, optT, mms]
              refine (hfin u hlat.1 hup' (fun t e => by cases e)).mono ?_
              rintro r3 τ7 ⟨⟨O3, q1, q2, q3, q4⟩, k7⟩
              simp (maxDischargeDepth := 99) [hl, f8]
              refine (run12 τ7 r3 r O3 O1 q1 (hO16.keeps k7) K q4 (f + 1) (hfs3 _ q3)).mono ?_
              rintro w τ8 ⟨rfl, rfl⟩
              simp (maxDischargeDepth := 99) [hl, q2, D9_9, pBool]
            | some t =>
              have hgt' := hgt t rfl
              by_cases htu : t ≤ u
              · have hwt : wr .i64 (t - 1) = t - 1 := wr_near ⟨by omega, by omega⟩
                simp (maxDischargeDepth := 99) [hl, f0, f1, f5, f7, g6, hwl, hup, optT, mms, htu, hwt]
                refine (hfin (t - 1) (by omega) (by omega) (fun t' e => by cases e; omega)).mono ?_
                rintro r3 τ7 ⟨⟨O3, q1, q2, q3, q4⟩, k7⟩
                simp (maxDischargeDepth := 99) [hl, f8]
                refine (run12 τ7 r3 r O3 O1 q1 (hO16.keeps k7) K q4 (f + 1) (hfs3 _ q3)).mono ?_
                rintro w τ8 ⟨rfl, rfl⟩
                simp (maxDischargeDepth := 99) [hl, q2, D9_9, pBool]
              · simp (maxDischargeDepth := 99) [hl, f0, f1, f5, f7, g6, hwl, hup, optT, mms, htu]
                refine (hfin u hlat.1 hup' (fun t' e => by cases e; exact Int.not_le.1 htu)).mono ?_
                rintro r3 τ7 ⟨⟨O3, q1, q2, q3, q4⟩, k7⟩
                simp (maxDischargeDepth := 99) [hl, f8]
                refine (run12 τ7 r3 r O3 O1 q1 (hO16.keeps k7) K q4 (f + 1) (hfs3 _ q3)).mono ?_
                rintro w τ8 ⟨rfl, rfl⟩
                simp (maxDischargeDepth := 99) [hl, q2, D9_9, pBool]
end Go.Proofs.Ythjijjkoeoemgaa.Ab
