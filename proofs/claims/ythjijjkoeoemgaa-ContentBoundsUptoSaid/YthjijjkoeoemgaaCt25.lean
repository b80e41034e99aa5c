/- What views hold together: content's has, of, Of, One. -/
import Derived.Test.YthjijjkoeoemgaaCt24
import Derived.Test.YthjijjkoeoemgaaCt13
import Derived.Test.YthjijjkoeoemgaaLitB
namespace Go.Proofs.Ythjijjkoeoemgaa.Ab
open Go
set_option maxRecDepth 20000
set_option maxHeartbeats 4000000
set_option linter.unusedSimpArgs false
set_option linter.unusedVariables false

theorem run_b44 (σ : AHeap) (a : Arr) (q : Int) (ha : 0 ≤ a.seq ∧ a.seq ≤ 1073741824) (hq : 0 ≤ q ∧ q ≤ 1073741824) (f : Nat) (hf : 5 ≤ f) :
    OptP (evCall D9 f 40 [.agg [.int .i64 a.seq, .int .i64 a.time, a.row], .one (.int .i64 q)] σ) (fun _ v τ => v = .one (.int .i64 (a.seq - q)) ∧ Keeps σ τ) := by
  obtain ⟨f, rfl⟩ : ∃ k, f = k + 1 := ⟨f - 1, by omega⟩
  refine evCall_code (D9_prim 40) ((D9_code 40).trans codeb44) ?_
  have hw : wr .i64 (a.seq - q) = a.seq - q := wr_near ⟨by omega, by omega⟩
  simp (maxDischargeDepth := 99) [cb44, hw]
def IBs (σ : AHeap) (s : AV) (x : List Arr) (q : Int) (k : Nat) (fr : List AV) (τ : AHeap) : Prop :=
  ∃ i j, k = j - i ∧ i ≤ j ∧ j ≤ x.length ∧ (∀ p, p < i → (rAt x p).seq < q) ∧ (∀ p, j ≤ p → p < x.length → q ≤ (rAt x p).seq) ∧ fr.length = 49 ∧ getSlot fr 0 = s ∧ getSlot fr 1 = .one (.int .i64 q) ∧ getSlot fr 2 = .one (.func 40 []) ∧
    getSlot fr 8 = .one (.int .i64 (x.length : Int)) ∧ getSlot fr 9 = .one (.int .i64 (i : Int)) ∧ getSlot fr 10 = .one (.int .i64 (j : Int)) ∧ Keeps σ τ
def OBs (σ : AHeap) (s : AV) (x : List Arr) (q : Int) (fr : List AV) (τ : AHeap) : Prop :=
  ∃ i, i ≤ x.length ∧ (∀ p, p < i → (rAt x p).seq < q) ∧ (∀ p, i ≤ p → p < x.length → q ≤ (rAt x p).seq) ∧ fr.length = 49 ∧ getSlot fr 0 = s ∧ getSlot fr 1 = .one (.int .i64 q) ∧ getSlot fr 2 = .one (.func 40 []) ∧
    getSlot fr 8 = .one (.int .i64 (x.length : Int)) ∧ getSlot fr 9 = .one (.int .i64 (i : Int)) ∧ Keeps σ τ
theorem srt_at {x : List Arr} (hs : SrtQ x) {i j : Nat} (h : i < j) (hj : j < x.length) : (rAt x i).seq < (rAt x j).seq := by
  rw [rAt_get (by omega), rAt_get hj]
  exact List.pairwise_iff_getElem.1 hs i j (by omega) hj h
theorem hasA_at {x : List Arr} {q : Int} {i : Nat} (hi : i ≤ x.length) (h1 : ∀ p, p < i → (rAt x p).seq < q) (h2 : ∀ p, i ≤ p → p < x.length → q ≤ (rAt x p).seq) (hs : SrtQ x) : hasA x q = (decide (i < x.length) && decide ((rAt x i).seq = q)) := by
  by_cases c : i < x.length ∧ (rAt x i).seq = q
  · have : hasA x q = true := by
      unfold hasA
      rw [List.any_eq_true]
      exact ⟨_, rAt_mem c.1, by simpa using c.2⟩
    rw [this]
    simp [c.1, c.2]
  · have : hasA x q = false := by
      unfold hasA
      rw [List.any_eq_false]
      intro a ha
      obtain ⟨j, hj, rfl⟩ := List.mem_iff_getElem.1 ha
      rw [← rAt_get hj]
      simp only [decide_eq_true_eq]
      intro e
      by_cases g : j < i
      · have := h1 j g; omega
      · by_cases g2 : j = i
        · subst g2; exact c ⟨hj, e⟩
        · have := srt_at hs (show i < j by omega) hj
          have := h2 i (Nat.le_refl _) (by omega)
          omega
    rw [this]
    cases hd : (decide (i < x.length) && decide ((rAt x i).seq = q)) with
    | false => rfl
    | true =>
      simp only [Bool.and_eq_true, decide_eq_true_eq] at hd
      exact absurd hd c
theorem run_b43 (σ : AHeap) (s : AV) (x : List Arr) (q : Int) (hA : Arrs σ s x) (hs : SrtQ x) (hb : ∀ a ∈ x, 0 ≤ a.seq ∧ a.seq ≤ 1073741824) (hq : 0 ≤ q ∧ q ≤ 1073741824) (hm : x.length ≤ 1048576) (f : Nat) (hf : x.length + 20 ≤ f) :
    OptP (evCall D9 f 39 [s, .one (.int .i64 q), .one (.func 40 [])] σ) (fun _ v τ => ∃ i : Int, v = .tup [.one (.int .i64 i), .one (.bool (hasA x q))] ∧ Keeps σ τ) := by
  obtain ⟨f, rfl⟩ : ∃ k, f = k + 1 := ⟨f - 1, by omega⟩
  refine evCall_code (D9_prim 39) ((D9_code 39).trans codeb43) ?_
  rcases hA.rd with ⟨rfl, rfl⟩ | ⟨id, off, cap, rfl, hmx, hrd⟩
  · simp (maxDischargeDepth := 99) [cb43]
    refine ends_loop (I := fun k fr τ => k = 0 ∧ τ = σ ∧ fr.length = 49 ∧ getSlot fr 8 = .one (.int .i64 0) ∧ getSlot fr 9 = .one (.int .i64 0) ∧ getSlot fr 10 = .one (.int .i64 0)) ?_ (k := 0) ?_ (by omega)
    · rintro k fr τ ⟨rfl, rfl, hlen, f8, f9, f10⟩
      simp (maxDischargeDepth := 99) [cb43_0, hlen, f8, f9, f10, hasA]
    · simp
  · simp (maxDischargeDepth := 99) [cb43]
    refine ends_to 0 (OBs σ (.one (.slice id off 3 x.length cap)) x q) ?_ ?_
    · refine ends_loop (I := IBs σ (.one (.slice id off 3 x.length cap)) x q) ?_ (k := x.length) ?_ (by omega)
      · rintro k fr τ ⟨i, j, rfl, hij, hj, h1, h2, hl, f0, f1, f2, f8, f9, f10, hk⟩
        by_cases hlt : i < j
        · have hlt' : (i : Int) < (j : Int) := Int.ofNat_lt.2 hlt
          obtain ⟨z1, z2, z3, z4, z5, z6⟩ := mid_bounds hlt hj (Nat.le_refl _) hm
          have e1 : wr .i64 ((i : Int) + (j : Int)) = ((i + j : Nat) : Int) := wr_add z3
          have e2 := wr_u (i + j) z3
          have e3 := shr_half (i + j)
          have e4 : wr .i64 (((i + j) / 2 : Nat) : Int) = (((i + j) / 2 : Nat) : Int) := wr_nat z4
          have e5 : wr .i64 ((((i + j) / 2 : Nat) : Int) + 1) = (((i + j) / 2 + 1 : Nat) : Int) := wr_succ z6
          obtain ⟨h, hh⟩ : ∃ h, h = (i + j) / 2 := ⟨_, rfl⟩
          rw [← hh] at z1 z2 z4 z5 z6 e3 e4 e5
          obtain ⟨p0, _, _, _⟩ := hrd h z5
          rw [← hk.2 id (rd_lt p0)] at p0
          have hcall := run_b44 τ (rAt x h) q (hb _ (rAt_mem z5)) hq f (by omega)
          have hup : (rAt x h).seq < q → ∀ p, p < h + 1 → (rAt x p).seq < q := fun e p hp => by
            by_cases g : p = h
            · rw [g]; exact e
            · have := srt_at hs (show p < h by omega) z5; omega
          have hdn : ¬ (rAt x h).seq < q → ∀ p, h ≤ p → p < x.length → q ≤ (rAt x p).seq := fun e p hp hpl => by
            by_cases g : p = h
            · rw [g]; omega
            · have := srt_at hs (show h < p by omega) hpl; omega
          generalize rAt x h = a at p0 hcall hup hdn
          simp only [Arr.av, Arr.cells] at p0
          simp (maxDischargeDepth := 99) [cb43_0, hl, f0, f1, f2, f8, f9, f10, hlt, hlt', e1, e2, e3, e4, z5, p0, -Int.natCast_add, -Int.natCast_ediv]
          refine hcall.mono ?_
          rintro w τ2 ⟨rfl, k2⟩
          by_cases hneg : a.seq < q
          · have hneg' : a.seq - q < 0 := by omega
            simp (maxDischargeDepth := 99) [hl, hneg, hneg', e5, -Int.natCast_add]
            exact ⟨j - (h + 1), by omega, h + 1, j, rfl, by omega, hj, hup hneg, h2, by simp [hl], by simp [hl, f0], by simp [hl, f1], by simp [hl, f2], by simp [hl, f8], by simp [hl], by simp [hl, f10], hk.trans k2⟩
          · have hneg' : ¬ a.seq - q < 0 := by omega
            simp (maxDischargeDepth := 99) [hl, hneg, hneg']
            exact ⟨h - i, by omega, i, h, rfl, z1, by omega, h1, hdn hneg, by simp [hl], by simp [hl, f0], by simp [hl, f1], by simp [hl, f2], by simp [hl, f8], by simp [hl, f9], by simp [hl], hk.trans k2⟩
        · obtain rfl : i = j := by omega
          simp (maxDischargeDepth := 99) [cb43_0, hl, f9, f10]
          exact ⟨i, hj, h1, h2, by simp [hl], by simp [hl, f0], by simp [hl, f1], by simp [hl, f2], by simp [hl, f8], by simp [hl, f9], hk⟩
      · exact ⟨0, x.length, rfl, Nat.zero_le _, Nat.le_refl _, fun p hp => absurd hp (Nat.not_lt_zero _), fun p h1 h2 => by omega, by simp, by simp, by simp, by simp, by simp, by simp, by simp, Keeps.refl _⟩
    · rintro fr τ ⟨i, hi, h1, h2, hl, f0, f1, f2, f8, f9, hk⟩
      have hB := hasA_at hi h1 h2 hs
      by_cases hlt : i < x.length
      · have hlt' : (i : Int) < (x.length : Int) := Int.ofNat_lt.2 hlt
        obtain ⟨p0, _, _, _⟩ := hrd i hlt
        rw [← hk.2 id (rd_lt p0)] at p0
        have hcall := run_b44 τ (rAt x i) q (hb _ (rAt_mem hlt)) hq f (by omega)
        generalize rAt x i = a at p0 hcall hB
        simp only [Arr.av, Arr.cells] at p0
        simp (maxDischargeDepth := 99) [hl, f0, f1, f2, f8, f9, hlt, hlt', p0]
        refine hcall.mono ?_
        rintro w τ2 ⟨rfl, k2⟩
        simp only [hlt, decide_true, Bool.true_and] at hB
        simp (maxDischargeDepth := 99) [hl, f9, hB, hk.trans k2]
        omega
      · have hlt' : ¬ (i : Int) < (x.length : Int) := fun e => hlt (Int.ofNat_lt.1 e)
        simp only [hlt, decide_false, Bool.false_and] at hB
        simp (maxDischargeDepth := 99) [hl, f0, f1, f2, f8, f9, hlt, hlt', hB, hk]
theorem run_b31 (σ : AHeap) (s : AV) (x : List Arr) (q : Int) (hA : Arrs σ s x) (hs : SrtQ x) (hb : ∀ a ∈ x, 0 ≤ a.seq ∧ a.seq ≤ 1073741824) (hq : 0 ≤ q ∧ q ≤ 1073741824) (hm : x.length ≤ 1048576) (f : Nat) (hf : x.length + 30 ≤ f) :
    OptP (evCall D9 f 35 [s, .one (.int .i64 q)] σ) (fun _ v τ => v = .one (.bool (hasA x q)) ∧ Keeps σ τ) := by
  obtain ⟨f, rfl⟩ : ∃ k, f = k + 1 := ⟨f - 1, by omega⟩
  refine evCall_code (D9_prim 35) ((D9_code 35).trans codeb31) ?_
  simp (maxDischargeDepth := 99) [cb31]
  refine (run_b43 σ s x q hA hs hb hq hm f (by omega)).mono ?_
  rintro v τ ⟨i, rfl, hk⟩
  simp (maxDischargeDepth := 99) [hk]
theorem run_b30 (σ : AHeap) (b : Nat) (xs : SV) (x : List Arr) (hA : Arrs σ (.one xs) x) (hs : SrtQ x) (hb : ∀ a ∈ x, 0 ≤ a.seq ∧ a.seq ≤ 1073741824) (hm : x.length ≤ 200) (hg : σ.get b = some ⟨[xs], .own⟩) :
    TellsI σ 34 [.ptr b 0] 300 (fun _ a => 0 ≤ a.seq ∧ a.seq ≤ 1073741824) (fun _ a => hasA x a.seq) := by
  intro τ hk f hf i a hq
  obtain ⟨f, rfl⟩ : ∃ k, f = k + 1 := ⟨f - 1, by omega⟩
  refine evCall_code (D9_prim 34) ((D9_code 34).trans codeb30) ?_
  have hg1 := hg
  rw [← hk.2 b (AHeap.get_lt hg)] at hg1
  have hlt := AHeap.get_lt hg1
  have hne : ¬ b = τ.size := by omega
  have k2 : Keeps τ (τ.alloc ⟨[.int .i64 a.seq, .int .i64 a.time, a.row], .own⟩) := (Keeps.refl _).alloc
  have hr := run_b31 (τ.alloc ⟨[.int .i64 a.seq, .int .i64 a.time, a.row], .own⟩) (.one xs) x a.seq ((hA.keeps hk).keeps k2) hs hb hq (by omega) f (by omega)
  simp (maxDischargeDepth := 99) [cb30, hg1, hne]
  refine hr.mono ?_
  rintro v τ2 ⟨rfl, k3⟩
  simp (maxDischargeDepth := 99) [k2.trans k3]

theorem vdrop_next' {l : List VS} {i : Nat} (h : i < l.length) : l.drop i = vAt l i :: l.drop (i + 1) := by
  rw [List.drop_eq_getElem_cons h]
  simp [vAt, List.getD, h]

/-! ### together -/
noncomputable def ofF (l : List Arr) (now : Int) : List VS → List Arr → List Arr
  | [], out => out
  | v :: vs, out => ofF l now vs (out.filter fun a => hasA (heldF v l now) a.seq)
noncomputable def ofL (vs : List VS) (l : List Arr) (now : Int) : List Arr := match vs with
  | [] => []
  | v :: vs => ofF l now vs (heldF v l now)
theorem heldF_sub (v : VS) (l : List Arr) (now : Int) : ∀ a ∈ heldF v l now, a ∈ l := fun a ha => by
  unfold heldF at ha
  split at ha
  · exact fIdx_mem _ l 0 a ha
  · cases ha
theorem fIdx_sublist (p : Nat → Arr → Bool) : ∀ (l : List Arr) (i : Nat), List.Sublist (fIdx p i l) l
  | [], i => List.Sublist.refl _
  | a :: l, i => by
    unfold fIdx
    split
    · exact (fIdx_sublist p l (i + 1)).cons_cons a
    · exact (fIdx_sublist p l (i + 1)).cons a
theorem heldF_srt {v : VS} {l : List Arr} {now : Int} (h : SrtQ l) : SrtQ (heldF v l now) := by
  unfold heldF
  split
  · exact List.Pairwise.sublist (fIdx_sublist _ l 0) h
  · exact List.Pairwise.nil
theorem heldF_len (v : VS) (l : List Arr) (now : Int) : (heldF v l now).length ≤ l.length := by
  unfold heldF
  split
  · exact fIdx_len _ l 0
  · simp
/-- A list of views that the machine can cut: without a capacity. -/
def NoCap (s : AV) : Prop := ∀ id o e n c, s = .one (.slice id o e n c) → c = none
def IOf (σ : AHeap) (s1 : AV) (l : List Arr) (vs : List VS) (now : Int) (id off : Nat) (k : Nat) (fr : List AV) (τ : AHeap) : Prop :=
  ∃ i out, k = vs.length - 1 - i ∧ i ≤ vs.length - 1 ∧ fr.length = 36 ∧ getSlot fr 1 = s1 ∧ getSlot fr 2 = .one (.int .i64 now) ∧ getSlot fr 21 = .one (.slice id (off + 4) 4 (vs.length - 1) none) ∧ getSlot fr 22 = .one (.int .i64 ((vs.length - 1 : Nat) : Int)) ∧ getSlot fr 23 = .one (.int .i64 (i : Int)) ∧
    Arrs τ (getSlot fr 7) out ∧ (∀ a ∈ out, a ∈ l) ∧ out.length ≤ l.length ∧ Keeps σ τ ∧ ofF l now (vs.drop (i + 1)) out = ofL vs l now
def OOf (σ : AHeap) (l : List Arr) (vs : List VS) (now : Int) (fr : List AV) (τ : AHeap) : Prop :=
  fr.length = 36 ∧ Arrs τ (getSlot fr 7) (ofL vs l now) ∧ Keeps σ τ
theorem of_run (σ : AHeap) (s s1 : AV) (l : List Arr) (vs : List VS) (now : Int) (hV : Views σ s vs) (hN : NoCap s) (hA : Arrs σ s1 l) (hG : 0 < l.length → Grown σ s1 l) (hL : LOk l now) (C : Nat) (hC : ∀ v ∈ vs, v.cols.length ≤ C) (f : Nat) (hf : C + vs.length + 2600 ≤ f) :
    OptP (evCall D9 f 24 [s, s1, .one (.int .i64 now)] σ) (fun _ r τ => Arrs τ r (ofL vs l now) ∧ Keeps σ τ) := by
  obtain ⟨f, rfl⟩ : ∃ k, f = k + 1 := ⟨f - 1, by omega⟩
  refine evCall_code (D9_prim 24) ((D9_code 24).trans codeb17) ?_
  have hnil : ∀ τ, Arrs τ (.one .nilSlice) [] := fun τ => ⟨.inl ⟨rfl, rfl⟩, fun a ha => by cases ha⟩
  have hlen := hL.t.len
  rcases hV.rd with ⟨rfl, rfl⟩ | ⟨id, off, cap, rfl, hid, hm, hrd⟩
  · simp (maxDischargeDepth := 99) [cb17, hnil, ofL]
  · have hcap := hN id off 4 vs.length cap rfl
    subst hcap
    by_cases h0 : vs.length = 0
    · have e : vs = [] := List.length_eq_zero_iff.1 h0
      subst e
      simp (maxDischargeDepth := 99) [cb17, hnil, ofL]
    · have h1 : 0 < vs.length := by omega
      have h0' : ¬ (vs.length : Int) = 0 := by omega
      have h0'' : ¬ vs = [] := by intro e; rw [e] at h0; exact h0 rfl
      have p0 := hrd 0 h1
      simp only [Nat.zero_mul, Nat.add_zero] at p0
      have hmem0 := vAt_mem h1
      have hheld := held_run σ s1 l (vAt vs 0) now hA hG (hV.2 _ hmem0) hL C (hC _ hmem0) f (by omega)
      have hfirst : ofL vs l now = ofF l now (vs.drop 1) (heldF (vAt vs 0) l now) := by
        cases vs with
        | nil => simp at h1
        | cons v vs => rfl
      generalize hv0 : vAt vs 0 = v at p0 hheld hfirst
      unfold VS.cells at p0 hheld
      obtain ⟨o, ho, hol⟩ : ∃ o, σ.get id = some o ∧ off + vs.length * 4 ≤ o.cells.length := by
        rcases hV.1.2.2 with ⟨e, _⟩ | ⟨id', off', cap', md, pre, suf, e, _, e2, e3⟩
        · cases e
        · rw [List.length_map] at e
          cases e
          refine ⟨_, e3, ?_⟩
          have := flatten_len hV.1.2.1
          simp only [List.length_append, this, List.length_map]
          omega
      simp (maxDischargeDepth := 99) [cb17, h0, h0', h0'', h1, p0]
      refine hheld.mono ?_
      rintro r τ ⟨hr, hk⟩
      have ho2 : τ.get id = some o := by rw [hk.2 id hid, ho]
      have h1l : 1 ≤ vs.length := h1
      simp (maxDischargeDepth := 99) [ho2, hol, h1l]
      refine ends_to 0 (OOf σ l vs now) ?_ ?_
      · refine ends_loop (I := IOf σ s1 l vs now id off) ?_ (k := vs.length - 1) ?_ (by omega)
        · rintro k fr τ ⟨i, out, rfl, hi, hl, f1, f2, f21, f22, f23, hO, hsub, hol2, hk, hof⟩
          by_cases hlt : i < vs.length - 1
          · have hlt' : (i : Int) < ((vs.length - 1 : Nat) : Int) := Int.ofNat_lt.2 hlt
            have hi1 : i + 1 < vs.length := by omega
            have p1 := hrd (i + 1) hi1
            rw [← hk.2 id hid, show off + (i + 1) * 4 = off + 4 + i * 4 by omega] at p1
            have hw : wr .i64 ((i : Int) + 1) = ((i + 1 : Nat) : Int) := wr_next hlt (by unfold maxElems at *; omega)
            have hmem := vAt_mem hi1
            have hheld := fun τ2 (k2 : Keeps τ τ2) => held_run τ2 s1 l (vAt vs (i + 1)) now (hA.keeps (hk.trans k2)) (fun h => (hG h).keeps (hk.trans k2)) ((hV.2 _ hmem).keeps (hk.trans k2)) hL C (hC _ hmem) f (by omega)
            rw [vdrop_next' hi1] at hof
            simp only [ofF] at hof
            have hXs : SrtQ (heldF (vAt vs (i + 1)) l now) := heldF_srt hL.t.seqs
            have hXb : ∀ a ∈ heldF (vAt vs (i + 1)) l now, 0 ≤ a.seq ∧ a.seq ≤ 1073741824 := fun a ha => hL.q a (heldF_sub _ _ _ a ha)
            have hXl : (heldF (vAt vs (i + 1)) l now).length ≤ 200 := Nat.le_trans (heldF_len _ _ _) hlen
            generalize heldF (vAt vs (i + 1)) l now = X at hheld hof hXs hXb hXl
            generalize vAt vs (i + 1) = v at p1 hheld
            unfold VS.cells at p1 hheld
            obtain ⟨τ2, hτ2⟩ : ∃ τ2, τ2 = (τ.alloc ⟨[.int .i64 0, .int .i64 0, .nilSlice, .bool false], .own⟩).put τ.size ⟨[.int .i64 v.k, .int .i64 v.n, v.s, .bool v.d], .own⟩ := ⟨_, rfl⟩
            have k2 : Keeps τ τ2 := by rw [hτ2]; exact (Keeps.alloc (Keeps.refl _)).put (Nat.le_refl _)
            have hb : τ2.get τ.size = some ⟨[.int .i64 v.k, .int .i64 v.n, v.s, .bool v.d], .own⟩ := by rw [hτ2, AHeap.get_put', if_pos ⟨rfl, by rw [AHeap.size_alloc]; omega⟩]
            have hwz : writeAt (τ.alloc ⟨[.int .i64 0, .int .i64 0, .nilSlice, .bool false], .own⟩) τ.size 0 [.int .i64 v.k, .int .i64 v.n, v.s, .bool v.d] = some τ2 := by
              rw [hτ2]
              simp [writeAt, splice]
            simp (maxDischargeDepth := 99) [cb17_0, hl, f1, f2, f21, f22, f23, hlt, hlt', p1, hwz, hb, -writeAt]
            refine (hheld τ2 k2).mono ?_
            rintro x τ3 ⟨hX, k3⟩
            obtain ⟨xs, rfl⟩ := hX.one
            obtain ⟨τ4, hτ4⟩ : ∃ τ4, τ4 = (τ3.alloc ⟨[.nilSlice], .own⟩).put τ3.size ⟨[xs], .own⟩ := ⟨_, rfl⟩
            have k4 : Keeps τ3 τ4 := by rw [hτ4]; exact ((Keeps.refl _).alloc).put (Nat.le_refl _)
            have g4 : τ4.get τ3.size = some ⟨[xs], .own⟩ := by rw [hτ4, AHeap.get_put', if_pos ⟨rfl, by rw [AHeap.size_alloc]; omega⟩]
            have hw4 : writeAt (τ3.alloc ⟨[.nilSlice], .own⟩) τ3.size 0 [xs] = some τ4 := by
              rw [hτ4]
              simp [writeAt, splice]
            have hT := run_b30 τ4 τ3.size xs X (hX.keeps k4) hXs hXb hXl g4
            have hO4 := hO.keeps (k2.trans (k3.trans k4))
            have hS := run28 τ4 (getSlot fr 7) out 34 [.ptr τ3.size 0] 300 _ _ hT hO4 (fun j hj => hL.q _ (hsub _ (rAt_mem hj))) f (by omega)
            rw [fIdx_filter] at hS
            simp (maxDischargeDepth := 99) [hl, hw4, -writeAt]
            refine hS.mono ?_
            rintro y τ5 ⟨hy, k5⟩
            have kk := hk.trans (k2.trans (k3.trans (k4.trans k5)))
            have hfl := List.length_filter_le (fun a => hasA X a.seq) out
            simp (maxDischargeDepth := 99) [hl, f23, hw]
            exact ⟨vs.length - 1 - (i + 1), y1 hlt, i + 1, _, rfl, hlt, by simp [hl], by simp [hl, f1], by simp [hl, f2], by simp [hl, f21], by simp [hl, f22], by simp [hl],
              by simpa [hl] using acells_outsl hy (by unfold maxElems; omega) (fun a ha => (hO4.keeps k5).2 a (List.mem_filter.1 ha).1), fun a ha => hsub a (List.mem_filter.1 ha).1, by omega, kk, hof⟩
          · obtain rfl : i = vs.length - 1 := by omega
            rw [List.drop_of_length_le (by omega)] at hof
            simp only [ofF] at hof
            subst hof
            simp (maxDischargeDepth := 99) [cb17_0, hl, f22, f23]
            exact ⟨by simp [hl], by simpa [hl] using hO, hk⟩
        · exact ⟨0, _, rfl, Nat.zero_le _, by simp, by simp, by simp, by simp, by simp, by simp, by simpa using hr, heldF_sub _ _ _, heldF_len _ _ _, hk, hfirst.symm⟩
      · rintro fr τ ⟨hl, hO, hk⟩
        simp (maxDischargeDepth := 99) [hl]
        exact ⟨hO, hk⟩
end Go.Proofs.Ythjijjkoeoemgaa.Ab
