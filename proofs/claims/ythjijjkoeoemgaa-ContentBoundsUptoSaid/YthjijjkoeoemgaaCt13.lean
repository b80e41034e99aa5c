/- When what views hold changes: content's change and Next. -/
import Derived.Test.YthjijjkoeoemgaaCt12
namespace Go.Proofs.Ythjijjkoeoemgaa.Ab
open Go
set_option maxRecDepth 20000
set_option maxHeartbeats 4000000
set_option linter.unusedSimpArgs false
set_option linter.unusedVariables false

noncomputable def changeO (v : VS) (l : List Arr) (now : Int) : Option Int :=
  if 0 < l.length ∧ okL v l then
    if v.k = 3 then match heldR v l now with
      | [] => none
      | a :: _ => some (a.time + v.n)
    else if v.k = 5 then batchO v l now else none
  else none

theorem run25 (σ : AHeap) (s : AV) (l : List Arr) (v : VS) (now : Int) (h : Arrs σ s l) (hv : v.ok σ) (ht : TimesOk l now) (hn0 : 0 ≤ now) (f : Nat) (hf : 700 ≤ f) :
    OptP (evCall D9 f 25 [.agg v.cells, s, .one (.int .i64 now)] σ) (fun _ r τ => r = optT (changeO v l now) ∧ Keeps σ τ) := by
  obtain ⟨f, rfl⟩ : ∃ k, f = k + 1 := ⟨f - 1, by omega⟩
  refine evCall_code (D9_prim 25) ((D9_code 25).trans code25) ?_
  obtain ⟨τ, hτ⟩ : ∃ τ, τ = σ.alloc ⟨[.int .i64 v.k, .int .i64 v.n, v.s, .bool v.d], .own⟩ := ⟨_, rfl⟩
  have hk : Keeps σ τ := by rw [hτ]; exact (Keeps.refl _).alloc
  have hb : τ.get σ.size = some ⟨[.int .i64 v.k, .int .i64 v.n, v.s, .bool v.d], .own⟩ := by rw [hτ]; simp
  have hC : changeO v l now = changeO v l now := rfl
  conv at hC => rhs; unfold changeO
  by_cases hl : l.length = 0
  · have el : l = [] := List.length_eq_zero_iff.1 hl
    subst el
    rw [if_neg (by simp)] at hC
    rw [hC]
    rcases h.rd with ⟨rfl, _⟩ | ⟨id, off, cap, rfl, _⟩
    · simp (maxDischargeDepth := 99) [c25, VS.cells, optT]
    · simp (maxDischargeDepth := 99) [c25, VS.cells, optT]
  · have hpos : 0 < l.length := by omega
    rcases h.rd with ⟨_, e⟩ | ⟨id, off, cap, rfl, hm, hrd⟩
    · exact absurd (by rw [e]; rfl) hl
    obtain ⟨_, _, _, p3⟩ := hrd 0 hpos
    simp only [Nat.zero_mul, Nat.add_zero] at p3
    rw [← hk.2 id (rd_lt p3)] at p3
    have hl' : ¬ (l.length : Int) = 0 := by omega
    have hl'' : ¬ l = [] := by intro e; rw [e] at hl; exact hl rfl
    have hrow := row_len (h.2 _ (rAt_mem hpos))
    have hpc := pCheck_eq (hv.keeps hk) (wid l)
    unfold wid at hpc
    by_cases hok : okL v l
    · rw [if_pos ⟨hpos, hok⟩] at hC
      have hH := fun hk3 => run26b τ _ l v now (h.keeps hk) (hv.keeps hk) ht hn0 (.inl hk3) f (by omega)
      have hB := fun hk5 => run36 τ _ l v now (h.keeps hk) (hv.keeps hk) ht hpos hok hk5 f (by omega)
      have hnn := fun hk3 => okL_n hok (.inl hk3)
      have hheld : ∀ a ∈ heldR v l now, v.k = 3 → 0 ≤ a.time ∧ a.time ≤ now := by
        intro a ha hk3
        unfold heldR at ha
        rw [if_pos ⟨hpos, hok⟩, if_pos hk3] at ha
        have := (List.mem_filter.1 ha).1
        exact ⟨ht.lo a this, ht.hi a this⟩
      have hup := ht.up
      unfold okL wid at hok
      rw [hok] at hpc
      obtain ⟨f, rfl⟩ : ∃ k, f = k + 1 := ⟨f - 1, by omega⟩
      generalize (rAt l 0).vals.length = w at hrow hpc
      unfold VS.cells at hH hB
      by_cases hk3 : v.k = 3
      · have hH := hH hk3
        rw [if_pos hk3] at hC
        obtain ⟨n1, n2⟩ := hnn hk3
        have hheld := fun a ha => hheld a ha hk3
        rw [hk3] at hb hpc hH hτ
        generalize heldR v l now = R at hH hC hheld
        rcases hrow with ⟨e1, rfl⟩ | ⟨ri, ro, rc, e1⟩
        all_goals
          rw [e1] at p3
          try simp only [Int.natCast_zero] at hpc
          simp (maxDischargeDepth := 99) [c25, VS.cells, hl', hl'', p3, hpos, D9_7, hk3, ← hτ, hpc, hb]
          refine hH.mono ?_
          rintro r τ2 ⟨hA, k2⟩
          have hb2 : τ2.get σ.size = some ⟨[.int .i64 3, .int .i64 v.n, v.s, .bool v.d], .own⟩ := by rw [k2.2 _ (AHeap.get_lt hb), hb]
          have kk := hk.trans k2
          cases R with
          | nil =>
            rcases hA.rd with ⟨rfl, _⟩ | ⟨id, off, cap, rfl, _, _⟩
            · simp (maxDischargeDepth := 99) [hC, optT, kk]
            · simp (maxDischargeDepth := 99) [hC, optT, kk]
          | cons a R =>
            obtain ⟨q1, q2⟩ := hheld a (by simp)
            have hw : wr .i64 (a.time + v.n) = a.time + v.n := wr_near (near_add q1 (by omega) (by omega) n2)
            rcases hA.rd with ⟨_, e⟩ | ⟨id, off, cap, rfl, _, hr⟩
            · cases e
            · obtain ⟨_, _, p4, _⟩ := hr 0 (by simp)
              simp only [Nat.zero_mul, Nat.add_zero, rAt, List.getD_cons_zero] at p4
              have hz : (0 : Int) < (R.length : Int) + 1 := by omega
              simp (maxDischargeDepth := 99) [hC, optT, kk, p4, hb2, hw, hz]
      · rw [if_neg hk3] at hC
        by_cases hk5 : v.k = 5
        · rw [if_pos hk5] at hC
          have hB := hB hk5
          rw [← hC] at hB
          rw [hk5] at hb hpc hB hτ
          rcases hrow with ⟨e1, rfl⟩ | ⟨ri, ro, rc, e1⟩
          all_goals
            rw [e1] at p3
            try simp only [Int.natCast_zero] at hpc
            simp (maxDischargeDepth := 99) [c25, VS.cells, hl', hl'', p3, hpos, D9_7, hk5, ← hτ, hpc, hb]
            refine hB.mono ?_
            rintro r τ2 ⟨rfl, k2⟩
            cases changeO v l now with
            | none => simp (maxDischargeDepth := 99) [optT, hk.trans k2]
            | some t => simp (maxDischargeDepth := 99) [optT, hk.trans k2]
        · rw [if_neg hk5] at hC
          rcases hrow with ⟨e1, rfl⟩ | ⟨ri, ro, rc, e1⟩
          all_goals
            rw [e1] at p3
            try simp only [Int.natCast_zero] at hpc
            simp (maxDischargeDepth := 99) [c25, VS.cells, hl', hl'', p3, hpos, D9_7, hk3, hk5, ← hτ, hpc, hb, hC, optT, hk]
    · rw [if_neg (fun e => hok e.2)] at hC
      unfold okL wid at hok
      obtain ⟨f, rfl⟩ : ∃ k, f = k + 1 := ⟨f - 1, by omega⟩
      generalize (rAt l 0).vals.length = w at hrow hpc hok
      rcases hrow with ⟨e1, rfl⟩ | ⟨ri, ro, rc, e1⟩
      all_goals
        rw [e1] at p3
        try simp only [Int.natCast_zero] at hpc hok
        simp (maxDischargeDepth := 99) [c25, VS.cells, hl', hl'', p3, hpos, D9_7, ← hτ, hpc, hb, hok, hC, optT, hk]

/-! ### of all views -/
def minO : Option Int → Option Int → Option Int
  | a, none => a
  | none, some t => some t
  | some u, some t => if t < u then some t else some u
noncomputable def nextO (l : List Arr) (now : Int) : List VS → Option Int → Option Int
  | [], o => o
  | v :: vs, o => nextO l now vs (minO o (changeO v l now))
def v0 : VS := ⟨0, 0, .nilSlice, [], false⟩
def vAt (vs : List VS) (i : Nat) : VS := vs.getD i v0
/-- Views of a slice. -/
def Views (σ : AHeap) (s : AV) (vs : List VS) : Prop := SlOf σ s 4 (vs.map VS.cells) ∧ ∀ v ∈ vs, v.ok σ
theorem Views.keeps {σ τ : AHeap} {s : AV} {vs : List VS} (h : Views σ s vs) (hk : Keeps σ τ) : Views τ s vs := ⟨h.1.keeps hk, fun v hv => (h.2 v hv).keeps hk⟩
theorem Views.rd {σ : AHeap} {s : AV} {vs : List VS} (h : Views σ s vs) : (s = .one .nilSlice ∧ vs = []) ∨ ∃ id off cap, s = .one (.slice id off 4 vs.length cap) ∧ id < σ.size ∧ vs.length ≤ maxElems ∧
    ∀ i, i < vs.length → rd (σ.get id) (some 4) (off + i * 4) = some (.agg (vAt vs i).cells) := by
  rcases h.1.rd with ⟨h1, h2⟩ | ⟨id, off, cap, h1, h2, h3, h4⟩
  · exact .inl ⟨h1, by simpa using h2⟩
  · simp only [List.length_map] at h1 h3 h4
    refine .inr ⟨id, off, cap, h1, h2, h3, fun i hi => ?_⟩
    rw [(h4 i hi).1]
    simp [rowAt, vAt, List.getD, hi]
theorem vAt_mem {l : List VS} {i : Nat} (h : i < l.length) : vAt l i ∈ l := by
  have : vAt l i = l[i] := by simp [vAt, List.getD, h]
  rw [this]
  exact List.getElem_mem h
theorem nextO_append (l : List Arr) (now : Int) : ∀ (vs : List VS) (v : VS) (o : Option Int), nextO l now (vs ++ [v]) o = minO (nextO l now vs o) (changeO v l now)
  | [], v, o => rfl
  | u :: vs, v, o => by simp only [List.cons_append, nextO, nextO_append l now vs v]
theorem vtake_next {l : List VS} {i : Nat} (h : i < l.length) : l.take (i + 1) = l.take i ++ [vAt l i] := by
  rw [List.take_add_one]
  simp [vAt, List.getD, h]
def someT (o : Option Int) (a b : AV) : Prop := match o with
  | some t => a = .one (.int .i64 t) ∧ b = .one (.bool true)
  | none => a = .one (.int .i64 0) ∧ b = .one (.bool false)
def I14 (σ : AHeap) (s1 s : AV) (l : List Arr) (vs : List VS) (now : Int) (k : Nat) (fr : List AV) (τ : AHeap) : Prop :=
  ∃ i, k = vs.length - i ∧ i ≤ vs.length ∧ fr.length = 41 ∧ getSlot fr 1 = s1 ∧ getSlot fr 2 = .one (.int .i64 now) ∧ getSlot fr 14 = s ∧ getSlot fr 15 = .one (.int .i64 (vs.length : Int)) ∧ getSlot fr 16 = .one (.int .i64 (i : Int)) ∧
    Keeps σ τ ∧ someT (nextO l now (vs.take i) none) (getSlot fr 8) (getSlot fr 9)
def O14 (σ : AHeap) (l : List Arr) (vs : List VS) (now : Int) (fr : List AV) (τ : AHeap) : Prop :=
  fr.length = 41 ∧ Keeps σ τ ∧ someT (nextO l now vs none) (getSlot fr 8) (getSlot fr 9)
theorem run14 (σ : AHeap) (s s1 : AV) (l : List Arr) (vs : List VS) (now : Int) (hV : Views σ s vs) (h : Arrs σ s1 l) (ht : TimesOk l now) (hn0 : 0 ≤ now) (f : Nat) (hf : vs.length + 800 ≤ f) :
    OptP (evCall D9 f 14 [s, s1, .one (.int .i64 now)] σ) (fun _ r τ => r = optT (nextO l now vs none) ∧ Keeps σ τ) := by
  obtain ⟨f, rfl⟩ : ∃ k, f = k + 1 := ⟨f - 1, by omega⟩
  refine evCall_code (D9_prim 14) ((D9_code 14).trans code14) ?_
  rcases hV.rd with ⟨rfl, rfl⟩ | ⟨id, off, cap, rfl, hid, hm, hrd⟩
  · simp (maxDischargeDepth := 99) [c14]
    refine ends_loop (I := fun k fr τ => k = 0 ∧ τ = σ ∧ fr.length = 41 ∧ getSlot fr 8 = .one (.int .i64 0) ∧ getSlot fr 9 = .one (.bool false) ∧ getSlot fr 15 = .one (.int .i64 0) ∧ getSlot fr 16 = .one (.int .i64 0)) ?_ (k := 0) ?_ (by omega)
    · rintro k fr τ ⟨rfl, rfl, hlen, f8, f9, f15, f16⟩
      simp (maxDischargeDepth := 99) [c14_0, hlen, f8, f9, f15, f16, nextO, optT]
    · simp
  · simp (maxDischargeDepth := 99) [c14]
    refine ends_to 0 (O14 σ l vs now) ?_ ?_
    · refine ends_loop (I := I14 σ s1 (.one (.slice id off 4 vs.length cap)) l vs now) ?_ (k := vs.length) ?_ (by omega)
      · rintro k fr τ ⟨i, rfl, hi, hlen, f1, f2, f14, f15, f16, hk, hT⟩
        by_cases hlt : i < vs.length
        · have p0 := hrd i hlt
          rw [← hk.2 id hid] at p0
          have hw := wr_next hlt hm
          have hlt' : (i : Int) < (vs.length : Int) := Int.ofNat_lt.2 hlt
          have hnx := nextO_append l now (vs.take i) (vAt vs i) none
          rw [← vtake_next hlt] at hnx
          have hvk := (hV.2 _ (vAt_mem hlt)).keeps hk
          generalize vAt vs i = v at p0 hnx hvk
          simp only [VS.cells] at p0
          obtain ⟨τ2, hτ2⟩ : ∃ τ2, τ2 = (τ.alloc ⟨[.int .i64 0, .int .i64 0, .nilSlice, .bool false], .own⟩).put τ.size ⟨[.int .i64 v.k, .int .i64 v.n, v.s, .bool v.d], .own⟩ := ⟨_, rfl⟩
          have k2 : Keeps τ τ2 := by rw [hτ2]; exact (Keeps.alloc (Keeps.refl _)).put (Nat.le_refl _)
          have hb : τ2.get τ.size = some ⟨[.int .i64 v.k, .int .i64 v.n, v.s, .bool v.d], .own⟩ := by rw [hτ2, AHeap.get_put', if_pos ⟨rfl, by rw [AHeap.size_alloc]; omega⟩]
          have hwz : writeAt (τ.alloc ⟨[.int .i64 0, .int .i64 0, .nilSlice, .bool false], .own⟩) τ.size 0 [.int .i64 v.k, .int .i64 v.n, v.s, .bool v.d] = some τ2 := by
            rw [hτ2]
            simp [writeAt, splice]
          have hc := run25 τ2 s1 l v now (h.keeps (hk.trans k2)) (hvk.keeps k2) ht hn0 f (by omega)
          unfold VS.cells at hc
          simp (maxDischargeDepth := 99) [c14_0, hlen, f1, f2, f14, f15, f16, hlt, hlt', p0, hwz, hb, -writeAt]
          refine hc.mono ?_
          rintro r τ3 ⟨rfl, k3⟩
          have kk := (hk.trans k2).trans k3
          have hend : ∀ fr', fr'.length = 41 → getSlot fr' 1 = getSlot fr 1 → getSlot fr' 2 = getSlot fr 2 → getSlot fr' 14 = getSlot fr 14 → getSlot fr' 15 = getSlot fr 15 → getSlot fr' 16 = .one (.int .i64 ((i + 1 : Nat) : Int)) →
              someT (nextO l now (vs.take (i + 1)) none) (getSlot fr' 8) (getSlot fr' 9) → ∃ j, j < vs.length - i ∧ I14 σ s1 (.one (.slice id off 4 vs.length cap)) l vs now j fr' τ3 := by
            intro fr' a1 a2 a3 a4 a5 a6 a7
            exact ⟨vs.length - (i + 1), y1 hlt, i + 1, rfl, hlt, a1, by rw [a2, f1], by rw [a3, f2], by rw [a4, f14], by rw [a5, f15], a6, kk, a7⟩
          rw [hnx] at hend
          generalize nextO l now (vs.take i) none = o at hT hend
          generalize changeO v l now = c at hend ⊢
          cases c with
          | none =>
            simp (maxDischargeDepth := 99) [optT, hlen, f16, hw]
            refine hend _ (by simp [hlen]) (by simp [hlen]) (by simp [hlen]) (by simp [hlen]) (by simp [hlen]) (by simp [hlen]) ?_
            cases o <;> simpa [hlen, minO] using hT
          | some t =>
            cases o with
            | none =>
              obtain ⟨t8, t9⟩ := hT
              simp (maxDischargeDepth := 99) [optT, hlen, f16, hw, t8, t9]
              refine hend _ (by simp [hlen]) (by simp [hlen]) (by simp [hlen]) (by simp [hlen]) (by simp [hlen]) (by simp [hlen]) ?_
              simp [hlen, minO, someT]
            | some u =>
              obtain ⟨t8, t9⟩ := hT
              by_cases hlt2 : t < u
              · simp (maxDischargeDepth := 99) [optT, hlen, f16, hw, t8, t9, hlt2]
                refine hend _ (by simp [hlen]) (by simp [hlen]) (by simp [hlen]) (by simp [hlen]) (by simp [hlen]) (by simp [hlen]) ?_
                simp [hlen, minO, someT, hlt2]
              · simp (maxDischargeDepth := 99) [optT, hlen, f16, hw, t8, t9, hlt2]
                refine hend _ (by simp [hlen]) (by simp [hlen]) (by simp [hlen]) (by simp [hlen]) (by simp [hlen]) (by simp [hlen]) ?_
                simp [hlen, minO, someT, hlt2, t8, t9]
        · obtain rfl : i = vs.length := by omega
          rw [List.take_of_length_le (Nat.le_refl _)] at hT
          simp (maxDischargeDepth := 99) [c14_0, hlen, f15, f16]
          exact ⟨by simp [hlen], hk, by simpa [hlen] using hT⟩
      · exact ⟨0, rfl, Nat.zero_le _, by simp, by simp, by simp, by simp, by simp, by simp, Keeps.refl _, by simp [nextO, someT]⟩
    · rintro fr τ ⟨hlen, hk, hT⟩
      simp (maxDischargeDepth := 99) [hlen]
      refine ⟨?_, hk⟩
      generalize nextO l now vs none = o at hT ⊢
      cases o with
      | none => obtain ⟨a, b⟩ := hT; simp [a, b, optT]
      | some t => obtain ⟨a, b⟩ := hT; simp [a, b, optT]
end Go.Proofs.Ythjijjkoeoemgaa.Ab
