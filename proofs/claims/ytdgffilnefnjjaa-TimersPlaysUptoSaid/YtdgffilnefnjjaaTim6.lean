/- Timers: the wheel's own functions. -/
import Derived.Test.YtdgffilnefnjjaaTim5
namespace Go.Proofs.Ytdgffilnefnjjaa.Ab
open Go
set_option maxRecDepth 20000
set_option maxHeartbeats 1000000
set_option linter.unusedSimpArgs false

theorem Whl.keeps {σ τ : AHeap} {id q : Nat} {L : List T} {seq : Int} (h : Whl σ id L seq q) (hk : Keeps σ τ) : Whl τ id L seq q := by
  obtain ⟨sl, hg, hs⟩ := h
  refine ⟨sl, by rw [hk.2 id (AHeap.get_lt hg), hg], ?_⟩
  rcases hs with h | ⟨junk, h1, h2, h3⟩
  · exact .inl h
  · exact .inr ⟨junk, h1, h2, by rw [hk.2 q (AHeap.get_lt h3), h3]⟩
theorem Whl.fr {σ τ : AHeap} {id q id' q' : Nat} {L : List T} {seq : Int} (h : Whl σ id L seq q) (hk : Fr σ τ id' q') (n1 : id ≠ id') (n2 : id ≠ q') (n3 : q ≠ id') (n4 : q ≠ q') : Whl τ id L seq q := by
  obtain ⟨sl, hg, hs⟩ := h
  refine ⟨sl, by rw [hk.2 id (AHeap.get_lt hg) n1 n2, hg], ?_⟩
  rcases hs with h | ⟨junk, h1, h2, h3⟩
  · exact .inl h
  · exact .inr ⟨junk, h1, h2, by rw [hk.2 q (AHeap.get_lt h3) n3 n4, h3]⟩
theorem Whl.lt {σ : AHeap} {id q : Nat} {L : List T} {seq : Int} (h : Whl σ id L seq q) : id < σ.size ∧ q < σ.size := by
  obtain ⟨sl, hg, hs⟩ := h
  refine ⟨AHeap.get_lt hg, ?_⟩
  rcases hs with ⟨_, _, rfl⟩ | ⟨junk, h1, h2, h3⟩
  · exact AHeap.get_lt hg
  · exact AHeap.get_lt h3
theorem Keeps.fr {σ τ : AHeap} (h : Keeps σ τ) (id q : Nat) : Fr σ τ id q := ⟨h.1, fun j h1 _ _ => h.2 j h1⟩

/-- New -/
theorem run18 (σ : AHeap) (f : Nat) (hf : 4 ≤ f) : OptP (evCall D3 f 18 [] σ) (fun _ v τ => v = .one (.ptr σ.size 0) ∧ Whl τ σ.size [] 0 σ.size ∧ Keeps σ τ ∧ σ.size < τ.size) := by
  obtain ⟨f, rfl⟩ : ∃ k, f = k + 1 := ⟨f - 1, by omega⟩
  refine evCall_code (by kernel_rfl) ((D3_code 18).trans code18) ?_
  simp (maxDischargeDepth := 99) [c18]
  exact ⟨_, by rw [AHeap.get_alloc, if_pos rfl], .inl ⟨rfl, rfl, rfl⟩⟩

/-- Next -/
def nextT (L : List T) : AV := match L with
  | [] => .tup [t0.av, .one (.bool false)]
  | t :: _ => .tup [t.av, .one (.bool true)]
theorem run27 (σ : AHeap) (id q : Nat) (L : List T) (seq : Int) (h : Whl σ id L seq q) (f : Nat) (hf : 4 ≤ f) : OptP (evCall D3 f 27 [.one (.ptr id 0)] σ) (fun _ v τ => v = nextT L ∧ Keeps σ τ) := by
  obtain ⟨f, rfl⟩ : ∃ k, f = k + 1 := ⟨f - 1, by omega⟩
  refine evCall_code (by kernel_rfl) ((D3_code 27).trans code27) ?_
  have hlt := h.lt
  obtain ⟨sl, hg, hs⟩ := h
  have n1 : ¬ id = σ.size := by omega
  have n2 : ¬ q = σ.size := by omega
  rcases hs with ⟨rfl, rfl, rfl⟩ | ⟨junk, rfl, hne, hq⟩
  · simp (maxDischargeDepth := 99) [-partA, pw0, pw1, pw2, pw3, c27, hg, n1, nextT, T.av, T.cells, t0]
  · cases L with
    | nil => simp (maxDischargeDepth := 99) [-partA, pw0, pw1, pw2, pw3, c27, hg, n1, nextT, T.av, T.cells, t0]
    | cons t L =>
      have hrd := tcells_part (t :: L ++ junk) 0 (by simp)
      rw [Nat.zero_mul] at hrd
      have e : tAt (t :: L ++ junk) 0 = t := rfl
      rw [e] at hrd
      have hpos : ¬ (((t :: L).length : Int) = 0) := by simp only [List.length_cons]; omega
      have hpos' : ¬ (t :: L).length = 0 := by simp
      have hlt' : 0 < (t :: L).length := by simp
      generalize (t :: L).length = n at hg hpos hpos' hlt'
      generalize t :: L ++ junk = m at hq hrd
      simp (maxDischargeDepth := 99) [-partA, pw0, pw1, pw2, pw3, c27, hg, hq, n1, n2, hpos, hpos', hlt', hrd, nextT, T.av, T.cells, t0]
/-- Len -/
theorem run31 (σ : AHeap) (id q : Nat) (L : List T) (seq : Int) (h : Whl σ id L seq q) (f : Nat) (hf : 4 ≤ f) : OptP (evCall D3 f 31 [.one (.ptr id 0)] σ) (fun _ v τ => v = .one (.int .i64 (L.length : Int)) ∧ τ = σ) := by
  obtain ⟨f, rfl⟩ : ∃ k, f = k + 1 := ⟨f - 1, by omega⟩
  refine evCall_code (by kernel_rfl) ((D3_code 31).trans code31) ?_
  obtain ⟨sl, hg, hs⟩ := h
  rcases hs with ⟨rfl, rfl, rfl⟩ | ⟨junk, rfl, hne, hq⟩
  · simp (maxDischargeDepth := 99) [-partA, pw0, pw1, pw2, c31, hg]
  · simp (maxDischargeDepth := 99) [-partA, pw0, pw1, pw2, c31, hg]

/-- Pop -/
theorem run23_no (σ : AHeap) (id q : Nat) (L : List T) (seq now : Int) (h : Whl σ id L seq q) (f : Nat) (hf : 6 ≤ f) (hno : L = [] ∨ (L ≠ [] ∧ now < (tAt L 0).at')) :
    OptP (evCall D3 f 23 [.one (.ptr id 0), .one (.int .i64 now)] σ) (fun _ v τ => v = .tup [t0.av, .one (.bool false)] ∧ Keeps σ τ) := by
  obtain ⟨f, rfl⟩ : ∃ k, f = k + 1 := ⟨f - 1, by omega⟩
  refine evCall_code (by kernel_rfl) ((D3_code 23).trans code23) ?_
  have hnx := run27 (σ.alloc ⟨[.int .i64 0, .int .i64 0, .int .i64 0], .own⟩) id q L seq (h.keeps (by simp)) f (by omega)
  simp (maxDischargeDepth := 99) [c23]
  refine hnx.mono ?_
  rintro v τ ⟨rfl, hk⟩
  have hk2 : Keeps σ τ := Keeps.trans (Keeps.alloc (Keeps.refl _)) hk
  have hs0 : σ.size < τ.size := by have := hk.1; rw [AHeap.size_alloc] at this; omega
  have hg0 : τ.get σ.size = some ⟨[.int .i64 0, .int .i64 0, .int .i64 0], .own⟩ := by
    rw [hk.2 _ (by rw [AHeap.size_alloc]; omega), AHeap.get_alloc, if_pos rfl]
  have n1 : ¬ τ.size = σ.size := by omega
  have n2 : ¬ σ.size = τ.size := by omega
  have hle : σ.size ≤ τ.size := by omega
  have hk3 : Keeps σ (τ.alloc ⟨[.int .i64 0, .int .i64 0, .int .i64 0], .own⟩) := hk2.alloc
  cases L with
  | nil =>
    simp (maxDischargeDepth := 99) [nextT, T.av, T.cells, t0, hg0, n1, n2, hs0, hk2, hle]
  | cons t L =>
    have hgt : now < t.at' := by
      rcases hno with h | ⟨_, h⟩
      · cases h
      · exact h
    simp (maxDischargeDepth := 99) [nextT, T.av, T.cells, t0, hg0, n1, n2, hs0, hk2, hle, hgt]
theorem run23_yes (σ : AHeap) (id q : Nat) (L : List T) (seq now : Int) (h : Whl σ id L seq q) (hL : L.length ≤ maxElems) (f : Nat) (hf : L.length + 12 ≤ f) (h0 : 0 < L.length) (hyes : (tAt L 0).at' ≤ now) :
    OptP (evCall D3 f 23 [.one (.ptr id 0), .one (.int .i64 now)] σ) (fun _ v τ => v = .tup [(tAt L 0).av, .one (.bool true)] ∧ Whl τ id (popL L) seq q ∧ Fr σ τ id q) := by
  obtain ⟨f, rfl⟩ : ∃ k, f = k + 1 := ⟨f - 1, by omega⟩
  refine evCall_code (by kernel_rfl) ((D3_code 23).trans code23) ?_
  have hlt := h.lt
  have hnx := run27 (σ.alloc ⟨[.int .i64 0, .int .i64 0, .int .i64 0], .own⟩) id q L seq (h.keeps (by simp)) f (by omega)
  simp (maxDischargeDepth := 99) [c23]
  refine hnx.mono ?_
  rintro v τ ⟨rfl, hk⟩
  have hk2 : Keeps σ τ := Keeps.trans (Keeps.alloc (Keeps.refl _)) hk
  have hs0 : σ.size < τ.size := by have := hk.1; rw [AHeap.size_alloc] at this; omega
  have hg0 : τ.get σ.size = some ⟨[.int .i64 0, .int .i64 0, .int .i64 0], .own⟩ := by
    rw [hk.2 _ (by rw [AHeap.size_alloc]; omega), AHeap.get_alloc, if_pos rfl]
  obtain ⟨t, L', rfl⟩ : ∃ t L', L = t :: L' := by
    cases L with
    | nil => simp at h0
    | cons t L' => exact ⟨t, L', rfl⟩
  have ht : tAt (t :: L') 0 = t := rfl
  rw [ht] at hyes ⊢
  have hngt : ¬ now < t.at' := by omega
  obtain ⟨τ1, hτ1⟩ : ∃ τ1, τ1 = (τ.alloc ⟨[.int .i64 0, .int .i64 0, .int .i64 0], .own⟩).put τ.size ⟨[.int .i64 t.at', .int .i64 t.stmt, .int .i64 t.seq], .own⟩ := ⟨_, rfl⟩
  have hk4 : Keeps σ τ1 := by rw [hτ1]; exact (hk2.alloc).put (by omega)
  have hg1 : τ1.get σ.size = some ⟨[.int .i64 0, .int .i64 0, .int .i64 0], .own⟩ := by
    rw [hτ1, AHeap.get_put', if_neg (by omega), AHeap.get_alloc, if_neg (by omega), hg0]
  have hg2 : τ1.get τ.size = some ⟨[.int .i64 t.at', .int .i64 t.stmt, .int .i64 t.seq], .own⟩ := by
    rw [hτ1, AHeap.get_put', if_pos ⟨rfl, by rw [AHeap.size_alloc]; omega⟩]
  have hpop := run47 τ1 id q (t :: L') seq (h.keeps hk4) h0 hL f (by omega)
  rw [ht] at hpop
  simp (maxDischargeDepth := 99) [nextT, T.av, T.cells, ← hτ1, hg2, hngt]
  refine hpop.mono ?_
  rintro v τ2 ⟨rfl, q1, q2⟩
  have hlt1 : σ.size < τ1.size := AHeap.get_lt hg1
  have hg3 : τ2.get σ.size = some ⟨[.int .i64 0, .int .i64 0, .int .i64 0], .own⟩ := by rw [q2.2 σ.size (by omega) (by omega) (by omega), hg1]
  have hlt2 : σ.size < τ2.size := AHeap.get_lt hg3
  have hF : Fr σ (τ2.put σ.size ⟨[.int .i64 t.at', .int .i64 t.stmt, .int .i64 t.seq], .own⟩) id q := ((hk4.fr id q).trans q2 (.inl rfl)).put (.inr (.inr (Nat.le_refl _)))
  have hW : Whl (τ2.put σ.size ⟨[.int .i64 t.at', .int .i64 t.stmt, .int .i64 t.seq], .own⟩) id (popL (t :: L')) seq q := by
    have hq1 := q1
    obtain ⟨sl, k1, k2⟩ := q1
    refine ⟨sl, by rw [AHeap.get_put', if_neg (by omega), k1], ?_⟩
    rcases k2 with k2 | ⟨junk, k2, k3, k4⟩
    · exact .inl k2
    · exact .inr ⟨junk, k2, k3, by rw [AHeap.get_put', if_neg (by omega), k4]⟩
  simp (maxDischargeDepth := 99) [T.av, T.cells, hg3, hlt2]
  exact ⟨hW, hF⟩

/-- Set -/
theorem run19 (σ : AHeap) (id q : Nat) (L : List T) (seq at' stmt : Int) (h : Whl σ id L seq q) (hL : L.length + 1 ≤ maxElems) (hs1 : 0 ≤ seq) (hs2 : seq ≤ 4294967296) (f : Nat) (hf : L.length + 12 ≤ f) :
    OptP (evCall D3 f 19 [.one (.ptr id 0), .one (.int .i64 at'), .one (.int .i64 stmt)] σ) (fun _ v τ => v = T.av ⟨at', stmt, seq + 1⟩ ∧ ∃ q', Whl τ id (pushL L ⟨at', stmt, seq + 1⟩) (seq + 1) q' ∧ (q' = q ∨ σ.size ≤ q') ∧ Fr σ τ id q) := by
  obtain ⟨f, rfl⟩ : ∃ k, f = k + 1 := ⟨f - 1, by omega⟩
  refine evCall_code (by kernel_rfl) ((D3_code 19).trans code19) ?_
  have hlt := h.lt
  have hh := h
  obtain ⟨sl, hg, hs⟩ := h
  have hw : wr .i64 (seq + 1) = seq + 1 := wr64 (by omega) (by omega)
  have n1 : ¬ id = σ.size := by omega
  have n2 : ¬ id = σ.size + 1 := by omega
  have n3 : ¬ σ.size = id := by omega
  have n4 : ¬ σ.size + 1 = id := by omega
  have hid1 : id < σ.size + 1 := by omega
  have hid2 : id < σ.size + 1 + 1 := by omega
  obtain ⟨σ1, hσ1⟩ : ∃ σ1, σ1 = (((σ.alloc ⟨[.int .i64 0, .int .i64 0, .int .i64 0], .own⟩).put id ⟨[sl, .func 41 [], .int .i64 (seq + 1)], .own⟩).alloc ⟨[.int .i64 0, .int .i64 0, .int .i64 0], .own⟩).put (σ.size + 1) ⟨[.int .i64 at', .int .i64 stmt, .int .i64 (seq + 1)], .own⟩ := ⟨_, rfl⟩
  simp (maxDischargeDepth := 99) [c19, hg, n1, n2, n3, n4, hid1, hid2, hw]
  rw [← hσ1]
  have hold : ∀ j, j < σ.size → j ≠ id → σ1.get j = σ.get j := fun j hj hji => by
    rw [hσ1, AHeap.get_put', if_neg (by omega), AHeap.get_alloc, if_neg (by rw [AHeap.size_put, AHeap.size_alloc]; omega), AHeap.get_put', if_neg (by omega), AHeap.get_alloc, if_neg (by omega)]
  have hgid : σ1.get id = some ⟨[sl, .func 41 [], .int .i64 (seq + 1)], .own⟩ := by
    rw [hσ1, AHeap.get_put', if_neg (by omega), AHeap.get_alloc, if_neg (by rw [AHeap.size_put, AHeap.size_alloc]; omega), AHeap.get_put', if_pos ⟨rfl, by rw [AHeap.size_alloc]; omega⟩]
  have hg6 : σ1.get σ.size = some ⟨[.int .i64 0, .int .i64 0, .int .i64 0], .own⟩ := by
    rw [hσ1, AHeap.get_put', if_neg (by omega), AHeap.get_alloc, if_neg (by rw [AHeap.size_put, AHeap.size_alloc]; omega), AHeap.get_put', if_neg (by omega), AHeap.get_alloc, if_pos rfl]
  have hg7 : σ1.get (σ.size + 1) = some ⟨[.int .i64 at', .int .i64 stmt, .int .i64 (seq + 1)], .own⟩ := by
    rw [hσ1, AHeap.get_put', if_pos ⟨rfl, by rw [AHeap.size_alloc, AHeap.size_put, AHeap.size_alloc]; omega⟩]
  have hsz1 : σ1.size = σ.size + 2 := by rw [hσ1]; rfl
  have hF1 : Fr σ σ1 id q := ⟨by omega, fun j h1 h2 _ => hold j h1 h2⟩
  have hW1 : Whl σ1 id L (seq + 1) q := by
    refine ⟨sl, hgid, ?_⟩
    rcases hs with h | ⟨junk, h1, h2, h3⟩
    · exact .inl h
    · exact .inr ⟨junk, h1, h2, by rw [hold q hlt.2 h2, h3]⟩
  refine (run42 σ1 id q L (seq + 1) ⟨at', stmt, seq + 1⟩ hW1 hL f (by omega)).mono ?_
  rintro v τ ⟨q', k1, k2, k3⟩
  have hq' : q' = q ∨ σ.size + 2 ≤ q' := by omega
  have e6 : τ.get σ.size = some ⟨[.int .i64 0, .int .i64 0, .int .i64 0], .own⟩ := by rw [k3.2 σ.size (by omega) (by omega) (by omega), hg6]
  have e7 : τ.get (σ.size + 1) = some ⟨[.int .i64 at', .int .i64 stmt, .int .i64 (seq + 1)], .own⟩ := by rw [k3.2 (σ.size + 1) (by omega) (by omega) (by omega), hg7]
  have hlt6 : σ.size < τ.size := AHeap.get_lt e6
  have hF : Fr σ (τ.put σ.size ⟨[.int .i64 at', .int .i64 stmt, .int .i64 (seq + 1)], .own⟩) id q := (hF1.trans k3 (.inl rfl)).put (.inr (.inr (Nat.le_refl _)))
  have hW : Whl (τ.put σ.size ⟨[.int .i64 at', .int .i64 stmt, .int .i64 (seq + 1)], .own⟩) id (pushL L ⟨at', stmt, seq + 1⟩) (seq + 1) q' := by
    obtain ⟨sl', m1, m2⟩ := k1
    refine ⟨sl', by rw [AHeap.get_put', if_neg (by omega), m1], ?_⟩
    rcases m2 with m2 | ⟨junk, m2, m3, m4⟩
    · exact .inl m2
    · exact .inr ⟨junk, m2, m3, by rw [AHeap.get_put', if_neg (by omega), m4]⟩
  simp (maxDischargeDepth := 99) [T.av, T.cells, e6, e7, hlt6]
  exact ⟨q', hW, by omega, hF⟩
end Go.Proofs.Ytdgffilnefnjjaa.Ab
