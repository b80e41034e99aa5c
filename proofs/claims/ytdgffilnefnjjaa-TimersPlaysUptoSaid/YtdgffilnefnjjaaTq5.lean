/- Timers: the document's own wheel: Cancel, Drop, Pop, Set. -/
import Derived.Test.YtdgffilnefnjjaaTq4
namespace Go.Proofs.Ytdgffilnefnjjaa.Ab
open Go
set_option maxRecDepth 20000
set_option maxHeartbeats 1000000
set_option linter.unusedSimpArgs false

theorem run22 (σ : AHeap) (ir qr : Nat) (M : List T) (seq a : Int) (h : RWh σ ir M seq qr) (hM : M.length ≤ 1048576) (f : Nat) (hf : M.length + 30 ≤ f) :
    OptP (evCall D3 f 22 [.one (.ptr ir 0), .one (.int .i64 a)] σ) (fun _ v τ => (a ≤ 0 ∧ v = .one (.bool false) ∧ τ = σ) ∨
      (0 < a ∧ v = .one (.bool (decide ((M.filter (keepT a 0)).length < M.length))) ∧ (∃ q', RWh τ ir (M.filter (keepT a 0)) seq q' ∧ (q' = ir ∨ σ.size ≤ q')) ∧ Fr σ τ ir ir)) := by
  obtain ⟨f, rfl⟩ : ∃ k, f = k + 1 := ⟨f - 1, by omega⟩
  refine evCall_code (by kernel_rfl) ((D3_code 22).trans code22) ?_
  by_cases ha : 0 < a
  · have hle : (M.filter (keepT a 0)).length ≤ M.length := List.length_filter_le _ _
    have h46 := run46 σ ir qr M seq a 0 h hM f (by omega)
    have hna : ¬ a ≤ 0 := by omega
    generalize M.filter (keepT a 0) = F at h46 hle ⊢
    have e : decide ((0 : Int) < (M.length : Int) - (F.length : Int)) = decide (F.length < M.length) := by
      by_cases c : F.length < M.length
      · simp [c]
      · simp [c]
    simp (maxDischargeDepth := 99) [c22, ha, hna]
    refine h46.mono ?_
    rintro v τ ⟨rfl, k1, k2⟩
    simp (maxDischargeDepth := 99) [e]
    exact ⟨k1, k2⟩
  · simp (maxDischargeDepth := 99) [c22, ha]
    omega
theorem run26 (σ : AHeap) (ir qr : Nat) (M : List T) (seq a : Int) (h : RWh σ ir M seq qr) (hM : M.length ≤ 1048576) (f : Nat) (hf : M.length + 30 ≤ f) :
    OptP (evCall D3 f 26 [.one (.ptr ir 0), .one (.int .i64 a)] σ) (fun _ v τ => v = .one (.int .i64 ((M.length : Int) - ((M.filter (keepT 0 a)).length : Int))) ∧ (∃ q', RWh τ ir (M.filter (keepT 0 a)) seq q' ∧ (q' = ir ∨ σ.size ≤ q')) ∧ Fr σ τ ir ir) := by
  obtain ⟨f, rfl⟩ : ∃ k, f = k + 1 := ⟨f - 1, by omega⟩
  refine evCall_code (by kernel_rfl) ((D3_code 26).trans code26) ?_
  have h46 := run46 σ ir qr M seq 0 a h hM f (by omega)
  generalize M.filter (keepT 0 a) = F at h46 ⊢
  simp (maxDischargeDepth := 99) [c26]
  refine h46.mono ?_
  rintro v τ ⟨rfl, k1, k2⟩
  simp (maxDischargeDepth := 99) []
  exact ⟨k1, k2⟩

theorem run24_no (σ : AHeap) (ir qr : Nat) (M : List T) (seq now : Int) (h : RWh σ ir M seq qr) (f : Nat) (hf : 6 ≤ f) (hno : M = [] ∨ (M ≠ [] ∧ now < (tAt M 0).at')) :
    OptP (evCall D3 f 24 [.one (.ptr ir 0), .one (.int .i64 now)] σ) (fun _ v τ => v = .tup [t0.av, .one (.bool false)] ∧ Keeps σ τ) := by
  obtain ⟨f, rfl⟩ : ∃ k, f = k + 1 := ⟨f - 1, by omega⟩
  refine evCall_code (by kernel_rfl) ((D3_code 24).trans code24) ?_
  have hnx := run28 (σ.alloc ⟨[.int .i64 0, .int .i64 0, .int .i64 0], .own⟩) ir qr M seq (h.keeps (by simp)) f (by omega)
  simp (maxDischargeDepth := 99) [c24]
  refine hnx.mono ?_
  rintro v τ ⟨rfl, hk⟩
  have hk2 : Keeps σ τ := Keeps.trans (Keeps.alloc (Keeps.refl _)) hk
  have hs0 : σ.size < τ.size := by have := hk.1; rw [AHeap.size_alloc] at this; omega
  have hg0 : τ.get σ.size = some ⟨[.int .i64 0, .int .i64 0, .int .i64 0], .own⟩ := by
    rw [hk.2 _ (by rw [AHeap.size_alloc]; omega), AHeap.get_alloc, if_pos rfl]
  have n1 : ¬ τ.size = σ.size := by omega
  have n2 : ¬ σ.size = τ.size := by omega
  have hle : σ.size ≤ τ.size := by omega
  cases M with
  | nil =>
    simp (maxDischargeDepth := 99) [nextT, T.av, T.cells, t0, hg0, n1, n2, hs0, hk2, hle]
  | cons t L =>
    have hgt : now < t.at' := by
      rcases hno with h | ⟨_, h⟩
      · cases h
      · exact h
    simp (maxDischargeDepth := 99) [nextT, T.av, T.cells, t0, hg0, n1, n2, hs0, hk2, hle, hgt]
theorem run24_yes (σ : AHeap) (ir qr : Nat) (t : T) (M' : List T) (seq now : Int) (h : RWh σ ir (t :: M') seq qr) (hM : (t :: M').length ≤ 1048576) (f : Nat) (hf : (t :: M').length + 30 ≤ f) (hyes : t.at' ≤ now) :
    OptP (evCall D3 f 24 [.one (.ptr ir 0), .one (.int .i64 now)] σ) (fun _ v τ => v = .tup [t.av, .one (.bool true)] ∧ (∃ q', RWh τ ir ((t :: M').filter (keepT t.seq 0)) seq q' ∧ (q' = ir ∨ σ.size ≤ q')) ∧ Fr σ τ ir ir) := by
  obtain ⟨f, rfl⟩ : ∃ k, f = k + 1 := ⟨f - 1, by omega⟩
  refine evCall_code (by kernel_rfl) ((D3_code 24).trans code24) ?_
  have hlt := h.lt
  have hnx := run28 (σ.alloc ⟨[.int .i64 0, .int .i64 0, .int .i64 0], .own⟩) ir qr (t :: M') seq (h.keeps (by simp)) f (by omega)
  simp (maxDischargeDepth := 99) [c24]
  refine hnx.mono ?_
  rintro v τ ⟨rfl, hk⟩
  have hk2 : Keeps σ τ := Keeps.trans (Keeps.alloc (Keeps.refl _)) hk
  have hs0 : σ.size < τ.size := by have := hk.1; rw [AHeap.size_alloc] at this; omega
  have hg0 : τ.get σ.size = some ⟨[.int .i64 0, .int .i64 0, .int .i64 0], .own⟩ := by
    rw [hk.2 _ (by rw [AHeap.size_alloc]; omega), AHeap.get_alloc, if_pos rfl]
  have hngt : ¬ now < t.at' := by omega
  obtain ⟨τ1, hτ1⟩ : ∃ τ1, τ1 = (τ.alloc ⟨[.int .i64 0, .int .i64 0, .int .i64 0], .own⟩).put τ.size ⟨[.int .i64 t.at', .int .i64 t.stmt, .int .i64 t.seq], .own⟩ := ⟨_, rfl⟩
  have hk4 : Keeps σ τ1 := by rw [hτ1]; exact (hk2.alloc).put (by omega)
  have hs1 : τ1.size = τ.size + 1 := by rw [hτ1]; rfl
  have hg1 : τ1.get σ.size = some ⟨[.int .i64 0, .int .i64 0, .int .i64 0], .own⟩ := by
    rw [hτ1, AHeap.get_put', if_neg (by omega), AHeap.get_alloc, if_neg (by omega), hg0]
  have hg2 : τ1.get τ.size = some ⟨[.int .i64 t.at', .int .i64 t.stmt, .int .i64 t.seq], .own⟩ := by
    rw [hτ1, AHeap.get_put', if_pos ⟨rfl, by rw [AHeap.size_alloc]; omega⟩]
  have h46 := run46 τ1 ir qr (t :: M') seq t.seq 0 (h.keeps hk4) hM f (by omega)
  generalize (t :: M').filter (keepT t.seq 0) = F at h46 ⊢
  simp (maxDischargeDepth := 99) [nextT, T.av, T.cells, ← hτ1, hg2, hngt]
  refine h46.mono ?_
  rintro v τ2 ⟨rfl, ⟨q', k1, k2⟩, k3⟩
  have hg3 : τ2.get σ.size = some ⟨[.int .i64 0, .int .i64 0, .int .i64 0], .own⟩ := by rw [k3.2 σ.size (by omega) (by omega) (by omega), hg1]
  have hg4 : τ2.get τ.size = some ⟨[.int .i64 t.at', .int .i64 t.stmt, .int .i64 t.seq], .own⟩ := by rw [k3.2 τ.size (by omega) (by omega) (by omega), hg2]
  have hlt2 : σ.size < τ2.size := AHeap.get_lt hg3
  have hF : Fr σ (τ2.put σ.size ⟨[.int .i64 t.at', .int .i64 t.stmt, .int .i64 t.seq], .own⟩) ir ir := ((hk4.fr ir ir).trans k3 (.inl rfl)).put (.inr (.inr (Nat.le_refl _)))
  have hW : RWh (τ2.put σ.size ⟨[.int .i64 t.at', .int .i64 t.stmt, .int .i64 t.seq], .own⟩) ir F seq q' := k1.put (by omega) (by omega)
  simp (maxDischargeDepth := 99) [T.av, T.cells, hg3, hg4, hlt2]
  exact ⟨⟨q', hW, by omega⟩, hF⟩

/-! ### Set -/
theorem srcCells_pre {τ : AHeap} {q i : Nat} {M : List T} (hq : τ.get q = some ⟨tcells M, .own⟩) (hi : i ≤ M.length) : srcCells τ 3 i (.one (.slice q 0 3 i none)) = some (tcells (M.take i)) := by
  have h : τ.get q = some ⟨tcells (M.take i ++ M.drop i), .own⟩ := by rw [List.take_append_drop]; exact hq
  have := srcCells_ts (L := M.take i) (junk := M.drop i) (cap := none) h
  rw [List.length_take, Nat.min_eq_left hi] at this
  exact this
theorem srcCells_suf {τ : AHeap} {q i : Nat} {M : List T} (hq : τ.get q = some ⟨tcells M, .own⟩) (hi : i ≤ M.length) : srcCells τ 3 (M.length - i) (.one (.slice q (i * 3) 3 (M.length - i) none)) = some (tcells (M.drop i)) := by
  have e1 : Nat.beq 3 3 = true := rfl
  have e2 : (tcells M).length = M.length * 3 := tcells_length M
  have e3 : Nat.ble (i * 3 + (M.length - i) * 3) (tcells M).length = true := by rw [e2, Nat.ble_eq]; omega
  have e4 : Nat.ble (M.length - i) (M.length - i) = true := by simp
  simp only [srcCells, e1, e4, hq, e3, Bool.and_self]
  have h : tcells M = tcells (M.take i) ++ tcells (M.drop i) := by rw [← tcells_append, List.take_append_drop]
  have hl : (tcells (M.take i)).length = i * 3 := by rw [tcells_length, List.length_take, Nat.min_eq_left hi]
  have hl2 : (tcells (M.drop i)).length = (M.length - i) * 3 := by rw [tcells_length, List.length_drop]
  rw [h, ← hl, List.drop_left, ← hl2, List.take_length]
end Go.Proofs.Ytdgffilnefnjjaa.Ab
