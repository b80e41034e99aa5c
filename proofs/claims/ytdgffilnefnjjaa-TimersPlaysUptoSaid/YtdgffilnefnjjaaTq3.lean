/- Timers: Cancel, Drop, All. -/
import Derived.Test.YtdgffilnefnjjaaTq2
namespace Go.Proofs.Ytdgffilnefnjjaa.Ab
open Go
set_option maxRecDepth 20000
set_option maxHeartbeats 1000000
set_option linter.unusedSimpArgs false

theorem run21 (σ : AHeap) (id q : Nat) (L : List T) (seq a : Int) (h : Whl σ id L seq q) (hL : L.length ≤ 1048576) (f : Nat) (hf : L.length + 50 ≤ f) :
    OptP (evCall D3 f 21 [.one (.ptr id 0), .one (.int .i64 a)] σ) (fun _ v τ => v = .one (.bool (decide ((L.filter fun t => !decide (t.seq = a)).length < L.length))) ∧ Whl τ id (dropL (fun t => decide (t.seq = a)) L) seq q ∧ Fr σ τ id q) := by
  obtain ⟨f, rfl⟩ : ∃ k, f = k + 1 := ⟨f - 1, by omega⟩
  refine evCall_code (by kernel_rfl) ((D3_code 21).trans code21) ?_
  have hlt := h.lt
  have hk : Keeps σ (σ.alloc ⟨[.int .i64 a], .own⟩) := Keeps.alloc (Keeps.refl _)
  have hd := run44 (σ.alloc ⟨[.int .i64 a], .own⟩) id q σ.size 45 L seq a (fun t => decide (t.seq = a)) (tells45 _ _) (h.keeps hk) (by rw [AHeap.get_alloc, if_pos rfl]) (by omega) (by omega) hL f (by omega)
  simp (maxDischargeDepth := 99) [-List.length_filter_lt_length_iff_exists, c21]
  refine hd.mono ?_
  rintro v τ ⟨rfl, k1, k2⟩
  have hF : Fr σ τ id q := (hk.fr id q).trans k2 (.inl rfl)
  have hle : (L.filter fun t => !decide (t.seq = a)).length ≤ L.length := List.length_filter_le _ _
  generalize (L.filter fun t => !decide (t.seq = a)).length = m at hle ⊢
  have e : decide ((0 : Int) < (L.length : Int) - (m : Int)) = decide (m < L.length) := by
    by_cases c : m < L.length
    · simp [c]
    · simp [c]
  simp (maxDischargeDepth := 99) [e]
  exact ⟨k1, hF⟩
theorem run25 (σ : AHeap) (id q : Nat) (L : List T) (seq a : Int) (h : Whl σ id L seq q) (hL : L.length ≤ 1048576) (f : Nat) (hf : L.length + 50 ≤ f) :
    OptP (evCall D3 f 25 [.one (.ptr id 0), .one (.int .i64 a)] σ) (fun _ v τ => v = .one (.int .i64 ((L.length : Int) - ((L.filter fun t => !decide (t.stmt = a)).length : Int))) ∧ Whl τ id (dropL (fun t => decide (t.stmt = a)) L) seq q ∧ Fr σ τ id q) := by
  obtain ⟨f, rfl⟩ : ∃ k, f = k + 1 := ⟨f - 1, by omega⟩
  refine evCall_code (by kernel_rfl) ((D3_code 25).trans code25) ?_
  have hlt := h.lt
  have hk : Keeps σ (σ.alloc ⟨[.int .i64 a], .own⟩) := Keeps.alloc (Keeps.refl _)
  have hd := run44 (σ.alloc ⟨[.int .i64 a], .own⟩) id q σ.size 48 L seq a (fun t => decide (t.stmt = a)) (tells48 _ _) (h.keeps hk) (by rw [AHeap.get_alloc, if_pos rfl]) (by omega) (by omega) hL f (by omega)
  simp (maxDischargeDepth := 99) [c25]
  refine hd.mono ?_
  rintro v τ ⟨rfl, k1, k2⟩
  have hF : Fr σ τ id q := (hk.fr id q).trans k2 (.inl rfl)
  simp (maxDischargeDepth := 99) []
  exact ⟨k1, hF⟩

theorem srcCells_ts {τ : AHeap} {q : Nat} {L junk : List T} {cap : Option Nat} (hq : τ.get q = some ⟨tcells (L ++ junk), .own⟩) : srcCells τ 3 L.length (.one (.slice q 0 3 L.length cap)) = some (tcells L) := by
  have e1 : Nat.beq 3 3 = true := rfl
  have e2 : (tcells (L ++ junk)).length = (L.length + junk.length) * 3 := by rw [tcells_length, List.length_append]
  have e3 : Nat.ble (0 + L.length * 3) (tcells (L ++ junk)).length = true := by rw [e2, Nat.ble_eq]; omega
  have e4 : Nat.ble L.length L.length = true := by simp
  simp only [srcCells, e1, e4, hq, e3, Bool.and_self, List.drop_zero]
  rw [tcells_append, ← tcells_length L, List.take_left]

theorem run30 (σ : AHeap) (id q : Nat) (L : List T) (seq : Int) (h : Whl σ id L seq q) (hL : L.length ≤ 1048576) (hnd : (L.map T.seq).Nodup) (f : Nat) (hf : 20 ≤ f) :
    OptP (evCall D3 f 30 [.one (.ptr id 0)] σ) (fun _ v τ => slTs τ v = some (isortT L) ∧ Keeps σ τ) := by
  obtain ⟨f, rfl⟩ : ∃ k, f = k + 3 := ⟨f - 3, by omega⟩
  refine evCall_code (by kernel_rfl) ((D3_code 30).trans code30) ?_
  have hlt := h.lt
  obtain ⟨sl, hg, hs⟩ := h
  rcases hs with ⟨rfl, rfl, rfl⟩ | ⟨junk, rfl, hne, hq⟩
  · have hc : OptP (evCall D3 (f + 2) 50 [.one .nilSlice] σ) (fun _ v τ => v = .one .nilSlice ∧ τ = σ) := by
      refine evCall_code (by kernel_rfl) ((D3_code 50).trans code50) ?_
      simp (maxDischargeDepth := 99) [c50]
    simp (maxDischargeDepth := 99) [-partA, pw0, c30, hg]
    refine hc.mono ?_
    rintro v τ ⟨rfl, rfl⟩
    simp (maxDischargeDepth := 99) [D3_51, p51]
    rfl
  · by_cases h0 : L.length = 0
    · have hL0 : L = [] := List.length_eq_zero_iff.1 h0
      subst hL0
      have hc : OptP (evCall D3 (f + 2) 50 [.one (.slice q 0 3 0 none)] σ) (fun _ v τ => v = .one (.slice σ.size 0 3 0 (some 0)) ∧ τ = σ.alloc ⟨[], .own⟩) := by
        refine evCall_code (by kernel_rfl) ((D3_code 50).trans code50) ?_
        have hs0 := srcCells_ts (τ := σ) (cap := none) hq
        have hs1 : srcCells (σ.alloc ⟨[], .own⟩) 3 0 (.one (.slice q 0 3 0 none)) = some [] := by
          refine srcCells_ts (L := []) (junk := junk) (cap := none) (τ := σ.alloc ⟨[], .own⟩) ?_
          rw [AHeap.get_alloc, if_neg (by omega), hq]
        simp (maxDischargeDepth := 99) [c50, srcLen, hs1, appendA]
      simp (maxDischargeDepth := 99) [-partA, pw0, c30, hg]
      refine hc.mono ?_
      rintro v τ ⟨rfl, rfl⟩
      simp (maxDischargeDepth := 99) [D3_51, p51]
      simp [slTs, rdList, tsOf, isortT]
    · have hc : OptP (evCall D3 (f + 2) 50 [.one (.slice q 0 3 L.length none)] σ) (fun _ v τ => v = .one (.slice (σ.size + 1) 0 3 L.length none) ∧ τ.get (σ.size + 1) = some ⟨tcells L, .own⟩ ∧ Keeps σ τ) := by
        refine evCall_code (by kernel_rfl) ((D3_code 50).trans code50) ?_
        have hs1 := srcCells_ts (τ := σ.alloc ⟨[], .own⟩) (L := L) (junk := junk) (cap := none) (q := q) (by rw [AHeap.get_alloc, if_neg (by omega), hq])
        have hmx : L.length ≤ maxElems := by unfold maxElems; omega
        have hby : (24 : Nat) ≤ maxBytes := by decide
        obtain ⟨n, hn⟩ : ∃ n, L.length = n + 1 := ⟨L.length - 1, by omega⟩
        rw [hn] at hs1 hmx ⊢
        have hap : appendA (σ.alloc ⟨[], .own⟩) 3 24 (.one (.slice σ.size 0 3 0 (some 0))) (n + 1) (tcells L) = some (.one (.slice (σ.size + 1) 0 3 (n + 1) none), (σ.alloc ⟨[], .own⟩).alloc ⟨tcells L, .own⟩) := by
          simp [appendA, appendK, hmx, hby]
        simp (maxDischargeDepth := 99) [c50, srcLen, hs1, hap]
      simp (maxDischargeDepth := 99) [-partA, pw0, c30, hg]
      refine hc.mono ?_
      rintro v τ ⟨rfl, k1, k2⟩
      obtain ⟨n, hn⟩ : ∃ n, L.length = n + 1 := ⟨L.length - 1, by omega⟩
      have hmx : n + 1 ≤ maxElems := by unfold maxElems; omega
      have hps : p51 [.one (.slice (σ.size + 1) 0 3 (n + 1) none), .one (.func 52 [])] τ = some (.tup [], τ.put (σ.size + 1) ⟨tcells (isortT L), .own⟩) := by
        unfold p51
        simp only [k1, toTs_tcells]
        rw [if_pos ⟨hn, hmx, hnd⟩]
      have hlt1 := AHeap.get_lt k1
      have hle : (isortT L).length = n + 1 := by rw [(isort_perm L).length_eq, hn]
      have hres : slTs (τ.put (σ.size + 1) ⟨tcells (isortT L), .own⟩) (.one (.slice (σ.size + 1) 0 3 (isortT L).length none)) = some (isortT L) :=
        slTs_at (md := .own) [] (by rw [AHeap.get_put', if_pos ⟨rfl, hlt1⟩, List.append_nil]) (.inl rfl) (by rw [hle]; exact hmx)
      rw [hle] at hres
      have hk : Keeps σ (τ.put (σ.size + 1) ⟨tcells (isortT L), .own⟩) := k2.put (by omega)
      rw [hn]
      simp (maxDischargeDepth := 99) [D3_51, hps]
      exact ⟨hres, hk⟩
end Go.Proofs.Ytdgffilnefnjjaa.Ab
