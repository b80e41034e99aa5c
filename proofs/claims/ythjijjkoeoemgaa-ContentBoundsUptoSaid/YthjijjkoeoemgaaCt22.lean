/- Views that are parts of the list; which kind is held how. -/
import Derived.Test.YthjijjkoeoemgaaCt21
import Derived.Test.YthjijjkoeoemgaaCt12
import Derived.Test.YthjijjkoeoemgaaLitB
namespace Go.Proofs.Ythjijjkoeoemgaa.Ab
open Go
set_option maxRecDepth 20000
set_option maxHeartbeats 4000000
set_option linter.unusedSimpArgs false
set_option linter.unusedVariables false

theorem how1 (k : Int) (g : Nat) (h : (k = 1 ∧ g = 41) ∨ (k = 2 ∧ g = 42) ∨ (k = 4 ∧ g = 44) ∨ (k = 6 ∧ g = 46) ∨ (k = 7 ∧ g = 47) ∨ (k = 8 ∧ g = 48) ∨ (k = 9 ∧ g = 49)) (σ : AHeap) (f : Nat) (hf : 5 ≤ f) :
    OptP (evCall D9 f 37 [.one (.int .i64 k)] σ) (fun _ v τ => v = .one (.func g []) ∧ Keeps σ τ) := by
  obtain ⟨f, rfl⟩ : ∃ k, f = k + 1 := ⟨f - 1, by omega⟩
  refine evCall_code (D9_prim 37) ((D9_code 37).trans code37) ?_
  rcases h with ⟨rfl, rfl⟩ | ⟨rfl, rfl⟩ | ⟨rfl, rfl⟩ | ⟨rfl, rfl⟩ | ⟨rfl, rfl⟩ | ⟨rfl, rfl⟩ | ⟨rfl, rfl⟩ <;> simp (maxDischargeDepth := 99) [c37]
theorem run_all (σ : AHeap) (s : AV) (l : List Arr) (v : VS) (now : Int) (hA : Arrs σ s l) (f : Nat) (hf : 5 ≤ f) : OptP (evCall D9 f 41 [.agg (v.at' now), s] σ) (fun _ r τ => Arrs τ r l ∧ Keeps σ τ) := by
  obtain ⟨f, rfl⟩ : ∃ k, f = k + 1 := ⟨f - 1, by omega⟩
  refine evCall_code (D9_prim 41) ((D9_code 41).trans code41) ?_
  simp (maxDischargeDepth := 99) [c41]
  exact hA.keeps ((Keeps.refl _).alloc)
/-- What a part of a grown list is. -/
theorem Grown.sub {σ : AHeap} {q n : Nat} {l : List Arr} (hA : Arrs σ (.one (.slice q 0 3 n none)) l) {a k : Nat} (hl : a + k ≤ n) : Arrs σ (.one (.slice q (a * 3) 3 k none)) ((l.drop a).take k) := by
  have := hA.sub hl none
  rwa [Nat.zero_add] at this
theorem run_length (σ : AHeap) (s : AV) (l : List Arr) (v : VS) (now : Int) (hA : Arrs σ s l) (hG : Grown σ s l) (h0 : 0 < l.length) (hm : l.length ≤ 200) (n1 : 1 ≤ v.n) (n2 : v.n ≤ 65536) (f : Nat) (hf : 5 ≤ f) :
    OptP (evCall D9 f 42 [.agg (v.at' now), s] σ) (fun _ r τ => Arrs τ r (l.drop (l.length - v.n.toNat)) ∧ Keeps σ τ) := by
  obtain ⟨f, rfl⟩ : ∃ k, f = k + 1 := ⟨f - 1, by omega⟩
  refine evCall_code (D9_prim 42) ((D9_code 42).trans code42) ?_
  obtain ⟨q, rfl, hq⟩ := hG
  obtain ⟨τ, hτ⟩ : ∃ τ, τ = σ.alloc ⟨v.at' now, .own⟩ := ⟨_, rfl⟩
  have hk : Keeps σ τ := by rw [hτ]; exact (Keeps.refl _).alloc
  have g0 : τ.get σ.size = some ⟨[.int .i64 v.k, .int .i64 v.n, v.s, .bool v.d, .int .i64 now], .own⟩ := by rw [hτ]; simp [VS.at']
  have g1 : τ.get q = some ⟨acells l, .own⟩ := by rw [hk.2 _ (AHeap.get_lt hq), hq]
  have hlc := acells_length l
  obtain ⟨x, hx⟩ : ∃ x, x = (l.length : Int) - v.n := ⟨_, rfl⟩
  have w1 : wr .i64 ((l.length : Int) - v.n) = x := by rw [hx]; exact wr_near ⟨by omega, by omega⟩
  by_cases hlt : (0 : Int) < x
  · obtain ⟨a, ha⟩ : ∃ a : Nat, (a : Int) = x := ⟨x.toNat, by omega⟩
    have ea : l.length - v.n.toNat = a := by omega
    have hal : a ≤ l.length := by omega
    have hS := (Grown.sub (hA.keeps hk) (a := a) (k := l.length - a) (by omega))
    rw [List.take_of_length_le (by rw [List.length_drop]; exact Nat.le_refl _)] at hS
    have hapos : (0 : Int) < (a : Int) := by omega
    have hapos' : 0 < a := by omega
    rw [ea]
    rw [← ha] at w1
    unfold VS.at' at hτ ⊢
    simp (maxDischargeDepth := 99) [c42, ← hτ, g0, g1, w1, mms, mm, hapos, hapos', hal, hlc]
    exact ⟨hS, hk⟩
  · have ea : l.length - v.n.toNat = 0 := by omega
    rw [ea, List.drop_zero]
    unfold VS.at' at hτ ⊢
    simp (maxDischargeDepth := 99) [c42, ← hτ, g0, g1, w1, mms, mm, hlt, hlc]
    exact ⟨hA.keeps hk, hk⟩
theorem run_last (σ : AHeap) (s : AV) (l : List Arr) (v : VS) (now : Int) (hA : Arrs σ s l) (hG : Grown σ s l) (h0 : 0 < l.length) (hm : l.length ≤ 200) (f : Nat) (hf : 5 ≤ f) :
    OptP (evCall D9 f 48 [.agg (v.at' now), s] σ) (fun _ r τ => Arrs τ r (l.drop (l.length - 1)) ∧ Keeps σ τ) := by
  obtain ⟨f, rfl⟩ : ∃ k, f = k + 1 := ⟨f - 1, by omega⟩
  refine evCall_code (D9_prim 48) ((D9_code 48).trans code48) ?_
  obtain ⟨q, rfl, hq⟩ := hG
  obtain ⟨τ, hτ⟩ : ∃ τ, τ = σ.alloc ⟨v.at' now, .own⟩ := ⟨_, rfl⟩
  have hk : Keeps σ τ := by rw [hτ]; exact (Keeps.refl _).alloc
  have g1 : τ.get q = some ⟨acells l, .own⟩ := by rw [hk.2 _ (AHeap.get_lt hq), hq]
  have hlc := acells_length l
  obtain ⟨a, ha⟩ : ∃ a : Nat, l.length = a + 1 := ⟨l.length - 1, by omega⟩
  have w1 : wr .i64 ((l.length : Int) - 1) = (a : Int) := by rw [wr_near ⟨by omega, by omega⟩]; omega
  have hS := (Grown.sub (hA.keeps hk) (a := a) (k := l.length - a) (by omega))
  rw [List.take_of_length_le (by rw [List.length_drop]; exact Nat.le_refl _)] at hS
  have ea : l.length - 1 = a := by omega
  have hal : a ≤ l.length := by omega
  rw [ea]
  by_cases hz : a = 0
  · subst hz
    rw [Nat.sub_zero, Nat.zero_mul] at hS
    simp only [Int.natCast_zero] at w1
    unfold VS.at' at hτ ⊢
    simp (maxDischargeDepth := 99) [c48, ← hτ, g1, w1, mms, mm, hlc, -List.drop_zero]
    exact ⟨hS, hk⟩
  · have hapos : (0 : Int) < (a : Int) := by omega
    have hapos' : 0 < a := by omega
    unfold VS.at' at hτ ⊢
    simp (maxDischargeDepth := 99) [c48, ← hτ, g1, w1, mms, mm, hapos, hapos', hal, hlc]
    exact ⟨hS, hk⟩
theorem run_first (σ : AHeap) (s : AV) (l : List Arr) (v : VS) (now : Int) (hA : Arrs σ s l) (hG : Grown σ s l) (h0 : 0 < l.length) (hm : l.length ≤ 200) (f : Nat) (hf : 5 ≤ f) :
    OptP (evCall D9 f 49 [.agg (v.at' now), s] σ) (fun _ r τ => Arrs τ r (l.take 1) ∧ Keeps σ τ) := by
  obtain ⟨f, rfl⟩ : ∃ k, f = k + 1 := ⟨f - 1, by omega⟩
  refine evCall_code (D9_prim 49) ((D9_code 49).trans code49) ?_
  obtain ⟨q, rfl, hq⟩ := hG
  obtain ⟨τ, hτ⟩ : ∃ τ, τ = σ.alloc ⟨v.at' now, .own⟩ := ⟨_, rfl⟩
  have hk : Keeps σ τ := by rw [hτ]; exact (Keeps.refl _).alloc
  have g1 : τ.get q = some ⟨acells l, .own⟩ := by rw [hk.2 _ (AHeap.get_lt hq), hq]
  have hlc := acells_length l
  have hS := (Grown.sub (hA.keeps hk) (a := 0) (k := 1) (by omega))
  rw [List.drop_zero, Nat.zero_mul] at hS
  have hn1 : ¬ (l.length : Int) < 1 := by omega
  have hn2 : ¬ l = [] := by intro e; rw [e] at h0; exact absurd h0 (by decide)
  have hn3 : 3 ≤ l.length * 3 := by omega
  unfold VS.at' at hτ ⊢
  simp (maxDischargeDepth := 99) [c49, ← hτ, g1, mms, mm, hlc, hn1, hn2, hn3]
  exact ⟨hS, hk⟩
/-- The last whole batch of so many. -/
def lbL (l : List Arr) (N : Nat) : List Arr := (l.drop ((l.length / N - 1) * N)).take ((l.length / N) * N - (l.length / N - 1) * N)
theorem run_lengthBatch (σ : AHeap) (s : AV) (l : List Arr) (v : VS) (now : Int) (hA : Arrs σ s l) (hG : Grown σ s l) (h0 : 0 < l.length) (hm : l.length ≤ 200) (n1 : 1 ≤ v.n) (n2 : v.n ≤ 65536) (f : Nat) (hf : 5 ≤ f) :
    OptP (evCall D9 f 44 [.agg (v.at' now), s] σ) (fun _ r τ => Arrs τ r (lbL l v.n.toNat) ∧ Keeps σ τ) := by
  obtain ⟨f, rfl⟩ : ∃ k, f = k + 1 := ⟨f - 1, by omega⟩
  refine evCall_code (D9_prim 44) ((D9_code 44).trans code44) ?_
  obtain ⟨q, rfl, hq⟩ := hG
  obtain ⟨τ, hτ⟩ : ∃ τ, τ = σ.alloc ⟨v.at' now, .own⟩ := ⟨_, rfl⟩
  have hk : Keeps σ τ := by rw [hτ]; exact (Keeps.refl _).alloc
  have g0 : τ.get σ.size = some ⟨[.int .i64 v.k, .int .i64 v.n, v.s, .bool v.d, .int .i64 now], .own⟩ := by rw [hτ]; simp [VS.at']
  have g1 : τ.get q = some ⟨acells l, .own⟩ := by rw [hk.2 _ (AHeap.get_lt hq), hq]
  have hlc := acells_length l
  obtain ⟨N, hN⟩ : ∃ N : Nat, v.n = (N : Int) := ⟨v.n.toNat, by omega⟩
  rw [hN] at g0 n1 n2
  obtain ⟨b, hb⟩ : ∃ b, b = l.length / N := ⟨_, rfl⟩
  have hbN : b * N ≤ l.length := by rw [hb]; exact Nat.div_mul_le_self _ _
  have hb1 : b ≤ l.length := by rw [hb]; exact Nat.div_le_self _ _
  have e1 : ((l.length : Int)).tdiv (N : Int) = (b : Int) := by rw [hb, Int.tdiv_eq_ediv_of_nonneg (by omega)]; rfl
  have hcN : (b - 1) * N ≤ b * N := Nat.mul_le_mul_right N (Nat.sub_le _ _)
  have w0 : wr .i64 (((l.length : Int)).tdiv (N : Int)) = (b : Int) := by rw [e1]; exact wr_nat (by omega)
  have w0' : wr .i64 ((l.length : Int) / (N : Int)) = (b : Int) := by rw [← Int.tdiv_eq_ediv_of_nonneg (by omega)]; exact w0
  obtain ⟨x, hx⟩ : ∃ x, x = (b : Int) - 1 := ⟨_, rfl⟩
  have w1 : wr .i64 ((b : Int) - 1) = x := by rw [hx]; exact wr_near ⟨by omega, by omega⟩
  have w2 : wr .i64 (((b - 1 : Nat) : Int) * (N : Int)) = (((b - 1) * N : Nat) : Int) := by rw [← Int.natCast_mul]; exact wr_nat (by omega)
  have w3 : wr .i64 ((b : Int) * (N : Int)) = ((b * N : Nat) : Int) := by rw [← Int.natCast_mul]; exact wr_nat (by omega)
  have emm : (if (0 : Int) < x then x else 0) = ((b - 1 : Nat) : Int) := by split <;> omega
  have hS := (Grown.sub (hA.keeps hk) (a := (b - 1) * N) (k := b * N - (b - 1) * N) (by omega))
  have hnz : ¬ (N : Int) = 0 := by omega
  have hnz' : ¬ N = 0 := by omega
  unfold lbL
  rw [hN, Int.toNat_natCast, ← hb]
  have h3 : b * N * 3 ≤ l.length * 3 := Nat.mul_le_mul_right 3 hbN
  unfold VS.at' at hτ ⊢
  rw [hN] at hτ ⊢
  simp (maxDischargeDepth := 99) [c44, ← hτ, g0, g1, w0, w0', w1, w2, w3, mms, mm, emm, hlc, hnz, hnz', hcN, h3, -Int.natCast_mul]
  exact ⟨hS, hk⟩
end Go.Proofs.Ythjijjkoeoemgaa.Ab
