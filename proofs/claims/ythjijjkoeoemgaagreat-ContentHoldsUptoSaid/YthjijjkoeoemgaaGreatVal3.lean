/- The document's order of values: what it computes. -/
import Derived.Test.YthjijjkoeoemgaaGreatVal2
namespace Go.Proofs.YthjijjkoeoemgaaGreat.Ab
open Go
set_option maxRecDepth 20000
set_option maxHeartbeats 4000000
set_option linter.unusedSimpArgs false
set_option linter.unusedVariables false

theorem opt_eq {o : Option (AV × AHeap)} {x : AV} {y : AHeap} (h : OptP o (fun _ v τ => v = x ∧ τ = y)) : o = some (x, y) := by
  obtain ⟨v, τ, e, rfl, rfl⟩ := h
  exact e
theorem r_ints (a b : Int) (σ : AHeap) (f : Nat) (hf : 5 ≤ f) : evCall D9 f 71 [.one (.int .i64 a), .one (.int .i64 b)] σ = some (.one (.int .i64 (cmpZ a b)), σ) := by
  obtain ⟨f, rfl⟩ : ∃ k, f = k + 1 := ⟨f - 1, by omega⟩
  refine opt_eq (evCall_code (D9_prim 71) ((D9_code 71).trans coderv71) ?_)
  unfold cmpZ
  by_cases h1 : a < b
  · simp [crv71, h1]
  · by_cases h2 : b < a <;> simp [crv71, h1, h2]
theorem r_rank (a : Int) (σ : AHeap) (f : Nat) (hf : 5 ≤ f) : evCall D9 f 72 [.one (.int .i64 a)] σ = some (.one (.int .i64 (rankZ a)), σ) := by
  obtain ⟨f, rfl⟩ : ∃ k, f = k + 1 := ⟨f - 1, by omega⟩
  refine opt_eq (evCall_code (D9_prim 72) ((D9_code 72).trans coderv72) ?_)
  rcases rank_cases a with (rfl | rfl | rfl | rfl | rfl) | ⟨a0, a1, a2, a3, a4, ar⟩
  · simp [crv72, rank0]
  · simp [crv72, rank1]
  · simp [crv72, rank2]
  · simp [crv72, rank3]
  · simp [crv72, rank4]
  · simp [crv72, a0, a1, a2, a3, a4, ar]
theorem cb_bools : ∀ (a b : List UInt8), Lib.compareBytes a b = if ltL a b = true then -1 else if (ltL a b || beqL a b) = true then 0 else 1
  | [], [] => by simp [Lib.compareBytes, ltL, beqL]
  | [], _ :: _ => by simp [Lib.compareBytes, ltL]
  | _ :: _, [] => by simp [Lib.compareBytes, ltL, beqL]
  | a :: l, b :: m => by
    have ih := cb_bools l m
    unfold Lib.compareBytes ltL beqL
    simp only [UInt8.lt_iff_toNat_lt, blt_dec, beq_dec]
    by_cases h1 : a.toNat < b.toNat
    · simp [h1]
    · by_cases h2 : a.toNat = b.toNat
      · have h3 : ¬ b.toNat < a.toNat := by omega
        simp only [h1, h2, if_false, decide_true, decide_false]
        simpa using ih
      · have h3 : b.toNat < a.toNat := by omega
        simp [h1, h2, h3]
theorem r_texts (a b : List UInt8) (σ : AHeap) (f : Nat) (hf : 5 ≤ f) : evCall D9 f 75 [.one (.str a), .one (.str b)] σ = some (.one (.int .i64 (Lib.compareBytes a b)), σ) := by
  obtain ⟨f, rfl⟩ : ∃ k, f = k + 1 := ⟨f - 1, by omega⟩
  refine opt_eq (evCall_code (D9_prim 75) ((D9_code 75).trans coderv75) ?_)
  rw [cb_bools]
  cases h1 : ltL a b
  · cases h2 : beqL a b
    · simp [crv75, sbin, h1, h2]
    · simp [crv75, sbin, h1, h2]
  · simp [crv75, sbin, h1]
def numB (k : Int) : Bool := decide (k = 2) || decide (k = 3)
theorem r_number (k n : Int) (s : List UInt8) (σ : AHeap) (f : Nat) (hf : 5 ≤ f) : evCall D9 f 74 [.agg [.int .i64 k, .int .i64 n, .str s]] σ = some (.one (.bool (numB k)), σ.alloc ⟨[.int .i64 k, .int .i64 n, .str s], .own⟩) := by
  obtain ⟨f, rfl⟩ : ∃ k, f = k + 1 := ⟨f - 1, by omega⟩
  refine opt_eq (evCall_code (D9_prim 74) ((D9_code 74).trans coderv74) ?_)
  unfold numB
  by_cases h : k = 2
  · simp (maxDischargeDepth := 99) [crv74, h]
  · simp (maxDischargeDepth := 99) [crv74, h]
/-- A number as a whole one and ten-thousandths. -/
def spW (k n : Int) : Int := if k = 2 then n else if n.tmod 10000 < 0 then n.tdiv 10000 - 1 else n.tdiv 10000
def spF (k n : Int) : Int := if k = 2 then 0 else if n.tmod 10000 < 0 then n.tmod 10000 + 10000 else n.tmod 10000
theorem r_split (k n : Int) (s : List UInt8) (σ : AHeap) (hn : -9223372036854775808 ≤ n ∧ n ≤ 9223372036854775807) (f : Nat) (hf : 5 ≤ f) : evCall D9 f 100 [.agg [.int .i64 k, .int .i64 n, .str s]] σ = some (.tup [.one (.int .i64 (spW k n)), .one (.int .i64 (spF k n))], σ.alloc ⟨[.int .i64 k, .int .i64 n, .str s], .own⟩) := by
  obtain ⟨f, rfl⟩ : ∃ k, f = k + 1 := ⟨f - 1, by omega⟩
  refine opt_eq (evCall_code (D9_prim 100) ((D9_code 100).trans coderv100) ?_)
  unfold spW spF
  have e1 := Int.tmod_add_mul_tdiv n 10000
  have e2 : -10000 < n.tmod 10000 := Int.lt_tmod_of_pos n (by decide)
  have e3 : n.tmod 10000 < 10000 := Int.tmod_lt_of_pos n (by decide)
  have e4 : wr .i64 (n.tdiv 10000) = n.tdiv 10000 := wr64 (by omega) (by omega)
  by_cases h : k = 2
  · simp (maxDischargeDepth := 99) [crv100, h]
  · by_cases h2 : n.tmod 10000 < 0
    · have e5 : wr .i64 (n.tdiv 10000 - 1) = n.tdiv 10000 - 1 := wr64 (by omega) (by omega)
      have e6 : wr .i64 (n.tmod 10000 + 10000) = n.tmod 10000 + 10000 := wr64 (by omega) (by omega)
      simp (maxDischargeDepth := 99) [crv100, h, h2, e4, e5, e6]
    · simp (maxDischargeDepth := 99) [crv100, h, h2, e4]
theorem sp_cmp (k1 n1 k2 n2 : Int) : orZ [cmpZ (spW k1 n1) (spW k2 n2), cmpZ (spF k1 n1) (spF k2 n2)] = cmpZ (if k1 = 2 then n1 * 10000 else n1) (if k2 = 2 then n2 * 10000 else n2) := by
  have e1 := Int.tmod_add_mul_tdiv n1 10000
  have e2 : -10000 < n1.tmod 10000 := Int.lt_tmod_of_pos n1 (by decide)
  have e3 : n1.tmod 10000 < 10000 := Int.tmod_lt_of_pos n1 (by decide)
  have d1 := Int.tmod_add_mul_tdiv n2 10000
  have d2 : -10000 < n2.tmod 10000 := Int.lt_tmod_of_pos n2 (by decide)
  have d3 : n2.tmod 10000 < 10000 := Int.tmod_lt_of_pos n2 (by decide)
  have h1 : 0 ≤ spF k1 n1 ∧ spF k1 n1 < 10000 ∧ spW k1 n1 * 10000 + spF k1 n1 = (if k1 = 2 then n1 * 10000 else n1) := by
    unfold spW spF
    split
    · omega
    · split <;> omega
  have h2 : 0 ≤ spF k2 n2 ∧ spF k2 n2 < 10000 ∧ spW k2 n2 * 10000 + spF k2 n2 = (if k2 = 2 then n2 * 10000 else n2) := by
    unfold spW spF
    split
    · omega
    · split <;> omega
  rw [← h1.2.2, ← h2.2.2]
  generalize spW k1 n1 = w at *
  generalize spF k1 n1 = p at *
  generalize spW k2 n2 = x at *
  generalize spF k2 n2 = q at *
  simp only [orZ]
  by_cases hc : cmpZ w x = 0
  · rw [if_pos hc]
    rw [cmpZ_zero] at hc
    have : (if cmpZ p q = 0 then (0 : Int) else cmpZ p q) = cmpZ p q := by split <;> simp [*]
    rw [this]
    unfold cmpZ
    split <;> split <;> first | rfl | omega | (split <;> first | rfl | omega)
  · rw [if_neg hc]
    have hne : w ≠ x := fun e => hc ((cmpZ_zero w x).2 e)
    unfold cmpZ
    split <;> split <;> first | rfl | omega | (split <;> first | rfl | omega)
/-- What numbers lays. -/
def nmH (σ : AHeap) (k1 n1 : Int) (s1 : List UInt8) (k2 n2 : Int) (s2 : List UInt8) : AHeap := (((σ.alloc ⟨[.int .i64 k1, .int .i64 n1, .str s1], .own⟩).alloc ⟨[.int .i64 k2, .int .i64 n2, .str s2], .own⟩).alloc ⟨[.int .i64 k1, .int .i64 n1, .str s1], .own⟩).alloc ⟨[.int .i64 k2, .int .i64 n2, .str s2], .own⟩
theorem r_numbers (k1 n1 k2 n2 : Int) (s1 s2 : List UInt8) (σ : AHeap) (h1 : -9223372036854775808 ≤ n1 ∧ n1 ≤ 9223372036854775807) (h2 : -9223372036854775808 ≤ n2 ∧ n2 ≤ 9223372036854775807) (f : Nat) (hf : 9 ≤ f) :
    evCall D9 f 85 [.agg [.int .i64 k1, .int .i64 n1, .str s1], .agg [.int .i64 k2, .int .i64 n2, .str s2]] σ = some (.one (.int .i64 (cmpZ (if k1 = 2 then n1 * 10000 else n1) (if k2 = 2 then n2 * 10000 else n2))), nmH σ k1 n1 s1 k2 n2 s2) := by
  obtain ⟨f, rfl⟩ : ∃ k, f = k + 1 := ⟨f - 1, by omega⟩
  refine opt_eq (evCall_code (D9_prim 85) ((D9_code 85).trans coderv85) ?_)
  have hf5 : 5 ≤ f := by omega
  have a1 := fun σ => r_split k1 n1 s1 σ h1 f hf5
  have a2 := fun σ => r_split k2 n2 s2 σ h2 f hf5
  have a3 := fun σ => r_ints (spW k1 n1) (spW k2 n2) σ f hf5
  have a4 := fun σ => r_ints (spF k1 n1) (spF k2 n2) σ f hf5
  rw [← sp_cmp]
  simp only [orZ]
  by_cases hc : cmpZ (spW k1 n1) (spW k2 n2) = 0
  · have : (if cmpZ (spF k1 n1) (spF k2 n2) = 0 then (0 : Int) else cmpZ (spF k1 n1) (spF k2 n2)) = cmpZ (spF k1 n1) (spF k2 n2) := by split <;> simp [*]
    rw [if_pos hc, this]
    simp (maxDischargeDepth := 99) [crv85, ar7, ar8, ar9, ar10, ar11, ar12, a1, a2, a3, a4, hc]
    rfl
  · rw [if_neg hc]
    simp (maxDischargeDepth := 99) [crv85, ar7, ar8, ar9, ar10, ar11, ar12, a1, a2, a3, a4, hc]
    rfl
theorem nmH_keeps (σ : AHeap) (k1 n1 : Int) (s1 : List UInt8) (k2 n2 : Int) (s2 : List UInt8) : Keeps σ (nmH σ k1 n1 s1 k2 n2 s2) := ((((Keeps.refl σ).alloc).alloc).alloc).alloc
/-- Compare of the document. -/
def cmpR (a b : V) : Int := if numB a.k = true ∧ numB b.k = true then cmpZ (kx a) (kx b) else if a.k = 4 ∧ b.k = 4 then Lib.compareBytes a.s b.s else if a.k = 1 ∧ b.k = 1 then cmpZ a.n b.n else 0
def cmpK (a b : V) : Bool := (numB a.k && numB b.k) || (decide (a.k = 4) && decide (b.k = 4)) || (decide (a.k = 1) && decide (b.k = 1))
theorem kx_num {v : V} (h : numB v.k = true) : kx v = if v.k = 2 then v.n * 10000 else v.n := by
  unfold numB at h
  simp only [Bool.or_eq_true, decide_eq_true_eq] at h
  unfold kx
  rcases h with h | h
  · rw [h, rank2]; rfl
  · rw [h, rank3]; rfl
theorem r_Compare (a b : V) (σ : AHeap) (h1 : -9223372036854775808 ≤ a.n ∧ a.n ≤ 9223372036854775807) (h2 : -9223372036854775808 ≤ b.n ∧ b.n ≤ 9223372036854775807) (f : Nat) (hf : 20 ≤ f) :
    OptP (evCall D9 f 73 [.agg [.int .i64 a.k, .int .i64 a.n, .str a.s], .agg [.int .i64 b.k, .int .i64 b.n, .str b.s]] σ) (fun _ v τ => v = .tup [.one (.int .i64 (cmpR a b)), .one (.bool (cmpK a b))] ∧ Keeps σ τ) := by
  obtain ⟨ak, an, sa⟩ := a
  obtain ⟨bk, bn, sb⟩ := b
  simp only at h1 h2 ⊢
  obtain ⟨f, rfl⟩ : ∃ k, f = k + 1 := ⟨f - 1, by omega⟩
  refine evCall_code (D9_prim 73) ((D9_code 73).trans coderv73) ?_
  have hf5 : 5 ≤ f := by omega
  have hf9 : 9 ≤ f := by omega
  have a1 := fun σ => r_number ak an sa σ f hf5
  have a2 := fun σ => r_number bk bn sb σ f hf5
  have a3 := fun σ => r_numbers ak an bk bn sa sb σ h1 h2 f hf9
  have a4 := fun σ => r_texts sa sb σ f hf5
  have a5 := fun σ => r_ints an bn σ f hf5
  have nk : ∀ σ, nmH σ ak an sa bk bn sb = nmH σ ak an sa bk bn sb := fun _ => rfl
  unfold cmpR cmpK
  by_cases c1 : numB ak = true
  · by_cases c2 : numB bk = true
    · rw [if_pos ⟨c1, c2⟩, kx_num c1, kx_num c2]
      have hk : ∀ τ, Keeps σ τ → Keeps σ (nmH τ ak an sa bk bn sb) := fun τ h => h.trans (nmH_keeps _ _ _ _ _ _ _)
      simp (maxDischargeDepth := 99) [crv73, ar7, ar8, ar9, ar10, ar11, ar12, a1, a2, a3, c1, c2]
      exact hk _ (((((Keeps.refl σ).alloc).alloc).alloc).alloc)
    · have c2' : numB bk = false := by simpa using c2
      have g4 : ¬ ak = 4 := by intro e; rw [e] at c1; exact absurd c1 (by decide)
      have g1 : ¬ ak = 1 := by intro e; rw [e] at c1; exact absurd c1 (by decide)
      simp (maxDischargeDepth := 99) [crv73, ar7, ar8, ar9, ar10, ar11, ar12, a1, a2, a3, c1, c2, c2', g4, g1]
  · have c1' : numB ak = false := by simpa using c1
    by_cases g4 : ak = 4
    · subst g4
      by_cases k4 : bk = 4
      · subst k4
        simp (maxDischargeDepth := 99) [crv73, ar7, ar8, ar9, ar10, ar11, ar12, a1, a2, a4, c1, c1']
      · simp (maxDischargeDepth := 99) [crv73, ar7, ar8, ar9, ar10, ar11, ar12, a1, a2, a4, c1, c1', k4]
    · by_cases g1 : ak = 1
      · subst g1
        by_cases k1 : bk = 1
        · subst k1
          simp (maxDischargeDepth := 99) [crv73, ar7, ar8, ar9, ar10, ar11, ar12, a1, a2, a5, c1, c1']
        · simp (maxDischargeDepth := 99) [crv73, ar7, ar8, ar9, ar10, ar11, ar12, a1, a2, a5, c1, c1', k1]
      · simp (maxDischargeDepth := 99) [crv73, ar7, ar8, ar9, ar10, ar11, ar12, a1, a2, c1, c1', g4, g1]
/-- Order of the document, by its steps. -/
def ordR (a b : V) : Int := if cmpZ (rankZ a.k) (rankZ b.k) ≠ 0 then cmpZ (rankZ a.k) (rankZ b.k) else if a.k = 0 then 0 else
  if cmpK a b = true then (if cmpR a b = 0 ∧ numB a.k = true then cmpZ a.k b.k else cmpR a b) else if cmpZ a.k b.k ≠ 0 then cmpZ a.k b.k else if cmpZ a.n b.n ≠ 0 then cmpZ a.n b.n else Lib.compareBytes a.s b.s
theorem ordR_lex (a b : V) : ordR a b = lexV a b := by
  obtain ⟨ak, an, sa⟩ := a
  obtain ⟨bk, bn, sb⟩ := b
  have n0 : numB 0 = false := by decide
  have n1 : numB 1 = false := by decide
  have n2 : numB 2 = true := by decide
  have n3 : numB 3 = true := by decide
  have n4 : numB 4 = false := by decide
  rcases rank_cases ak with (rfl | rfl | rfl | rfl | rfl) | ⟨a0, a1, a2, a3, a4, ar⟩ <;> rcases rank_cases bk with (rfl | rfl | rfl | rfl | rfl) | ⟨b0, b1, b2, b3, b4, br⟩
  all_goals simp only [ordR, lexV, kx, ky, ks, cmpR, cmpK, rank0, rank1, rank2, rank3, rank4, *]
  all_goals simp [orZ_cons0, orZ_one, cmpZ_self, cb_self, cmpZ_mul, n0, n1, n2, n3, n4]
  all_goals first | done | (simp [orZ, cmpZ]; done) | (simp only [orZ]; split <;> simp [*]; done) | skip
  have nn : numB ak = false := by simp [numB, a2, a3]
  simp [nn, *, orZ, cmpZ_self]
  split
  · split
    · split <;> simp [*]
    · rfl
  · rfl
theorem r_Order (a b : V) (σ : AHeap) (h1 : -9223372036854775808 ≤ a.n ∧ a.n ≤ 9223372036854775807) (h2 : -9223372036854775808 ≤ b.n ∧ b.n ≤ 9223372036854775807) (f : Nat) (hf : 30 ≤ f) :
    OptP (evCall D9 f 55 [.agg [.int .i64 a.k, .int .i64 a.n, .str a.s], .agg [.int .i64 b.k, .int .i64 b.n, .str b.s]] σ) (fun _ v τ => v = .one (.int .i64 (lexV a b)) ∧ Keeps σ τ) := by
  obtain ⟨f, rfl⟩ : ∃ k, f = k + 1 := ⟨f - 1, by omega⟩
  refine evCall_code (D9_prim 55) ((D9_code 55).trans coderv55) ?_
  have hf5 : 5 ≤ f := by omega
  have q1 := fun σ => r_rank a.k σ f hf5
  have q2 := fun σ => r_rank b.k σ f hf5
  have q3 := fun σ => r_ints (rankZ a.k) (rankZ b.k) σ f hf5
  have q4 := fun σ => r_ints a.k b.k σ f hf5
  have q5 := fun σ => r_ints a.n b.n σ f hf5
  have q6 := fun σ => r_texts a.s b.s σ f hf5
  have q7 := fun σ => r_number a.k a.n a.s σ f hf5
  rw [← ordR_lex]
  unfold ordR
  obtain ⟨τ, hτ⟩ : ∃ τ, τ = (σ.alloc ⟨[.int .i64 a.k, .int .i64 a.n, .str a.s], .own⟩).alloc ⟨[.int .i64 b.k, .int .i64 b.n, .str b.s], .own⟩ := ⟨_, rfl⟩
  have hk : Keeps σ τ := by rw [hτ]; exact ((Keeps.refl σ).alloc).alloc
  have g1 : τ.get σ.size = some ⟨[.int .i64 a.k, .int .i64 a.n, .str a.s], .own⟩ := by rw [hτ]; simp
  have g2 : τ.get (σ.size + 1) = some ⟨[.int .i64 b.k, .int .i64 b.n, .str b.s], .own⟩ := by rw [hτ]; simp
  have hC := r_Compare a b τ h1 h2 f (by omega)
  simp (maxDischargeDepth := 99) [crv55]
  rw [← hτ]
  refine ends_draw ?_
  by_cases c1 : cmpZ (rankZ a.k) (rankZ b.k) = 0
  · by_cases c2 : a.k = 0
    · rw [c2] at c1 g1 q1 q3
      simp (maxDischargeDepth := 99) [g1, g2, q1, q2, q3, c1, c2, hk]
    · simp (maxDischargeDepth := 99) [g1, g2, q1, q2, q3, c1, c2]
      refine hC.mono ?_
      rintro v τ2 ⟨rfl, k2⟩
      have g3 : τ2.get σ.size = some ⟨[.int .i64 a.k, .int .i64 a.n, .str a.s], .own⟩ := by rw [k2.2 _ (AHeap.get_lt g1), g1]
      have g4 : τ2.get (σ.size + 1) = some ⟨[.int .i64 b.k, .int .i64 b.n, .str b.s], .own⟩ := by rw [k2.2 _ (AHeap.get_lt g2), g2]
      have hk2 := hk.trans k2
      have hz := AHeap.get_lt g3
      have hz2 := AHeap.get_lt g4
      have n1 : ¬ σ.size = τ2.size := by omega
      have n2 : ¬ σ.size + 1 = τ2.size := by omega
      by_cases c3 : cmpK a b = true
      · by_cases c4 : cmpR a b = 0
        · by_cases c5 : numB a.k = true
          · simp (maxDischargeDepth := 99) [c3, c4, c5, g3, g4, q4, q7, n1, n2, hk2]
          · have c5' : numB a.k = false := by simpa using c5
            simp (maxDischargeDepth := 99) [c3, c4, c5', g3, g4, q4, q7, n1, n2, hk2]
        · simp (maxDischargeDepth := 99) [c3, c4, g3, g4, hk2]
      · have c3' : cmpK a b = false := by simpa using c3
        by_cases c6 : cmpZ a.k b.k = 0
        · by_cases c7 : cmpZ a.n b.n = 0
          · simp (maxDischargeDepth := 99) [c3', g3, g4, q4, q5, q6, c6, c7, hk2]
          · simp (maxDischargeDepth := 99) [c3', g3, g4, q4, q5, q6, c6, c7, hk2]
        · simp (maxDischargeDepth := 99) [c3', g3, g4, q4, c6, hk2]
  · simp (maxDischargeDepth := 99) [g1, g2, q1, q2, q3, c1, hk]
end Go.Proofs.YthjijjkoeoemgaaGreat.Ab
