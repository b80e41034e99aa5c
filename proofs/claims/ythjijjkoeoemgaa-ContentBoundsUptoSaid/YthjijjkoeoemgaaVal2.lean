/- Values' order by a key, which orders; the document's order is the same. -/
import Derived.Test.YthjijjkoeoemgaaCtD
import Derived.Test.YthjijjkoeoemgaaLitVal2
namespace Go.Proofs.Ythjijjkoeoemgaa.Ab
open Go
set_option maxRecDepth 20000
set_option maxHeartbeats 4000000
set_option linter.unusedSimpArgs false
set_option linter.unusedVariables false

theorem cb_lt : ∀ (a b : List UInt8), Lib.compareBytes a b = -1 ∨ Lib.compareBytes a b = 0 ∨ Lib.compareBytes a b = 1
  | [], [] => by simp [Lib.compareBytes]
  | [], _ :: _ => by simp [Lib.compareBytes]
  | _ :: _, [] => by simp [Lib.compareBytes]
  | a :: l, b :: m => by
    unfold Lib.compareBytes
    split
    · simp
    · split
      · simp
      · exact cb_lt l m
theorem cb_anti : ∀ (a b : List UInt8), Lib.compareBytes a b < 0 ↔ 0 < Lib.compareBytes b a
  | [], [] => by simp [Lib.compareBytes]
  | [], _ :: _ => by simp [Lib.compareBytes]
  | _ :: _, [] => by simp [Lib.compareBytes]
  | a :: l, b :: m => by
    have ih := cb_anti l m
    unfold Lib.compareBytes
    by_cases h1 : a < b
    · have h2 : ¬ b < a := by rw [UInt8.lt_iff_toNat_lt] at *; omega
      simp [h1, h2]
    · by_cases h2 : b < a
      · simp [h1, h2]
      · simp [h1, h2, ih]
theorem cb_trans : ∀ (a b c : List UInt8), Lib.compareBytes a b ≤ 0 → Lib.compareBytes b c ≤ 0 → Lib.compareBytes a c ≤ 0
  | [], _, [], _, _ => by simp [Lib.compareBytes]
  | [], _, _ :: _, _, _ => by simp [Lib.compareBytes]
  | _ :: _, [], _, h, _ => by simp [Lib.compareBytes] at h
  | _ :: _, _ :: _, [], _, h => by simp [Lib.compareBytes] at h
  | a :: l, b :: m, c :: n, h, k => by
    have ih := cb_trans l m n
    unfold Lib.compareBytes at h k ⊢
    simp only [UInt8.lt_iff_toNat_lt] at h k ⊢
    by_cases h1 : a.toNat < b.toNat
    · by_cases k1 : b.toNat < c.toNat
      · rw [if_pos (by omega)]; decide
      · rw [if_neg k1] at k
        by_cases k2 : c.toNat < b.toNat
        · rw [if_pos k2] at k; exact absurd k (by decide)
        · rw [if_pos (by omega)]; decide
    · rw [if_neg h1] at h
      by_cases h2 : b.toNat < a.toNat
      · rw [if_pos h2] at h; exact absurd h (by decide)
      · rw [if_neg h2] at h
        by_cases k1 : b.toNat < c.toNat
        · rw [if_pos (by omega)]; decide
        · rw [if_neg k1] at k
          by_cases k2 : c.toNat < b.toNat
          · rw [if_pos k2] at k; exact absurd k (by decide)
          · rw [if_neg k2] at k
            rw [if_neg (by omega), if_neg (by omega)]
            exact ih h k
def kx (v : V) : Int := if rankZ v.k = 1 then v.n else if rankZ v.k = 2 then (if v.k = 2 then v.n * 10000 else v.n) else if rankZ v.k = 4 then v.k else 0
def ky (v : V) : Int := if rankZ v.k = 2 then v.k else if rankZ v.k = 4 then v.n else 0
def ks (v : V) : List UInt8 := if rankZ v.k = 3 ∨ rankZ v.k = 4 then v.s else []
def lexV (a b : V) : Int := orZ [cmpZ (rankZ a.k) (rankZ b.k), cmpZ (kx a) (kx b), cmpZ (ky a) (ky b), Lib.compareBytes (ks a) (ks b)]
theorem cmpZ_neg (a b : Int) : cmpZ a b < 0 ↔ a < b := by unfold cmpZ; split; simp [*]; split <;> simp [*]
theorem cmpZ_zero (a b : Int) : cmpZ a b = 0 ↔ a = b := by
  unfold cmpZ
  split
  · simp; omega
  · split
    · simp; omega
    · simp; omega
theorem cmpZ_pos (a b : Int) : 0 < cmpZ a b ↔ b < a := by
  unfold cmpZ
  split
  · simp; omega
  · split <;> simp [*]
theorem cmpZ_self (a : Int) : cmpZ a a = 0 := (cmpZ_zero a a).2 rfl
theorem cb_self (a : List UInt8) : Lib.compareBytes a a = 0 := by
  have := cb_anti a a
  omega
theorem or4_neg (a b c d : Int) : orZ [a, b, c, d] < 0 ↔ (a < 0 ∨ (a = 0 ∧ (b < 0 ∨ (b = 0 ∧ (c < 0 ∨ (c = 0 ∧ d < 0)))))) := by
  simp only [orZ]
  split
  · split
    · split
      · split <;> omega
      · omega
    · omega
  · omega
theorem or4_pos (a b c d : Int) : 0 < orZ [a, b, c, d] ↔ (0 < a ∨ (a = 0 ∧ (0 < b ∨ (b = 0 ∧ (0 < c ∨ (c = 0 ∧ 0 < d)))))) := by
  simp only [orZ]
  split
  · split
    · split
      · split <;> omega
      · omega
    · omega
  · omega
theorem or4_le (a b c d : Int) : orZ [a, b, c, d] ≤ 0 ↔ (a < 0 ∨ (a = 0 ∧ (b < 0 ∨ (b = 0 ∧ (c < 0 ∨ (c = 0 ∧ d ≤ 0)))))) := by
  simp only [orZ]
  split
  · split
    · split
      · split <;> omega
      · omega
    · omega
  · omega
theorem lexV_anti (a b : V) : lexV a b < 0 ↔ 0 < lexV b a := by
  unfold lexV
  rw [or4_neg, or4_pos]
  have h := cb_anti (ks a) (ks b)
  simp only [cmpZ_neg, cmpZ_pos, cmpZ_zero, h]
  omega
theorem lexV_trans (a b c : V) (h : lexV a b ≤ 0) (k : lexV b c ≤ 0) : lexV a c ≤ 0 := by
  unfold lexV at *
  rw [or4_le] at *
  have ht := cb_trans (ks a) (ks b) (ks c)
  simp only [cmpZ_neg, cmpZ_zero] at *
  generalize rankZ a.k = r1 at *
  generalize rankZ b.k = r2 at *
  generalize rankZ c.k = r3 at *
  generalize kx a = x1 at *
  generalize kx b = x2 at *
  generalize kx c = x3 at *
  generalize ky a = z1 at *
  generalize ky b = z2 at *
  generalize ky c = z3 at *
  omega
theorem mixZ_eq {a b : Int} (hb : -9223372036854775808 ≤ b ∧ b ≤ 9223372036854775807) : mixZ a b = cmpZ (a * 10000) b := by
  unfold mixZ
  have e1 := Int.tmod_add_mul_tdiv b 10000
  have e2 : -10000 < b.tmod 10000 := Int.lt_tmod_of_pos b (by decide)
  have e3 : b.tmod 10000 < 10000 := Int.tmod_lt_of_pos b (by decide)
  have e4 : wr .i64 (b.tdiv 10000) = b.tdiv 10000 := wr64 (by omega) (by omega)
  rw [e4]
  generalize b.tdiv 10000 = q at *
  generalize b.tmod 10000 = r at *
  simp only [orZ]
  by_cases h1 : cmpZ a q = 0
  · rw [if_pos h1]
    rw [cmpZ_zero] at h1
    have : (if cmpZ 0 r = 0 then (0 : Int) else cmpZ 0 r) = cmpZ 0 r := by split <;> simp [*]
    rw [this]
    unfold cmpZ
    split <;> split <;> first | rfl | omega | (split <;> first | rfl | omega)
  · rw [if_neg h1]
    have hne : a ≠ q := fun e => h1 ((cmpZ_zero a q).2 e)
    unfold cmpZ
    split <;> split <;> first | rfl | omega | (split <;> first | rfl | omega)
theorem rank_cases (k : Int) : (k = 0 ∨ k = 1 ∨ k = 2 ∨ k = 3 ∨ k = 4) ∨ (k ≠ 0 ∧ k ≠ 1 ∧ k ≠ 2 ∧ k ≠ 3 ∧ k ≠ 4 ∧ rankZ k = 4) := by
  by_cases h : k = 0 ∨ k = 1 ∨ k = 2 ∨ k = 3 ∨ k = 4
  · exact .inl h
  · right
    refine ⟨by omega, by omega, by omega, by omega, by omega, ?_⟩
    unfold rankZ
    rw [if_neg (by omega), if_neg (by omega), if_neg (by omega), if_neg (by omega), if_neg (by omega)]
theorem rank0 : rankZ 0 = 0 := by decide
theorem rank1 : rankZ 1 = 1 := by decide
theorem rank2 : rankZ 2 = 2 := by decide
theorem rank3 : rankZ 3 = 2 := by decide
theorem rank4 : rankZ 4 = 3 := by decide
theorem orZ_cons0 (l : List Int) : orZ (0 :: l) = orZ l := by simp [orZ]
theorem orZ_one (a : Int) : orZ [a] = a := by simp only [orZ]; split <;> simp [*]
theorem cmpZ_mul (a b : Int) : cmpZ (a * 10000) (b * 10000) = cmpZ a b := by
  unfold cmpZ
  split <;> split <;> first | rfl | omega | (split <;> first | rfl | omega)
theorem wr_cmp (a b : Int) : wr .i64 (0 - cmpZ a b) = cmpZ b a := by
  unfold cmpZ
  by_cases h1 : a < b
  · rw [if_pos h1, if_neg (by omega), if_pos h1]; decide
  · by_cases h2 : b < a
    · rw [if_neg h1, if_pos h2, if_pos h2]; decide
    · rw [if_neg h1, if_neg h2, if_neg h2, if_neg h1]; decide
theorem orderV_lex (a b : V) (ha : -9223372036854775808 ≤ a.n ∧ a.n ≤ 9223372036854775807) (hb : -9223372036854775808 ≤ b.n ∧ b.n ≤ 9223372036854775807) : orderV a b = lexV a b := by
  obtain ⟨ak, an, sa⟩ := a
  obtain ⟨bk, bn, sb⟩ := b
  simp only at ha hb
  have m1 := mixZ_eq (a := an) hb
  have m2 := mixZ_eq (a := bn) ha
  have m3 := wr_cmp (bn * 10000) an
  have d1 : cmpZ 0 1 = -1 := by decide
  rcases rank_cases ak with (rfl | rfl | rfl | rfl | rfl) | ⟨a0, a1, a2, a3, a4, ar⟩ <;> rcases rank_cases bk with (rfl | rfl | rfl | rfl | rfl) | ⟨b0, b1, b2, b3, b4, br⟩
  all_goals simp only [orderV, lexV, kx, ky, ks, compareV, numZ, rank0, rank1, rank2, rank3, rank4, *]
  all_goals simp [orZ_cons0, orZ_one, cmpZ_self, cb_self, cmpZ_mul]
  all_goals first | done | (simp [orZ, cmpZ]; done) | trace_state
end Go.Proofs.Ythjijjkoeoemgaa.Ab
