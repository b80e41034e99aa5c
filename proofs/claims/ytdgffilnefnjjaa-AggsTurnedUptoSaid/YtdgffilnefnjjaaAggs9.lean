/- A sum's mean, towards zero. -/
import Derived.Test.YtdgffilnefnjjaaAggs8
namespace Go.Proofs.Ytdgffilnefnjjaa.Ab
open Go
set_option maxRecDepth 20000
set_option maxHeartbeats 4000000
set_option linter.unusedSimpArgs false

theorem C20_75 (n : Nat) (args : List AV) (σ : AHeap) : evCall C20 (n + 1) 75 args σ = p75 args σ := evCall_prim (by kernel_rfl) _ _ _
theorem C20_76 (n : Nat) (args : List AV) (σ : AHeap) : evCall C20 (n + 1) 76 args σ = p76 args σ := evCall_prim (by kernel_rfl) _ _ _

theorem xor_all (x : Nat) (h : x < 18446744073709551616) : ibits .xor .u64 (IntKind.u64.max) (x : Int) = some (.int .u64 ((18446744073709551615 - x : Nat) : Int)) := by
  have e1 : (IntKind.u64.max % 18446744073709551616).toNat = 2 ^ 64 - 1 := by decide
  have e2 : ((x : Int) % 18446744073709551616).toNat = x := by omega
  have e3 : Nat.xor (2 ^ 64 - 1) x = 18446744073709551615 - x := by
    show (2 ^ 64 - 1) ^^^ x = 2 ^ 64 - 1 - x
    apply Nat.eq_of_testBit_eq
    intro i
    have := Nat.testBit_two_pow_sub_succ (n := 64) (x := x) h i
    rw [show 2 ^ 64 - 1 - x = 2 ^ 64 - (x + 1) by omega, this, Nat.testBit_xor, Nat.testBit_two_pow_sub_one]
    by_cases hi : i < 64
    · simp [hi]
    · have : x.testBit i = false := Nat.testBit_lt_two_pow (Nat.lt_of_lt_of_le (show x < 2 ^ 64 from h) (Nat.pow_le_pow_right (by decide) (by omega : 64 ≤ i)))
      simp [hi, this]
  simp only [ibits, bits2, e1, e2, e3]
  rw [wru64 (by omega) (by omega)]

/-- The quotient's size. -/
def meanQ (T : Int) (scaled : Bool) (n : Nat) : Nat := (if scaled then T.natAbs * 10000 % 2 ^ 128 else T.natAbs) / n
/-- The mean, and whether it is an int. -/
def meanV (T : Int) (scaled : Bool) (n : Nat) : Int × Bool :=
  let q := meanQ T scaled n
  if T < 0 then (if q ≤ 9223372036854775808 then (-(q : Int), true) else (0, false))
  else if q < 9223372036854775808 then ((q : Int), true) else (0, false)

theorem p76_at (x n : Nat) (σ : AHeap) (hx : x < 2 ^ 128) (h0 : 0 < n) (hn : n < 9223372036854775808) :
    p76 [.one (.int .u64 ((x / 18446744073709551616 : Nat) : Int)), .one (.int .u64 ((x % 18446744073709551616 : Nat) : Int)), .one (.int .u64 (n : Int))] σ =
      some (.tup [.one (.int .u64 ((x / n / 18446744073709551616 : Nat) : Int)), .one (.int .u64 ((x / n % 18446744073709551616 : Nat) : Int))], σ) := by
  have c : 0 ≤ ((x / 18446744073709551616 : Nat) : Int) ∧ ((x / 18446744073709551616 : Nat) : Int) < 18446744073709551616 ∧ 0 ≤ ((x % 18446744073709551616 : Nat) : Int) ∧
      ((x % 18446744073709551616 : Nat) : Int) < 18446744073709551616 ∧ 0 < (n : Int) ∧ (n : Int) < 9223372036854775808 := by omega
  have e : (((x / 18446744073709551616 : Nat) : Int) * 18446744073709551616 + ((x % 18446744073709551616 : Nat) : Int)).toNat = x := by omega
  have e2 : (n : Int).toNat = n := rfl
  simp only [p76]
  rw [if_pos c, e, e2]

theorem p75_at (x : Nat) (σ : AHeap) (hx : x < 2 ^ 128) :
    p75 [.one (.int .u64 ((x / 18446744073709551616 : Nat) : Int)), .one (.int .u64 ((x % 18446744073709551616 : Nat) : Int))] σ =
      some (.tup [.one (.int .u64 ((x * 10000 % 2 ^ 128 / 18446744073709551616 : Nat) : Int)), .one (.int .u64 ((x * 10000 % 2 ^ 128 % 18446744073709551616 : Nat) : Int))], σ) := by
  have c : 0 ≤ ((x / 18446744073709551616 : Nat) : Int) ∧ ((x / 18446744073709551616 : Nat) : Int) < 18446744073709551616 ∧ 0 ≤ ((x % 18446744073709551616 : Nat) : Int) ∧
      ((x % 18446744073709551616 : Nat) : Int) < 18446744073709551616 := by omega
  have e1 : ((x / 18446744073709551616 : Nat) : Int).toNat = x / 18446744073709551616 := rfl
  have e2 : ((x % 18446744073709551616 : Nat) : Int).toNat = x % 18446744073709551616 := rfl
  simp only [p75]
  rw [if_pos c, e1, e2]
  have hx' : x * 10000 = x % 18446744073709551616 * 10000 + 18446744073709551616 * (x / 18446744073709551616 * 10000) := by omega
  have hw : (2 : Nat) ^ 128 = 18446744073709551616 * 18446744073709551616 := by decide
  have k1 : (x / 18446744073709551616 * 10000 + x % 18446744073709551616 * 10000 / 18446744073709551616) % 18446744073709551616 = x * 10000 % 2 ^ 128 / 18446744073709551616 := by
    rw [hw, Nat.mod_mul_right_div_self, hx', Nat.add_mul_div_left _ _ (by decide), Nat.add_comm]
  have k2 : x % 18446744073709551616 * 10000 % 18446744073709551616 = x * 10000 % 2 ^ 128 % 18446744073709551616 := by
    rw [hw, Nat.mod_mul_right_mod, hx', Nat.add_mul_mod_self_left]
  rw [k1, k2]

def p59 : Prim := fun args σ => match args with
  | [.agg [.int .i64 hi, .int .u64 lo], .one (.bool scaled), .one (.int .i64 n)] =>
    if -9223372036854775808 ≤ hi ∧ hi < 9223372036854775808 ∧ 0 ≤ lo ∧ lo < 18446744073709551616 ∧ 0 < n ∧ n < 9223372036854775808 then
      some (.tup [.one (.int .i64 (meanV (hi * 18446744073709551616 + lo) scaled n.toNat).1), .one (.bool (meanV (hi * 18446744073709551616 + lo) scaled n.toNat).2)], σ)
    else none
  | _ => none

/-- What comes out of the division, told. -/
theorem tell (q : Nat) : (q / 18446744073709551616 ≠ 0 ∧ ¬ q ≤ 9223372036854775808) ∨ (q / 18446744073709551616 = 0 ∧ 9223372036854775808 < q ∧ q % 18446744073709551616 = q) ∨
    (q / 18446744073709551616 = 0 ∧ q = 9223372036854775808 ∧ q % 18446744073709551616 = q) ∨ (q / 18446744073709551616 = 0 ∧ q < 9223372036854775808 ∧ q % 18446744073709551616 = q) := by omega

theorem run59 (hi lo : Int) (scaled : Bool) (n : Nat) (σ : AHeap) (h1 : -9223372036854775808 ≤ hi) (h2 : hi < 9223372036854775808) (h3 : 0 ≤ lo) (h4 : lo < 18446744073709551616)
    (h5 : 0 < n) (h6 : n < 9223372036854775808) :
    OptP (evCall C20 5 59 [.agg [.int .i64 hi, .int .u64 lo], .one (.bool scaled), .one (.int .i64 n)] σ) (fun _ v σ1 =>
      v = .tup [.one (.int .i64 (meanV (hi * 18446744073709551616 + lo) scaled n).1), .one (.bool (meanV (hi * 18446744073709551616 + lo) scaled n).2)] ∧ Keeps σ σ1) := by
  obtain ⟨T, hT⟩ : ∃ T, T = hi * 18446744073709551616 + lo := ⟨_, rfl⟩
  obtain ⟨M, hM⟩ : ∃ M, M = T.natAbs := ⟨_, rfl⟩
  have hMlt : M < 2 ^ 128 := by omega
  have hneg : (hi < 0) = (T < 0) := by apply propext; omega
  have wn : wr .u64 (n : Int) = (n : Int) := wru64 (by omega) (by omega)
  refine evCall_code (by kernel_rfl) code59 ?_
  rw [← hT]
  -- what the division is asked
  obtain ⟨x, hx⟩ : ∃ x, x = if scaled then M * 10000 % 2 ^ 128 else M := ⟨_, rfl⟩
  have hxlt : x < 2 ^ 128 := by
    rw [hx]
    split
    · exact Nat.mod_lt _ (by decide)
    · exact hMlt
  have hq : meanQ T scaled n = x / n := by
    unfold meanQ
    rw [hx, hM]
  obtain ⟨H, hH⟩ : ∃ H : Int, H = ((M / 18446744073709551616 : Nat) : Int) := ⟨_, rfl⟩
  obtain ⟨L, hL⟩ : ∃ L : Int, L = ((M % 18446744073709551616 : Nat) : Int) := ⟨_, rfl⟩
  obtain ⟨H2, hH2⟩ : ∃ H : Int, H = ((M * 10000 % 2 ^ 128 / 18446744073709551616 : Nat) : Int) := ⟨_, rfl⟩
  obtain ⟨L2, hL2⟩ : ∃ L : Int, L = ((M * 10000 % 2 ^ 128 % 18446744073709551616 : Nat) : Int) := ⟨_, rfl⟩
  obtain ⟨X, hX⟩ : ∃ H : Int, H = ((x / 18446744073709551616 : Nat) : Int) := ⟨_, rfl⟩
  obtain ⟨Y, hY⟩ : ∃ L : Int, L = ((x % 18446744073709551616 : Nat) : Int) := ⟨_, rfl⟩
  obtain ⟨q, hqq⟩ : ∃ q, q = x / n := ⟨_, rfl⟩
  obtain ⟨QH, hQH⟩ : ∃ H : Int, H = ((q / 18446744073709551616 : Nat) : Int) := ⟨_, rfl⟩
  obtain ⟨QL, hQL⟩ : ∃ L : Int, L = ((q % 18446744073709551616 : Nat) : Int) := ⟨_, rfl⟩
  have t75 := fun σ => p75_at M σ hMlt
  have t76 := fun σ => p76_at x n σ hxlt h5 h6
  rw [← hH, ← hL, ← hH2, ← hL2] at t75
  rw [← hX, ← hY, ← hqq, ← hQH, ← hQL] at t76
  have t76' : ∀ n' σ, evCall C20 (n' + 1) 76 [.one (.int .u64 X), .one (.int .u64 Y), .one (.int .u64 (n : Int))] σ = some (.tup [.one (.int .u64 QH), .one (.int .u64 QL)], σ) :=
    fun n' σ => by rw [C20_76]; exact t76 σ
  have t75' : ∀ n' σ, evCall C20 (n' + 1) 75 [.one (.int .u64 H), .one (.int .u64 L)] σ = some (.tup [.one (.int .u64 H2), .one (.int .u64 L2)], σ) :=
    fun n' σ => by rw [C20_75]; exact t75 σ
  have hs : (scaled = true → X = H2 ∧ Y = L2) ∧ (scaled = false → X = H ∧ Y = L) := by
    constructor
    · rintro rfl
      simp only [if_true] at hx
      rw [hX, hY, hH2, hL2, hx]
      exact ⟨rfl, rfl⟩
    · rintro rfl
      simp only [Bool.false_eq_true, if_false] at hx
      rw [hX, hY, hH, hL, hx]
      exact ⟨rfl, rfl⟩
  unfold meanV
  rw [hq, ← hqq]
  -- what is asked of the answer
  have ans : (QH ≠ 0 ∧ ¬ q ≤ 9223372036854775808 ∧ ¬ q < 9223372036854775808) ∨ (QH = 0 ∧ 9223372036854775808 < QL ∧ ¬ q ≤ 9223372036854775808 ∧ ¬ q < 9223372036854775808) ∨
      (QH = 0 ∧ QL = 9223372036854775808 ∧ (q : Int) = 9223372036854775808 ∧ q ≤ 9223372036854775808 ∧ ¬ q < 9223372036854775808) ∨
      (QH = 0 ∧ ¬ 9223372036854775808 < QL ∧ QL ≠ 9223372036854775808 ∧ (q : Int) = QL ∧ q ≤ 9223372036854775808 ∧ q < 9223372036854775808 ∧ wr .i64 QL = QL ∧ wr .i64 (wr .u64 (-QL)) = -QL) := by
    rcases tell q with ⟨a, b⟩ | ⟨a, b, c⟩ | ⟨a, b, c⟩ | ⟨a, b, c⟩
    · exact .inl ⟨by omega, by omega, by omega⟩
    · exact .inr (.inl ⟨by omega, by omega, by omega, by omega⟩)
    · exact .inr (.inr (.inl ⟨by omega, by omega, by omega, by omega, by omega⟩))
    · refine .inr (.inr (.inr ⟨by omega, by omega, by omega, by omega, by omega, by omega, wr64 (by omega) (by omega), ?_⟩))
      by_cases hz : QL = 0
      · rw [hz]; rfl
      · have e : wr .u64 (-QL) = 18446744073709551616 - QL := by
          rw [wr_eq]
          simp [IntKind.wrap, IntKind.bits, IntKind.signed]
          omega
        rw [e, wr_eq]
        simp [IntKind.wrap, IntKind.bits, IntKind.signed]
        omega
  have k1 : wr .u64 (-9223372036854775808) = 9223372036854775808 := by decide
  have k2 : wr .i64 9223372036854775808 = -9223372036854775808 := by decide
  clear t75 t76 hQH hQL hX hY hH2 hL2 hx hxlt hq hqq
  by_cases hlt : T < 0
  · have hn : hi < 0 := by rw [hneg]; exact hlt
    obtain ⟨u, hu⟩ : ∃ u : Nat, u = (hi + 18446744073709551616).toNat := ⟨_, rfl⟩
    have e0 : wr .u64 hi = (u : Int) := by
      rw [wr_eq]
      simp [IntKind.wrap, IntKind.bits, IntKind.signed]
      omega
    have xr := xor_all u (by omega)
    obtain ⟨x1, hx1⟩ : ∃ x1 : Int, x1 = ((18446744073709551615 - u : Nat) : Int) := ⟨_, rfl⟩
    rw [← hx1] at xr
    by_cases hlo : lo = 0
    · subst hlo
      have e3 : wr .u64 0 = 0 := by decide
      have e4 : wr .u64 (x1 + 1) = H := by rw [wru64 (by omega) (by omega)]; omega
      have e5 : L = 0 := by omega
      subst e5
      cases scaled
      · obtain ⟨rfl, rfl⟩ := hs.2 rfl
        rcases ans with ⟨a1, a2, a3⟩ | ⟨rfl, a1, a2, a3⟩ | ⟨rfl, rfl, a1, a2, a3⟩ | ⟨rfl, a1, a2, a3, a4, a5, a6, a7⟩
        · simp (maxDischargeDepth := 99) [c59, hlt, wn, t76', hn, e0, xr, e3, e4, IntKind.signed, a1, a2, a3]
        · simp (maxDischargeDepth := 99) [c59, hlt, wn, t76', hn, e0, xr, e3, e4, IntKind.signed, a1, a2, a3, k1, k2]
        · simp (maxDischargeDepth := 99) [c59, hlt, wn, t76', hn, e0, xr, e3, e4, IntKind.signed, a1, a2, a3, k1, k2]
        · simp (maxDischargeDepth := 99) [c59, hlt, wn, t76', hn, e0, xr, e3, e4, IntKind.signed, a1, a2, a3, a4, a5, a6, a7]
      · obtain ⟨rfl, rfl⟩ := hs.1 rfl
        rcases ans with ⟨a1, a2, a3⟩ | ⟨rfl, a1, a2, a3⟩ | ⟨rfl, rfl, a1, a2, a3⟩ | ⟨rfl, a1, a2, a3, a4, a5, a6, a7⟩
        · simp (maxDischargeDepth := 99) [c59, hlt, wn, t76', t75', hn, e0, xr, e3, e4, IntKind.signed, a1, a2, a3]
        · simp (maxDischargeDepth := 99) [c59, hlt, wn, t76', t75', hn, e0, xr, e3, e4, IntKind.signed, a1, a2, a3, k1, k2]
        · simp (maxDischargeDepth := 99) [c59, hlt, wn, t76', t75', hn, e0, xr, e3, e4, IntKind.signed, a1, a2, a3, k1, k2]
        · simp (maxDischargeDepth := 99) [c59, hlt, wn, t76', t75', hn, e0, xr, e3, e4, IntKind.signed, a1, a2, a3, a4, a5, a6, a7]
    · have e3 : wr .u64 (-lo) = L := by
        rw [wr_eq]
        simp [IntKind.wrap, IntKind.bits, IntKind.signed]
        omega
      have e4 : L ≠ 0 := by omega
      have e5 : x1 = H := by omega
      subst e5
      cases scaled
      · obtain ⟨rfl, rfl⟩ := hs.2 rfl
        rcases ans with ⟨a1, a2, a3⟩ | ⟨rfl, a1, a2, a3⟩ | ⟨rfl, rfl, a1, a2, a3⟩ | ⟨rfl, a1, a2, a3, a4, a5, a6, a7⟩
        · simp (maxDischargeDepth := 99) [c59, hlt, wn, t76', hn, e0, xr, e3, e4, IntKind.signed, a1, a2, a3]
        · simp (maxDischargeDepth := 99) [c59, hlt, wn, t76', hn, e0, xr, e3, e4, IntKind.signed, a1, a2, a3, k1, k2]
        · simp (maxDischargeDepth := 99) [c59, hlt, wn, t76', hn, e0, xr, e3, e4, IntKind.signed, a1, a2, a3, k1, k2]
        · simp (maxDischargeDepth := 99) [c59, hlt, wn, t76', hn, e0, xr, e3, e4, IntKind.signed, a1, a2, a3, a4, a5, a6, a7]
      · obtain ⟨rfl, rfl⟩ := hs.1 rfl
        rcases ans with ⟨a1, a2, a3⟩ | ⟨rfl, a1, a2, a3⟩ | ⟨rfl, rfl, a1, a2, a3⟩ | ⟨rfl, a1, a2, a3, a4, a5, a6, a7⟩
        · simp (maxDischargeDepth := 99) [c59, hlt, wn, t76', t75', hn, e0, xr, e3, e4, IntKind.signed, a1, a2, a3]
        · simp (maxDischargeDepth := 99) [c59, hlt, wn, t76', t75', hn, e0, xr, e3, e4, IntKind.signed, a1, a2, a3, k1, k2]
        · simp (maxDischargeDepth := 99) [c59, hlt, wn, t76', t75', hn, e0, xr, e3, e4, IntKind.signed, a1, a2, a3, k1, k2]
        · simp (maxDischargeDepth := 99) [c59, hlt, wn, t76', t75', hn, e0, xr, e3, e4, IntKind.signed, a1, a2, a3, a4, a5, a6, a7]
  · have hn : ¬ hi < 0 := by rw [hneg]; exact hlt
    have e0 : wr .u64 hi = H := by rw [wru64 (by omega) (by omega)]; omega
    have e1 : lo = L := by omega
    subst e1
    cases scaled
    · obtain ⟨rfl, rfl⟩ := hs.2 rfl
      rcases ans with ⟨a1, a2, a3⟩ | ⟨rfl, a1, a2, a3⟩ | ⟨rfl, rfl, a1, a2, a3⟩ | ⟨rfl, a1, a2, a3, a4, a5, a6, a7⟩
      · simp (maxDischargeDepth := 99) [c59, hlt, wn, t76', hn, e0, a1, a2, a3]
      · simp (maxDischargeDepth := 99) [c59, hlt, wn, t76', hn, e0, a1, a2, a3, k1, k2]
      · simp (maxDischargeDepth := 99) [c59, hlt, wn, t76', hn, e0, a1, a2, a3, k1, k2]
      · simp (maxDischargeDepth := 99) [c59, hlt, wn, t76', hn, e0, a1, a2, a3, a4, a5, a6, a7]
    · obtain ⟨rfl, rfl⟩ := hs.1 rfl
      rcases ans with ⟨a1, a2, a3⟩ | ⟨rfl, a1, a2, a3⟩ | ⟨rfl, rfl, a1, a2, a3⟩ | ⟨rfl, a1, a2, a3, a4, a5, a6, a7⟩
      · simp (maxDischargeDepth := 99) [c59, hlt, wn, t76', t75', hn, e0, a1, a2, a3]
      · simp (maxDischargeDepth := 99) [c59, hlt, wn, t76', t75', hn, e0, a1, a2, a3, k1, k2]
      · simp (maxDischargeDepth := 99) [c59, hlt, wn, t76', t75', hn, e0, a1, a2, a3, k1, k2]
      · simp (maxDischargeDepth := 99) [c59, hlt, wn, t76', t75', hn, e0, a1, a2, a3, a4, a5, a6, a7]

theorem ok59 : PrimOk Try.prog 59 p59 := primOk_pure C20_good fun args σ v σ' h => by
  unfold p59 at h
  split at h
  · rename_i hi lo scaled n
    split at h
    · rename_i hc
      obtain ⟨h1, h2, h3, h4, h5, h6⟩ := hc
      cases h
      obtain ⟨n', rfl⟩ := Int.eq_ofNat_of_zero_le (Int.le_of_lt h5)
      exact ⟨rfl, rfl, 5, run59 hi lo scaled n' σ h1 h2 h3 h4 (by omega) (by omega)⟩
    · cases h
  · cases h
noncomputable def C21 : Ctx := C20.lay 59 p59
theorem C21_good : C21.Good Try.prog := Ctx.lay_good C20_good ok59

end Go.Proofs.Ytdgffilnefnjjaa.Ab
