/- A sum of two words, and what it is divided. -/
import Derived.Test.YtdgffilnefnjjaaAggs6
namespace Go.Proofs.Ytdgffilnefnjjaa.Ab
open Go
set_option maxRecDepth 20000
set_option maxHeartbeats 4000000
set_option linter.unusedSimpArgs false

/-! ### wide.add, wide.whole -/
def addHi (hi lo n : Int) : Int :=
  if wr .u64 (lo + wr .u64 n) < lo then wr .i64 (wr .i64 (hi + n.fdiv (Nat.pow 2 63 : Nat)) + 1) else wr .i64 (hi + n.fdiv (Nat.pow 2 63 : Nat))
def addLo (lo n : Int) : Int := wr .u64 (lo + wr .u64 n)
def p57 : Prim := fun args σ => match args with
  | [.agg [.int .i64 hi, .int .u64 lo], .one (.int .i64 n)] => some (.agg [.int .i64 (addHi hi lo n), .int .u64 (addLo lo n)], σ)
  | _ => none
theorem ok57 : PrimOk Try.prog 57 p57 := primOk_pure C16_good fun args σ v σ' h => by
  unfold p57 at h
  split at h
  · rename_i hi lo n
    cases h
    refine ⟨rfl, rfl, 4, evCall_code (by kernel_rfl) code57 ?_⟩
    have e : min 63 IntKind.i64.bits = 63 := by decide
    unfold addHi addLo
    by_cases h : wr .u64 (lo + wr .u64 n) < lo
    · simp (maxDischargeDepth := 99) [c57, shiftBin, e, h]
    · simp (maxDischargeDepth := 99) [c57, shiftBin, e, h]
  · cases h
noncomputable def C17 : Ctx := C16.lay 57 p57
theorem C17_good : C17.Good Try.prog := Ctx.lay_good C16_good ok57

def p58 : Prim := fun args σ => match args with
  | [.agg [.int .i64 hi, .int .u64 lo]] => some (.tup [.one (.int .i64 (wr .i64 lo)), .one (.bool (decide (hi = (wr .i64 lo).fdiv (Nat.pow 2 63 : Nat))))], σ)
  | _ => none
theorem ok58 : PrimOk Try.prog 58 p58 := primOk_pure C17_good fun args σ v σ' h => by
  unfold p58 at h
  split at h
  · rename_i hi lo
    cases h
    refine ⟨rfl, rfl, 4, evCall_code (by kernel_rfl) code58 ?_⟩
    have e : min 63 IntKind.i64.bits = 63 := by decide
    simp (maxDischargeDepth := 99) [c58, shiftBin, e]
  · cases h
noncomputable def C18 : Ctx := C17.lay 58 p58
theorem C18_good : C18.Good Try.prog := Ctx.lay_good C17_good ok58

/-! ### over: 128 bits divided, bit by bit -/
theorem wr_u64_mod (n : Int) (h : 0 ≤ n) : wr .u64 n = n % 18446744073709551616 := by
  by_cases h2 : n ≤ 18446744073709551615
  · rw [wru64 h h2]; omega
  · rw [wr_eq]
    simp [IntKind.wrap, IntKind.bits, IntKind.signed]

theorem ibits_or_bit (a b : Nat) (ha : 2 * a + 1 < 18446744073709551616) (hb : b < 2) : ibits .or .u64 ((2 * a : Nat) : Int) (b : Int) = some (.int .u64 ((2 * a + b : Nat) : Int)) := by
  have e1 : (((2 * a : Nat) : Int) % 18446744073709551616).toNat = 2 * a := by omega
  have e2 : ((b : Int) % 18446744073709551616).toNat = b := by omega
  have e3 : Nat.lor (2 * a) b = 2 * a + b := by
    have := Nat.two_pow_add_eq_or_of_lt (i := 1) (b := b) (by simpa using hb) a
    simpa using this.symm
  simp only [ibits, bits2, e1, e2, e3]
  rw [wru64 (by omega) (by omega)]

theorem ibits_and1 (a : Nat) (ha : a < 18446744073709551616) : ibits .and .u64 (a : Int) 1 = some (.int .u64 ((a % 2 : Nat) : Int)) := by
  have e1 : ((a : Int) % 18446744073709551616).toNat = a := by omega
  have e2 : ((1 : Int) % 18446744073709551616).toNat = 1 := by decide
  have e3 : Nat.land a 1 = a % 2 := Nat.and_one_is_mod a
  simp only [ibits, bits2, e1, e2, e3]
  rw [wru64 (by omega) (by omega)]

theorem ibits_and63 (a : Nat) (ha : a < 18446744073709551616) : ibits .and .i64 (a : Int) 63 = some (.int .i64 ((a % 64 : Nat) : Int)) := by
  have e1 : ((a : Int) % 18446744073709551616).toNat = a := by omega
  have e2 : ((63 : Int) % 18446744073709551616).toNat = 63 := by decide
  have e3 : Nat.land a 63 = a % 64 := Nat.and_two_pow_sub_one_eq_mod a 6
  simp only [ibits, bits2, e1, e2, e3]
  rw [wr64 (by omega) (by omega)]

theorem shr_nat (a k : Nat) (hk : k ≤ 64) : shiftBin .shr .u64 (a : Int) (k : Int) = some (.int .u64 ((a / 2 ^ k : Nat) : Int)) := by
  have e : min (k : Int).toNat IntKind.u64.bits = k := by
    have : IntKind.u64.bits = 64 := rfl
    rw [this]; omega
  have h0 : ¬ ((k : Int) < 0) := by omega
  simp only [shiftBin, h0, if_false, e]
  congr 2
  rw [Int.fdiv_eq_ediv_of_nonneg _ (by omega)]
  simp

theorem shl1_nat (a : Nat) : shiftBin .shl .u64 (a : Int) 1 = some (.int .u64 ((2 * a % 18446744073709551616 : Nat) : Int)) := by
  have e : min (1 : Int).toNat IntKind.u64.bits = 1 := by decide
  have h0 : ¬ ((1 : Int) < 0) := by omega
  simp only [shiftBin, h0, if_false, e]
  have : (a : Int) * ((Nat.pow 2 1 : Nat) : Int) = 2 * (a : Int) := by
    show (a : Int) * 2 = _
    omega
  rw [this, wr_u64_mod _ (by omega)]
  congr 2


/-- One step of the division. -/
theorem step_div (X b d : Nat) (hd : 0 < d) :
    (2 * X + b) / d = 2 * (X / d) + (2 * (X % d) + b) / d ∧ (2 * X + b) % d = (2 * (X % d) + b) % d := by
  have h := Nat.div_add_mod X d
  have e : 2 * X + b = (2 * (X % d) + b) + d * (2 * (X / d)) := by
    have : 2 * X = 2 * (d * (X / d) + X % d) := by rw [h]
    rw [this, Nat.mul_add, ← Nat.mul_assoc, Nat.mul_comm 2 d, Nat.mul_assoc]
    omega
  constructor
  · rw [e, Nat.add_mul_div_left _ _ hd]; omega
  · rw [e, Nat.add_mul_mod_self_left]

theorem halve (x i : Nat) : x / 2 ^ i = 2 * (x / 2 ^ (i + 1)) + x / 2 ^ i % 2 := by
  rw [Nat.pow_succ, ← Nat.div_div_eq_div_mul]
  omega

theorem bit_lo (hi lo i : Nat) (h : i < 64) : (hi * 2 ^ 64 + lo) / 2 ^ i % 2 = lo / 2 ^ i % 2 := by
  have e : hi * 2 ^ 64 = 2 ^ i * (hi * 2 ^ (64 - i)) := by
    rw [Nat.mul_comm (2 ^ i), Nat.mul_assoc, ← Nat.pow_add]
    congr 2
    omega
  rw [e, Nat.mul_add_div (Nat.two_pow_pos i)]
  have : 2 ^ (64 - i) = 2 * 2 ^ (63 - i) := by
    rw [← Nat.pow_succ']
    congr 1
    omega
  rw [this, ← Nat.mul_assoc, Nat.mul_comm hi 2, Nat.mul_assoc]
  omega

theorem bit_hi (hi lo i : Nat) (h : 64 ≤ i) (hl : lo < 2 ^ 64) : (hi * 2 ^ 64 + lo) / 2 ^ i = hi / 2 ^ (i - 64) := by
  have e : 2 ^ i = 2 ^ 64 * 2 ^ (i - 64) := by rw [← Nat.pow_add]; congr 1; omega
  rw [e, ← Nat.div_div_eq_div_mul]
  congr 1
  omega

def p76 : Prim := fun args σ => match args with
  | [.one (.int .u64 hi), .one (.int .u64 lo), .one (.int .u64 d)] =>
    if 0 ≤ hi ∧ hi < 18446744073709551616 ∧ 0 ≤ lo ∧ lo < 18446744073709551616 ∧ 0 < d ∧ d < 9223372036854775808 then
      some (.tup [.one (.int .u64 (((hi * 18446744073709551616 + lo).toNat / d.toNat / 18446744073709551616 : Nat) : Int)),
        .one (.int .u64 (((hi * 18446744073709551616 + lo).toNat / d.toNat % 18446744073709551616 : Nat) : Int))], σ)
    else none
  | _ => none

theorem run76 (hi lo d : Nat) (σ : AHeap) (h1 : hi < 18446744073709551616) (h2 : lo < 18446744073709551616) (h3 : 0 < d) (h4 : d < 9223372036854775808) :
    OptP (evCall C18 133 76 [.one (.int .u64 hi), .one (.int .u64 lo), .one (.int .u64 d)] σ) (fun _ v σ1 =>
      v = .tup [.one (.int .u64 (((hi * 2 ^ 64 + lo) / d / 18446744073709551616 : Nat) : Int)), .one (.int .u64 (((hi * 2 ^ 64 + lo) / d % 18446744073709551616 : Nat) : Int))] ∧ Keeps σ σ1) := by
  refine evCall_code (by kernel_rfl) code76 ?_
  simp [c76]
  obtain ⟨x, hx⟩ : ∃ x, x = hi * 2 ^ 64 + lo := ⟨_, rfl⟩
  have hxlt : x < 2 ^ 128 := by rw [hx]; omega
  refine ends_loop (I := fun j fr τ => j ≤ 128 ∧ τ = σ ∧ fr.length = 50 ∧ getSlot fr 0 = .one (.int .u64 hi) ∧ getSlot fr 1 = .one (.int .u64 lo) ∧ getSlot fr 2 = .one (.int .u64 d) ∧
    getSlot fr 8 = .one (.int .u64 ((x / 2 ^ j / d / 18446744073709551616 : Nat) : Int)) ∧ getSlot fr 9 = .one (.int .u64 ((x / 2 ^ j / d % 18446744073709551616 : Nat) : Int)) ∧
    getSlot fr 10 = .one (.int .u64 ((x / 2 ^ j % d : Nat) : Int)) ∧ getSlot fr 11 = .one (.int .i64 ((j : Int) - 1))) ?_ (k := 128) ?_ (by omega)
  · rintro j fr τ ⟨hj, rfl, hlen, f0, f1, f2, f8, f9, f10, f11⟩
    cases j with
    | zero =>
      simp [c76_0, hlen, f11]
      simp [f8, f9, hx]
    | succ i =>
      have f11' : getSlot fr 11 = .one (.int .i64 (i : Int)) := by
        rw [f11]; congr 2; omega
      obtain ⟨X, hX⟩ : ∃ X, X = x / 2 ^ (i + 1) := ⟨_, rfl⟩
      obtain ⟨b, hb⟩ : ∃ b, b = x / 2 ^ i % 2 := ⟨_, rfl⟩
      have hb2 : b < 2 := by omega
      have hnext : x / 2 ^ i = 2 * X + b := by rw [hX, hb]; exact halve x i
      have hXlt : X < 2 ^ 127 := by
        rw [hX]
        have : x / 2 ^ (i + 1) ≤ x / 2 := by
          rw [Nat.pow_succ', ← Nat.div_div_eq_div_mul]
          exact Nat.div_le_self _ _
        omega
      rw [← hX] at f8 f9 f10
      obtain ⟨Q, hQ⟩ : ∃ Q, Q = X / d := ⟨_, rfl⟩
      obtain ⟨R, hR⟩ : ∃ R, R = X % d := ⟨_, rfl⟩
      have hQlt : Q < 2 ^ 127 := by rw [hQ]; exact Nat.lt_of_le_of_lt (Nat.div_le_self _ _) hXlt
      have hRlt : R < d := by rw [hR]; exact Nat.mod_lt _ h3
      rw [← hQ] at f8 f9
      rw [← hR] at f10
      obtain ⟨s1, s2⟩ := step_div X b d h3
      rw [← hQ, ← hR] at s1
      rw [← hR] at s2
      have a1 := ibits_and63 i (by omega)
      have a2 := shr_nat lo (i % 64) (by omega)
      have a3 := ibits_and1 (lo / 2 ^ (i % 64)) (Nat.lt_of_le_of_lt (Nat.div_le_self _ _) h2)
      have a4 := shl1_nat R
      have e4 : 2 * R % 18446744073709551616 = 2 * R := by omega
      rw [e4] at a4
      have a5 := ibits_or_bit R b (by omega) hb2
      have a6 := shl1_nat (Q / 18446744073709551616)
      have e6 : 2 * (Q / 18446744073709551616) % 18446744073709551616 = 2 * (Q / 18446744073709551616) := by omega
      rw [e6] at a6
      have a7 : shiftBin .shr .u64 ((Q % 18446744073709551616 : Nat) : Int) 63 = _ := shr_nat (Q % 18446744073709551616) 63 (by omega)
      have a8 := ibits_or_bit (Q / 18446744073709551616) (Q % 18446744073709551616 / 2 ^ 63) (by omega) (by omega)
      have a9 := shl1_nat (Q % 18446744073709551616)
      have e9 : 2 * (Q % 18446744073709551616) % 18446744073709551616 = 2 * (Q % 9223372036854775808) := by omega
      rw [e9] at a9
      have a10 : ibits .or .u64 ((2 * (Q % 9223372036854775808) : Nat) : Int) 1 = _ := ibits_or_bit (Q % 9223372036854775808) 1 (by omega) (by omega)
      have q1 : 2 * (Q / 18446744073709551616) + Q % 18446744073709551616 / 2 ^ 63 = 2 * Q / 18446744073709551616 := by omega
      have q2 : 2 * (Q % 9223372036854775808) = 2 * Q % 18446744073709551616 := by omega
      have hi63 : i < 128 := by omega
      have wi : wr .i64 ((i : Int) - 1) = (i : Int) - 1 := wr64 (by omega) (by omega)
      have q3 : 2 * Q % 18446744073709551616 + 1 < 18446744073709551616 + 1 := by omega
      -- the bit, whichever word it stands in
      have hbl : i < 64 → lo / 2 ^ (i % 64) % 2 = b := by
        intro h
        rw [hb, hx, bit_lo hi lo i h, Nat.mod_eq_of_lt h]
      have hbh : 64 ≤ i → hi / 2 ^ (i - 64) % 2 = b := by
        intro h
        rw [hb, hx, bit_hi hi lo i h (by omega)]
      have b1 : 64 ≤ i → wr .i64 ((i : Int) - 64) = ((i - 64 : Nat) : Int) := by
        intro h
        rw [wr64 (by omega) (by omega)]
        omega
      have b2 := shr_nat hi (i - 64) (by omega)
      have b3 := ibits_and1 (hi / 2 ^ (i - 64)) (Nat.lt_of_le_of_lt (Nat.div_le_self _ _) h1)
      have r1 : d ≤ 2 * R + b → wr .u64 (((2 * R + b : Nat) : Int) - (d : Int)) = ((2 * R + b - d : Nat) : Int) := by
        intro h
        rw [wru64 (by omega) (by omega)]
        omega
      have hge : ((d : Int) ≤ ((2 * R + b : Nat) : Int)) = (d ≤ 2 * R + b) := by
        apply propext; omega
      rw [q1] at a8
      rw [q2] at a9 a10
      generalize hz1 : ((i % 64 : Nat) : Int) = z1 at a1 a2
      generalize hz2 : ((lo / 2 ^ (i % 64) : Nat) : Int) = z2 at a2 a3
      generalize hz3 : ((lo / 2 ^ (i % 64) % 2 : Nat) : Int) = z3 at a3
      generalize hz4 : ((2 * R : Nat) : Int) = z4 at a4 a5
      generalize hz5 : ((2 * R + b : Nat) : Int) = z5 at a5 r1 hge
      generalize hz6 : ((2 * (Q / 18446744073709551616) : Nat) : Int) = z6 at a6 a8
      generalize hz7 : ((Q % 18446744073709551616 / 2 ^ 63 : Nat) : Int) = z7 at a7 a8
      generalize hz8 : ((2 * Q / 18446744073709551616 : Nat) : Int) = z8 at a8
      generalize hz9 : ((2 * Q % 18446744073709551616 : Nat) : Int) = z9 at a9 a10
      generalize hz10 : ((2 * Q % 18446744073709551616 + 1 : Nat) : Int) = z10 at a10
      generalize hz11 : ((i - 64 : Nat) : Int) = z11 at b1 b2
      generalize hz12 : ((hi / 2 ^ (i - 64) : Nat) : Int) = z12 at b2 b3
      generalize hz13 : ((hi / 2 ^ (i - 64) % 2 : Nat) : Int) = z13 at b3
      generalize hz14 : ((Q / 18446744073709551616 : Nat) : Int) = z14 at f8 a6
      generalize hz15 : ((Q % 18446744073709551616 : Nat) : Int) = z15 at f9 a7 a9
      generalize hz16 : ((b : Nat) : Int) = zb at a5
      generalize hz17 : ((2 * R + b - d : Nat) : Int) = z17 at r1
      have c8 : (2 * Q + 1) / 18446744073709551616 = 2 * Q / 18446744073709551616 := by omega
      have c9 : (2 * Q + 1) % 18446744073709551616 = 2 * Q % 18446744073709551616 + 1 := by omega
      -- what the next round's state is to be
      have fin : ∀ z8' z9' z10' : Int, (d ≤ 2 * R + b → z8' = z8 ∧ z9' = z10 ∧ z10' = z17) → (¬ d ≤ 2 * R + b → z8' = z8 ∧ z9' = z9 ∧ z10' = z5) →
          z8' = ((x / 2 ^ i / d / 18446744073709551616 : Nat) : Int) ∧ z9' = ((x / 2 ^ i / d % 18446744073709551616 : Nat) : Int) ∧ z10' = ((x / 2 ^ i % d : Nat) : Int) := by
        intro z8' z9' z10' k1 k2
        rw [hnext, s1, s2]
        by_cases hg : d ≤ 2 * R + b
        · obtain ⟨rfl, rfl, rfl⟩ := k1 hg
          have e : (2 * R + b) / d = 1 := Nat.div_eq_of_lt_le (by omega) (by omega)
          have e' : (2 * R + b) % d = 2 * R + b - d := by
            rw [Nat.mod_eq_sub_mod hg, Nat.mod_eq_of_lt (by omega)]
          rw [e, e', c8, c9]
          exact ⟨hz8.symm, hz10.symm, hz17.symm⟩
        · obtain ⟨rfl, rfl, rfl⟩ := k2 hg
          have hl : 2 * R + b < d := by omega
          rw [Nat.div_eq_of_lt hl, Nat.mod_eq_of_lt hl, Nat.add_zero]
          exact ⟨hz8.symm, hz9.symm, hz5.symm⟩
      have hfr : ∀ z8' z9' z10' : Int, z8' = ((x / 2 ^ i / d / 18446744073709551616 : Nat) : Int) ∧ z9' = ((x / 2 ^ i / d % 18446744073709551616 : Nat) : Int) ∧ z10' = ((x / 2 ^ i % d : Nat) : Int) →
          ∃ j, j < i + 1 ∧ j ≤ 128 ∧ z8' = ((x / 2 ^ j / d / 18446744073709551616 : Nat) : Int) ∧ z9' = ((x / 2 ^ j / d % 18446744073709551616 : Nat) : Int) ∧ z10' = ((x / 2 ^ j % d : Nat) : Int) ∧ (i : Int) - 1 = (j : Int) - 1 :=
        fun _ _ _ h => ⟨i, by omega, by omega, h.1, h.2.1, h.2.2, rfl⟩
      clear hz1 hz2 hz4 hz6 hz7 hz9 hz10 hz11 hz12 hz14 hz15 hz17 hz5 hz8 q1 q2 q3 c8 c9 s1 s2 hnext hQ hR hX hXlt hQlt hRlt e4 e6 e9
      by_cases h64 : 64 ≤ i
      · have hb' : z13 = zb := by rw [← hz13, ← hz16, hbh h64]
        have b1' := b1 h64
        have h64' : (64 : Int) ≤ (i : Int) := by omega
        subst hb'
        by_cases hg : d ≤ 2 * R + b
        · have r1' := r1 hg
          rw [eq_true hg] at hge
          have fin' := hfr _ _ _ (fin z8 z10 z17 (fun _ => ⟨rfl, rfl, rfl⟩) (fun h => absurd hg h))
          simp [c76_0, hlen, f0, f1, f2, f8, f9, f10, f11', a1, a2, a3, a4, a5, a6, a7, a8, a9, a10, b1', b2, b3, r1', hge, wi, h64']
          simpa using fin'
        · rw [eq_false hg] at hge
          have fin' := hfr _ _ _ (fin z8 z9 z5 (fun h => absurd h hg) (fun _ => ⟨rfl, rfl, rfl⟩))
          simp [c76_0, hlen, f0, f1, f2, f8, f9, f10, f11', a1, a2, a3, a4, a5, a6, a7, a8, a9, a10, b1', b2, b3, hge, wi, h64']
          simpa using fin'
      · have hb' : z3 = zb := by rw [← hz3, ← hz16, hbl (by omega)]
        have h64' : ¬ ((64 : Int) ≤ (i : Int)) := by omega
        subst hb'
        by_cases hg : d ≤ 2 * R + b
        · have r1' := r1 hg
          rw [eq_true hg] at hge
          have fin' := hfr _ _ _ (fin z8 z10 z17 (fun _ => ⟨rfl, rfl, rfl⟩) (fun h => absurd hg h))
          simp [c76_0, hlen, f0, f1, f2, f8, f9, f10, f11', a1, a2, a3, a4, a5, a6, a7, a8, a9, a10, r1', hge, wi, h64']
          simpa using fin'
        · rw [eq_false hg] at hge
          have fin' := hfr _ _ _ (fin z8 z9 z5 (fun h => absurd h hg) (fun _ => ⟨rfl, rfl, rfl⟩))
          simp [c76_0, hlen, f0, f1, f2, f8, f9, f10, f11', a1, a2, a3, a4, a5, a6, a7, a8, a9, a10, hge, wi, h64']
          simpa using fin'
  · have z : x / 2 ^ 128 = 0 := Nat.div_eq_of_lt hxlt
    simp [z]

end Go.Proofs.Ytdgffilnefnjjaa.Ab
