/- A sum's mean. -/
import Derived.Test.YtdgffilnefnjjaaAggs7
namespace Go.Proofs.Ytdgffilnefnjjaa.Ab
open Go
set_option maxRecDepth 20000
set_option maxHeartbeats 4000000
set_option linter.unusedSimpArgs false

theorem ok76 : PrimOk Try.prog 76 p76 := primOk_pure C18_good fun args σ v σ' h => by
  unfold p76 at h
  split at h
  · rename_i hi lo d
    split at h
    · rename_i hc
      obtain ⟨h1, h2, h3, h4, h5, h6⟩ := hc
      cases h
      obtain ⟨hi', rfl⟩ := Int.eq_ofNat_of_zero_le h1
      obtain ⟨lo', rfl⟩ := Int.eq_ofNat_of_zero_le h3
      obtain ⟨d', rfl⟩ := Int.eq_ofNat_of_zero_le (Int.le_of_lt h5)
      refine ⟨rfl, rfl, 133, ?_⟩
      have e1 : ((hi' : Int) * 18446744073709551616 + (lo' : Int)).toNat = hi' * 2 ^ 64 + lo' := by omega
      have e2 : (d' : Int).toNat = d' := rfl
      rw [e1, e2]
      exact run76 hi' lo' d' σ (by omega) (by omega) (by omega) (by omega)
    · cases h
  · cases h
noncomputable def C19 : Ctx := C18.lay 76 p76
theorem C19_good : C19.Good Try.prog := Ctx.lay_good C18_good ok76

/-! ### times -/
theorem ibits_and32 (a : Nat) (ha : a < 18446744073709551616) : ibits .and .u64 (a : Int) 4294967295 = some (.int .u64 ((a % 4294967296 : Nat) : Int)) := by
  have e1 : ((a : Int) % 18446744073709551616).toNat = a := by omega
  have e2 : ((4294967295 : Int) % 18446744073709551616).toNat = 4294967295 := by decide
  have e3 : Nat.land a 4294967295 = a % 4294967296 := Nat.and_two_pow_sub_one_eq_mod a 32
  simp only [ibits, bits2, e1, e2, e3]
  rw [wru64 (by omega) (by omega)]
theorem ibits_or32 (a b : Nat) (ha : a < 4294967296) (hb : b < 4294967296) : ibits .or .u64 ((4294967296 * a : Nat) : Int) (b : Int) = some (.int .u64 ((4294967296 * a + b : Nat) : Int)) := by
  have e1 : (((4294967296 * a : Nat) : Int) % 18446744073709551616).toNat = 4294967296 * a := by omega
  have e2 : ((b : Int) % 18446744073709551616).toNat = b := by omega
  have e3 : Nat.lor (4294967296 * a) b = 4294967296 * a + b := (Nat.two_pow_add_eq_or_of_lt (i := 32) (b := b) hb a).symm
  simp only [ibits, bits2, e1, e2, e3]
  rw [wru64 (by omega) (by omega)]
theorem shl32_nat (a : Nat) : shiftBin .shl .u64 (a : Int) 32 = some (.int .u64 ((4294967296 * (a % 4294967296) : Nat) : Int)) := by
  have e : min (32 : Int).toNat IntKind.u64.bits = 32 := by decide
  have h0 : ¬ ((32 : Int) < 0) := by omega
  simp only [shiftBin, h0, if_false, e]
  have : (a : Int) * ((Nat.pow 2 32 : Nat) : Int) = 4294967296 * (a : Int) := by
    show (a : Int) * 4294967296 = _
    omega
  rw [this, wr_u64_mod _ (by omega)]
  congr 2
  omega

def p75 : Prim := fun args σ => match args with
  | [.one (.int .u64 hi), .one (.int .u64 lo)] =>
    if 0 ≤ hi ∧ hi < 18446744073709551616 ∧ 0 ≤ lo ∧ lo < 18446744073709551616 then
      some (.tup [.one (.int .u64 (((hi.toNat * 10000 + lo.toNat * 10000 / 18446744073709551616) % 18446744073709551616 : Nat) : Int)), .one (.int .u64 ((lo.toNat * 10000 % 18446744073709551616 : Nat) : Int))], σ)
    else none
  | _ => none
theorem ok75 : PrimOk Try.prog 75 p75 := primOk_pure C19_good fun args σ v σ' h => by
  unfold p75 at h
  split at h
  · rename_i hi lo
    split at h
    · rename_i hc
      obtain ⟨h1, h2, h3, h4⟩ := hc
      cases h
      obtain ⟨hi', rfl⟩ := Int.eq_ofNat_of_zero_le h1
      obtain ⟨lo', rfl⟩ := Int.eq_ofNat_of_zero_le h3
      refine ⟨rfl, rfl, 5, evCall_code (by kernel_rfl) code75 ?_⟩
      have a1 := ibits_and32 lo' (by omega)
      have a2 : wr .u64 (((lo' % 4294967296 : Nat) : Int) * 10000) = ((lo' % 4294967296 * 10000 : Nat) : Int) := by rw [wru64 (by omega) (by omega)]; omega
      have a3 : shiftBin .shr .u64 (lo' : Int) 32 = _ := shr_nat lo' 32 (by omega)
      have a4 : wr .u64 (((lo' / 2 ^ 32 : Nat) : Int) * 10000) = ((lo' / 2 ^ 32 * 10000 : Nat) : Int) := by rw [wru64 (by omega) (by omega)]; omega
      have a5 : shiftBin .shr .u64 ((lo' % 4294967296 * 10000 : Nat) : Int) 32 = _ := shr_nat (lo' % 4294967296 * 10000) 32 (by omega)
      have a6 : wr .u64 (((lo' / 2 ^ 32 * 10000 : Nat) : Int) + ((lo' % 4294967296 * 10000 / 2 ^ 32 : Nat) : Int)) = ((lo' * 10000 / 4294967296 : Nat) : Int) := by
        rw [wru64 (by omega) (by omega)]; omega
      have a7 : wr .u64 ((hi' : Int) * 10000) = ((hi' * 10000 % 18446744073709551616 : Nat) : Int) := by rw [wr_u64_mod _ (by omega)]; omega
      have a8 : shiftBin .shr .u64 ((lo' * 10000 / 4294967296 : Nat) : Int) 32 = _ := shr_nat (lo' * 10000 / 4294967296) 32 (by omega)
      have hh : lo' * 10000 / 4294967296 / 2 ^ 32 = lo' * 10000 / 18446744073709551616 := by rw [Nat.div_div_eq_div_mul]
      have a9 : wr .u64 (((hi' * 10000 % 18446744073709551616 : Nat) : Int) + ((lo' * 10000 / 4294967296 / 2 ^ 32 : Nat) : Int)) = (((hi' * 10000 + lo' * 10000 / 18446744073709551616) % 18446744073709551616 : Nat) : Int) := by
        rw [hh, wr_u64_mod _ (by omega)]; omega
      have a10 := shl32_nat (lo' * 10000 / 4294967296)
      have a11 := ibits_and32 (lo' % 4294967296 * 10000) (by omega)
      have a12 := ibits_or32 (lo' * 10000 / 4294967296 % 4294967296) (lo' % 4294967296 * 10000 % 4294967296) (by omega) (by omega)
      have a13 : 4294967296 * (lo' * 10000 / 4294967296 % 4294967296) + lo' % 4294967296 * 10000 % 4294967296 = lo' * 10000 % 18446744073709551616 := by
        have m1 : lo' % 4294967296 * 10000 % 4294967296 = lo' * 10000 % 4294967296 := by rw [Nat.mod_mul_mod]
        have m2 : lo' * 10000 % (4294967296 * 4294967296) = lo' * 10000 % 4294967296 + 4294967296 * (lo' * 10000 / 4294967296 % 4294967296) := Nat.mod_mul
        rw [m1, Nat.add_comm, ← m2]
      rw [a13] at a12
      obtain ⟨z1, hz1⟩ : ∃ z : Int, z = ((lo' % 4294967296 : Nat) : Int) := ⟨_, rfl⟩
      rw [← hz1] at a1 a2
      obtain ⟨z2, hz2⟩ : ∃ z : Int, z = ((lo' % 4294967296 * 10000 : Nat) : Int) := ⟨_, rfl⟩
      rw [← hz2] at a2 a5 a11
      obtain ⟨z3, hz3⟩ : ∃ z : Int, z = ((lo' / 2 ^ 32 : Nat) : Int) := ⟨_, rfl⟩
      rw [← hz3] at a3 a4
      obtain ⟨z4, hz4⟩ : ∃ z : Int, z = ((lo' / 2 ^ 32 * 10000 : Nat) : Int) := ⟨_, rfl⟩
      rw [← hz4] at a4 a6
      obtain ⟨z5, hz5⟩ : ∃ z : Int, z = ((lo' % 4294967296 * 10000 / 2 ^ 32 : Nat) : Int) := ⟨_, rfl⟩
      rw [← hz5] at a5 a6
      obtain ⟨z6, hz6⟩ : ∃ z : Int, z = ((lo' * 10000 / 4294967296 : Nat) : Int) := ⟨_, rfl⟩
      rw [← hz6] at a6 a8 a10
      obtain ⟨z7, hz7⟩ : ∃ z : Int, z = ((hi' * 10000 % 18446744073709551616 : Nat) : Int) := ⟨_, rfl⟩
      rw [← hz7] at a7 a9
      obtain ⟨z8, hz8⟩ : ∃ z : Int, z = ((lo' * 10000 / 4294967296 / 2 ^ 32 : Nat) : Int) := ⟨_, rfl⟩
      rw [← hz8] at a8 a9
      obtain ⟨z10, hz10⟩ : ∃ z : Int, z = ((4294967296 * (lo' * 10000 / 4294967296 % 4294967296) : Nat) : Int) := ⟨_, rfl⟩
      rw [← hz10] at a10 a12
      obtain ⟨z11, hz11⟩ : ∃ z : Int, z = ((lo' % 4294967296 * 10000 % 4294967296 : Nat) : Int) := ⟨_, rfl⟩
      rw [← hz11] at a11 a12
      have t1 : (hi' : Int).toNat = hi' := rfl
      have t2 : (lo' : Int).toNat = lo' := rfl
      rw [t1, t2]
      obtain ⟨w1, hw1⟩ : ∃ w1 : Int, w1 = (((hi' * 10000 + lo' * 10000 / 18446744073709551616) % 18446744073709551616 : Nat) : Int) := ⟨_, rfl⟩
      obtain ⟨w2, hw2⟩ : ∃ w2 : Int, w2 = ((lo' * 10000 % 18446744073709551616 : Nat) : Int) := ⟨_, rfl⟩
      rw [← hw1] at a9 ⊢
      rw [← hw2] at a12 ⊢
      simp [c75, a1, a2, a3, a4, a5, a6, a7, a8, a9, a10, a11, a12]
    · cases h
  · cases h
noncomputable def C20 : Ctx := C19.lay 75 p75
theorem C20_good : C20.Good Try.prog := Ctx.lay_good C19_good ok75
end Go.Proofs.Ytdgffilnefnjjaa.Ab
