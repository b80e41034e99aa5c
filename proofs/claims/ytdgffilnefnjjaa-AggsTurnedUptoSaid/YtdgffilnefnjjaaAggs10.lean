/- A sum or a mean of values. -/
import Derived.Test.YtdgffilnefnjjaaAggs9
namespace Go.Proofs.Ytdgffilnefnjjaa.Ab
open Go
set_option maxRecDepth 20000
set_option maxHeartbeats 4000000
set_option linter.unusedSimpArgs false

theorem C21_57 (n : Nat) (args : List AV) (σ : AHeap) : evCall C21 (n + 1) 57 args σ = p57 args σ := evCall_prim (by kernel_rfl) _ _ _
theorem C21_58 (n : Nat) (args : List AV) (σ : AHeap) : evCall C21 (n + 1) 58 args σ = p58 args σ := evCall_prim (by kernel_rfl) _ _ _
theorem C21_59 (n : Nat) (args : List AV) (σ : AHeap) : evCall C21 (n + 1) 59 args σ = p59 args σ := evCall_prim (by kernel_rfl) _ _ _

def inI (n : Int) : Bool := decide (-9223372036854775808 ≤ n) && decide (n ≤ 9223372036854775807)
def sumZ : List V → Int
  | [] => 0
  | v :: l => v.n + sumZ l
def zeroV : V := ⟨0, 0, []⟩
def sameK (k : Int) (l : List V) : Bool := l.all fun v => decide (v.k = k)
def sumV (avg : Bool) (k : Int) (l : List V) : V × Int :=
  if sameK k l = true ∧ (k = 2 ∨ k = 3) then
    if avg then (if (meanV (sumZ l) (decide (k = 2)) l.length).2 then (⟨3, (meanV (sumZ l) (decide (k = 2)) l.length).1, []⟩, 0) else (zeroV, 20))
    else if inI (sumZ l) then (⟨k, sumZ l, []⟩, 0) else (zeroV, 20)
  else (zeroV, 22)

theorem fdiv63 (n : Int) (h : inI n = true) : n.fdiv (Nat.pow 2 63 : Nat) = if n < 0 then -1 else 0 := by
  simp [inI] at h
  have e : ((Nat.pow 2 63 : Nat) : Int) = 9223372036854775808 := by decide
  rw [e, Int.fdiv_eq_ediv_of_nonneg _ (by omega)]
  split <;> omega
theorem add_lo (T n : Int) (h : inI n = true) : addLo (T % 18446744073709551616) n = (T + n) % 18446744073709551616 := by
  simp [inI] at h
  unfold addLo
  have e : wr .u64 n = n % 18446744073709551616 := by
    rw [wr_eq]
    simp [IntKind.wrap, IntKind.bits, IntKind.signed]
  rw [e, wr_u64_mod _ (by omega)]
  omega
theorem add_hi (T n : Int) (h : inI n = true) (hT : -39614081257132168796771975168 ≤ T ∧ T ≤ 39614081257132168796771975168) :
    addHi (T / 18446744073709551616) (T % 18446744073709551616) n = (T + n) / 18446744073709551616 := by
  have h0 := h
  simp [inI] at h
  unfold addHi
  have e : wr .u64 n = n % 18446744073709551616 := by
    rw [wr_eq]
    simp [IntKind.wrap, IntKind.bits, IntKind.signed]
  rw [e, wr_u64_mod _ (by omega), fdiv63 n h0]
  by_cases hn : n < 0
  · have w1 : wr .i64 (T / 18446744073709551616 + -1) = T / 18446744073709551616 + -1 := wr64 (by omega) (by omega)
    rw [if_pos hn, w1]
    have w2 : wr .i64 (T / 18446744073709551616 + -1 + 1) = T / 18446744073709551616 + -1 + 1 := wr64 (by omega) (by omega)
    rw [w2]
    split <;> omega
  · have w1 : wr .i64 (T / 18446744073709551616 + 0) = T / 18446744073709551616 + 0 := wr64 (by omega) (by omega)
    rw [if_neg hn, w1]
    have w2 : wr .i64 (T / 18446744073709551616 + 0 + 1) = T / 18446744073709551616 + 0 + 1 := wr64 (by omega) (by omega)
    rw [w2]
    split <;> omega
theorem whole_eq (T : Int) : wr .i64 (T % 18446744073709551616) = if T % 18446744073709551616 < 9223372036854775808 then T % 18446744073709551616 else T % 18446744073709551616 - 18446744073709551616 := by
  rw [wr_eq]
  simp [IntKind.wrap, IntKind.bits, IntKind.signed]
  split <;> split <;> omega
theorem whole_ok (T : Int) : decide (T / 18446744073709551616 = (wr .i64 (T % 18446744073709551616)).fdiv (Nat.pow 2 63 : Nat)) = inI T := by
  rw [whole_eq, fdiv63 _ (by simp [inI]; split <;> omega)]
  unfold inI
  by_cases h : T % 18446744073709551616 < 9223372036854775808
  · simp only [if_pos h]
    rw [if_neg (by omega)]
    by_cases h2 : T / 18446744073709551616 = 0
    · have : -9223372036854775808 ≤ T ∧ T ≤ 9223372036854775807 := by omega
      simp [h2, this]
    · have : ¬ (-9223372036854775808 ≤ T ∧ T ≤ 9223372036854775807) := by omega
      simp [h2]
      omega
  · simp only [if_neg h]
    rw [if_pos (by omega)]
    by_cases h2 : T / 18446744073709551616 = -1
    · have : -9223372036854775808 ≤ T ∧ T ≤ 9223372036854775807 := by omega
      simp [h2, this]
    · have : ¬ (-9223372036854775808 ≤ T ∧ T ≤ 9223372036854775807) := by omega
      simp [h2]
      omega
theorem whole_val (T : Int) (h : inI T = true) : wr .i64 (T % 18446744073709551616) = T := by
  simp [inI] at h
  rw [whole_eq]
  split <;> omega

theorem sumZ_bound : ∀ (l : List V), (l.all fun v => inI v.n) = true → -9223372036854775808 * (l.length : Int) ≤ sumZ l ∧ sumZ l ≤ 9223372036854775808 * (l.length : Int)
  | [], _ => by simp [sumZ]
  | v :: l, h => by
    simp only [List.all_cons, Bool.and_eq_true] at h
    have := sumZ_bound l h.2
    have h1 := h.1
    simp [inI] at h1
    simp only [sumZ, List.length_cons]
    omega
theorem sumZ_append : ∀ (l m : List V), sumZ (l ++ m) = sumZ l + sumZ m
  | [], m => by simp [sumZ]
  | v :: l, m => by simp [sumZ, sumZ_append l m]; omega

theorem rd_one {o : Option AObj} {n off i : Nat} {cs : List SV} {x : SV} (h : rd o (some n) off = some (.agg cs)) (hx : cs[i]? = some x) : rd o none (off + i) = some (.one x) := by
  have hp : ∀ c : List SV, partA c (some n) off = some (.agg cs) → partA c none (off + i) = some (.one x) := by
    intro c hc
    unfold partA at hc ⊢
    simp only at hc ⊢
    split at hc
    · cases hc
      rw [List.getElem?_take] at hx
      split at hx
      · rw [List.getElem?_drop] at hx
        rw [hx]
      · cases hx
    · cases hc
  unfold rd at h ⊢
  split at h
  · exact hp _ h
  · exact hp _ h
  · cases h

def p36 : Prim := fun args σ => match args with
  | [.agg [.str nm, .bool _, .bool _], s] => match slVals σ s with
    | some (v :: l) => if ((v :: l).all fun v => inI v.n) = true then
        some (.tup [(sumV (decide (nm = sAvg)) v.k (v :: l)).1.av, .one (.int .i64 (sumV (decide (nm = sAvg)) v.k (v :: l)).2)], σ)
      else none
    | _ => none
  | _ => none

theorem p58_at (T : Int) (σ : AHeap) : p58 [.agg [.int .i64 (T / 18446744073709551616), .int .u64 (T % 18446744073709551616)]] σ =
    some (.tup [.one (.int .i64 (wr .i64 (T % 18446744073709551616))), .one (.bool (inI T))], σ) := by
  rw [← whole_ok]
  rfl
theorem p59_at (T : Int) (b : Bool) (n : Nat) (σ : AHeap) (hT : -39614081257132168796771975168 ≤ T ∧ T ≤ 39614081257132168796771975168) (h0 : 0 < n) (hn : n ≤ maxElems) :
    p59 [.agg [.int .i64 (T / 18446744073709551616), .int .u64 (T % 18446744073709551616)], .one (.bool b), .one (.int .i64 (n : Int))] σ =
      some (.tup [.one (.int .i64 (meanV T b n).1), .one (.bool (meanV T b n).2)], σ) := by
  unfold maxElems at hn
  have c : -9223372036854775808 ≤ T / 18446744073709551616 ∧ T / 18446744073709551616 < 9223372036854775808 ∧ 0 ≤ T % 18446744073709551616 ∧ T % 18446744073709551616 < 18446744073709551616 ∧
      0 < (n : Int) ∧ (n : Int) < 9223372036854775808 := by omega
  have e : T / 18446744073709551616 * 18446744073709551616 + T % 18446744073709551616 = T := by omega
  have e2 : (n : Int).toNat = n := rfl
  simp only [p59]
  rw [if_pos c, e, e2]

theorem run36 (σ : AHeap) (nm : List UInt8) (b1 b2 : Bool) (s : AV) (v0 : V) (l0 : List V) (hl : slVals σ s = some (v0 :: l0)) (hin : ((v0 :: l0).all fun v => inI v.n) = true) :
    OptP (evCall C21 (l0.length + 5) 36 [.agg [.str nm, .bool b1, .bool b2], s] σ) (fun _ v τ =>
      v = .tup [(sumV (decide (nm = sAvg)) v0.k (v0 :: l0)).1.av, .one (.int .i64 (sumV (decide (nm = sAvg)) v0.k (v0 :: l0)).2)] ∧ Keeps σ τ) := by
  refine evCall_code (by kernel_rfl) code36 ?_
  obtain ⟨l, hll⟩ : ∃ l, l = v0 :: l0 := ⟨_, rfl⟩
  have hlen1 : l.length = l0.length + 1 := by rw [hll]; rfl
  obtain ⟨kd, hkd⟩ : ∃ kd, kd = v0.k := ⟨_, rfl⟩
  rw [← hll] at hl hin ⊢
  rw [← hkd]
  rcases slVals_spec hl with ⟨rfl, h0⟩ | ⟨id, off, cap, rfl, hr, hm⟩
  · rw [h0] at hll; cases hll
  · have h0 : 0 < l.length := by omega
    have hr0 := hr 0 h0
    have hl0 : l[0] = v0 := by simp [hll]
    rw [hl0] at hr0
    have hid : id < σ.size := rd_lt hr0
    have hr0' : rd (σ.get id) none off = some (.one (.int .i64 kd)) := by
      have := rd_one (i := 0) hr0 rfl
      simpa [hkd] using this
    have i1 : id ≠ σ.size := by omega
    have i2 : id ≠ σ.size + 1 := by omega
    simp [c36, h0, i1, i2, hr0']
    refine ends_loop (I := fun k fr τ => ∃ i, k = l.length - i ∧ i ≤ l.length ∧ fr.length = 63 ∧ σ.size + 3 ≤ τ.size ∧ Keeps σ τ ∧ τ.get σ.size = some ⟨[.str nm, .bool b1, .bool b2], .own⟩ ∧
      τ.get (σ.size + 1) = some ⟨[.int .i64 0, .int .i64 0, .str []], .own⟩ ∧
      τ.get (σ.size + 2) = some ⟨[.int .i64 (sumZ (l.take i) / 18446744073709551616), .int .u64 (sumZ (l.take i) % 18446744073709551616)], .own⟩ ∧
      getSlot fr 1 = .one (.slice id off 3 l.length cap) ∧ getSlot fr 2 = .one (.ptr σ.size 0) ∧ getSlot fr 4 = .one (.ptr (σ.size + 1) 0) ∧ getSlot fr 6 = .one (.int .i64 kd) ∧
      getSlot fr 7 = .one (.ptr (σ.size + 2) 0) ∧ getSlot fr 16 = .one (.slice id off 3 l.length cap) ∧ getSlot fr 17 = .one (.int .i64 l.length) ∧ getSlot fr 18 = .one (.int .i64 i) ∧
      (0 < i → (kd = 2 ∨ kd = 3)) ∧ sameK kd (l.take i) = true) ?_ (k := l.length) ?_ (by omega)
    · rintro k fr τ ⟨i, rfl, hi, hlen, hsz, hk, g0, g1, g2, f1, f2, f4, f6, f7, f16, f17, f18, hkind, hsame⟩
      have n0 : σ.size ≠ τ.size := by omega
      have n1 : σ.size + 1 ≠ τ.size := by omega
      have n2 : σ.size + 2 ≠ τ.size := by omega
      by_cases hlt : i < l.length
      · have hw := wr_next hlt hm
        have hrd := hr i hlt
        rw [← hk.2 id hid] at hrd
        have n3 : id ≠ τ.size := by omega
        have htake : l.take (i + 1) = l.take i ++ [l[i]] := by rw [List.take_add_one, List.getElem?_eq_getElem hlt]; rfl
        have hvin : inI l[i].n = true := by
          rw [List.all_eq_true] at hin
          exact hin _ (List.getElem_mem hlt)
        have hbound : -39614081257132168796771975168 ≤ sumZ (l.take i) ∧ sumZ (l.take i) ≤ 39614081257132168796771975168 := by
          have := sumZ_bound (l.take i) (by
            rw [List.all_eq_true] at hin ⊢
            intro x hx
            exact hin x (List.mem_of_mem_take hx))
          simp only [List.length_take] at this
          unfold maxElems at hm
          omega
        have hsum : sumZ (l.take (i + 1)) = sumZ (l.take i) + l[i].n := by rw [htake, sumZ_append]; simp [sumZ]
        have a1 := add_hi (sumZ (l.take i)) l[i].n hvin hbound
        have a2 := add_lo (sumZ (l.take i)) l[i].n hvin
        rw [← hsum] at a1 a2
        have hsame' : sameK kd (l.take (i + 1)) = (sameK kd (l.take i) && decide (l[i].k = kd)) := by unfold sameK; rw [htake, List.all_append]; simp
        have hfail : ¬ (l[i].k = kd ∧ (kd = 2 ∨ kd = 3)) → sumV (decide (nm = sAvg)) kd l = (zeroV, 22) := by
          intro hf
          unfold sumV
          rw [if_neg]
          rintro ⟨q1, q2⟩
          refine hf ⟨?_, q2⟩
          unfold sameK at q1
          rw [List.all_eq_true] at q1
          simpa using q1 _ (List.getElem_mem hlt)
        generalize l[i] = v at hrd a1 a2 hsame' hfail
        obtain ⟨vk, vn, vs⟩ := v
        simp only at a1 a2 hsame' hfail
        obtain ⟨T, hT⟩ : ∃ T, T = sumZ (l.take i) := ⟨_, rfl⟩
        obtain ⟨T', hT'⟩ : ∃ T, T = sumZ (l.take (i + 1)) := ⟨_, rfl⟩
        rw [← hT, ← hT'] at a1 a2
        rw [← hT] at g2
        by_cases h1 : vk = kd
        · subst h1
          by_cases h2 : vk = 2 ∨ vk = 3
          · have fin : ∃ j, j < l.length - i ∧ ∃ x, j = l.length - x ∧ x ≤ l.length ∧ T' = sumZ (l.take x) ∧ (i : Int) + 1 = (x : Int) ∧ (0 < x → (vk = 2 ∨ vk = 3)) ∧ sameK vk (l.take x) = true :=
              ⟨l.length - (i + 1), by omega, i + 1, rfl, by omega, hT', by omega, fun _ => h2, by rw [hsame', hsame]; simp⟩
            have hlt2 : σ.size + 2 < τ.size + 1 := by omega
            rcases h2 with rfl | rfl
            · simp (maxDischargeDepth := 99) [c36_0, hlen, f1, f2, f4, f6, f7, f16, f17, f18, hlt, hrd, V.av, n0, n1, n2, n3, g0, g1, g2, hw, C21_57, p57, a1, a2, hlt2]
              refine ⟨l.length - (i + 1), by omega, i + 1, rfl, by omega, by omega, ((hk.alloc).put (by omega)).put (by omega), ?_, by omega, by rw [hsame', hsame]; simp⟩
              rw [hT']
              exact ⟨rfl, rfl⟩
            · simp (maxDischargeDepth := 99) [c36_0, hlen, f1, f2, f4, f6, f7, f16, f17, f18, hlt, hrd, V.av, n0, n1, n2, n3, g0, g1, g2, hw, C21_57, p57, a1, a2, hlt2]
              refine ⟨l.length - (i + 1), by omega, i + 1, rfl, by omega, by omega, ((hk.alloc).put (by omega)).put (by omega), ?_, by omega, by rw [hsame', hsame]; simp⟩
              rw [hT']
              exact ⟨rfl, rfl⟩
          · have h3 : vk ≠ 2 ∧ vk ≠ 3 := by
              constructor <;> (intro e; exact h2 (by simp [e]))
            have hlt2 : σ.size + 2 < τ.size + 1 := by omega
            rw [hfail (by rintro ⟨_, q⟩; exact h2 q)]
            simp (maxDischargeDepth := 99) [c36_0, hlen, f1, f2, f4, f6, f7, f16, f17, f18, hlt, hrd, V.av, n0, n1, n2, n3, g0, g1, g2, hw, C21_57, p57, a1, a2, hlt2, h3.1, h3.2]
            exact ⟨⟨rfl, rfl, rfl⟩, ((hk.alloc).put (by omega)).put (by omega)⟩
        · have hlt2 : σ.size + 2 < τ.size + 1 := by omega
          rw [hfail (by rintro ⟨q, _⟩; exact h1 q)]
          simp (maxDischargeDepth := 99) [c36_0, hlen, f1, f2, f4, f6, f7, f16, f17, f18, hlt, hrd, V.av, n0, n1, n2, n3, g0, g1, g2, hw, C21_57, p57, a1, a2, hlt2, h1]
          exact ⟨⟨rfl, rfl, rfl⟩, ((hk.alloc).put (by omega)).put (by omega)⟩
      · have hi' : i = l.length := by omega
        subst hi'
        have hlt1 : σ.size + 1 < τ.size := by omega
        rw [List.take_length] at g2 hsame
        have hbound : -39614081257132168796771975168 ≤ sumZ l ∧ sumZ l ≤ 39614081257132168796771975168 := by
          have := sumZ_bound l hin
          unfold maxElems at hm
          omega
        have hk2 := hkind h0
        have w58 := p58_at (sumZ l)
        have w59 := fun b σ => p59_at (sumZ l) b l.length σ hbound h0 hm
        have hv := whole_val (sumZ l)
        have hb : beqL nm (bytes [97, 118, 103]) = decide (nm = sAvg) := by rw [beqL_iff]; rfl
        have hsv : sumV (decide (nm = sAvg)) kd l = if decide (nm = sAvg) = true then (if (meanV (sumZ l) (decide (kd = 2)) l.length).2 then (⟨3, (meanV (sumZ l) (decide (kd = 2)) l.length).1, []⟩, 0) else (zeroV, 20))
            else if inI (sumZ l) then (⟨kd, sumZ l, []⟩, 0) else (zeroV, 20) := by
          unfold sumV
          rw [if_pos ⟨hsame, hk2⟩]
        rw [hsv]
        clear hsv
        generalize decide (nm = sAvg) = avg at hb ⊢
        generalize sumZ l = T at *
        cases avg
        · cases hI : inI T
          · simp (maxDischargeDepth := 99) [c36_0, hlen, f1, f2, f4, f6, f7, f16, f17, f18, n0, n1, n2, g0, g1, g2, hlt1, C21_58, w58, sbin, hb, hI, hk, zeroV, V.av]
          · have hv' := hv hI
            simp (maxDischargeDepth := 99) [c36_0, hlen, f1, f2, f4, f6, f7, f16, f17, f18, n0, n1, n2, g0, g1, g2, hlt1, C21_58, w58, sbin, hb, hI, hv', hk, zeroV, V.av]
        · have w59' := w59 (decide (kd = 2))
          generalize meanV T (decide (kd = 2)) l.length = m at *
          obtain ⟨mv, mo⟩ := m
          cases mo
          · simp (maxDischargeDepth := 99) [c36_0, hlen, f1, f2, f4, f6, f7, f16, f17, f18, n0, n1, n2, g0, g1, g2, hlt1, C21_58, C21_59, w58, w59', sbin, hb, hk, zeroV, V.av]
          · simp (maxDischargeDepth := 99) [c36_0, hlen, f1, f2, f4, f6, f7, f16, f17, f18, n0, n1, n2, g0, g1, g2, hlt1, C21_58, C21_59, w58, w59', sbin, hb, hk, zeroV, V.av]
    · refine ⟨0, ?_⟩
      simp (maxDischargeDepth := 99) [sumZ, sameK]
      omega

theorem ok36 : PrimOk Try.prog 36 p36 := primOk_pure C21_good fun args σ v σ' h => by
  unfold p36 at h
  split at h
  · rename_i nm b1 b2 s
    split at h
    · rename_i v0 l hl
      split at h
      · rename_i hin
        cases h
        exact ⟨rfl, rfl, _, run36 σ nm b1 b2 s v0 l hl hin⟩
      · cases h
    · cases h
  · cases h
noncomputable def C22 : Ctx := C21.lay 36 p36
theorem C22_good : C22.Good Try.prog := Ctx.lay_good C21_good ok36

end Go.Proofs.Ytdgffilnefnjjaa.Ab
