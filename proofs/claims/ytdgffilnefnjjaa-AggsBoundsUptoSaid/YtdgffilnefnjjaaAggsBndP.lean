/- The average of whole numbers: between the least and the greatest; what aggs.Of tells of such. -/
import Derived.Test.YtdgffilnefnjjaaAggs13
namespace Go.Proofs.Ytdgffilnefnjjaa.Ab
open Go
set_option maxRecDepth 20000
set_option linter.unusedSimpArgs false

def clampZ (n : Int) : Int := mm true (-1099511627776) (mm false n 1099511627776)
theorem clampZ_bd (n : Int) : -1099511627776 ≤ clampZ n ∧ clampZ n ≤ 1099511627776 := by
  unfold clampZ mm
  simp only
  split <;> split <;> omega

/-- A whole number within the bounds. -/
def okV (v : V) : Prop := v.k = 2 ∧ v.s = [] ∧ -1099511627776 ≤ v.n ∧ v.n ≤ 1099511627776

theorem take_ok : ∀ (l out : List V), (∀ v ∈ l, okV v) → takeV false false l out = out ++ l
  | [], out, _ => by simp [takeV]
  | v :: l, out, h => by
    have hv := (h v (by simp)).1
    have hn : ¬ (v.k = 0 ∧ false = false) := fun e => by rw [hv] at e; exact absurd e.1 (by decide)
    have hd : ¬ (false = true ∧ (out.any fun x => decide (orderV x v = 0)) = true) := fun e => by cases e.1
    unfold takeV
    rw [if_neg hn, if_neg hd, take_ok l _ (fun x hx => h x (by simp [hx]))]
    simp

theorem sum_bd : ∀ l : List V, (∀ v ∈ l, okV v) → -1099511627776 * (l.length : Int) ≤ sumZ l ∧ sumZ l ≤ 1099511627776 * (l.length : Int)
  | [], _ => by simp [sumZ]
  | v :: l, h => by
    have ih := sum_bd l (fun x hx => h x (by simp [hx]))
    obtain ⟨_, _, h1, h2⟩ := h v (by simp)
    simp only [sumZ, List.length_cons]
    omega

theorem same_ok (l : List V) (h : ∀ v ∈ l, okV v) : sameK 2 l = true := by
  unfold sameK
  rw [List.all_eq_true]
  intro v hv
  simpa using (h v hv).1

theorem inI_ok (l : List V) (h : ∀ v ∈ l, okV v) : (l.all fun v => inI v.n) = true := by
  rw [List.all_eq_true]
  intro v hv
  obtain ⟨_, _, h1, h2⟩ := h v hv
  simp [inI]
  omega

theorem of_count (l : List V) (h : ∀ v ∈ l, okV v) : ofV sCount false false l = (⟨2, (l.length : Int), []⟩, 0) := by
  have e1 : checkB sCount false false = true := by decide +kernel
  unfold ofV
  rw [if_pos e1, take_ok l [] h]
  unfold ofT
  rw [if_pos rfl]
  simp

theorem of_sum (v : V) (l : List V) (h : ∀ x ∈ v :: l, okV x) (hl : (v :: l).length ≤ 100) : ofV sSum false false (v :: l) = (⟨2, sumZ (v :: l), []⟩, 0) := by
  have e1 : checkB sSum false false = true := by decide +kernel
  have e3 : ¬ sSum = sCount := by decide +kernel
  have e4 : decide (sSum = sAvg) = false := by decide +kernel
  unfold ofV
  rw [if_pos e1, take_ok _ [] h]
  unfold ofT
  rw [if_neg e3]
  simp only [List.nil_append, true_or, if_true, e4]
  unfold sumV
  have hk : v.k = 2 := (h v (by simp)).1
  rw [hk, if_pos ⟨same_ok _ h, .inl rfl⟩]
  have hb : inI (sumZ (v :: l)) = true := by
    have := sum_bd _ h
    simp only [inI, Bool.and_eq_true, decide_eq_true_eq]
    omega
  rw [hb]
  rfl

theorem natAbs_cases (T : Int) : ∃ k : Nat, k = T.natAbs ∧ (T = (k : Int) ∨ T = -(k : Int)) := ⟨T.natAbs, rfl, by omega⟩

theorem mean_ok (T : Int) (n : Nat) (h1 : -109951162777600 ≤ T) (h2 : T ≤ 109951162777600) : meanV T true n = ((T * 10000).tdiv n, true) := by
  obtain ⟨k, hk, hT⟩ := natAbs_cases T
  have hk2 : k ≤ 109951162777600 := by omega
  unfold meanV meanQ
  rw [← hk]
  simp only [if_true]
  have hm : k * 10000 % 2 ^ 128 = k * 10000 := Nat.mod_eq_of_lt (by
    have : (2:Nat) ^ 128 = 340282366920938463463374607431768211456 := by decide
    omega)
  rw [hm]
  have hq : k * 10000 / n ≤ k * 10000 := Nat.div_le_self _ _
  rcases hT with hT | hT
  · rw [if_neg (by omega), if_pos (by omega)]
    have : T * 10000 = ((k * 10000 : Nat) : Int) := by omega
    rw [this, Int.ofNat_tdiv]
  · by_cases hk0 : k = 0
    · subst hk0
      have : T = 0 := by omega
      subst this
      simp
    · rw [if_pos (by omega), if_pos (by omega)]
      have : T * 10000 = -((k * 10000 : Nat) : Int) := by omega
      rw [this, Int.neg_tdiv, Int.ofNat_tdiv]

theorem of_avg (v : V) (l : List V) (h : ∀ x ∈ v :: l, okV x) (hl : (v :: l).length ≤ 100) : ofV sAvg false false (v :: l) = (⟨3, (sumZ (v :: l) * 10000).tdiv ((v :: l).length : Nat), []⟩, 0) := by
  have e1 : checkB sAvg false false = true := by decide +kernel
  have e3 : ¬ sAvg = sCount := by decide +kernel
  unfold ofV
  rw [if_pos e1, take_ok _ [] h]
  unfold ofT
  rw [if_neg e3]
  simp only [List.nil_append, or_true, if_true, decide_true]
  unfold sumV
  have hk : v.k = 2 := (h v (by simp)).1
  rw [hk, if_pos ⟨same_ok _ h, .inl rfl⟩]
  have hb := sum_bd _ h
  rw [show decide ((2:Int) = 2) = true from rfl, mean_ok _ _ (by omega) (by omega)]
  rfl

theorem of_avg0 : ofV sAvg false false [] = (zeroV, 0) := by kernel_rfl

theorem cmp_ok {a b : V} (ha : okV a) (hb : okV b) : compareV a b = (cmpZ a.n b.n, true) := by
  unfold compareV
  rw [ha.1, hb.1]
  simp [rankZ, numZ]

theorem extB_min (a b : Int) : (extB true false (cmpZ a b) = true) = (a < b) := by
  unfold cmpZ
  split
  · simp [extB]; omega
  · split <;> simp [extB] <;> omega
theorem extB_max (a b : Int) : (extB false true (cmpZ a b) = true) = (b < a) := by
  unfold cmpZ
  split
  · simp [extB]; omega
  · split <;> simp [extB] <;> omega
theorem ext_min : ∀ (l : List V) (best : V), okV best → (∀ x ∈ l, okV x) → ∃ m, extGo true false best l = some m ∧ okV m ∧ m.n ≤ best.n ∧ ∀ x ∈ l, m.n ≤ x.n
  | [], best, hb, _ => ⟨best, rfl, hb, Int.le_refl _, fun x hx => by cases hx⟩
  | v :: l, best, hb, h => by
    have hv := h v (by simp)
    unfold extGo
    simp only [cmp_ok hv hb, if_true, extB_min]
    by_cases hc : v.n < best.n
    · rw [if_pos hc]
      obtain ⟨m, h1, h2, h3, h4⟩ := ext_min l v hv (fun x hx => h x (by simp [hx]))
      refine ⟨m, h1, h2, by omega, fun x hx => ?_⟩
      cases hx with
      | head => exact h3
      | tail _ hx => exact h4 x hx
    · rw [if_neg hc]
      obtain ⟨m, h1, h2, h3, h4⟩ := ext_min l best hb (fun x hx => h x (by simp [hx]))
      refine ⟨m, h1, h2, h3, fun x hx => ?_⟩
      cases hx with
      | head => omega
      | tail _ hx => exact h4 x hx
theorem ext_max : ∀ (l : List V) (best : V), okV best → (∀ x ∈ l, okV x) → ∃ m, extGo false true best l = some m ∧ okV m ∧ best.n ≤ m.n ∧ ∀ x ∈ l, x.n ≤ m.n
  | [], best, hb, _ => ⟨best, rfl, hb, Int.le_refl _, fun x hx => by cases hx⟩
  | v :: l, best, hb, h => by
    have hv := h v (by simp)
    unfold extGo
    simp only [cmp_ok hv hb, if_true, extB_max]
    by_cases hc : best.n < v.n
    · rw [if_pos hc]
      obtain ⟨m, h1, h2, h3, h4⟩ := ext_max l v hv (fun x hx => h x (by simp [hx]))
      refine ⟨m, h1, h2, by omega, fun x hx => ?_⟩
      cases hx with
      | head => exact h3
      | tail _ hx => exact h4 x hx
    · rw [if_neg hc]
      obtain ⟨m, h1, h2, h3, h4⟩ := ext_max l best hb (fun x hx => h x (by simp [hx]))
      refine ⟨m, h1, h2, h3, fun x hx => ?_⟩
      cases hx with
      | head => omega
      | tail _ hx => exact h4 x hx

theorem of_min (v : V) (l : List V) (h : ∀ x ∈ v :: l, okV x) : ∃ m, ofV sMin false false (v :: l) = (m, 0) ∧ okV m ∧ ∀ x ∈ v :: l, m.n ≤ x.n := by
  have e1 : checkB sMin false false = true := by decide +kernel
  have e3 : ¬ sMin = sCount := by decide +kernel
  have e4 : ¬ (sMin = sSum ∨ sMin = sAvg) := by decide +kernel
  have e5 : decide (sMin = sMax) = false := by decide +kernel
  obtain ⟨m, h1, h2, h3, h4⟩ := ext_min (v :: l) v (h v (by simp)) h
  refine ⟨m, ?_, h2, h4⟩
  unfold ofV
  rw [if_pos e1, take_ok _ [] h]
  unfold ofT
  rw [if_neg e3]
  simp only [List.nil_append, if_neg e4, true_or, if_true, decide_true, e5]
  unfold extV
  rw [h1]
theorem of_max (v : V) (l : List V) (h : ∀ x ∈ v :: l, okV x) : ∃ m, ofV sMax false false (v :: l) = (m, 0) ∧ okV m ∧ ∀ x ∈ v :: l, x.n ≤ m.n := by
  have e1 : checkB sMax false false = true := by decide +kernel
  have e3 : ¬ sMax = sCount := by decide +kernel
  have e4 : ¬ (sMax = sSum ∨ sMax = sAvg) := by decide +kernel
  have e5 : decide (sMax = sMin) = false := by decide +kernel
  obtain ⟨m, h1, h2, h3, h4⟩ := ext_max (v :: l) v (h v (by simp)) h
  refine ⟨m, ?_, h2, h4⟩
  unfold ofV
  rw [if_pos e1, take_ok _ [] h]
  unfold ofT
  rw [if_neg e3]
  simp only [List.nil_append, if_neg e4, or_true, if_true, decide_true, e5]
  unfold extV
  rw [h1]

/-! ### the average lies between -/
theorem sum_ge (m : Int) : ∀ l : List V, (∀ x ∈ l, m ≤ x.n) → m * (l.length : Int) ≤ sumZ l
  | [], _ => by simp [sumZ]
  | v :: l, h => by
    have ih := sum_ge m l (fun x hx => h x (by simp [hx]))
    have := h v (by simp)
    simp only [sumZ, List.length_cons]
    have e : m * ((l.length + 1 : Nat) : Int) = m * (l.length : Int) + m := by rw [Int.natCast_add, Int.mul_add]; simp
    omega
theorem sum_le (m : Int) : ∀ l : List V, (∀ x ∈ l, x.n ≤ m) → sumZ l ≤ m * (l.length : Int)
  | [], _ => by simp [sumZ]
  | v :: l, h => by
    have ih := sum_le m l (fun x hx => h x (by simp [hx]))
    have := h v (by simp)
    simp only [sumZ, List.length_cons]
    have e : m * ((l.length + 1 : Nat) : Int) = m * (l.length : Int) + m := by rw [Int.natCast_add, Int.mul_add]; simp
    omega

theorem tdiv_ge {x a : Int} {n : Nat} (hn : 0 < n) (h : a * n ≤ x) : a ≤ x.tdiv n := by
  have h0 : (0 : Int) < n := by omega
  rcases Int.le_total 0 x with hx | hx
  · rw [Int.tdiv_eq_ediv_of_nonneg hx]
    exact Int.le_ediv_of_mul_le h0 h
  · have e : x = -(-x) := by omega
    rw [e, Int.neg_tdiv, Int.tdiv_eq_ediv_of_nonneg (by omega)]
    have : (-x) / n ≤ -a := by
      apply Int.ediv_le_of_le_mul h0
      rw [Int.neg_mul]; omega
    omega
theorem tdiv_le {x a : Int} {n : Nat} (hn : 0 < n) (h : x ≤ a * n) : x.tdiv n ≤ a := by
  have := tdiv_ge (x := -x) (a := -a) hn (by rw [Int.neg_mul]; omega)
  rw [Int.neg_tdiv] at this
  omega

/-- whole -/
def wholeZ (s n : Int) : Int := wr .i64 (wr .i64 (wr .i64 (s.tdiv n) * 10000) + wr .i64 ((wr .i64 (s.tmod n * 10000)).tdiv n))
theorem divmod_eq (k q r n m : Nat) (h : n * q + r = k) : k * m = r * m + n * (q * m) := by
  subst h
  rw [Nat.add_mul, Nat.mul_assoc]
  omega
theorem whole_nat (k n m : Nat) (hn : 0 < n) : k / n * m + k % n * m / n = k * m / n := by
  have h := divmod_eq k (k / n) (k % n) n m (Nat.div_add_mod k n)
  have h2 : k * m / n = (k % n * m + n * (k / n * m)) / n := congrArg (fun x => x / n) h
  have h3 : (k % n * m + n * (k / n * m)) / n = k % n * m / n + k / n * m := Nat.add_mul_div_left _ _ hn
  exact (Nat.add_comm _ _).trans (h3.symm.trans h2.symm)
theorem whole_pos (n : Nat) (k q r p g : Nat) (hw : q * 10000 + p = g) (hq : q ≤ k) (hr : r ≤ k) (hp : p ≤ r * 10000) (hk2 : k ≤ 109951162777600) (e : Int) (he : e = 1 ∨ e = -1) (T : Int) (h1 : T.tdiv n = e * q) (h2 : T.tmod n = e * r)
    (h3 : (e * (r : Int) * 10000).tdiv n = e * p) : wholeZ T n = e * g := by
  unfold wholeZ
  rw [h1, h2]
  rw [wr64 (n := e * (r : Int) * 10000) (by rcases he with rfl | rfl <;> omega) (by rcases he with rfl | rfl <;> omega), h3]
  rw [wr64 (n := e * (q : Int)) (by rcases he with rfl | rfl <;> omega) (by rcases he with rfl | rfl <;> omega)]
  rw [wr64 (n := e * (q : Int) * 10000) (by rcases he with rfl | rfl <;> omega) (by rcases he with rfl | rfl <;> omega)]
  rw [wr64 (n := e * (p : Int)) (by rcases he with rfl | rfl <;> omega) (by rcases he with rfl | rfl <;> omega)]
  rw [wr64 (by rcases he with rfl | rfl <;> omega) (by rcases he with rfl | rfl <;> omega)]
  rcases he with rfl | rfl <;> omega
theorem mul_cast (r m : Nat) : (r : Int) * (m : Int) = ((r * m : Nat) : Int) := by simp
theorem tdiv_pm {e : Int} (he : e = 1 ∨ e = -1) (x n : Nat) : (e * (x : Int)).tdiv n = e * ((x / n : Nat) : Int) := by
  rcases he with rfl | rfl
  · rw [Int.one_mul, Int.one_mul, Int.ofNat_tdiv]
  · rw [Int.neg_mul, Int.one_mul, Int.neg_mul, Int.one_mul, Int.neg_tdiv, Int.ofNat_tdiv]
theorem tmod_pm {e : Int} (he : e = 1 ∨ e = -1) (x n : Nat) : (e * (x : Int)).tmod n = e * ((x % n : Nat) : Int) := by
  rcases he with rfl | rfl
  · rw [Int.one_mul, Int.one_mul, Int.ofNat_tmod]
  · rw [Int.neg_mul, Int.one_mul, Int.neg_mul, Int.one_mul, Int.neg_tmod, Int.ofNat_tmod]
theorem tdiv_pm_mul {e : Int} (he : e = 1 ∨ e = -1) (x n m : Nat) : (e * (x : Int) * (m : Int)).tdiv n = e * ((x * m / n : Nat) : Int) := by
  rw [Int.mul_assoc, mul_cast, tdiv_pm he]
theorem wholeZ_pm (k n : Nat) (hn : 0 < n) (hk : k ≤ 109951162777600) (e : Int) (he : e = 1 ∨ e = -1) : wholeZ (e * (k : Int)) n = (e * (k : Int) * ((10000 : Nat) : Int)).tdiv n := by
  rw [tdiv_pm_mul he]
  exact whole_pos n k (k / n) (k % n) (k % n * 10000 / n) (k * 10000 / n) (whole_nat k n 10000 hn) (Nat.div_le_self _ _) (Nat.mod_le _ _) (Nat.div_le_self _ _) hk e he (e * k) (tdiv_pm he k n) (tmod_pm he k n)
    (tdiv_pm_mul he (k % n) n 10000)
theorem wholeZ_ok (T : Int) (n : Nat) (hn : 0 < n) (h1 : -109951162777600 ≤ T) (h2 : T ≤ 109951162777600) : wholeZ T n = (T * 10000).tdiv n := by
  obtain ⟨k, hk, hT⟩ := natAbs_cases T
  have hk2 : k ≤ 109951162777600 := by omega
  rcases hT with hT | hT
  · have := wholeZ_pm k n hn hk2 1 (.inl rfl)
    rw [Int.one_mul, ← hT] at this
    exact this
  · have := wholeZ_pm k n hn hk2 (-1) (.inr rfl)
    rw [Int.neg_mul, Int.one_mul, ← hT] at this
    exact this

end Go.Proofs.Ytdgffilnefnjjaa.Ab
