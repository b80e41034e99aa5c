/- Views by time: what they hold. -/
import Derived.Test.YthjijjkoeoemgaaCtK
import Derived.Test.YthjijjkoeoemgaaLitCt3
namespace Go.Proofs.Ythjijjkoeoemgaa.Ab
open Go
set_option maxRecDepth 20000
set_option maxHeartbeats 2000000
set_option linter.unusedSimpArgs false

/-- A view's spec, as the machine keeps it. -/
structure VS where
  k : Int
  n : Int
  s : SV
  cols : List Int
  d : Bool
def VS.cells (v : VS) : List SV := [.int .i64 v.k, .int .i64 v.n, v.s, .bool v.d]
def VS.ok (σ : AHeap) (v : VS) : Prop := slInts σ (.one v.s) = some v.cols
theorem VS.ok.keeps {σ τ : AHeap} {v : VS} (h : v.ok σ) (hk : Keeps σ τ) : v.ok τ := slInts_keeps hk h
/-- A view with its time. -/
def VS.at' (v : VS) (now : Int) : List SV := [.int .i64 v.k, .int .i64 v.n, v.s, .bool v.d, .int .i64 now]
/-- Numbers within 2^42. -/
def near (x : Int) : Prop := -4398046511104 ≤ x ∧ x ≤ 4398046511104
theorem wr_near {x : Int} (h : near x) : wr .i64 x = x := by unfold near at h; exact wr64 (by omega) (by omega)

/-! ### by time -/
def timeP (v : VS) (now : Int) : Arr → Bool := fun a => decide (now - v.n < a.time)
theorem run50 (σ : AHeap) (b : Nat) (v : VS) (now : Int) (hb : σ.get b = some ⟨v.at' now, .own⟩) (hn : near (now - v.n)) : TellsI σ 50 [.ptr b 0] 5 (fun _ _ => True) (fun _ => timeP v now) := by
  intro τ hk f hf i a _
  obtain ⟨f, rfl⟩ : ∃ k, f = k + 1 := ⟨f - 1, by omega⟩
  refine evCall_code (D9_prim 50) ((D9_code 50).trans code50) ?_
  have hg := hb
  rw [← hk.2 b (AHeap.get_lt hb)] at hg
  have hlt := AHeap.get_lt hg
  have hne : ¬ b = τ.size := by omega
  have hw := wr_near hn
  simp (maxDischargeDepth := 99) [c50, hg, hne, VS.at', hw, timeP]
theorem run43 (σ : AHeap) (s : AV) (l : List Arr) (v : VS) (now : Int) (h : Arrs σ s l) (hn : near (now - v.n)) (f : Nat) (hf : l.length + 20 ≤ f) :
    OptP (evCall D9 f 43 [.agg (v.at' now), s] σ) (fun _ r τ => OutSl σ.size τ 3 r (acells (l.filter (timeP v now))) (l.filter (timeP v now)).length ∧ Keeps σ τ) := by
  obtain ⟨f, rfl⟩ : ∃ k, f = k + 1 := ⟨f - 1, by omega⟩
  refine evCall_code (D9_prim 43) ((D9_code 43).trans code43) ?_
  obtain ⟨τ, hτ⟩ : ∃ τ, τ = σ.alloc ⟨v.at' now, .own⟩ := ⟨_, rfl⟩
  have hk : Keeps σ τ := by rw [hτ]; exact (Keeps.refl _).alloc
  have hb : τ.get σ.size = some ⟨v.at' now, .own⟩ := by rw [hτ]; simp
  have hr := run28 τ s l 50 [.ptr σ.size 0] 5 (fun _ _ => True) _ (run50 τ σ.size v now hb hn) (h.keeps hk) (fun _ _ => trivial) f (by omega)
  rw [fIdx_filter] at hr
  simp (maxDischargeDepth := 99) [c43]
  rw [← hτ]
  refine hr.mono ?_
  rintro r τ2 ⟨h1, h2⟩
  simp (maxDischargeDepth := 99)
  exact ⟨h1.low (by rw [hτ, AHeap.size_alloc]; omega), hk.trans h2⟩

/-! ### by time, in batches -/
def batchP (v : VS) (b from' : Int) : Arr → Bool := fun a => decide (0 < b) && (decide (from' ≤ a.time) && decide (a.time < from' + v.n))
theorem run51 (σ : AHeap) (p q r : Nat) (v : VS) (now b from' : Int) (hp : σ.get p = some ⟨[.int .i64 b], .own⟩) (hq : σ.get q = some ⟨[.int .i64 from'], .own⟩) (hr : σ.get r = some ⟨v.at' now, .own⟩) (hn : near (from' + v.n)) :
    TellsI σ 51 [.ptr p 0, .ptr q 0, .ptr r 0] 5 (fun _ _ => True) (fun _ => batchP v b from') := by
  intro τ hk f hf i a _
  obtain ⟨f, rfl⟩ : ∃ k, f = k + 1 := ⟨f - 1, by omega⟩
  refine evCall_code (D9_prim 51) ((D9_code 51).trans code51) ?_
  rw [← hk.2 p (AHeap.get_lt hp)] at hp
  rw [← hk.2 q (AHeap.get_lt hq)] at hq
  rw [← hk.2 r (AHeap.get_lt hr)] at hr
  have l1 := AHeap.get_lt hp
  have l2 := AHeap.get_lt hq
  have l3 := AHeap.get_lt hr
  have n1 : ¬ p = τ.size := by omega
  have n2 : ¬ q = τ.size := by omega
  have n3 : ¬ r = τ.size := by omega
  have hw := wr_near hn
  unfold batchP
  by_cases c1 : 0 < b
  · by_cases c2 : from' ≤ a.time
    · simp (maxDischargeDepth := 99) [c51, hp, hq, hr, n1, n2, n3, VS.at', hw, c1, c2]
    · simp (maxDischargeDepth := 99) [c51, hp, hq, hr, n1, n2, n3, VS.at', hw, c1, c2]
  · simp (maxDischargeDepth := 99) [c51, hp, hq, hr, n1, n2, n3, VS.at', hw, c1]

/-- The first time. -/
def t0 (l : List Arr) : Int := (rAt l 0).time
/-- Times that fit. -/
structure TimesOk (l : List Arr) (now : Int) : Prop where
  lo : ∀ a ∈ l, 0 ≤ a.time
  hi : ∀ a ∈ l, a.time ≤ now
  up : now ≤ 1099511627776
  mono : l.Pairwise fun a b => a.time ≤ b.time
  seqs : l.Pairwise fun a b => a.seq < b.seq
  vals : ∀ a ∈ l, a.vals ≠ []
  len : l.length ≤ 200
theorem TimesOk.zero {l : List Arr} {now : Int} (h : TimesOk l now) (h0 : 0 < l.length) : 0 ≤ t0 l ∧ t0 l ≤ now ∧ now ≤ 1099511627776 := ⟨h.lo _ (rAt_mem h0), h.hi _ (rAt_mem h0), h.up⟩
def bNo (l : List Arr) (now n : Int) : Int := (now - t0 l) / n
theorem bNo_near {l : List Arr} {now n : Int} (h0 : 0 ≤ t0 l) (h1 : t0 l ≤ now) (h2 : now ≤ 1099511627776) (h3 : 1 ≤ n) (h4 : n ≤ 1099511627776) :
    (now - t0 l).tdiv n = bNo l now n ∧ 0 ≤ bNo l now n ∧ bNo l now n * n ≤ now - t0 l ∧ now - t0 l < bNo l now n * n + n ∧ bNo l now n ≤ now := by
  unfold bNo
  generalize t0 l = t at *
  have e : (now - t).tdiv n = (now - t) / n := Int.tdiv_eq_ediv_of_nonneg (by omega)
  have h5 := Int.emod_add_mul_ediv (now - t) n
  have h6 := Int.emod_nonneg (now - t) (b := n) (by omega)
  have h7 := Int.emod_lt_of_pos (now - t) (b := n) (by omega)
  have h8 : 0 ≤ (now - t) / n := Int.ediv_nonneg (by omega) (by omega)
  have h9 : (now - t) / n ≤ now - t := Int.ediv_le_self _ (by omega)
  rw [Int.mul_comm] at h5
  refine ⟨e, h8, by omega, by omega, by omega⟩
theorem mul_pred (b n : Int) : (b - 1) * n = b * n - n := by rw [Int.sub_mul]; omega
theorem mul_succ' (b n : Int) : (b + 1) * n = b * n + n := by rw [Int.add_mul]; omega

theorem run45 (σ : AHeap) (s : AV) (l : List Arr) (v : VS) (now : Int) (h : Arrs σ s l) (ht : TimesOk l now) (h0 : 0 < l.length) (hn1 : 1 ≤ v.n) (hn2 : v.n ≤ 1099511627776) (f : Nat) (hf : l.length + 20 ≤ f) :
    OptP (evCall D9 f 45 [.agg (v.at' now), s] σ) (fun _ r τ => OutSl σ.size τ 3 r (acells (l.filter (batchP v (bNo l now v.n) (t0 l + (bNo l now v.n - 1) * v.n)))) (l.filter (batchP v (bNo l now v.n) (t0 l + (bNo l now v.n - 1) * v.n))).length ∧ Keeps σ τ) := by
  obtain ⟨f, rfl⟩ : ∃ k, f = k + 1 := ⟨f - 1, by omega⟩
  refine evCall_code (D9_prim 45) ((D9_code 45).trans code45) ?_
  obtain ⟨g0, g1, g2⟩ := ht.zero h0
  obtain ⟨e1, e2, e3, e4, e5⟩ := bNo_near (n := v.n) g0 g1 g2 hn1 hn2
  have eT : t0 l = (rAt l 0).time := rfl
  obtain ⟨b, hb⟩ : ∃ b, b = bNo l now v.n := ⟨_, rfl⟩
  rw [← hb] at e1 e2 e3 e4 e5 ⊢
  obtain ⟨t, hT⟩ : ∃ t, t = t0 l := ⟨_, rfl⟩
  rw [← hT] at g0 g1 e1 e3 e4 eT ⊢
  have em := mul_pred b v.n
  obtain ⟨m, hm⟩ : ∃ m, m = (b - 1) * v.n := ⟨_, rfl⟩
  obtain ⟨fr, hfr⟩ : ∃ fr, fr = t + (b - 1) * v.n := ⟨_, rfl⟩
  rw [← hfr]
  have w1 : wr .i64 (now - t) = now - t := wr_near ⟨by omega, by omega⟩
  have w2 : wr .i64 ((now - t).tdiv v.n) = b := by rw [e1]; exact wr_near ⟨by omega, by omega⟩
  have w3 : wr .i64 (b - 1) = b - 1 := wr_near ⟨by omega, by omega⟩
  have w4 : wr .i64 ((b - 1) * v.n) = m := by rw [← hm]; exact wr_near ⟨by omega, by omega⟩
  have w5 : wr .i64 (t + m) = fr := by rw [hfr, ← hm]; exact wr_near ⟨by omega, by omega⟩
  have nr : near (fr + v.n) := ⟨by omega, by omega⟩
  obtain ⟨τ, hτ⟩ : ∃ τ, τ = ((((σ.alloc ⟨[.int .i64 v.k, .int .i64 v.n, v.s, .bool v.d, .int .i64 now], .own⟩).alloc ⟨[.int .i64 0], .own⟩).put (σ.size + 1) ⟨[.int .i64 b], .own⟩).alloc ⟨[.int .i64 0], .own⟩).put (σ.size + 1 + 1) ⟨[.int .i64 fr], .own⟩ := ⟨_, rfl⟩
  have hk : Keeps σ τ := by
    rw [hτ]
    exact (((((Keeps.refl σ).alloc).alloc).put (by omega)).alloc).put (by omega)
  have q1 : τ.get σ.size = some ⟨v.at' now, .own⟩ := by rw [hτ]; simp [ar7, VS.at']
  have q2 : τ.get (σ.size + 1) = some ⟨[.int .i64 b], .own⟩ := by rw [hτ]; simp
  have q3 : τ.get (σ.size + 1 + 1) = some ⟨[.int .i64 fr], .own⟩ := by rw [hτ]; simp
  have hr := run28 τ s l 51 [.ptr (σ.size + 1) 0, .ptr (σ.size + 1 + 1) 0, .ptr σ.size 0] 5 (fun _ _ => True) _ (run51 τ _ _ _ v now b fr q2 q3 q1 nr) (h.keeps hk) (fun _ _ => trivial) f (by omega)
  rw [fIdx_filter] at hr
  rcases h.rd with ⟨_, rfl⟩ | ⟨id, off, cap, rfl, hm, hrd⟩
  · simp at h0
  obtain ⟨_, _, p2, _⟩ := hrd 0 h0
  rw [← eT] at p2
  have hid := rd_lt p2
  have hid2 : ¬ id = σ.size := by omega
  have hid3 : ¬ id = σ.size + 1 := by omega
  have hid4 : ¬ id = σ.size + 1 + 1 := by omega
  have h0' : ¬ (l.length : Int) = 0 := by omega
  have h0'' : ¬ l = [] := by intro e; subst e; simp at h0
  have hge : ¬ now < t := by omega
  have hnz : ¬ v.n = 0 := by omega
  simp only [Nat.zero_mul, Nat.add_zero] at p2
  simp (maxDischargeDepth := 99) [c45, VS.at', p2, hid2, hid3, hid4, h0, h0', h0'', hge, hnz, w1, w2, w3, w4, w5]
  rw [← hτ]
  refine hr.mono ?_
  rintro r τ2 ⟨h1, h2⟩
  simp (maxDischargeDepth := 99)
  exact ⟨h1.low (by have := hk.1; omega), hk.trans h2⟩
end Go.Proofs.Ythjijjkoeoemgaa.Ab
