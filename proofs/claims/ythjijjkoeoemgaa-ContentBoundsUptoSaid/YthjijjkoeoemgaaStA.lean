/- Several of my texts in one: St1, St2, St3, St4, St5, St6, St7, St8. -/
import Derived.Test.YthjijjkoeoemgaaCtK
import Derived.Test.YthjijjkoeoemgaaLitSt
/- The library's stable sort at arrivals: rows that are swapped; swapRange, rotate. -/
namespace Go.Proofs.Ythjijjkoeoemgaa.Ab
open Go
set_option maxRecDepth 20000
set_option maxHeartbeats 4000000
set_option linter.unusedSimpArgs false
set_option linter.unusedVariables false

/-! ### lists by places -/
def swp (L : List Arr) (i j : Nat) : List Arr := (L.set i (rAt L j)).set j (rAt L i)
theorem swp_len (L : List Arr) (i j : Nat) : (swp L i j).length = L.length := by simp [swp]
theorem rAt_get {L : List Arr} {i : Nat} (h : i < L.length) : rAt L i = L[i] := by simp [rAt, List.getD, h]
theorem rAt_set {L : List Arr} {i k : Nat} {x : Arr} (h : i < L.length) : rAt (L.set i x) k = if k = i then x else rAt L k := by
  unfold rAt List.getD
  rw [List.getElem?_set]
  by_cases e : i = k
  · subst e; simp [h]
  · rw [if_neg e, if_neg (fun e2 => e e2.symm)]
theorem rAt_swp {L : List Arr} {i j k : Nat} (hi : i < L.length) (hj : j < L.length) : rAt (swp L i j) k = if k = j then rAt L i else if k = i then rAt L j else rAt L k := by
  unfold swp
  rw [rAt_set (by simpa using hj), rAt_set hi]
theorem swp_perm {L : List Arr} {i j : Nat} (hi : i < L.length) (hj : j < L.length) : (swp L i j).Perm L := by
  unfold swp
  rw [rAt_get hi, rAt_get hj]
  exact List.set_set_perm hi hj
/-- A part of a list that was turned within itself. -/
structure Seg (L L' : List Arr) (a b : Nat) : Prop where
  len : L'.length = L.length
  perm : L'.Perm L
  out : ∀ i, ¬ (a ≤ i ∧ i < b) → rAt L' i = rAt L i
  ins : ∀ i, a ≤ i → i < b → ∃ k, a ≤ k ∧ k < b ∧ rAt L' i = rAt L k
theorem Seg.refl (L : List Arr) (a b : Nat) : Seg L L a b := ⟨rfl, .refl _, fun _ _ => rfl, fun i h1 h2 => ⟨i, h1, h2, rfl⟩⟩
theorem Seg.trans {L L1 L2 : List Arr} {a b : Nat} (h : Seg L L1 a b) (k : Seg L1 L2 a b) : Seg L L2 a b where
  len := by rw [k.len, h.len]
  perm := k.perm.trans h.perm
  out := fun i hi => by rw [k.out i hi, h.out i hi]
  ins := fun i h1 h2 => by
    obtain ⟨j, j1, j2, e⟩ := k.ins i h1 h2
    obtain ⟨l, l1, l2, e2⟩ := h.ins j j1 j2
    exact ⟨l, l1, l2, by rw [e, e2]⟩
theorem Seg.widen {L L' : List Arr} {a b a' b' : Nat} (h : Seg L L' a b) (ha : a' ≤ a) (hb : b ≤ b') : Seg L L' a' b' where
  len := h.len
  perm := h.perm
  out := fun i hi => h.out i (fun e => hi ⟨by omega, by omega⟩)
  ins := fun i h1 h2 => by
    by_cases hc : a ≤ i ∧ i < b
    · obtain ⟨k, k1, k2, e⟩ := h.ins i hc.1 hc.2
      exact ⟨k, by omega, by omega, e⟩
    · exact ⟨i, h1, h2, h.out i hc⟩
theorem Seg.swp {L : List Arr} {a b i j : Nat} (h1 : a ≤ i) (h2 : i < b) (h3 : a ≤ j) (h4 : j < b) (hb : b ≤ L.length) : Seg L (swp L i j) a b where
  len := swp_len L i j
  perm := swp_perm (by omega) (by omega)
  out := fun k hk => by rw [rAt_swp (by omega) (by omega), if_neg (fun e => hk ⟨by omega, by omega⟩), if_neg (fun e => hk ⟨by omega, by omega⟩)]
  ins := fun k k1 k2 => by
    rw [rAt_swp (by omega) (by omega)]
    split
    · exact ⟨i, h1, h2, rfl⟩
    · split
      · exact ⟨j, h3, h4, rfl⟩
      · exact ⟨k, k1, k2, rfl⟩
theorem Seg.all {L L' : List Arr} {a b : Nat} (h : Seg L L' a b) {P : Arr → Prop} (hp : ∀ i, a ≤ i → i < b → P (rAt L i)) : ∀ i, a ≤ i → i < b → P (rAt L' i) := fun i h1 h2 => by
  obtain ⟨k, k1, k2, e⟩ := h.ins i h1 h2
  rw [e]
  exact hp k k1 k2

/-! ### the heap with the row -/
/-- What was there is there but for one object. -/
def KeepsBut (id : Nat) (σ τ : AHeap) : Prop := σ.size ≤ τ.size ∧ ∀ j, j < σ.size → j ≠ id → τ.get j = σ.get j
theorem KeepsBut.refl (id : Nat) (σ : AHeap) : KeepsBut id σ σ := ⟨Nat.le_refl _, fun _ _ _ => rfl⟩
theorem KeepsBut.trans {id : Nat} {a b c : AHeap} (h : KeepsBut id a b) (k : KeepsBut id b c) : KeepsBut id a c :=
  ⟨Nat.le_trans h.1 k.1, fun j h1 h2 => by rw [k.2 j (Nat.lt_of_lt_of_le h1 h.1) h2, h.2 j h1 h2]⟩
theorem KeepsBut.of {id : Nat} {a b : AHeap} (h : Keeps a b) : KeepsBut id a b := ⟨h.1, fun j h1 _ => h.2 j h1⟩
theorem KeepsBut.put {id : Nat} {a b : AHeap} (h : KeepsBut id a b) (o : AObj) : KeepsBut id a (b.put id o) :=
  ⟨by rw [AHeap.size_put]; exact h.1, fun j h1 h2 => by rw [AHeap.get_put', if_neg (fun e => h2 e.1), h.2 j h1 h2]⟩
theorem acells_set : ∀ (L : List Arr) (i : Nat) (x : Arr), i < L.length → splice (acells L) (i * 3) [.int .i64 x.seq, .int .i64 x.time, x.row] = acells (L.set i x)
  | [], i, x, h => absurd h (Nat.not_lt_zero _)
  | a :: L, 0, x, h => by simp [splice, acells, Arr.cells]
  | a :: L, i + 1, x, h => by
    have ih := acells_set L i x (by simpa using h)
    have e : (i + 1) * 3 = i * 3 + 1 + 1 + 1 := by omega
    simp only [splice, acells, Arr.cells, e, List.set_cons_succ, List.cons_append, List.nil_append, List.take_succ_cons, List.length_cons, List.length_nil] at ih ⊢
    rw [← ih]
    have e2 : i * 3 + 1 + 1 + 1 + (0 + 1 + 1 + 1) = (i * 3 + (0 + 1 + 1 + 1)) + 1 + 1 + 1 := by omega
    rw [e2]
    rfl
theorem write_arr {τ : AHeap} {id : Nat} {L : List Arr} (h : τ.get id = some ⟨acells L, .own⟩) {i : Nat} (hi : i < L.length) (x : Arr) :
    writeAt τ id (i * 3) [.int .i64 x.seq, .int .i64 x.time, x.row] = some (τ.put id ⟨acells (L.set i x), .own⟩) := by
  have hle : i * 3 + 3 ≤ (acells L).length := by rw [acells_length]; omega
  simp only [writeAt, h, List.length_cons, List.length_nil, ble_dec, hle, decide_true, acells_set L i x hi]
/-- Both writes of a swap. -/
theorem swap_heap {τ : AHeap} {id : Nat} {L : List Arr} (h : τ.get id = some ⟨acells L, .own⟩) {i j : Nat} (hi : i < L.length) (hj : j < L.length) :
    ∃ τ1 τ2, writeAt τ id (i * 3) [.int .i64 (rAt L j).seq, .int .i64 (rAt L j).time, (rAt L j).row] = some τ1 ∧ writeAt τ1 id (j * 3) [.int .i64 (rAt L i).seq, .int .i64 (rAt L i).time, (rAt L i).row] = some τ2 ∧
      τ2.get id = some ⟨acells (swp L i j), .own⟩ ∧ KeepsBut id τ τ2 := by
  have hid := AHeap.get_lt h
  have g1 : (τ.put id ⟨acells (L.set i (rAt L j)), .own⟩).get id = some ⟨acells (L.set i (rAt L j)), .own⟩ := by rw [AHeap.get_put', if_pos ⟨rfl, hid⟩]
  refine ⟨_, _, write_arr h hi _, write_arr g1 (by simpa using hj) _, ?_, ((KeepsBut.refl id τ).put _).put _⟩
  rw [AHeap.get_put', if_pos ⟨rfl, by rw [AHeap.size_put]; exact hid⟩]
  rfl
theorem wr_add {a b : Nat} (h : a + b ≤ 4398046511104) : wr .i64 ((a : Int) + (b : Int)) = ((a + b : Nat) : Int) := by rw [wr64 (by omega) (by omega)]; omega
theorem wr_sub {a b : Nat} (h : b ≤ a) (h2 : a ≤ 4398046511104) : wr .i64 ((a : Int) - (b : Int)) = ((a - b : Nat) : Int) := by rw [wr64 (by omega) (by omega)]; omega

/-! ### swapRange -/
def IsR (σ : AHeap) (id cap : Nat) (L : List Arr) (a b n : Nat) (k : Nat) (fr : List AV) (τ : AHeap) : Prop :=
  ∃ i M, k = n - i ∧ i ≤ n ∧ fr.length = 38 ∧ getSlot fr 0 = .one (.slice id 0 3 L.length none) ∧ getSlot fr 1 = .one (.int .i64 (a : Int)) ∧ getSlot fr 2 = .one (.int .i64 (b : Int)) ∧ getSlot fr 3 = .one (.int .i64 (n : Int)) ∧ getSlot fr 10 = .one (.int .i64 (i : Int)) ∧
    KeepsBut id σ τ ∧ τ.get id = some ⟨acells M, .own⟩ ∧ M.length = L.length ∧ M.Perm L ∧ (∀ x, rAt M x = if a ≤ x ∧ x < a + i then rAt L (x - a + b) else if b ≤ x ∧ x < b + i then rAt L (x - b + a) else rAt L x)
theorem sw_bounds {a b n i l m : Nat} (h1 : a + n ≤ b) (h2 : b + n ≤ l) (hm : l ≤ 1048576) (hi : i < n) (hM : m = l) : a + i ≤ 4398046511104 ∧ b + i ≤ 4398046511104 ∧ a + i < l ∧ b + i < l ∧ a + i < m ∧ b + i < m := by omega
theorem wr_nat1 {a i : Nat} (h : a + i ≤ 4398046511104) : wr .i64 ((i : Int) + 1) = ((i + 1 : Nat) : Int) := by rw [wr64 (by omega) (by omega)]; omega
theorem sw_next {L M : List Arr} {a b n i : Nat} (h1 : a + n ≤ b) (hlt : i < n) (la : a + i < M.length) (lb : b + i < M.length) (hx : ∀ x, rAt M x = if a ≤ x ∧ x < a + i then rAt L (x - a + b) else if b ≤ x ∧ x < b + i then rAt L (x - b + a) else rAt L x) :
    ∀ x, rAt (swp M (a + i) (b + i)) x = if a ≤ x ∧ x < a + (i + 1) then rAt L (x - a + b) else if b ≤ x ∧ x < b + (i + 1) then rAt L (x - b + a) else rAt L x := by
  intro x
  rw [rAt_swp la lb]
  by_cases c1 : x = b + i
  · rw [if_pos c1, hx (a + i), if_neg (by omega), if_neg (by omega), if_neg (by omega), if_pos (by omega), show x - b + a = a + i by omega]
  · by_cases c2 : x = a + i
    · rw [if_neg c1, if_pos c2, hx (b + i), if_neg (by omega), if_neg (by omega), if_pos (by omega), show x - a + b = b + i by omega]
    · rw [if_neg c1, if_neg c2, hx x]
      by_cases c3 : a ≤ x ∧ x < a + i
      · rw [if_pos c3, if_pos (by omega)]
      · rw [if_neg c3, if_neg (show ¬ (a ≤ x ∧ x < a + (i + 1)) by omega)]
        by_cases c4 : b ≤ x ∧ x < b + i
        · rw [if_pos c4, if_pos (by omega)]
        · rw [if_neg c4, if_neg (show ¬ (b ≤ x ∧ x < b + (i + 1)) by omega)]
theorem swapR (σ : AHeap) (id : Nat) (L : List Arr) (a b n : Nat) (w : AV) (h : σ.get id = some ⟨acells L, .own⟩) (h1 : a + n ≤ b) (h2 : b + n ≤ L.length) (hm : L.length ≤ 1048576) (f : Nat) (hf : n + 5 ≤ f) :
    OptP (evCall D9 f 93 [.one (.slice id 0 3 L.length none), .one (.int .i64 (a : Int)), .one (.int .i64 (b : Int)), .one (.int .i64 (n : Int)), w] σ)
      (fun _ _ τ => KeepsBut id σ τ ∧ ∃ M, τ.get id = some ⟨acells M, .own⟩ ∧ M.length = L.length ∧ M.Perm L ∧ ∀ x, rAt M x = if a ≤ x ∧ x < a + n then rAt L (x - a + b) else if b ≤ x ∧ x < b + n then rAt L (x - b + a) else rAt L x) := by
  obtain ⟨f, rfl⟩ : ∃ k, f = k + 1 := ⟨f - 1, by omega⟩
  refine evCall_code (D9_prim 93) ((D9_code 93).trans codest108) ?_
  simp (maxDischargeDepth := 99) [cst108]
  refine ends_loop (I := IsR σ id 0 L a b n) ?_ (k := n) ?_ (by omega)
  · rintro k fr τ ⟨i, M, rfl, hi, hlen, f0, f1, f2, f3, f10, hk, hg, hM, hp, hx⟩
    by_cases hlt : i < n
    · have hlt' : (i : Int) < (n : Int) := Int.ofNat_lt.2 hlt
      obtain ⟨z1, z2, la, lb, la', lb'⟩ := sw_bounds h1 h2 hm hlt hM
      have e1 : wr .i64 ((a : Int) + (i : Int)) = ((a + i : Nat) : Int) := wr_add z1
      have e2 : wr .i64 ((b : Int) + (i : Int)) = ((b + i : Nat) : Int) := wr_add z2
      have e3 : wr .i64 ((i : Int) + 1) = ((i + 1 : Nat) : Int) := wr_nat1 z1
      have p1 := acells_part M (a + i) la'
      have p2 := acells_part M (b + i) lb'
      obtain ⟨τ1, τ2, w1, w2, g2, k2⟩ := swap_heap (i := a + i) (j := b + i) hg la' lb'
      have hx' : ∀ x, rAt (swp M (a + i) (b + i)) x = if a ≤ x ∧ x < a + (i + 1) then rAt L (x - a + b) else if b ≤ x ∧ x < b + (i + 1) then rAt L (x - b + a) else rAt L x := by
        exact sw_next h1 hlt la' lb' hx
      have hp2 := (swp_perm (L := M) (i := a + i) (j := b + i) la' lb').trans hp
      have hl2 : (swp M (a + i) (b + i)).length = L.length := by rw [swp_len, hM]
      generalize rAt M (a + i) = u at p1 w2
      generalize rAt M (b + i) = v at p2 w1
      generalize swp M (a + i) (b + i) = M2 at g2 hx' hp2 hl2
      simp only [Arr.av, Arr.cells] at p1 p2
      have cadd : ((a : Int) + (i : Int)) = ((a + i : Nat) : Int) := by omega
      simp (maxDischargeDepth := 99) [cst108_0, hlen, f0, f1, f2, f3, f10, hlt, hlt', e1, e2, e3, la, lb, hg, p1, p2, w1, w2, -partA, -writeAt, -Int.natCast_add]
      exact ⟨n - (i + 1), y1 hlt, i + 1, M2, rfl, hlt, by simp [hlen], by simp [hlen, f0], by simp [hlen, f1], by simp [hlen, f2], by simp [hlen, f3], by simp [hlen], hk.trans k2, g2, hl2, hp2, hx'⟩
    · obtain rfl : i = n := by omega
      simp (maxDischargeDepth := 99) [cst108_0, hlen, f3, f10]
      exact ⟨hk, M, hg, hM, hp, hx⟩
  · exact ⟨0, L, rfl, Nat.zero_le _, by simp, by simp, by simp, by simp, by simp, by simp, KeepsBut.refl _ _, h, rfl, .refl _, fun x => by rw [if_neg (by omega), if_neg (by omega)]⟩
end Go.Proofs.Ythjijjkoeoemgaa.Ab

/- The library's stable sort at arrivals: rotate. -/
namespace Go.Proofs.Ythjijjkoeoemgaa.Ab
open Go
set_option maxRecDepth 20000
set_option maxHeartbeats 4000000
set_option linter.unusedSimpArgs false
set_option linter.unusedVariables false

def rotT (L : List Arr) (a m b x : Nat) : Arr := if a ≤ x ∧ x < b then (if x < a + (b - m) then rAt L (x + (m - a)) else rAt L (x - (b - m))) else rAt L x
/-- What is still to be turned: i ahead of m, j behind it. -/
def RotI (T : Nat → Arr) (M : List Arr) (m i j : Nat) : Prop := ∀ x, T x = if m - i ≤ x ∧ x < m + j then (if x < m - i + j then rAt M (x + i) else rAt M (x - j)) else rAt M x
theorem rot0 {L : List Arr} {a m b : Nat} (h1 : a < m) (h2 : m < b) : RotI (rotT L a m b) L m (m - a) (b - m) := by
  intro x
  unfold rotT
  by_cases c : a ≤ x ∧ x < b
  · rw [if_pos c, if_pos (show m - (m - a) ≤ x ∧ x < m + (b - m) by omega)]
    by_cases c2 : x < a + (b - m)
    · rw [if_pos c2, if_pos (by omega)]
    · rw [if_neg c2, if_neg (by omega)]
  · rw [if_neg c, if_neg (by omega)]
theorem rot1 {T : Nat → Arr} {M M' : List Arr} {m i j : Nat} (hT : RotI T M m i j) (hij : j < i) (hi : i ≤ m)
    (hM : ∀ x, rAt M' x = if m - i ≤ x ∧ x < m - i + j then rAt M (x - (m - i) + m) else if m ≤ x ∧ x < m + j then rAt M (x - m + (m - i)) else rAt M x) : RotI T M' m (i - j) j := by
  intro x
  rw [hT x]
  by_cases c : m - i ≤ x ∧ x < m + j
  · rw [if_pos c]
    by_cases c1 : x < m - i + j
    · rw [if_pos c1, if_neg (by omega), hM x, if_pos (by omega), show x - (m - i) + m = x + i by omega]
    · rw [if_neg c1, if_pos (by omega)]
      by_cases c2 : x < m - (i - j) + j
      · rw [if_pos c2, hM (x + (i - j)), if_neg (by omega), if_pos (by omega), show x + (i - j) - m + (m - i) = x - j by omega]
      · rw [if_neg c2, hM (x - j), if_neg (by omega), if_neg (by omega)]
  · rw [if_neg c, if_neg (by omega), hM x, if_neg (by omega), if_neg (by omega)]
theorem rot2 {T : Nat → Arr} {M M' : List Arr} {m i j : Nat} (hT : RotI T M m i j) (hij : i < j) (hi : i ≤ m)
    (hM : ∀ x, rAt M' x = if m - i ≤ x ∧ x < m - i + i then rAt M (x - (m - i) + (m + j - i)) else if m + j - i ≤ x ∧ x < m + j - i + i then rAt M (x - (m + j - i) + (m - i)) else rAt M x) : RotI T M' m i (j - i) := by
  intro x
  rw [hT x]
  by_cases c : m - i ≤ x ∧ x < m + j
  · rw [if_pos c]
    by_cases c1 : m + j - i ≤ x
    · rw [if_neg (by omega), if_neg (by omega), hM x, if_neg (by omega), if_pos (by omega), show x - (m + j - i) + (m - i) = x - j by omega]
    · rw [if_pos (by omega), if_pos (by omega)]
      by_cases c2 : x < m - i + (j - i)
      · rw [if_pos c2, hM (x + i), if_neg (by omega), if_neg (by omega)]
      · rw [if_neg c2, hM (x - (j - i)), if_pos (by omega), show x - (j - i) - (m - i) + (m + j - i) = x + i by omega]
  · rw [if_neg c, if_neg (by omega), hM x, if_neg (by omega), if_neg (by omega)]
theorem rot3 {T : Nat → Arr} {M M' : List Arr} {m i : Nat} (hT : RotI T M m i i) (hi : i ≤ m)
    (hM : ∀ x, rAt M' x = if m - i ≤ x ∧ x < m - i + i then rAt M (x - (m - i) + m) else if m ≤ x ∧ x < m + i then rAt M (x - m + (m - i)) else rAt M x) : ∀ x, rAt M' x = T x := by
  intro x
  rw [hT x, hM x]
  by_cases c : m - i ≤ x ∧ x < m + i
  · rw [if_pos c]
    by_cases c1 : x < m - i + i
    · rw [if_pos ⟨c.1, c1⟩, if_pos c1, show x - (m - i) + m = x + i by omega]
    · rw [if_neg (by omega), if_pos (by omega), if_neg c1, show x - m + (m - i) = x - i by omega]
  · rw [if_neg (by omega), if_neg (by omega), if_neg c]
def IRot (σ : AHeap) (id : Nat) (L : List Arr) (T : Nat → Arr) (a m b : Nat) (w : AV) (k : Nat) (fr : List AV) (τ : AHeap) : Prop :=
  ∃ i j M, k = i + j ∧ 0 < i ∧ 0 < j ∧ i ≤ m - a ∧ j ≤ b - m ∧ fr.length = 58 ∧ getSlot fr 0 = .one (.slice id 0 3 L.length none) ∧ getSlot fr 2 = .one (.int .i64 (m : Int)) ∧ getSlot fr 4 = w ∧ getSlot fr 10 = .one (.int .i64 (i : Int)) ∧ getSlot fr 11 = .one (.int .i64 (j : Int)) ∧
    KeepsBut id σ τ ∧ τ.get id = some ⟨acells M, .own⟩ ∧ M.length = L.length ∧ M.Perm L ∧ RotI T M m i j
def ORot (σ : AHeap) (id : Nat) (L : List Arr) (T : Nat → Arr) (a m b : Nat) (w : AV) (fr : List AV) (τ : AHeap) : Prop :=
  ∃ i M, 0 < i ∧ i ≤ m - a ∧ i ≤ b - m ∧ fr.length = 58 ∧ getSlot fr 0 = .one (.slice id 0 3 L.length none) ∧ getSlot fr 2 = .one (.int .i64 (m : Int)) ∧ getSlot fr 4 = w ∧ getSlot fr 10 = .one (.int .i64 (i : Int)) ∧
    KeepsBut id σ τ ∧ τ.get id = some ⟨acells M, .own⟩ ∧ M.length = L.length ∧ M.Perm L ∧ RotI T M m i i
theorem rb1 {a m b i j l n : Nat} (h1 : a < m) (h2 : m < b) (h3 : b ≤ l) (h4 : l ≤ 1048576) (h5 : i ≤ m - a) (h6 : j ≤ b - m) (h7 : j < i) (h8 : 0 < j) (hM : n = l) (f : Nat) (hf : b + 20 ≤ f + 1) :
    i ≤ m ∧ m ≤ 4398046511104 ∧ j ≤ i ∧ i ≤ 4398046511104 ∧ m - i + j ≤ m ∧ m + j ≤ n ∧ n ≤ 1048576 ∧ j + 5 ≤ f ∧ 0 < i - j ∧ i - j ≤ m - a ∧ i - j + j < i + j := by omega
theorem rb2 {a m b i j l n : Nat} (h1 : a < m) (h2 : m < b) (h3 : b ≤ l) (h4 : l ≤ 1048576) (h5 : i ≤ m - a) (h6 : j ≤ b - m) (h7 : i < j) (h8 : 0 < i) (hM : n = l) (f : Nat) (hf : b + 20 ≤ f + 1) :
    i ≤ m ∧ m ≤ 4398046511104 ∧ m + j ≤ 4398046511104 ∧ i ≤ m + j ∧ i ≤ j ∧ j ≤ 4398046511104 ∧ m - i + i ≤ m + j - i ∧ m + j - i + i ≤ n ∧ n ≤ 1048576 ∧ i + 5 ≤ f ∧ 0 < j - i ∧ j - i ≤ b - m ∧ i + (j - i) < i + j := by omega
theorem rb3 {a m b i l n : Nat} (h1 : a < m) (h2 : m < b) (h3 : b ≤ l) (h4 : l ≤ 1048576) (h5 : i ≤ m - a) (h6 : i ≤ b - m) (hM : n = l) (f : Nat) (hf : b + 20 ≤ f + 1) :
    i ≤ m ∧ m ≤ 4398046511104 ∧ m - i + i ≤ m ∧ m + i ≤ n ∧ n ≤ 1048576 ∧ i + 5 ≤ f := by omega
theorem rotate_run (σ : AHeap) (id : Nat) (L : List Arr) (a m b : Nat) (w : AV) (h : σ.get id = some ⟨acells L, .own⟩) (h1 : a < m) (h2 : m < b) (h3 : b ≤ L.length) (hm : L.length ≤ 1048576) (f : Nat) (hf : b + 20 ≤ f) :
    OptP (evCall D9 f 86 [.one (.slice id 0 3 L.length none), .one (.int .i64 (a : Int)), .one (.int .i64 (m : Int)), .one (.int .i64 (b : Int)), w] σ)
      (fun _ _ τ => KeepsBut id σ τ ∧ ∃ M, τ.get id = some ⟨acells M, .own⟩ ∧ M.length = L.length ∧ M.Perm L ∧ ∀ x, rAt M x = rotT L a m b x) := by
  obtain ⟨f, rfl⟩ : ∃ k, f = k + 1 := ⟨f - 1, by omega⟩
  refine evCall_code (D9_prim 86) ((D9_code 86).trans codest101) ?_
  have e1 : wr .i64 ((m : Int) - (a : Int)) = ((m - a : Nat) : Int) := wr_sub (by omega) (by omega)
  have e2 : wr .i64 ((b : Int) - (m : Int)) = ((b - m : Nat) : Int) := wr_sub (by omega) (by omega)
  simp (maxDischargeDepth := 99) [cst101, e1, e2]
  refine ends_to 0 (ORot σ id L (rotT L a m b) a m b w) ?_ ?_
  · refine ends_loop (I := IRot σ id L (rotT L a m b) a m b w) ?_ (k := (m - a) + (b - m)) ?_ (by omega)
    · rintro k fr τ ⟨i, j, M, rfl, hi0, hj0, hi, hj, hlen, f0, f2, f4, f10, f11, hk, hg, hM, hp, hx⟩
      by_cases hij : i = j
      · subst hij
        simp (maxDischargeDepth := 99) [cst101_0, hlen, f10, f11]
        exact ⟨i, M, hi0, hi, hj, by simp [hlen], by simp [hlen, f0], by simp [hlen, f2], by simp [hlen, f4], by simp [hlen, f10], hk, hg, hM, hp, hx⟩
      · have hij' : ¬ (i : Int) = (j : Int) := fun e => hij (Int.ofNat_inj.1 e)
        by_cases hlt : j < i
        · have hlt' : (j : Int) < (i : Int) := Int.ofNat_lt.2 hlt
          obtain ⟨z1, z2, z3, z4, z5, z6, z7, z8, z9, z10, z11⟩ := rb1 h1 h2 h3 hm hi hj hlt hj0 hM f hf
          have e3 : wr .i64 ((m : Int) - (i : Int)) = ((m - i : Nat) : Int) := wr_sub z1 z2
          have e4 : wr .i64 ((i : Int) - (j : Int)) = ((i - j : Nat) : Int) := wr_sub z3 z4
          have hS := swapR τ id M (m - i) m j w hg z5 z6 z7 f z8
          rw [hM] at hS
          simp (maxDischargeDepth := 99) [cst101_0, hlen, f0, f2, f4, f10, f11, hij, hij', hlt, hlt', e3]
          refine hS.mono ?_
          rintro v τ2 ⟨k2, M2, g2, hM2, hp2, hx2⟩
          simp (maxDischargeDepth := 99) [hlen, f10, f11, e4]
          exact ⟨_, z11, i - j, j, M2, rfl, z9, hj0, z10, hj, by simp [hlen], by simp [hlen, f0], by simp [hlen, f2], by simp [hlen, f4], by simp [hlen], by simp [hlen, f11], hk.trans k2, g2, hM2, hp2.trans hp, rot1 hx hlt z1 hx2⟩
        · have hlt2 : i < j := by omega
          have hlt' : ¬ (j : Int) < (i : Int) := fun e => hlt (Int.ofNat_lt.1 e)
          obtain ⟨z1, z2, z3, z4, z5, z6, z7, z8, z9, z10, z11, z12, z13⟩ := rb2 h1 h2 h3 hm hi hj hlt2 hi0 hM f hf
          have e3 : wr .i64 ((m : Int) - (i : Int)) = ((m - i : Nat) : Int) := wr_sub z1 z2
          have e4 : wr .i64 ((m : Int) + (j : Int)) = ((m + j : Nat) : Int) := wr_add z3
          have e5 : wr .i64 (((m + j : Nat) : Int) - (i : Int)) = ((m + j - i : Nat) : Int) := wr_sub z4 z3
          have e6 : wr .i64 ((j : Int) - (i : Int)) = ((j - i : Nat) : Int) := wr_sub z5 z6
          have hS := swapR τ id M (m - i) (m + j - i) i w hg z7 z8 z9 f z10
          rw [hM] at hS
          simp (maxDischargeDepth := 99) [cst101_0, hlen, f0, f2, f4, f10, f11, hij, hij', hlt, hlt', e3, e4, e5, -Int.natCast_add]
          refine hS.mono ?_
          rintro v τ2 ⟨k2, M2, g2, hM2, hp2, hx2⟩
          simp (maxDischargeDepth := 99) [hlen, f10, f11, e6]
          exact ⟨_, z13, i, j - i, M2, rfl, hi0, z11, hi, z12, by simp [hlen], by simp [hlen, f0], by simp [hlen, f2], by simp [hlen, f4], by simp [hlen, f10], by simp [hlen], hk.trans k2, g2, hM2, hp2.trans hp, rot2 hx hlt2 z1 hx2⟩
    · exact ⟨m - a, b - m, L, rfl, by omega, by omega, Nat.le_refl _, Nat.le_refl _, by simp, by simp, by simp, by simp, by simp, by simp, KeepsBut.refl _ _, h, rfl, .refl _, rot0 h1 h2⟩
  · rintro fr τ ⟨i, M, hi0, hi, hj, hlen, f0, f2, f4, f10, hk, hg, hM, hp, hx⟩
    obtain ⟨z1, z2, z3, z4, z5, z6⟩ := rb3 h1 h2 h3 hm hi hj hM f hf
    have e3 : wr .i64 ((m : Int) - (i : Int)) = ((m - i : Nat) : Int) := wr_sub z1 z2
    have hS := swapR τ id M (m - i) m i w hg z3 z4 z5 f z6
    rw [hM] at hS
    simp (maxDischargeDepth := 99) [hlen, f0, f2, f4, f10, e3]
    refine hS.mono ?_
    rintro v τ2 ⟨k2, M2, g2, hM2, hp2, hx2⟩
    simp (maxDischargeDepth := 99)
    exact ⟨hk.trans k2, M2, g2, hM2, hp2.trans hp, rot3 hx z1 hx2⟩
end Go.Proofs.Ythjijjkoeoemgaa.Ab

/- The library's stable sort at arrivals: the order, and the insertion sort of a block. -/
namespace Go.Proofs.Ythjijjkoeoemgaa.Ab
open Go
set_option maxRecDepth 20000
set_option maxHeartbeats 4000000
set_option linter.unusedSimpArgs false
set_option linter.unusedVariables false

/-- A comparison that orders: of what it tells as alike, the elder stands ahead. -/
structure COrd (cf : Arr → Arr → Int) : Prop where
  anti : ∀ x y, cf x y < 0 ↔ 0 < cf y x
  trans : ∀ x y z, cf x y ≤ 0 → cf y z ≤ 0 → cf x z ≤ 0
def ltC (cf : Arr → Arr → Int) (x y : Arr) : Prop := cf x y < 0 ∨ (cf x y = 0 ∧ x.seq < y.seq)
theorem ltC.trans {cf : Arr → Arr → Int} (hc : COrd cf) {x y z : Arr} (h : ltC cf x y) (k : ltC cf y z) : ltC cf x z := by
  have h1 : cf x y ≤ 0 := by rcases h with h | h; omega; omega
  have k1 : cf y z ≤ 0 := by rcases k with k | k; omega; omega
  have hxz := hc.trans x y z h1 k1
  by_cases e : cf x z = 0
  · right
    refine ⟨e, ?_⟩
    have hzx : cf z x ≤ 0 := by
      have := hc.anti x z
      by_cases g : 0 < cf z x
      · have := this.2 g; omega
      · omega
    have hyx := hc.trans y z x k1 hzx
    have hzy := hc.trans z x y hzx h1
    have a1 := hc.anti x y
    have a2 := hc.anti y z
    rcases h with h | ⟨_, h⟩
    · have := a1.1 h; omega
    · rcases k with k | ⟨_, k⟩
      · have := a2.1 k; omega
      · omega
  · left; omega
/-- Of one that came later: ahead if and only if told so. -/
theorem ltC_of {cf : Arr → Arr → Int} (hc : COrd cf) {x y : Arr} (hs : y.seq < x.seq) : (cf x y < 0 → ltC cf x y) ∧ (¬ cf x y < 0 → ltC cf y x) := by
  refine ⟨fun h => .inl h, fun h => ?_⟩
  have a1 := hc.anti y x
  by_cases e : cf y x < 0
  · exact .inl e
  · have a2 := hc.anti x y
    right
    refine ⟨?_, hs⟩
    by_cases g : 0 < cf y x
    · exact absurd (a2.2 g) h
    · omega
/-- A comparison's closure: it reads what was there, but not the row that is sorted. -/
def CmpOk (σ0 : AHeap) (id fn : Nat) (caps : List SV) (K : Nat) (ok : Arr → Prop) (cf : Arr → Arr → Int) : Prop :=
  ∀ τ, KeepsBut id σ0 τ → ∀ f, K ≤ f → ∀ a b : Arr, ok a → ok b →
    OptP (evCall D9 f fn (.agg [.int .i64 a.seq, .int .i64 a.time, a.row] :: .agg [.int .i64 b.seq, .int .i64 b.time, b.row] :: caps.map AV.one) τ) (fun _ v τ' => v = .one (.int .i64 (cf a b)) ∧ Keeps τ τ')
theorem CmpOk.keeps {σ0 σ1 : AHeap} {id fn caps K ok cf} (h : CmpOk σ0 id fn caps K ok cf) (hk : KeepsBut id σ0 σ1) : CmpOk σ1 id fn caps K ok cf := fun τ h1 => h τ (hk.trans h1)
def SrtC (cf : Arr → Arr → Int) (L : List Arr) (a b : Nat) : Prop := ∀ i j, a ≤ i → i < j → j < b → ltC cf (rAt L i) (rAt L j)
def SeqInc (L : List Arr) (a b : Nat) : Prop := ∀ i j, a ≤ i → i < j → j < b → (rAt L i).seq < (rAt L j).seq
def AllOk (ok : Arr → Prop) (L : List Arr) : Prop := ∀ x ∈ L, ok x
theorem AllOk.perm {ok : Arr → Prop} {L M : List Arr} (h : AllOk ok L) (hp : M.Perm L) : AllOk ok M := fun x hx => h x (hp.mem_iff.1 hx)
theorem AllOk.at {ok : Arr → Prop} {L : List Arr} (h : AllOk ok L) {i : Nat} (hi : i < L.length) : ok (rAt L i) := h _ (rAt_mem hi)

/-! ### one element that is put in its place -/
structure InsI (cf : Arr → Arr → Int) (L M : List Arr) (a i j : Nat) : Prop where
  lo : a ≤ j
  hi : j ≤ i
  seg : Seg L M a (i + 1)
  me : rAt M j = rAt L i
  srt : ∀ p q, a ≤ p → p < q → q ≤ i → p ≠ j → q ≠ j → ltC cf (rAt M p) (rAt M q)
  up : ∀ q, j < q → q ≤ i → ltC cf (rAt L i) (rAt M q)
  old : ∀ p, a ≤ p → p ≤ i → p ≠ j → ∃ k, a ≤ k ∧ k < i ∧ rAt M p = rAt L k
theorem ins_start {cf : Arr → Arr → Int} {L M : List Arr} {a i : Nat} (hs : Seg L M a i) (hsr : SrtC cf M a i) (ha : a ≤ i) : InsI cf L M a i i where
  lo := ha
  hi := Nat.le_refl _
  seg := hs.widen (Nat.le_refl _) (Nat.le_succ _)
  me := hs.out i (by omega)
  srt := fun p q h1 h2 h3 h4 h5 => hsr p q h1 h2 (by omega)
  up := fun q h1 h2 => by omega
  old := fun p h1 h2 h3 => by
    obtain ⟨k, k1, k2, e⟩ := hs.ins p h1 (by omega)
    exact ⟨k, k1, k2, e⟩
theorem ins_step {cf : Arr → Arr → Int} (hc : COrd cf) {L M : List Arr} {a i j : Nat} (h : InsI cf L M a i (j + 1)) (hj : a < j + 1) (hi : i < M.length) (hlt : ltC cf (rAt M (j + 1)) (rAt M j)) : InsI cf L (swp M (j + 1) j) a i j := by
  have h1 := h.hi
  have hl : M.length = L.length := h.seg.len
  have hr : ∀ k, rAt (swp M (j + 1) j) k = if k = j then rAt M (j + 1) else if k = j + 1 then rAt M j else rAt M k := fun k => rAt_swp (by omega) (by omega)
  refine ⟨by omega, by omega, h.seg.trans (Seg.swp (by omega) (by omega) (by omega) (by omega) (by omega)), ?_, ?_, ?_, ?_⟩
  · rw [hr, if_pos rfl, h.me]
  · intro p q p1 p2 p3 p4 p5
    rw [hr p, hr q, if_neg p4, if_neg p5]
    by_cases c1 : p = j + 1
    · rw [if_pos c1, if_neg (by omega)]
      exact h.srt j q (by omega) (by omega) p3 (by omega) (by omega)
    · rw [if_neg c1]
      by_cases c2 : q = j + 1
      · rw [if_pos c2]
        exact h.srt p j p1 (by omega) (by omega) c1 (by omega)
      · rw [if_neg c2]
        exact h.srt p q p1 p2 p3 c1 c2
  · intro q q1 q2
    rw [hr q, if_neg (by omega)]
    by_cases c : q = j + 1
    · rw [if_pos c, ← h.me]; exact hlt
    · rw [if_neg c]; exact h.up q (by omega) q2
  · intro p p1 p2 p3
    rw [hr p, if_neg p3]
    by_cases c : p = j + 1
    · rw [if_pos c]
      exact h.old j (by omega) (by omega) (by omega)
    · rw [if_neg c]
      exact h.old p p1 p2 c
theorem ins_done {cf : Arr → Arr → Int} (hc : COrd cf) {L M : List Arr} {a i j : Nat} (h : InsI cf L M a i j) (hd : j = a ∨ (a < j ∧ ltC cf (rAt M (j - 1)) (rAt M j))) : SrtC cf M a (i + 1) := by
  intro p q p1 p2 p3
  by_cases c1 : p = j
  · subst c1
    rw [h.me]
    exact h.up q p2 (by omega)
  · by_cases c2 : q = j
    · subst c2
      rcases hd with hd | ⟨hd1, hd2⟩
      · omega
      · by_cases c3 : p = q - 1
        · rw [c3]; exact hd2
        · exact (h.srt p (q - 1) p1 (by omega) (by have := h.hi; omega) c1 (by omega)).trans hc hd2
    · exact h.srt p q p1 p2 (by omega) c1 c2

/-! ### the block's sort -/
def IIn (cf : Arr → Arr → Int) (σ : AHeap) (id fn : Nat) (caps : List SV) (L : List Arr) (a b i : Nat) (k : Nat) (fr : List AV) (τ : AHeap) : Prop :=
  ∃ j M, j = k ∧ InsI cf L M a i j ∧ fr.length = 53 ∧ getSlot fr 0 = .one (.slice id 0 3 L.length none) ∧ getSlot fr 1 = .one (.int .i64 (a : Int)) ∧ getSlot fr 2 = .one (.int .i64 (b : Int)) ∧ getSlot fr 3 = .one (.func fn caps) ∧ getSlot fr 8 = .one (.int .i64 (i : Int)) ∧ getSlot fr 9 = .one (.int .i64 (j : Int)) ∧
    KeepsBut id σ τ ∧ τ.get id = some ⟨acells M, .own⟩
def IOut (cf : Arr → Arr → Int) (σ : AHeap) (id fn : Nat) (caps : List SV) (L : List Arr) (a b : Nat) (k : Nat) (fr : List AV) (τ : AHeap) : Prop :=
  ∃ i M, k = b - i ∧ a < i ∧ (i ≤ b ∨ i = a + 1) ∧ Seg L M a i ∧ SrtC cf M a i ∧ fr.length = 53 ∧ getSlot fr 0 = .one (.slice id 0 3 L.length none) ∧ getSlot fr 1 = .one (.int .i64 (a : Int)) ∧ getSlot fr 2 = .one (.int .i64 (b : Int)) ∧ getSlot fr 3 = .one (.func fn caps) ∧ getSlot fr 8 = .one (.int .i64 (i : Int)) ∧
    KeepsBut id σ τ ∧ τ.get id = some ⟨acells M, .own⟩
def OIn (cf : Arr → Arr → Int) (σ : AHeap) (id fn : Nat) (caps : List SV) (L : List Arr) (a b i : Nat) (fr : List AV) (τ : AHeap) : Prop :=
  ∃ M, Seg L M a (i + 1) ∧ SrtC cf M a (i + 1) ∧ fr.length = 53 ∧ getSlot fr 0 = .one (.slice id 0 3 L.length none) ∧ getSlot fr 1 = .one (.int .i64 (a : Int)) ∧ getSlot fr 2 = .one (.int .i64 (b : Int)) ∧ getSlot fr 3 = .one (.func fn caps) ∧ getSlot fr 8 = .one (.int .i64 (i : Int)) ∧
    KeepsBut id σ τ ∧ τ.get id = some ⟨acells M, .own⟩
theorem ib1 {i j b l n : Nat} (h1 : j + 1 ≤ i) (h2 : i < b) (h3 : b ≤ l) (h4 : l ≤ 1048576) (h5 : n = l) : j + 1 < l ∧ j < l ∧ j + 1 < n ∧ j < n ∧ j + 1 ≤ 4398046511104 := by omega
theorem wr_pred {j : Nat} (h : j + 1 ≤ 4398046511104) : wr .i64 (((j + 1 : Nat) : Int) - 1) = (j : Int) := by rw [wr64 (by omega) (by omega)]; omega
theorem wr_succ {j : Nat} (h : j + 1 ≤ 4398046511104) : wr .i64 ((j : Int) + 1) = ((j + 1 : Nat) : Int) := by rw [wr64 (by omega) (by omega)]; omega
theorem ins_inner {R : KN} (cf : Arr → Arr → Int) (hc : COrd cf) (σ : AHeap) (id fn : Nat) (caps : List SV) (K : Nat) (ok : Arr → Prop) (hcmp : CmpOk σ id fn caps K ok cf) (L : List Arr) (hok : AllOk ok L) (a b i : Nat) (hinc : SeqInc L a b) (hi : i < b) (hb : b ≤ L.length) (hm : L.length ≤ 1048576)
    (f : Nat) (hf : K + b + 20 ≤ f) (fr : List AV) (τ : AHeap) (hI : IIn cf σ id fn caps L a b i i fr τ) :
    EndsC .go (evCall D9 f) f (ACode.loop cst86_0) fr τ (fun _ _ _ => False) (fun e _ fr τ => e = 2 ∧ OIn cf σ id fn caps L a b i fr τ) R := by
  refine ends_loop (I := IIn cf σ id fn caps L a b i) ?_ (k := i) hI (by omega)
  rintro k fr τ ⟨j, M, rfl, hIns, hl, f0, f1, f2, f3, f8, f9, hk, hg⟩
  have hML : M.length = L.length := hIns.seg.len
  by_cases hja : j = a
  · have hng : ¬ (a : Int) < (j : Int) := by omega
    have hng2 : ¬ a < j := by omega
    simp (maxDischargeDepth := 99) [cst86_0, hl, f0, f1, f2, f3, f8, f9, hng, hng2]
    exact ⟨M, hIns.seg, ins_done hc hIns (.inl hja), by simp [hl], by simp [hl, f0], by simp [hl, f1], by simp [hl, f2], by simp [hl, f3], by simp [hl, f8], hk, hg⟩
  · have hlo := hIns.lo
    have hhi := hIns.hi
    obtain ⟨j, rfl⟩ : ∃ j', j = j' + 1 := ⟨j - 1, by omega⟩
    have hgt : (a : Int) < ((j + 1 : Nat) : Int) := by omega
    have hgt2 : a < j + 1 := by omega
    obtain ⟨z1, z2, z3, z4, z5⟩ := ib1 hhi hi hb hm hML
    have e1 : wr .i64 (((j + 1 : Nat) : Int) - 1) = (j : Int) := wr_pred z5
    have p1 := acells_part M (j + 1) z3
    have p2 := acells_part M j z4
    have hokM := hok.perm hIns.seg.perm
    have hcall := hcmp τ hk f (by omega) (rAt M (j + 1)) (rAt M j) (hokM.at z3) (hokM.at z4)
    have hseq : (rAt M j).seq < (rAt M (j + 1)).seq := by
      rw [hIns.me]
      obtain ⟨q, q1, q2, e⟩ := hIns.old j (by omega) (by omega) (by omega)
      rw [e]
      exact hinc q i q1 q2 hi
    obtain ⟨lt1, lt2⟩ := ltC_of hc hseq
    obtain ⟨τ1, τ2, w1, w2, g2, k2⟩ := swap_heap (i := j + 1) (j := j) hg z3 z4
    have hstep := fun h => ins_step hc hIns hgt2 (by omega) h
    have hdone := fun h => ins_done hc hIns (.inr ⟨hgt2, h⟩)
    simp only [Nat.add_sub_cancel] at hdone
    have hcast : ((j + 1 : Nat) : Int) = ((j + 1 : Nat) : Int) := rfl
    generalize hu : rAt M (j + 1) = u at p1 hcall lt1 lt2 w2 hstep hdone
    generalize hv : rAt M j = v at p2 hcall lt1 lt2 w1 hstep hdone
    simp only [Arr.av, Arr.cells] at p1 p2
    simp (maxDischargeDepth := 99) [cst86_0, hl, f0, f1, f2, f3, f8, f9, hgt, hgt2, e1, z1, z2, hg, p1, p2, -partA, -writeAt, -Int.natCast_add]
    refine hcall.mono ?_
    rintro x τ3 ⟨rfl, k3⟩
    have hg3 : τ3.get id = some ⟨acells M, .own⟩ := by rw [k3.2 _ (AHeap.get_lt hg), hg]
    have hk3 := hk.trans (KeepsBut.of k3)
    obtain ⟨τ4, τ5, w4, w5, g5, k5⟩ := swap_heap (i := j + 1) (j := j) hg3 z3 z4
    rw [hu] at w5
    rw [hv] at w4
    by_cases hneg : cf u v < 0
    · have hst := hstep (lt1 hneg)
      generalize swp M (j + 1) j = M2 at g5 hst
      simp (maxDischargeDepth := 99) [hl, f0, f9, hneg, e1, z1, z2, hg3, p1, p2, w4, w5, -partA, -writeAt, -Int.natCast_add]
      exact ⟨j, Nat.lt_succ_self _, j, M2, rfl, hst, by simp [hl], by simp [hl, f0], by simp [hl, f1], by simp [hl, f2], by simp [hl, f3], by simp [hl, f8], by simp [hl], hk3.trans k5, g5⟩
    · simp (maxDischargeDepth := 99) [hl, hneg]
      exact ⟨M, hIns.seg, hdone (lt2 hneg), by simp [hl], by simp [hl, f0], by simp [hl, f1], by simp [hl, f2], by simp [hl, f3], by simp [hl, f8], hk3, hg3⟩
theorem insertion_run (cf : Arr → Arr → Int) (hc : COrd cf) (σ : AHeap) (id fn : Nat) (caps : List SV) (K : Nat) (ok : Arr → Prop) (hcmp : CmpOk σ id fn caps K ok cf) (L : List Arr) (hok : AllOk ok L) (a b : Nat) (hinc : SeqInc L a b) (hb : b ≤ L.length) (ha : a ≤ L.length) (hm : L.length ≤ 1048576)
    (h : σ.get id = some ⟨acells L, .own⟩) (f : Nat) (hf : K + b + 40 ≤ f) :
    OptP (evCall D9 f 72 [.one (.slice id 0 3 L.length none), .one (.int .i64 (a : Int)), .one (.int .i64 (b : Int)), .one (.func fn caps)] σ)
      (fun _ _ τ => KeepsBut id σ τ ∧ ∃ M, τ.get id = some ⟨acells M, .own⟩ ∧ Seg L M a b ∧ SrtC cf M a b) := by
  obtain ⟨f, rfl⟩ : ∃ k, f = k + 1 := ⟨f - 1, by omega⟩
  refine evCall_code (D9_prim 72) ((D9_code 72).trans codest86) ?_
  have e0 : wr .i64 ((a : Int) + 1) = ((a + 1 : Nat) : Int) := wr_succ (by omega)
  simp (maxDischargeDepth := 99) [cst86, e0, -Int.natCast_add]
  refine ends_loop (I := IOut cf σ id fn caps L a b) ?_ (k := b - (a + 1)) ?_ (by omega)
  · rintro k fr τ ⟨i, M, rfl, hai, hib, hseg, hsrt, hl, f0, f1, f2, f3, f8, hk, hg⟩
    by_cases hlt : i < b
    · have hlt' : (i : Int) < (b : Int) := Int.ofNat_lt.2 hlt
      have e1 : wr .i64 ((i : Int) + 1) = ((i + 1 : Nat) : Int) := wr_succ (by omega)
      have hI := fun R => ins_inner (R := R) cf hc σ id fn caps K ok hcmp L hok a b i hinc hlt hb hm f (by omega)
      simp (maxDischargeDepth := 99) [cst86_1, hl, f0, f1, f2, f3, f8, hlt, hlt']
      refine ends_to 2 _ (hI _ _ τ ?_) ?_
      · exact ⟨i, M, rfl, ins_start hseg hsrt (by omega), by simp [hl], by simp [hl, f0], by simp [hl, f1], by simp [hl, f2], by simp [hl, f3], by simp [hl, f8], by simp [hl], hk, hg⟩
      · rintro fr2 τ2 ⟨M2, s2, srt2, hl, f0, f1, f2, f3, f8, hk2, hg2⟩
        simp (maxDischargeDepth := 99) [hl, f8, e1, -Int.natCast_add]
        exact ⟨b - (i + 1), y1 hlt, i + 1, M2, rfl, by omega, .inl hlt, s2, srt2, by simp [hl], by simp [hl, f0], by simp [hl, f1], by simp [hl, f2], by simp [hl, f3], by simp [hl], hk2, hg2⟩
    · have hlt' : ¬ (i : Int) < (b : Int) := fun e => hlt (Int.ofNat_lt.1 e)
      have hfin : Seg L M a b ∧ SrtC cf M a b := by
        rcases hib with hib | hib
        · obtain rfl : i = b := by omega
          exact ⟨hseg, hsrt⟩
        · subst hib
          refine ⟨⟨hseg.len, hseg.perm, fun x hx => ?_, fun x h1 h2 => ?_⟩, fun p q h1 h2 h3 => by omega⟩
          · by_cases c : a ≤ x ∧ x < a + 1
            · obtain ⟨k, k1, k2, e⟩ := hseg.ins x c.1 c.2
              rw [e, show k = x by omega]
            · exact hseg.out x c
          · obtain ⟨k, k1, k2, e⟩ := hseg.ins x h1 (by omega)
            exact ⟨k, k1, by omega, e⟩
      simp (maxDischargeDepth := 99) [cst86_1, hl, f0, f1, f2, f3, f8, hlt, hlt']
      exact ⟨hk, M, hg, hfin.1, hfin.2⟩
  · refine ⟨a + 1, L, rfl, Nat.lt_succ_self a, .inr rfl, Seg.refl _ _ _, fun p q h1 h2 h3 => absurd (Nat.lt_of_le_of_lt h1 h2) (Nat.not_lt.2 (Nat.le_of_lt_succ h3)), by simp, by simp, by simp, by simp, by simp, by simp, KeepsBut.refl _ _, h⟩
end Go.Proofs.Ythjijjkoeoemgaa.Ab

/- The library's stable sort at arrivals: the merge of two blocks, the plain part. -/
namespace Go.Proofs.Ythjijjkoeoemgaa.Ab
open Go
set_option maxRecDepth 20000
set_option maxHeartbeats 4000000
set_option linter.unusedSimpArgs false
set_option linter.unusedVariables false

def CrossC (L : List Arr) (a m b : Nat) : Prop := ∀ i j, a ≤ i → i < m → m ≤ j → j < b → (rAt L i).seq < (rAt L j).seq
theorem shr_half (s : Nat) : shiftBin .shr .u64 ((s : Nat) : Int) 1 = some (.int .u64 ((s / 2 : Nat) : Int)) := by
  have e : ((s : Int)).fdiv 2 = ((s / 2 : Nat) : Int) := by rw [Int.fdiv_eq_ediv_of_nonneg _ (by decide)]; omega
  unfold shiftBin
  rw [if_neg (by decide)]
  show some (SV.int IntKind.u64 ((s : Int).fdiv ((2 : Nat) : Int))) = _
  rw [show ((2 : Nat) : Int) = 2 from rfl, e]
theorem wr_u (s : Nat) (h : s ≤ 4398046511104) : wr .u64 ((s : Nat) : Int) = ((s : Nat) : Int) := wru64 (by omega) (by omega)

/-! ### one element ahead of a row -/
def FndA (cf : Arr → Arr → Int) (L : List Arr) (x : Arr) (m b i j : Nat) : Prop := m ≤ i ∧ i ≤ j ∧ j ≤ b ∧ (∀ p, m ≤ p → p < i → ltC cf (rAt L p) x) ∧ (∀ p, j ≤ p → p < b → ltC cf x (rAt L p))
theorem fndA_lt {cf : Arr → Arr → Int} (hc : COrd cf) {L : List Arr} {x : Arr} {m b i j h : Nat} (hs : SrtC cf L m b) (hf : FndA cf L x m b i j) (h1 : i ≤ h) (h2 : h < j) (hlt : ltC cf (rAt L h) x) : FndA cf L x m b (h + 1) j := by
  obtain ⟨a1, a2, a3, a4, a5⟩ := hf
  refine ⟨by omega, by omega, a3, fun p p1 p2 => ?_, a5⟩
  by_cases c : p = h
  · rw [c]; exact hlt
  · exact (hs p h p1 (by omega) (by omega)).trans hc hlt
theorem fndA_ge {cf : Arr → Arr → Int} (hc : COrd cf) {L : List Arr} {x : Arr} {m b i j h : Nat} (hs : SrtC cf L m b) (hf : FndA cf L x m b i j) (h1 : i ≤ h) (h2 : h < j) (hlt : ltC cf x (rAt L h)) : FndA cf L x m b i h := by
  obtain ⟨a1, a2, a3, a4, a5⟩ := hf
  refine ⟨a1, by omega, by omega, a4, fun p p1 p2 => ?_⟩
  by_cases c : p = h
  · rw [c]; exact hlt
  · exact hlt.trans hc (hs h p (by omega) (by omega) p2)
/-- The element at a has gone up to k. -/
def UpI (L M : List Arr) (a k : Nat) : Prop := ∀ x, rAt M x = if a ≤ x ∧ x < k then rAt L (x + 1) else if x = k then rAt L a else rAt L x
theorem up_step {L M : List Arr} {a k : Nat} (h : UpI L M a k) (ha : a ≤ k) (hk : k + 1 < M.length) : UpI L (swp M k (k + 1)) a (k + 1) := by
  intro x
  rw [rAt_swp (by omega) hk, h k, h (k + 1), h x]
  by_cases c1 : x = k + 1
  · rw [if_pos c1, if_neg (show ¬ (a ≤ k ∧ k < k) by omega), if_pos rfl, if_neg (show ¬ (a ≤ x ∧ x < k + 1) by omega), if_pos c1]
  · rw [if_neg c1]
    by_cases c2 : x = k
    · rw [if_pos c2, if_neg (show ¬ (a ≤ k + 1 ∧ k + 1 < k) by omega), if_neg (show ¬ k + 1 = k by omega), if_pos (show a ≤ x ∧ x < k + 1 by omega), c2]
    · rw [if_neg c2]
      by_cases c3 : a ≤ x ∧ x < k
      · rw [if_pos c3, if_pos (show a ≤ x ∧ x < k + 1 by omega)]
      · rw [if_neg c3, if_neg c2, if_neg (show ¬ (a ≤ x ∧ x < k + 1) by omega), if_neg c1]
theorem up_done {cf : Arr → Arr → Int} (hc : COrd cf) {L M : List Arr} {a b i : Nat} (hs : SrtC cf L (a + 1) b) (hf : FndA cf L (rAt L a) (a + 1) b i i) (h : UpI L M a (i - 1)) : SrtC cf M a b := by
  obtain ⟨a1, _, a3, a4, a5⟩ := hf
  intro p q p1 p2 p3
  rw [h p, h q]
  by_cases c1 : p < i - 1
  · rw [if_pos ⟨p1, c1⟩]
    by_cases c2 : q < i - 1
    · rw [if_pos ⟨by omega, c2⟩]
      exact hs (p + 1) (q + 1) (by omega) (by omega) (by omega)
    · rw [if_neg (fun e => c2 e.2)]
      by_cases c3 : q = i - 1
      · rw [if_pos c3]
        exact a4 (p + 1) (by omega) (by omega)
      · rw [if_neg c3]
        exact hs (p + 1) q (by omega) (by omega) p3
  · rw [if_neg (fun e => c1 e.2), if_neg (show ¬ (a ≤ q ∧ q < i - 1) by omega), if_neg (show ¬ q = i - 1 by omega)]
    by_cases c3 : p = i - 1
    · rw [if_pos c3]
      exact a5 q (by omega) p3
    · rw [if_neg c3]
      exact hs p q (by omega) p2 p3

/-! ### one element behind a row -/
def FndB (cf : Arr → Arr → Int) (L : List Arr) (x : Arr) (a m i j : Nat) : Prop := a ≤ i ∧ i ≤ j ∧ j ≤ m ∧ (∀ p, a ≤ p → p < i → ltC cf (rAt L p) x) ∧ (∀ p, j ≤ p → p < m → ltC cf x (rAt L p))
def DownI (L M : List Arr) (m k : Nat) : Prop := ∀ x, rAt M x = if k < x ∧ x ≤ m then rAt L (x - 1) else if x = k then rAt L m else rAt L x
theorem down_step {L M : List Arr} {m k : Nat} (h : DownI L M m (k + 1)) (ha : k + 1 ≤ m) (hk : k + 1 < M.length) : DownI L (swp M (k + 1) k) m k := by
  intro x
  rw [rAt_swp hk (by omega), h k, h (k + 1), h x]
  by_cases c1 : x = k
  · rw [if_pos c1, if_neg (show ¬ (k + 1 < k + 1 ∧ k + 1 ≤ m) by omega), if_pos rfl, if_neg (show ¬ (k < x ∧ x ≤ m) by omega), if_pos c1]
  · rw [if_neg c1]
    by_cases c2 : x = k + 1
    · rw [if_pos c2, if_neg (show ¬ (k + 1 < k ∧ k ≤ m) by omega), if_neg (show ¬ k = k + 1 by omega), if_pos (show k < x ∧ x ≤ m by omega), c2]
      rfl
    · rw [if_neg c2]
      by_cases c3 : k + 1 < x ∧ x ≤ m
      · rw [if_pos c3, if_pos (show k < x ∧ x ≤ m by omega)]
      · rw [if_neg c3, if_neg c2, if_neg (show ¬ (k < x ∧ x ≤ m) by omega), if_neg c1]
theorem down_done {cf : Arr → Arr → Int} (hc : COrd cf) {L M : List Arr} {a m i : Nat} (hs : SrtC cf L a m) (hf : FndB cf L (rAt L m) a m i i) (h : DownI L M m i) : SrtC cf M a (m + 1) := by
  obtain ⟨a1, _, a3, a4, a5⟩ := hf
  intro p q p1 p2 p3
  rw [h p, h q]
  by_cases c1 : p < i
  · rw [if_neg (show ¬ (i < p ∧ p ≤ m) by omega), if_neg (show ¬ p = i by omega)]
    by_cases c2 : i < q ∧ q ≤ m
    · rw [if_pos c2]
      exact hs p (q - 1) p1 (by omega) (by omega)
    · rw [if_neg c2]
      by_cases c3 : q = i
      · rw [if_pos c3]
        exact a4 p p1 c1
      · rw [if_neg c3]
        exact hs p q p1 p2 (by omega)
  · by_cases c3 : p = i
    · rw [if_neg (show ¬ (i < p ∧ p ≤ m) by omega), if_pos c3, if_pos (show i < q ∧ q ≤ m by omega)]
      exact a5 (q - 1) (by omega) (by omega)
    · rw [if_pos (show i < p ∧ p ≤ m by omega), if_pos (show i < q ∧ q ≤ m by omega)]
      exact hs (p - 1) (q - 1) (by omega) (by omega) (by omega)

/-! ### both -/
/-- The place of the cut: what is known of it. -/
def CutI (cf : Arr → Arr → Int) (L : List Arr) (lo hi n s r : Nat) : Prop := lo ≤ s ∧ s ≤ r ∧ r ≤ hi ∧ (s = lo ∨ ltC cf (rAt L (s - 1)) (rAt L (n - s))) ∧ (r = hi ∨ ltC cf (rAt L (n - 1 - r)) (rAt L r))
theorem rotT_of {L : List Arr} {a m b : Nat} (h1 : a ≤ m) (h2 : m ≤ b) {M : List Arr} (hl : M.length = L.length) (hp : M.Perm L) (h : ∀ x, rAt M x = rotT L a m b x) : Seg L M a b where
  len := hl
  perm := hp
  out := fun i hi => by rw [h i]; unfold rotT; rw [if_neg hi]
  ins := fun i i1 i2 => by
    rw [h i]
    unfold rotT
    rw [if_pos ⟨i1, i2⟩]
    split
    · exact ⟨_, by omega, by omega, rfl⟩
    · exact ⟨_, by omega, by omega, rfl⟩
structure Both (cf : Arr → Arr → Int) (L M : List Arr) (a s d e b : Nat) : Prop where
  seg : Seg L M a b
  s1 : SrtC cf M a s
  s2 : SrtC cf M s d
  s3 : SrtC cf M d e
  s4 : SrtC cf M e b
  c1 : CrossC M a s d
  c2 : CrossC M d e b
  lt : ∀ i j, a ≤ i → i < d → d ≤ j → j < b → ltC cf (rAt M i) (rAt M j)
/-- What a turn between the cut and its mirror makes. -/
theorem both_of {cf : Arr → Arr → Int} (hc : COrd cf) {L M : List Arr} {a m b s d e : Nat} (h1 : SrtC cf L a m) (h2 : SrtC cf L m b) (hx : CrossC L a m b) (hs1 : a ≤ s) (hs2 : s ≤ m) (he1 : m ≤ e) (he2 : e ≤ b) (hd : d + m = s + e) (hmb : b ≤ L.length)
    (k1 : ∀ p q, a ≤ p → p < s → e ≤ q → q < b → ltC cf (rAt L p) (rAt L q)) (k2 : ∀ p q, s ≤ p → p < m → m ≤ q → q < e → ltC cf (rAt L q) (rAt L p))
    (hl : M.length = L.length) (hp : M.Perm L) (h : ∀ x, rAt M x = rotT L s m e x) : Both cf L M a s d e b := by
  have r1 : ∀ x, x < s → rAt M x = rAt L x := fun x hx => by rw [h x]; unfold rotT; rw [if_neg (by omega)]
  have r2 : ∀ x, s ≤ x → x < d → rAt M x = rAt L (x + (m - s)) := fun x h3 h4 => by rw [h x]; unfold rotT; rw [if_pos (by omega), if_pos (by omega)]
  have r3 : ∀ x, d ≤ x → x < e → rAt M x = rAt L (x - (e - m)) := fun x h3 h4 => by rw [h x]; unfold rotT; rw [if_pos (by omega), if_neg (by omega)]
  have r4 : ∀ x, e ≤ x → rAt M x = rAt L x := fun x h3 => by rw [h x]; unfold rotT; rw [if_neg (by omega)]
  refine ⟨(rotT_of hs2 he1 hl hp h).widen hs1 he2, ?_, ?_, ?_, ?_, ?_, ?_, ?_⟩
  · intro i j i1 i2 i3
    rw [r1 i (by omega), r1 j i3]
    exact h1 i j i1 i2 (by omega)
  · intro i j i1 i2 i3
    rw [r2 i i1 (by omega), r2 j (by omega) i3]
    exact h2 _ _ (by omega) (by omega) (by omega)
  · intro i j i1 i2 i3
    rw [r3 i i1 (by omega), r3 j (by omega) i3]
    exact h1 _ _ (by omega) (by omega) (by omega)
  · intro i j i1 i2 i3
    rw [r4 i i1, r4 j (by omega)]
    exact h2 i j (by omega) i2 i3
  · intro i j i1 i2 i3 i4
    rw [r1 i i2, r2 j i3 i4]
    exact hx _ _ i1 (by omega) (by omega) (by omega)
  · intro i j i1 i2 i3 i4
    rw [r3 i i1 i2, r4 j i3]
    exact hx _ _ (by omega) (by omega) (by omega) i4
  · intro i j i1 i2 i3 i4
    by_cases c1 : i < s
    · rw [r1 i c1]
      by_cases c2 : j < e
      · rw [r3 j i3 c2]
        exact h1 _ _ i1 (by omega) (by omega)
      · rw [r4 j (by omega)]
        exact k1 i j i1 c1 (by omega) i4
    · rw [r2 i (by omega) i2]
      by_cases c2 : j < e
      · rw [r3 j i3 c2]
        exact k2 _ _ (by omega) (by omega) (by omega) (by omega)
      · rw [r4 j (by omega)]
        exact h2 _ _ (by omega) (by omega) i4
/-- What the cut says of all. -/
theorem cut_all {cf : Arr → Arr → Int} (hc : COrd cf) {L : List Arr} {a m b lo hi n s : Nat} (h1 : SrtC cf L a m) (h2 : SrtC cf L m b) (hcut : CutI cf L lo hi n s s) (hlo : a ≤ lo) (hhi : hi ≤ m) (hn : n = s + (n - s)) (he1 : m ≤ n - s) (he2 : n - s ≤ b)
    (hl : lo = a ∨ n - lo = b) (hh : hi = m ∨ n - hi = m) : (∀ p q, a ≤ p → p < s → n - s ≤ q → q < b → ltC cf (rAt L p) (rAt L q)) ∧ (∀ p q, s ≤ p → p < m → m ≤ q → q < n - s → ltC cf (rAt L q) (rAt L p)) := by
  obtain ⟨c1, _, c3, c4, c5⟩ := hcut
  constructor
  · intro p q p1 p2 p3 p4
    rcases c4 with c4 | c4
    · rcases hl with hl | hl
      · omega
      · omega
    · have e1 : ltC cf (rAt L p) (rAt L (n - s)) := by
        by_cases g : p = s - 1
        · rw [g]; exact c4
        · exact (h1 p (s - 1) p1 (by omega) (by omega)).trans hc c4
      by_cases g : q = n - s
      · rw [g]; exact e1
      · exact e1.trans hc (h2 (n - s) q he1 (by omega) p4)
  · intro p q p1 p2 p3 p4
    rcases c5 with c5 | c5
    · rcases hh with hh | hh
      · omega
      · omega
    · have e1 : ltC cf (rAt L q) (rAt L s) := by
        by_cases g : q = n - 1 - s
        · rw [g]; exact c5
        · exact (h2 q (n - 1 - s) p3 (by omega) (by omega)).trans hc c5
      by_cases g : p = s
      · rw [g]; exact e1
      · exact e1.trans hc (h1 s p (by omega) (by omega) p2)
/-- Both halves sorted: the whole is. -/
theorem both_done {cf : Arr → Arr → Int} {L M M1 M2 : List Arr} {a s d e b : Nat} (hB : Both cf L M a s d e b) (had : a ≤ d) (hdb : d ≤ b) (g1 : Seg M M1 a d) (t1 : SrtC cf M1 a d) (g2 : Seg M1 M2 d b) (t2 : SrtC cf M2 d b) : Seg L M2 a b ∧ SrtC cf M2 a b := by
  refine ⟨hB.seg.trans ((g1.widen (Nat.le_refl _) hdb).trans (g2.widen had (Nat.le_refl _))), ?_⟩
  intro i j i1 i2 i3
  by_cases c1 : j < d
  · rw [g2.out i (by omega), g2.out j (by omega)]
    exact t1 i j i1 i2 c1
  · by_cases c2 : d ≤ i
    · exact t2 i j c2 i2 i3
    · rw [g2.out i (by omega)]
      obtain ⟨p, p1, p2, e1⟩ := g1.ins i i1 (by omega)
      obtain ⟨q, q1, q2, e2⟩ := g2.ins j (by omega) i3
      rw [e1, e2, g1.out q (by omega)]
      exact hB.lt p q p1 p2 q1 q2
end Go.Proofs.Ythjijjkoeoemgaa.Ab

/- The library's stable sort at arrivals: the merge of two blocks. -/
namespace Go.Proofs.Ythjijjkoeoemgaa.Ab
open Go
set_option maxRecDepth 20000
set_option maxHeartbeats 8000000
set_option linter.unusedSimpArgs false
set_option linter.unusedVariables false

def frS (fr : List AV) (id fn : Nat) (caps : List SV) (L : List Arr) (a m b : Nat) : Prop :=
  fr.length = 220 ∧ getSlot fr 0 = .one (.slice id 0 3 L.length none) ∧ getSlot fr 1 = .one (.int .i64 (a : Int)) ∧ getSlot fr 2 = .one (.int .i64 (m : Int)) ∧ getSlot fr 3 = .one (.int .i64 (b : Int)) ∧ getSlot fr 4 = .one (.func fn caps)
theorem mid_bounds {i j b l : Nat} (h : i < j) (h2 : j ≤ b) (h3 : b ≤ l) (h4 : l ≤ 1048576) : i ≤ (i + j) / 2 ∧ (i + j) / 2 < j ∧ i + j ≤ 4398046511104 ∧ (i + j) / 2 ≤ 4398046511104 ∧ (i + j) / 2 < l ∧ (i + j) / 2 + 1 ≤ 4398046511104 := by omega

/-! ### the search ahead -/
def ISA (cf : Arr → Arr → Int) (σ : AHeap) (id fn : Nat) (caps : List SV) (L : List Arr) (a m b : Nat) (k : Nat) (fr : List AV) (τ : AHeap) : Prop :=
  ∃ i j, k = j - i ∧ FndA cf L (rAt L a) m b i j ∧ frS fr id fn caps L a m b ∧ getSlot fr 10 = .one (.int .i64 (i : Int)) ∧ getSlot fr 11 = .one (.int .i64 (j : Int)) ∧ Keeps σ τ
def OSA (cf : Arr → Arr → Int) (σ : AHeap) (id fn : Nat) (caps : List SV) (L : List Arr) (a m b : Nat) (fr : List AV) (τ : AHeap) : Prop :=
  ∃ i, FndA cf L (rAt L a) m b i i ∧ frS fr id fn caps L a m b ∧ getSlot fr 10 = .one (.int .i64 (i : Int)) ∧ Keeps σ τ
theorem symA {R : KN} (cf : Arr → Arr → Int) (hc : COrd cf) (σ : AHeap) (id fn : Nat) (caps : List SV) (K : Nat) (ok : Arr → Prop) (hcmp : CmpOk σ id fn caps K ok cf) (L : List Arr) (hok : AllOk ok L) (a m b : Nat) (ham : a < m) (hb : b ≤ L.length) (hm : L.length ≤ 1048576) (hs : SrtC cf L m b) (hx : ∀ j, m ≤ j → j < b → (rAt L a).seq < (rAt L j).seq)
    (hg : σ.get id = some ⟨acells L, .own⟩) (f : Nat) (hf : K + b + 20 ≤ f) (k : Nat) (hkb : k ≤ b) (fr : List AV) (τ : AHeap) (hI : ISA cf σ id fn caps L a m b k fr τ) :
    EndsC .go (evCall D9 f) f (ACode.loop cst87_0) fr τ (fun _ _ _ => False) (fun e _ fr τ => e = 0 ∧ OSA cf σ id fn caps L a m b fr τ) R := by
  refine ends_loop (I := ISA cf σ id fn caps L a m b) ?_ (k := k) hI (by omega)
  rintro k fr τ ⟨i, j, rfl, hF, ⟨hl, f0, f1, f2, f3, f4⟩, f10, f11, hk⟩
  have hg1 : τ.get id = some ⟨acells L, .own⟩ := by rw [hk.2 _ (AHeap.get_lt hg), hg]
  by_cases hlt : i < j
  · have hlt' : (i : Int) < (j : Int) := Int.ofNat_lt.2 hlt
    obtain ⟨z1, z2, z3, z4, z5, z6⟩ := mid_bounds hlt hF.2.2.1 hb hm
    have e1 : wr .i64 ((i : Int) + (j : Int)) = ((i + j : Nat) : Int) := wr_add z3
    have e2 := wr_u (i + j) z3
    have e3 := shr_half (i + j)
    have e4 : wr .i64 (((i + j) / 2 : Nat) : Int) = (((i + j) / 2 : Nat) : Int) := wr_nat z4
    have e5 : wr .i64 ((((i + j) / 2 : Nat) : Int) + 1) = (((i + j) / 2 + 1 : Nat) : Int) := wr_succ z6
    obtain ⟨h, hh⟩ : ∃ h, h = (i + j) / 2 := ⟨_, rfl⟩
    rw [← hh] at z1 z2 z4 z5 z6 e3 e4 e5
    have hm2 : m ≤ h := Nat.le_trans hF.1 z1
    have hseq := hx h hm2 (Nat.lt_of_lt_of_le z2 hF.2.2.1)
    obtain ⟨lt1, lt2⟩ := ltC_of hc hseq
    have zA : a < L.length := by omega
    have p1 := acells_part L h z5
    have p2 := acells_part L a zA
    have hcall := hcmp τ (KeepsBut.of hk) f (by omega) (rAt L h) (rAt L a) (hok.at z5) (hok.at zA)
    have hA1 := fun e => fndA_lt hc hs hF z1 z2 (lt1 e)
    have hA2 := fun e => fndA_ge hc hs hF z1 z2 (lt2 e)
    generalize hu : rAt L h = u at p1 hcall hA1 hA2
    generalize hv : rAt L a = v at p2 hcall
    simp only [Arr.av, Arr.cells] at p1 p2
    simp (maxDischargeDepth := 99) [cst87_0, hl, f0, f1, f2, f3, f4, f10, f11, hlt, hlt', e1, e2, e3, e4, z5, zA, hg1, p1, p2, -partA, -Int.natCast_add, -Int.natCast_ediv]
    refine hcall.mono ?_
    rintro x τ3 ⟨rfl, k3⟩
    by_cases hneg : cf u v < 0
    · simp (maxDischargeDepth := 99) [hl, hneg, e5, -Int.natCast_add]
      exact ⟨j - (h + 1), by omega, h + 1, j, rfl, hA1 (by rw [hv]; exact hneg), ⟨by simp [hl], by simp [hl, f0], by simp [hl, f1], by simp [hl, f2], by simp [hl, f3], by simp [hl, f4]⟩, by simp [hl], by simp [hl, f11], hk.trans k3⟩
    · simp (maxDischargeDepth := 99) [hl, hneg]
      exact ⟨h - i, by omega, i, h, rfl, hA2 (by rw [hv]; exact hneg), ⟨by simp [hl], by simp [hl, f0], by simp [hl, f1], by simp [hl, f2], by simp [hl, f3], by simp [hl, f4]⟩, by simp [hl, f10], by simp [hl], hk.trans k3⟩
  · have hij : i = j := Nat.le_antisymm hF.2.1 (Nat.not_lt.1 hlt)
    subst hij
    simp (maxDischargeDepth := 99) [cst87_0, hl, f10, f11]
    exact ⟨i, hF, ⟨by simp [hl], by simp [hl, f0], by simp [hl, f1], by simp [hl, f2], by simp [hl, f3], by simp [hl, f4]⟩, by simp [hl, f10], hk⟩

/-! ### the walk up -/
def IUp (σ : AHeap) (id fn : Nat) (caps : List SV) (L : List Arr) (a m b i : Nat) (k : Nat) (fr : List AV) (τ : AHeap) : Prop :=
  ∃ t M, k = i - 1 - t ∧ a ≤ t ∧ t ≤ i - 1 ∧ UpI L M a t ∧ Seg L M a b ∧ fr.length = 220 ∧ getSlot fr 0 = .one (.slice id 0 3 L.length none) ∧ getSlot fr 10 = .one (.int .i64 (i : Int)) ∧ getSlot fr 13 = .one (.int .i64 (t : Int)) ∧ KeepsBut id σ τ ∧ τ.get id = some ⟨acells M, .own⟩
def OUp (σ : AHeap) (id : Nat) (L : List Arr) (a b i : Nat) (fr : List AV) (τ : AHeap) : Prop :=
  ∃ M, UpI L M a (i - 1) ∧ Seg L M a b ∧ fr.length = 220 ∧ KeepsBut id σ τ ∧ τ.get id = some ⟨acells M, .own⟩
theorem up_b {t i b l n : Nat} (h : t < i - 1) (h2 : i ≤ b) (h3 : b ≤ l) (h4 : l ≤ 1048576) (h5 : n = l) : t < l ∧ t + 1 < l ∧ t < n ∧ t + 1 < n ∧ t + 1 ≤ 4398046511104 ∧ t + 1 < b ∧ t + 1 ≤ i - 1 ∧ i - 1 - (t + 1) < i - 1 - t := by omega
theorem symUp {R : KN} (σ : AHeap) (id fn : Nat) (caps : List SV) (L : List Arr) (a m b i : Nat) (hi : i ≤ b) (hi0 : 0 < i) (hb : b ≤ L.length) (hm : L.length ≤ 1048576) (f : Nat) (k : Nat) (hkb : k < f) (fr : List AV) (τ : AHeap) (hI : IUp σ id fn caps L a m b i k fr τ) :
    EndsC .go (evCall D9 f) f (ACode.loop cst87_1) fr τ (fun _ _ _ => False) (fun e _ fr τ => e = 2 ∧ OUp σ id L a b i fr τ) R := by
  refine ends_loop (I := IUp σ id fn caps L a m b i) ?_ (k := k) hI hkb
  rintro k fr τ ⟨t, M, rfl, ha, ht, hU, hS, hl, f0, f10, f13, hk, hg⟩
  have e0 : wr .i64 ((i : Int) - 1) = ((i - 1 : Nat) : Int) := by
    have := wr_sub (a := i) (b := 1) hi0 (by omega)
    simpa using this
  by_cases hlt : t < i - 1
  · have hlt' : (t : Int) < ((i - 1 : Nat) : Int) := Int.ofNat_lt.2 hlt
    obtain ⟨z1, z2, z3, z4, z5, z6, z7, z8⟩ := up_b hlt hi hb hm hS.len
    have e1 : wr .i64 ((t : Int) + 1) = ((t + 1 : Nat) : Int) := wr_succ z5
    have p1 := acells_part M t z3
    have p2 := acells_part M (t + 1) z4
    obtain ⟨τ1, τ2, w1, w2, g2, k2⟩ := swap_heap (i := t) (j := t + 1) hg z3 z4
    have hU2 := up_step hU ha z4
    have hS2 := hS.trans (Seg.swp (L := M) (a := a) (b := b) (i := t) (j := t + 1) ha (Nat.lt_of_succ_lt z6) (Nat.le_succ_of_le ha) z6 (by rw [hS.len]; exact hb))
    generalize rAt M t = u at p1 w2
    generalize rAt M (t + 1) = v at p2 w1
    generalize swp M t (t + 1) = M2 at g2 hU2 hS2
    simp only [Arr.av, Arr.cells] at p1 p2
    simp (maxDischargeDepth := 99) [cst87_1, hl, f0, f10, f13, hlt, hlt', e0, e1, z1, z2, hg, p1, p2, w1, w2, -partA, -writeAt, -Int.natCast_add]
    exact ⟨_, z8, t + 1, M2, rfl, Nat.le_succ_of_le ha, z7, hU2, hS2, by simp [hl], by simp [hl, f0], by simp [hl, f10], by simp [hl], hk.trans k2, g2⟩
  · obtain rfl : t = i - 1 := Nat.le_antisymm ht (Nat.not_lt.1 hlt)
    simp (maxDischargeDepth := 99) [cst87_1, hl, f10, f13, e0]
    exact ⟨M, hU, hS, by simp [hl], hk, hg⟩

/-! ### the search behind -/
theorem fndB_lt {cf : Arr → Arr → Int} (hc : COrd cf) {L : List Arr} {x : Arr} {a m i j h : Nat} (hs : SrtC cf L a m) (hf : FndB cf L x a m i j) (h1 : i ≤ h) (h2 : h < j) (hlt : ltC cf (rAt L h) x) : FndB cf L x a m (h + 1) j := fndA_lt hc hs hf h1 h2 hlt
theorem fndB_ge {cf : Arr → Arr → Int} (hc : COrd cf) {L : List Arr} {x : Arr} {a m i j h : Nat} (hs : SrtC cf L a m) (hf : FndB cf L x a m i j) (h1 : i ≤ h) (h2 : h < j) (hlt : ltC cf x (rAt L h)) : FndB cf L x a m i h := fndA_ge hc hs hf h1 h2 hlt
def ISB (cf : Arr → Arr → Int) (σ : AHeap) (id fn : Nat) (caps : List SV) (L : List Arr) (a m b : Nat) (k : Nat) (fr : List AV) (τ : AHeap) : Prop :=
  ∃ i j, k = j - i ∧ FndB cf L (rAt L m) a m i j ∧ frS fr id fn caps L a m b ∧ getSlot fr 14 = .one (.int .i64 (i : Int)) ∧ getSlot fr 15 = .one (.int .i64 (j : Int)) ∧ Keeps σ τ
def OSB (cf : Arr → Arr → Int) (σ : AHeap) (id fn : Nat) (caps : List SV) (L : List Arr) (a m b : Nat) (fr : List AV) (τ : AHeap) : Prop :=
  ∃ i, FndB cf L (rAt L m) a m i i ∧ frS fr id fn caps L a m b ∧ getSlot fr 14 = .one (.int .i64 (i : Int)) ∧ Keeps σ τ
theorem symB {R : KN} (cf : Arr → Arr → Int) (hc : COrd cf) (σ : AHeap) (id fn : Nat) (caps : List SV) (K : Nat) (ok : Arr → Prop) (hcmp : CmpOk σ id fn caps K ok cf) (L : List Arr) (hok : AllOk ok L) (a m b : Nat) (hb : m < L.length) (hm : L.length ≤ 1048576) (hs : SrtC cf L a m) (hx : ∀ j, a ≤ j → j < m → (rAt L j).seq < (rAt L m).seq)
    (hg : σ.get id = some ⟨acells L, .own⟩) (f : Nat) (hf : K + m + 20 ≤ f) (k : Nat) (hkb : k ≤ m) (fr : List AV) (τ : AHeap) (hI : ISB cf σ id fn caps L a m b k fr τ) :
    EndsC .go (evCall D9 f) f (ACode.loop cst87_2) fr τ (fun _ _ _ => False) (fun e _ fr τ => e = 4 ∧ OSB cf σ id fn caps L a m b fr τ) R := by
  refine ends_loop (I := ISB cf σ id fn caps L a m b) ?_ (k := k) hI (by omega)
  rintro k fr τ ⟨i, j, rfl, hF, ⟨hl, f0, f1, f2, f3, f4⟩, f10, f11, hk⟩
  have hg1 : τ.get id = some ⟨acells L, .own⟩ := by rw [hk.2 _ (AHeap.get_lt hg), hg]
  by_cases hlt : i < j
  · have hlt' : (i : Int) < (j : Int) := Int.ofNat_lt.2 hlt
    obtain ⟨z1, z2, z3, z4, z5, z6⟩ := mid_bounds hlt hF.2.2.1 (Nat.le_of_lt hb) hm
    have e1 : wr .i64 ((i : Int) + (j : Int)) = ((i + j : Nat) : Int) := wr_add z3
    have e2 := wr_u (i + j) z3
    have e3 := shr_half (i + j)
    have e4 : wr .i64 (((i + j) / 2 : Nat) : Int) = (((i + j) / 2 : Nat) : Int) := wr_nat z4
    have e5 : wr .i64 ((((i + j) / 2 : Nat) : Int) + 1) = (((i + j) / 2 + 1 : Nat) : Int) := wr_succ z6
    obtain ⟨h, hh⟩ : ∃ h, h = (i + j) / 2 := ⟨_, rfl⟩
    rw [← hh] at z1 z2 z4 z5 z6 e3 e4 e5
    have hm2 : a ≤ h := Nat.le_trans hF.1 z1
    have hseq := hx h hm2 (Nat.lt_of_lt_of_le z2 hF.2.2.1)
    obtain ⟨lt1, lt2⟩ := ltC_of hc hseq
    have p1 := acells_part L m hb
    have p2 := acells_part L h z5
    have hcall := hcmp τ (KeepsBut.of hk) f (by omega) (rAt L m) (rAt L h) (hok.at hb) (hok.at z5)
    have hA1 := fun e => fndB_lt hc hs hF z1 z2 (lt2 e)
    have hA2 := fun e => fndB_ge hc hs hF z1 z2 (lt1 e)
    generalize hu : rAt L m = u at p1 hcall
    generalize hv : rAt L h = v at p2 hcall
    simp only [Arr.av, Arr.cells] at p1 p2
    simp (maxDischargeDepth := 99) [cst87_2, hl, f0, f1, f2, f3, f4, f10, f11, hlt, hlt', e1, e2, e3, e4, z5, hb, hg1, p1, p2, -partA, -Int.natCast_add, -Int.natCast_ediv]
    refine hcall.mono ?_
    rintro x τ3 ⟨rfl, k3⟩
    by_cases hneg : cf u v < 0
    · simp (maxDischargeDepth := 99) [hl, hneg]
      exact ⟨h - i, by omega, i, h, rfl, hA2 (by rw [hu, hv]; exact hneg), ⟨by simp [hl], by simp [hl, f0], by simp [hl, f1], by simp [hl, f2], by simp [hl, f3], by simp [hl, f4]⟩, by simp [hl, f10], by simp [hl], hk.trans k3⟩
    · simp (maxDischargeDepth := 99) [hl, hneg, e5, -Int.natCast_add]
      exact ⟨j - (h + 1), by omega, h + 1, j, rfl, hA1 (by rw [hu, hv]; exact hneg), ⟨by simp [hl], by simp [hl, f0], by simp [hl, f1], by simp [hl, f2], by simp [hl, f3], by simp [hl, f4]⟩, by simp [hl], by simp [hl, f11], hk.trans k3⟩
  · have hij : i = j := Nat.le_antisymm hF.2.1 (Nat.not_lt.1 hlt)
    subst hij
    simp (maxDischargeDepth := 99) [cst87_2, hl, f10, f11]
    exact ⟨i, hF, ⟨by simp [hl], by simp [hl, f0], by simp [hl, f1], by simp [hl, f2], by simp [hl, f3], by simp [hl, f4]⟩, by simp [hl, f10], hk⟩

/-! ### the walk down -/
def IDn (σ : AHeap) (id : Nat) (L : List Arr) (a m b i : Nat) (k : Nat) (fr : List AV) (τ : AHeap) : Prop :=
  ∃ t M, t = k ∧ i ≤ t ∧ t ≤ m ∧ DownI L M m t ∧ Seg L M a b ∧ fr.length = 220 ∧ getSlot fr 0 = .one (.slice id 0 3 L.length none) ∧ getSlot fr 14 = .one (.int .i64 (i : Int)) ∧ getSlot fr 17 = .one (.int .i64 (t : Int)) ∧ KeepsBut id σ τ ∧ τ.get id = some ⟨acells M, .own⟩
def ODn (σ : AHeap) (id : Nat) (L : List Arr) (a m b i : Nat) (fr : List AV) (τ : AHeap) : Prop :=
  ∃ M, DownI L M m i ∧ Seg L M a b ∧ fr.length = 220 ∧ KeepsBut id σ τ ∧ τ.get id = some ⟨acells M, .own⟩
theorem dn_b {t i m b l n a : Nat} (h : i < t + 1) (h2 : t + 1 ≤ m) (h3 : m < b) (h6 : b ≤ l) (h4 : l ≤ 1048576) (h5 : n = l) (h7 : a ≤ i) : t < l ∧ t + 1 < l ∧ t < n ∧ t + 1 < n ∧ t + 1 ≤ 4398046511104 ∧ t + 1 < b ∧ t < b ∧ a ≤ t ∧ a ≤ t + 1 ∧ i ≤ t ∧ t ≤ m := by omega
theorem symDn {R : KN} (σ : AHeap) (id : Nat) (L : List Arr) (a m b i : Nat) (hai : a ≤ i) (hmb : m < b) (hb : b ≤ L.length) (hm : L.length ≤ 1048576) (f : Nat) (k : Nat) (hkb : k < f) (fr : List AV) (τ : AHeap) (hI : IDn σ id L a m b i k fr τ) :
    EndsC .go (evCall D9 f) f (ACode.loop cst87_3) fr τ (fun _ _ _ => False) (fun e _ fr τ => e = 6 ∧ ODn σ id L a m b i fr τ) R := by
  refine ends_loop (I := IDn σ id L a m b i) ?_ (k := k) hI hkb
  rintro k fr τ ⟨t, M, rfl, ha, ht, hU, hS, hl, f0, f14, f17, hk, hg⟩
  by_cases hlt : i < t
  · obtain ⟨t, rfl⟩ : ∃ t', t = t' + 1 := ⟨t - 1, by omega⟩
    have hlt' : (i : Int) < ((t + 1 : Nat) : Int) := Int.ofNat_lt.2 hlt
    obtain ⟨z1, z2, z3, z4, z5, z6, z7, z8, z9, z10, z11⟩ := dn_b hlt ht hmb hb hm hS.len hai
    have e1 : wr .i64 (((t + 1 : Nat) : Int) - 1) = (t : Int) := wr_pred z5
    have p1 := acells_part M (t + 1) z4
    have p2 := acells_part M t z3
    obtain ⟨τ1, τ2, w1, w2, g2, k2⟩ := swap_heap (i := t + 1) (j := t) hg z4 z3
    have hU2 := down_step hU ht z4
    have hS2 := hS.trans (Seg.swp (L := M) (a := a) (b := b) (i := t + 1) (j := t) z9 z6 z8 z7 (by rw [hS.len]; exact hb))
    generalize rAt M (t + 1) = u at p1 w2
    generalize rAt M t = v at p2 w1
    generalize swp M (t + 1) t = M2 at g2 hU2 hS2
    simp only [Arr.av, Arr.cells] at p1 p2
    simp (maxDischargeDepth := 99) [cst87_3, hl, f0, f14, f17, hlt, hlt', e1, z1, z2, hg, p1, p2, w1, w2, -partA, -writeAt, -Int.natCast_add]
    exact ⟨t, Nat.lt_succ_self t, t, M2, rfl, z10, z11, hU2, hS2, by simp [hl], by simp [hl, f0], by simp [hl, f14], by simp [hl], hk.trans k2, g2⟩
  · obtain rfl : t = i := Nat.le_antisymm (Nat.not_lt.1 hlt) ha
    simp (maxDischargeDepth := 99) [cst87_3, hl, f14, f17]
    exact ⟨M, hU, hS, by simp [hl], hk, hg⟩
end Go.Proofs.Ythjijjkoeoemgaa.Ab

/- The library's stable sort at arrivals: the merge, whole. -/
namespace Go.Proofs.Ythjijjkoeoemgaa.Ab
open Go
set_option maxRecDepth 20000
set_option maxHeartbeats 8000000
set_option linter.unusedSimpArgs false
set_option linter.unusedVariables false

/-! ### the cut -/
def ISC (cf : Arr → Arr → Int) (σ : AHeap) (id fn : Nat) (caps : List SV) (L : List Arr) (a m b lo hi n d : Nat) (k : Nat) (fr : List AV) (τ : AHeap) : Prop :=
  ∃ s r, k = r - s ∧ CutI cf L lo hi n s r ∧ frS fr id fn caps L a m b ∧ getSlot fr 18 = .one (.int .i64 (d : Int)) ∧ getSlot fr 19 = .one (.int .i64 (n : Int)) ∧ getSlot fr 20 = .one (.int .i64 (s : Int)) ∧ getSlot fr 21 = .one (.int .i64 (r : Int)) ∧ getSlot fr 22 = .one (.int .i64 ((n - 1 : Nat) : Int)) ∧ Keeps σ τ
def OSC (cf : Arr → Arr → Int) (σ : AHeap) (id fn : Nat) (caps : List SV) (L : List Arr) (a m b lo hi n d : Nat) (fr : List AV) (τ : AHeap) : Prop :=
  ∃ s, CutI cf L lo hi n s s ∧ frS fr id fn caps L a m b ∧ getSlot fr 18 = .one (.int .i64 (d : Int)) ∧ getSlot fr 19 = .one (.int .i64 (n : Int)) ∧ getSlot fr 20 = .one (.int .i64 (s : Int)) ∧ Keeps σ τ
theorem cut_b {a m b lo hi n d s r l : Nat} (h1 : lo ≤ s) (h2 : s < r) (h3 : r ≤ hi) (hlo : a ≤ lo) (hhi : hi ≤ m) (hmb : m < b) (hb : b ≤ l) (hl : l ≤ 1048576) (q1 : n ≤ lo + b) (q2 : hi + m ≤ n) (c : Nat) (hc : c = (s + r) / 2) :
    s ≤ c ∧ c < r ∧ s + r ≤ 4398046511104 ∧ c ≤ 4398046511104 ∧ c < l ∧ c + 1 ≤ 4398046511104 ∧ n - 1 - c < l ∧ a ≤ c ∧ c < m ∧ m ≤ n - 1 - c ∧ n - 1 - c < b ∧ c ≤ n - 1 ∧ n - 1 ≤ 4398046511104 ∧ r - (c + 1) < r - s ∧ c - s < r - s ∧ lo ≤ c + 1 ∧ c + 1 ≤ r ∧ n - (c + 1) = n - 1 - c ∧ c ≤ hi := by omega
theorem fK {K b f : Nat} (h : K + b + 20 ≤ f) : K ≤ f := by omega
theorem symC {R : KN} (cf : Arr → Arr → Int) (hc : COrd cf) (σ : AHeap) (id fn : Nat) (caps : List SV) (K : Nat) (ok : Arr → Prop) (hcmp : CmpOk σ id fn caps K ok cf) (L : List Arr) (hok : AllOk ok L) (a m b lo hi n d : Nat) (hmb : m < b) (hb : b ≤ L.length) (hm : L.length ≤ 1048576) (hlo : a ≤ lo) (hhi : hi ≤ m)
    (q1 : n ≤ lo + b) (q2 : hi + m ≤ n) (hx : CrossC L a m b) (hg : σ.get id = some ⟨acells L, .own⟩) (f : Nat) (hf : K + b + 20 ≤ f) (k : Nat) (hkb : k ≤ b) (fr : List AV) (τ : AHeap) (hI : ISC cf σ id fn caps L a m b lo hi n d k fr τ) :
    EndsC .go (evCall D9 f) f (ACode.loop cst87_4) fr τ (fun _ _ _ => False) (fun e _ fr τ => e = 8 ∧ OSC cf σ id fn caps L a m b lo hi n d fr τ) R := by
  refine ends_loop (I := ISC cf σ id fn caps L a m b lo hi n d) ?_ (k := k) hI (by omega)
  rintro k fr τ ⟨s, r, rfl, ⟨c1, c2, c3, c4, c5⟩, ⟨hl, f0, f1, f2, f3, f4⟩, f18, f19, f20, f21, f22, hk⟩
  have hg1 : τ.get id = some ⟨acells L, .own⟩ := by rw [hk.2 _ (AHeap.get_lt hg), hg]
  by_cases hlt : s < r
  · have hlt' : (s : Int) < (r : Int) := Int.ofNat_lt.2 hlt
    obtain ⟨h, hh⟩ : ∃ h, h = (s + r) / 2 := ⟨_, rfl⟩
    obtain ⟨z1, z2, z3, z4, z5, z6, z7, z8, z9, z10, z11, z12, z13, z14, z15, z16, z17, z18, z19⟩ := cut_b (d := d) c1 hlt c3 hlo hhi hmb hb hm q1 q2 h hh
    have e1 : wr .i64 ((s : Int) + (r : Int)) = ((s + r : Nat) : Int) := wr_add z3
    have e2 := wr_u (s + r) z3
    have e3 := shr_half (s + r)
    have e4 : wr .i64 ((h : Nat) : Int) = ((h : Nat) : Int) := wr_nat z4
    have e5 : wr .i64 (((h : Nat) : Int) + 1) = ((h + 1 : Nat) : Int) := wr_succ z6
    have e6 : wr .i64 (((n - 1 : Nat) : Int) - (h : Int)) = ((n - 1 - h : Nat) : Int) := wr_sub z12 z13
    rw [← hh] at e3
    have hseq := hx h (n - 1 - h) z8 z9 z10 z11
    obtain ⟨lt1, lt2⟩ := ltC_of hc hseq
    have p1 := acells_part L (n - 1 - h) z7
    have p2 := acells_part L h z5
    have hcall := hcmp τ (KeepsBut.of hk) f (fK hf) (rAt L (n - 1 - h)) (rAt L h) (hok.at z7) (hok.at z5)
    have hA1 : ltC cf (rAt L h) (rAt L (n - 1 - h)) → CutI cf L lo hi n (h + 1) r := fun e => ⟨z16, z17, c3, .inr (by rw [z18]; exact e), c5⟩
    have hA2 : ltC cf (rAt L (n - 1 - h)) (rAt L h) → CutI cf L lo hi n s h := fun e => ⟨c1, z1, z19, c4, .inr e⟩
    generalize hu : rAt L (n - 1 - h) = u at p1 hcall lt1 lt2 hA1 hA2
    generalize hv : rAt L h = v at p2 hcall lt1 lt2 hA1 hA2
    simp only [Arr.av, Arr.cells] at p1 p2
    simp (maxDischargeDepth := 99) [cst87_4, hl, f0, f1, f2, f3, f4, f20, f21, f22, hlt, hlt', e1, e2, e3, e4, e6, z5, z7, hg1, p1, p2, -partA, -Int.natCast_add, -Int.natCast_ediv]
    refine hcall.mono ?_
    rintro x τ3 ⟨rfl, k3⟩
    by_cases hneg : cf u v < 0
    · simp (maxDischargeDepth := 99) [hl, hneg]
      exact ⟨_, z15, s, h, rfl, hA2 (lt1 hneg), ⟨by simp [hl], by simp [hl, f0], by simp [hl, f1], by simp [hl, f2], by simp [hl, f3], by simp [hl, f4]⟩, by simp [hl, f18], by simp [hl, f19], by simp [hl, f20], by simp [hl], by simp [hl, f22], hk.trans k3⟩
    · simp (maxDischargeDepth := 99) [hl, hneg, e5, -Int.natCast_add]
      exact ⟨_, z14, h + 1, r, rfl, hA1 (lt2 hneg), ⟨by simp [hl], by simp [hl, f0], by simp [hl, f1], by simp [hl, f2], by simp [hl, f3], by simp [hl, f4]⟩, by simp [hl, f18], by simp [hl, f19], by simp [hl], by simp [hl, f21], by simp [hl, f22], hk.trans k3⟩
  · have hij : s = r := Nat.le_antisymm c2 (Nat.not_lt.1 hlt)
    subst hij
    simp (maxDischargeDepth := 99) [cst87_4, hl, f20, f21]
    exact ⟨s, ⟨c1, c2, c3, c4, c5⟩, ⟨by simp [hl], by simp [hl, f0], by simp [hl, f1], by simp [hl, f2], by simp [hl, f3], by simp [hl, f4]⟩, by simp [hl, f18], by simp [hl, f19], by simp [hl, f20], hk⟩

/-! ### the merge -/
theorem rotT_none {L : List Arr} {s m e : Nat} (h : ¬ (s < m ∧ m < e)) (h1 : s ≤ m) (h2 : m ≤ e) : ∀ x, rAt L x = rotT L s m e x := by
  intro x
  unfold rotT
  split
  · split
    · rw [show x + (m - s) = x by omega]
    · rw [show x - (e - m) = x by omega]
  · rfl
def SymPost (cf : Arr → Arr → Int) (σ : AHeap) (id : Nat) (L : List Arr) (a b : Nat) (τ : AHeap) : Prop := KeepsBut id σ τ ∧ ∃ M, τ.get id = some ⟨acells M, .own⟩ ∧ Seg L M a b ∧ SrtC cf M a b
/-- Which bounds the cut has, which sums stay small. -/
theorem sym_b {a m b l : Nat} (h1 : a < m) (h2 : m < b) (h3 : b ≤ l) (h4 : l ≤ 1048576) (hA : ¬ m - a = 1) (hB : ¬ b - m = 1) (d n : Nat) (hd : d = (a + b) / 2) (hn : n = d + m) :
    a + b ≤ 4398046511104 ∧ d ≤ 4398046511104 ∧ d + m ≤ 4398046511104 ∧ (d < m → b ≤ n ∧ n ≤ 4398046511104) ∧ 1 ≤ n ∧ n ≤ 4398046511104 ∧ a < d ∧ d < b ∧
      (d < m → a ≤ n - b ∧ n - b ≤ d ∧ d ≤ m ∧ n ≤ n - b + b ∧ d + m ≤ n ∧ n - (n - b) = b ∧ n - d = m) ∧ (¬ d < m → a ≤ m ∧ n ≤ a + b ∧ m + m ≤ n) := by omega
theorem ends_cut {call : CallF} {m : Nat} {N : KN} {E : KE} {R : KN} {fr : List AV} {σ : AHeap} {a b : ACode} (Q : List AV → AHeap → Prop) (h1 : EndsC .go call m a fr σ (fun _ fr σ => Q fr σ) (fun _ _ _ _ => False) (fun _ _ _ => False))
    (h2 : ∀ fr σ, Q fr σ → EndsC .go call m b fr σ N E R) : EndsC .go call m (.seq a b) fr σ N E R := by
  rw [ends_seq]
  exact Ends.mono h1 (fun _ fr σ h => h2 fr σ h) (fun _ _ _ _ h => h.elim) (fun _ _ _ h => h.elim)
def QE (id fn : Nat) (caps : List SV) (L : List Arr) (σ : AHeap) (a m b s d e : Nat) (fr : List AV) (τ : AHeap) : Prop :=
  frS fr id fn caps L a m b ∧ getSlot fr 18 = .one (.int .i64 (d : Int)) ∧ getSlot fr 20 = .one (.int .i64 (s : Int)) ∧ getSlot fr 24 = .one (.int .i64 (e : Int)) ∧ KeepsBut id σ τ ∧ τ.get id = some ⟨acells L, .own⟩
def QR (cf : Arr → Arr → Int) (id fn : Nat) (caps : List SV) (L : List Arr) (σ : AHeap) (a m b s d e : Nat) (fr : List AV) (τ : AHeap) : Prop :=
  ∃ M, frS fr id fn caps L a m b ∧ getSlot fr 18 = .one (.int .i64 (d : Int)) ∧ getSlot fr 20 = .one (.int .i64 (s : Int)) ∧ getSlot fr 24 = .one (.int .i64 (e : Int)) ∧ KeepsBut id σ τ ∧ τ.get id = some ⟨acells M, .own⟩ ∧ Both cf L M a s d e b
def QS (cf : Arr → Arr → Int) (id fn : Nat) (caps : List SV) (L : List Arr) (σ : AHeap) (a m b s d e : Nat) (fr : List AV) (τ : AHeap) : Prop :=
  ∃ M M1, frS fr id fn caps L a m b ∧ getSlot fr 18 = .one (.int .i64 (d : Int)) ∧ getSlot fr 24 = .one (.int .i64 (e : Int)) ∧ KeepsBut id σ τ ∧ τ.get id = some ⟨acells M1, .own⟩ ∧ Both cf L M a s d e b ∧ Seg M M1 a d ∧ SrtC cf M1 a d
theorem fu4 {a b d z : Nat} (hz : b - a ≤ z + 1) (h : d < b) (h2 : a < d) : d - a ≤ z := by omega
theorem fu5 {M L : List Arr} {d e b : Nat} (h : M.length = L.length) (h2 : d ≤ e) (h3 : e ≤ b) (h4 : b ≤ L.length) : d ≤ M.length := by omega
theorem fu6 {K l z f : Nat} (hf : K + l + 100 + (z + 1) ≤ f + 1) : K + l + 100 + z ≤ f := by omega
theorem fu7 {a b d z : Nat} (hz : b - a ≤ z + 1) (h : a < d) (h2 : d < b) : b - d ≤ z := by omega
theorem fu1 {K b l z f : Nat} (hb : b ≤ l) (hf : K + l + 100 + (z + 1) ≤ f + 1) : K + b + 20 ≤ f := by omega
theorem fu2 {lo hi m b : Nat} (h : hi ≤ m) (h2 : m < b) : hi - lo ≤ b := by omega
theorem fu3 {K b l z f e : Nat} (hb : b ≤ l) (hf : K + l + 100 + (z + 1) ≤ f + 1) (he : e ≤ b) : e + 20 ≤ f := by omega
theorem sym_e {a m b l lo hi n s d e : Nat} (h1 : a < m) (h2 : m < b) (hb : b ≤ l) (hm : l ≤ 1048576) (c1 : lo ≤ s) (c3 : s ≤ hi) (u1 : a ≤ lo) (u2 : hi ≤ m) (u3 : hi ≤ d) (u6 : n ≤ lo + b) (u7 : hi + m ≤ n) (y6 : n ≤ 4398046511104) (he : e = n - s) (hn : n = d + m) :
    a ≤ s ∧ s ≤ m ∧ m ≤ e ∧ e ≤ b ∧ d + m = s + e ∧ s ≤ d ∧ d ≤ e ∧ e ≤ 4398046511104 ∧ s ≤ n := by omega
theorem symm_run (cf : Arr → Arr → Int) (hc : COrd cf) (id fn : Nat) (caps : List SV) (K : Nat) (ok : Arr → Prop) : ∀ (z : Nat) (σ : AHeap) (L : List Arr) (a m b f : Nat), b - a ≤ z → CmpOk σ id fn caps K ok cf → AllOk ok L → a < m → m < b → b ≤ L.length → L.length ≤ 1048576 →
    SrtC cf L a m → SrtC cf L m b → CrossC L a m b → σ.get id = some ⟨acells L, .own⟩ → K + L.length + 100 + z ≤ f →
    OptP (evCall D9 f 73 [.one (.slice id 0 3 L.length none), .one (.int .i64 (a : Int)), .one (.int .i64 (m : Int)), .one (.int .i64 (b : Int)), .one (.func fn caps)] σ) (fun _ _ τ => SymPost cf σ id L a b τ)
  | 0, σ, L, a, m, b, f, hz, _, _, h1, h2, _, _, _, _, _, _, _ => by omega
  | z + 1, σ, L, a, m, b, f, hz, hcmp, hok, h1, h2, hb, hm, hs1, hs2, hx, hg, hf => by
    obtain ⟨f, rfl⟩ : ∃ k, f = k + 1 := ⟨f - 1, by omega⟩
    refine evCall_code (D9_prim 73) ((D9_code 73).trans codest87) ?_
    have e0 : wr .i64 ((m : Int) - (a : Int)) = ((m - a : Nat) : Int) := wr_sub (by omega) (by omega)
    by_cases hA : m - a = 1
    · obtain rfl : m = a + 1 := by omega
      have e0' : wr .i64 (((a + 1 : Nat) : Int) - (a : Int)) = 1 := by rw [e0, hA]; rfl
      simp (maxDischargeDepth := 99) [cst87, e0', -Int.natCast_add]
      refine ends_to 0 _ (symA cf hc σ id fn caps K ok hcmp L hok a (a + 1) b (Nat.lt_succ_self a) hb hm hs2 (fun j j1 j2 => hx a j (Nat.le_refl _) (Nat.lt_succ_self a) j1 j2) hg f (by omega) (b - (a + 1)) (by omega) _ σ ?_) ?_
      · exact ⟨a + 1, b, rfl, ⟨Nat.le_refl _, by omega, Nat.le_refl _, fun p p1 p2 => by omega, fun p p1 p2 => by omega⟩, ⟨by simp, by simp, by simp, by simp, by simp, by simp⟩, by simp, by simp, Keeps.refl _⟩
      · rintro fr τ ⟨i, hF, ⟨hl, f0, f1, f2, f3, f4⟩, f10, hk⟩
        have hg1 : τ.get id = some ⟨acells L, .own⟩ := by rw [hk.2 _ (AHeap.get_lt hg), hg]
        have hF' := hF
        obtain ⟨g1, _, g3, _, _⟩ := hF'
        simp (maxDischargeDepth := 99) [hl, f1]
        refine ends_to 2 _ (symUp τ id fn caps L a (a + 1) b i g3 (by omega) hb hm f (i - 1 - a) (by omega) _ τ ?_) ?_
        · exact ⟨a, L, rfl, Nat.le_refl _, by omega, fun x => by rw [if_neg (by omega)]; split; (rename_i e; rw [e]); rfl, Seg.refl _ _ _, by simp [hl], by simp [hl, f0], by simp [hl, f10], by simp [hl], KeepsBut.refl _ _, hg1⟩
        · rintro fr2 τ2 ⟨M, hU, hS, hl2, hk2, hg2⟩
          simp (maxDischargeDepth := 99)
          exact ⟨(KeepsBut.of hk).trans hk2, M, hg2, hS, up_done hc hs2 hF hU⟩
    · have hA' : ¬ ((m - a : Nat) : Int) = 1 := by omega
      have e1 : wr .i64 ((b : Int) - (m : Int)) = ((b - m : Nat) : Int) := wr_sub (by omega) (by omega)
      by_cases hB : b - m = 1
      · obtain rfl : b = m + 1 := by omega
        have e1' : wr .i64 (((m + 1 : Nat) : Int) - (m : Int)) = 1 := by rw [e1, hB]; rfl
        simp (maxDischargeDepth := 99) [cst87, e0, hA, hA', e1', -Int.natCast_add]
        refine ends_to 4 _ (symB cf hc σ id fn caps K ok hcmp L hok a m (m + 1) (by omega) hm hs1 (fun j j1 j2 => hx j m j1 j2 (Nat.le_refl _) (Nat.lt_succ_self m)) hg f (by omega) (m - a) (by omega) _ σ ?_) ?_
        · exact ⟨a, m, rfl, ⟨Nat.le_refl _, by omega, Nat.le_refl _, fun p p1 p2 => by omega, fun p p1 p2 => by omega⟩, ⟨by simp, by simp, by simp, by simp, by simp, by simp⟩, by simp, by simp, Keeps.refl _⟩
        · rintro fr τ ⟨i, hF, ⟨hl, f0, f1, f2, f3, f4⟩, f14, hk⟩
          have hg1 : τ.get id = some ⟨acells L, .own⟩ := by rw [hk.2 _ (AHeap.get_lt hg), hg]
          have hF' := hF
          obtain ⟨g1, _, g3, _, _⟩ := hF'
          simp (maxDischargeDepth := 99) [hl, f2]
          refine ends_to 6 _ (symDn τ id L a m (m + 1) i g1 (Nat.lt_succ_self m) hb hm f m (by omega) _ τ ?_) ?_
          · exact ⟨m, L, rfl, g3, Nat.le_refl _, fun x => by rw [if_neg (by omega)]; split; (rename_i e; rw [e]); rfl, Seg.refl _ _ _, by simp [hl], by simp [hl, f0], by simp [hl, f14], by simp [hl], KeepsBut.refl _ _, hg1⟩
          · rintro fr2 τ2 ⟨M, hU, hS, hl2, hk2, hg2⟩
            simp (maxDischargeDepth := 99)
            exact ⟨(KeepsBut.of hk).trans hk2, M, hg2, hS, down_done hc hs1 hF hU⟩
      · have hB' : ¬ ((b - m : Nat) : Int) = 1 := by omega
        obtain ⟨d, hd⟩ : ∃ d, d = (a + b) / 2 := ⟨_, rfl⟩
        obtain ⟨n, hn⟩ : ∃ n, n = d + m := ⟨_, rfl⟩
        obtain ⟨y1', y2', y3', y4', y5', y6', y7', y8', y9', y10'⟩ := sym_b h1 h2 hb hm hA hB d n hd hn
        have w1 : wr .i64 ((a : Int) + (b : Int)) = ((a + b : Nat) : Int) := wr_add y1'
        have w2 := wr_u (a + b) y1'
        have w3 := shr_half (a + b)
        have w4 : wr .i64 ((d : Nat) : Int) = ((d : Nat) : Int) := wr_nat y2'
        have w5 : wr .i64 ((d : Int) + (m : Int)) = ((n : Nat) : Int) := by rw [hn]; exact wr_add y3'
        have w6 : wr .i64 ((n : Int) - 1) = ((n - 1 : Nat) : Int) := by
          have := wr_sub (a := n) (b := 1) y5' y6'
          simpa using this
        rw [← hd] at w3
        have hLH : ∃ lo hi, a ≤ lo ∧ hi ≤ m ∧ hi ≤ d ∧ (lo = a ∨ n - lo = b) ∧ (hi = m ∨ n - hi = m) ∧ n ≤ lo + b ∧ hi + m ≤ n ∧ lo ≤ hi ∧ ((d < m ∧ lo = n - b ∧ hi = d) ∨ (¬ d < m ∧ lo = a ∧ hi = m)) := by
          by_cases hdm : d < m
          · obtain ⟨x1, x2, x3, x4, x5, x6, x7⟩ := y9' hdm
            exact ⟨n - b, d, x1, x3, Nat.le_refl _, .inr x6, .inr x7, x4, x5, x2, .inl ⟨hdm, rfl, rfl⟩⟩
          · obtain ⟨x1, x2, x3⟩ := y10' hdm
            exact ⟨a, m, Nat.le_refl _, Nat.le_refl _, Nat.not_lt.1 hdm, .inl rfl, .inl rfl, x2, x3, x1, .inr ⟨hdm, rfl, rfl⟩⟩
        obtain ⟨lo, hi, u1, u2, u3, u4, u5, u6, u7, u8, hcase⟩ := hLH
        have hC := fun R => symC (R := R) cf hc σ id fn caps K ok hcmp L hok a m b lo hi n d h2 hb hm u1 u2 u6 u7 hx hg f (fu1 hb hf) (hi - lo) (fu2 u2 h2)
        rcases hcase with ⟨hdm, elo, ehi⟩ | ⟨hdm, elo, ehi⟩
        · have hdm' : (d : Int) < (m : Int) := Int.ofNat_lt.2 hdm
          have w7 : wr .i64 ((n : Int) - (b : Int)) = ((n - b : Nat) : Int) := wr_sub (y4' hdm).1 y6'
          simp (maxDischargeDepth := 99) [cst87, e0, hA, hA', e1, hB, hB', w1, w2, w3, w4, w5, w6, w7, hdm, hdm', -Int.natCast_add, -Int.natCast_ediv]
          refine ends_to 8 _ (hC _ _ σ ?_) ?_
          · exact ⟨lo, hi, rfl, ⟨Nat.le_refl _, u8, Nat.le_refl _, .inl rfl, .inl rfl⟩, ⟨by simp, by simp, by simp, by simp, by simp, by simp⟩, by simp, by simp, by simp [elo], by simp [ehi], by simp, Keeps.refl _⟩
          · rintro fr τ ⟨s, hcut, ⟨hl, f0, f1, f2, f3, f4⟩, f18, f19, f20, hk⟩
            have hg1 : τ.get id = some ⟨acells L, .own⟩ := by rw [hk.2 _ (AHeap.get_lt hg), hg]
            have hkB := KeepsBut.of (id := id) hk
            obtain ⟨e, he⟩ : ∃ e, e = n - s := ⟨_, rfl⟩
            obtain ⟨v1, v2, v3, v4, v5, v6, v7, v8, v9⟩ := sym_e h1 h2 hb hm hcut.1 hcut.2.2.1 u1 u2 u3 u6 u7 y6' he hn
            have x1 : wr .i64 ((n : Int) - (s : Int)) = ((e : Nat) : Int) := by rw [he]; exact wr_sub v9 y6'
            obtain ⟨kk1, kk2⟩ := cut_all hc hs1 hs2 hcut u1 u2 (Nat.add_sub_of_le v9).symm (he ▸ v3) (he ▸ v4) u4 u5
            rw [← he] at kk1 kk2
            refine ⟨rfl, ?_⟩
            refine ends_cut (QE id fn caps L σ a m b s d e) ?_ ?_
            · simp (maxDischargeDepth := 99) [hl, f19, f20, x1]
              exact ⟨⟨by simp [hl], by simp [hl, f0], by simp [hl, f1], by simp [hl, f2], by simp [hl, f3], by simp [hl, f4]⟩, by simp [hl, f18], by simp [hl, f20], by simp [hl], hkB, hg1⟩
            rintro fr τ ⟨⟨hl, f0, f1, f2, f3, f4⟩, f18, f20, f24, hkB, hg1⟩
            refine ends_cut (QR cf id fn caps L σ a m b s d e) ?_ ?_
            · have hfin : ∀ fr' τ' M, frS fr' id fn caps L a m b → getSlot fr' 18 = .one (.int .i64 (d : Int)) → getSlot fr' 20 = .one (.int .i64 (s : Int)) → getSlot fr' 24 = .one (.int .i64 (e : Int)) → KeepsBut id τ τ' → τ'.get id = some ⟨acells M, .own⟩ → M.length = L.length → M.Perm L → (∀ x, rAt M x = rotT L s m e x) → QR cf id fn caps L σ a m b s d e fr' τ' :=
                fun fr' τ' M g1 g2 g3 g4 g5 g6 g7 g8 g9 => ⟨M, g1, g2, g3, g4, hkB.trans g5, g6, both_of hc hs1 hs2 hx v1 v2 v3 v4 v5 hb kk1 kk2 g7 g8 g9⟩
              by_cases hr1 : s < m
              · have hr1' : (s : Int) < (m : Int) := Int.ofNat_lt.2 hr1
                by_cases hr2 : m < e
                · have hr2' : (m : Int) < (e : Int) := Int.ofNat_lt.2 hr2
                  have hrot := rotate_run τ id L s m e (.one (.func fn caps)) hg1 hr1 hr2 (Nat.le_trans v4 hb) hm f (fu3 hb hf v4)
                  simp (maxDischargeDepth := 99) [hl, f0, f2, f4, f20, f24, hr1, hr1', hr2, hr2']
                  refine hrot.mono ?_
                  rintro v τ2 ⟨k2, M, g2, g7, g8, g9⟩
                  simp (maxDischargeDepth := 99)
                  exact hfin _ _ M ⟨by simp [hl], by simp [hl, f0], by simp [hl, f1], by simp [hl, f2], by simp [hl, f3], by simp [hl, f4]⟩ (by simp [hl, f18]) (by simp [hl, f20]) (by simp [hl, f24]) k2 g2 g7 g8 g9
                · have hr2' : ¬ (m : Int) < (e : Int) := fun e => hr2 (Int.ofNat_lt.1 e)
                  simp (maxDischargeDepth := 99) [hl, f0, f2, f4, f20, f24, hr1, hr1', hr2, hr2']
                  exact hfin _ _ L ⟨by simp [hl], by simp [hl, f0], by simp [hl, f1], by simp [hl, f2], by simp [hl, f3], by simp [hl, f4]⟩ (by simp [hl, f18]) (by simp [hl, f20]) (by simp [hl, f24]) (KeepsBut.refl _ _) hg1 rfl (.refl _) (rotT_none (fun e => hr2 e.2) v2 v3)
              · have hr1' : ¬ (s : Int) < (m : Int) := fun e => hr1 (Int.ofNat_lt.1 e)
                simp (maxDischargeDepth := 99) [hl, f0, f2, f4, f20, f24, hr1, hr1']
                exact hfin _ _ L ⟨by simp [hl], by simp [hl, f0], by simp [hl, f1], by simp [hl, f2], by simp [hl, f3], by simp [hl, f4]⟩ (by simp [hl, f18]) (by simp [hl, f20]) (by simp [hl, f24]) (KeepsBut.refl _ _) hg1 rfl (.refl _) (rotT_none (fun e => hr1 e.1) v2 v3)
            rintro fr τ ⟨M, ⟨hl, f0, f1, f2, f3, f4⟩, f18, f20, f24, hkB, hg1, hBoth⟩
            have hML := hBoth.seg.len
            have hokM := hok.perm hBoth.seg.perm
            refine ends_cut (QS cf id fn caps L σ a m b s d e) ?_ ?_
            · have hfin : ∀ fr' τ' M1, frS fr' id fn caps L a m b → getSlot fr' 18 = .one (.int .i64 (d : Int)) → getSlot fr' 24 = .one (.int .i64 (e : Int)) → KeepsBut id τ τ' → τ'.get id = some ⟨acells M1, .own⟩ → Seg M M1 a d → SrtC cf M1 a d → QS cf id fn caps L σ a m b s d e fr' τ' :=
                fun fr' τ' M1 g1 g2 g4 g5 g6 g7 g8 => ⟨M, M1, g1, g2, g4, hkB.trans g5, g6, hBoth, g7, g8⟩
              by_cases hr1 : a < s
              · have hr1' : (a : Int) < (s : Int) := Int.ofNat_lt.2 hr1
                by_cases hr2 : s < d
                · have hr2' : (s : Int) < (d : Int) := Int.ofNat_lt.2 hr2
                  have hrec := symm_run cf hc id fn caps K ok z τ M a s d f (fu4 hz y8' y7') (hcmp.keeps hkB) hokM hr1 hr2 (fu5 hML v7 v4 hb) (by rw [hML]; exact hm) hBoth.s1 hBoth.s2 hBoth.c1 hg1 (by rw [hML]; exact fu6 hf)
                  rw [hML] at hrec
                  simp (maxDischargeDepth := 99) [hl, f0, f1, f4, f18, f20, f24, hr1, hr1', hr2, hr2']
                  refine hrec.mono ?_
                  rintro v τ2 ⟨k2, M1, g2, g7, g8⟩
                  simp (maxDischargeDepth := 99)
                  exact hfin _ _ M1 ⟨by simp [hl], by simp [hl, f0], by simp [hl, f1], by simp [hl, f2], by simp [hl, f3], by simp [hl, f4]⟩ (by simp [hl, f18]) (by simp [hl, f24]) k2 g2 g7 g8
                · have hr2' : ¬ (s : Int) < (d : Int) := fun e => hr2 (Int.ofNat_lt.1 e)
                  have hsd : s = d := Nat.le_antisymm v6 (Nat.not_lt.1 hr2)
                  simp (maxDischargeDepth := 99) [hl, f0, f1, f4, f18, f20, f24, hr1, hr1', hr2, hr2']
                  exact hfin _ _ M ⟨by simp [hl], by simp [hl, f0], by simp [hl, f1], by simp [hl, f2], by simp [hl, f3], by simp [hl, f4]⟩ (by simp [hl, f18]) (by simp [hl, f24]) (KeepsBut.refl _ _) hg1 (Seg.refl _ _ _) (hsd ▸ hBoth.s1)
              · have hr1' : ¬ (a : Int) < (s : Int) := fun e => hr1 (Int.ofNat_lt.1 e)
                have hsa : s = a := Nat.le_antisymm (Nat.not_lt.1 hr1) v1
                have hsrt : SrtC cf M a d := by have := hBoth.s2; rw [hsa] at this; exact this
                simp (maxDischargeDepth := 99) [hl, f0, f1, f4, f18, f20, f24, hr1, hr1']
                exact hfin _ _ M ⟨by simp [hl], by simp [hl, f0], by simp [hl, f1], by simp [hl, f2], by simp [hl, f3], by simp [hl, f4]⟩ (by simp [hl, f18]) (by simp [hl, f24]) (KeepsBut.refl _ _) hg1 (Seg.refl _ _ _) hsrt
            rintro fr τ ⟨M, M1, ⟨hl, f0, f1, f2, f3, f4⟩, f18, f24, hkB, hg1, hBoth, hS1, hT1⟩
            have hML := hBoth.seg.len
            have hML1 : M1.length = L.length := by rw [hS1.len, hML]
            have hokM1 := (hok.perm hBoth.seg.perm).perm hS1.perm
            have hfin : ∀ τ' M2, KeepsBut id τ τ' → τ'.get id = some ⟨acells M2, .own⟩ → Seg M1 M2 d b → SrtC cf M2 d b → SymPost cf σ id L a b τ' := fun τ' M2 g1 g2 g3 g4 => by
              obtain ⟨h5, h6⟩ := both_done hBoth (Nat.le_of_lt y7') (Nat.le_of_lt y8') hS1 hT1 g3 g4
              exact ⟨hkB.trans g1, M2, g2, h5, h6⟩
            have hout : ∀ x, d ≤ x → rAt M1 x = rAt M x := fun x hx => hS1.out x (fun e => absurd e.2 (Nat.not_lt.2 hx))
            have t3 : SrtC cf M1 d e := fun i j i1 i2 i3 => by rw [hout i i1, hout j (Nat.le_trans i1 (Nat.le_of_lt i2))]; exact hBoth.s3 i j i1 i2 i3
            have t4 : SrtC cf M1 e b := fun i j i1 i2 i3 => by rw [hout i (Nat.le_trans v7 i1), hout j (Nat.le_trans v7 (Nat.le_trans i1 (Nat.le_of_lt i2)))]; exact hBoth.s4 i j i1 i2 i3
            have t5 : CrossC M1 d e b := fun i j i1 i2 i3 i4 => by rw [hout i i1, hout j (Nat.le_trans v7 i3)]; exact hBoth.c2 i j i1 i2 i3 i4
            by_cases hr1 : d < e
            · have hr1' : (d : Int) < (e : Int) := Int.ofNat_lt.2 hr1
              by_cases hr2 : e < b
              · have hr2' : (e : Int) < (b : Int) := Int.ofNat_lt.2 hr2
                have hrec := symm_run cf hc id fn caps K ok z τ M1 d e b f (fu7 hz y7' y8') (hcmp.keeps hkB) hokM1 hr1 hr2 (by rw [hML1]; exact hb) (by rw [hML1]; exact hm) t3 t4 t5 hg1 (by rw [hML1]; exact fu6 hf)
                rw [hML1] at hrec
                simp (maxDischargeDepth := 99) [hl, f0, f3, f4, f18, f24, hr1, hr1', hr2, hr2']
                refine hrec.mono ?_
                rintro v τ2 ⟨k2, M2, g2, g7, g8⟩
                simp (maxDischargeDepth := 99)
                exact hfin _ M2 k2 g2 g7 g8
              · have hr2' : ¬ (e : Int) < (b : Int) := fun e => hr2 (Int.ofNat_lt.1 e)
                have heb : e = b := Nat.le_antisymm v4 (Nat.not_lt.1 hr2)
                simp (maxDischargeDepth := 99) [hl, f0, f3, f4, f18, f24, hr1, hr1', hr2, hr2']
                exact hfin _ M1 (KeepsBut.refl _ _) hg1 (Seg.refl _ _ _) (heb ▸ t3)
            · have hr1' : ¬ (d : Int) < (e : Int) := fun e => hr1 (Int.ofNat_lt.1 e)
              have hed : e = d := Nat.le_antisymm (Nat.not_lt.1 hr1) v7
              have hsrt : SrtC cf M1 d b := by have := t4; rw [hed] at this; exact this
              simp (maxDischargeDepth := 99) [hl, f0, f3, f4, f18, f24, hr1, hr1']
              exact hfin _ M1 (KeepsBut.refl _ _) hg1 (Seg.refl _ _ _) hsrt
        · have hdm' : ¬ (d : Int) < (m : Int) := fun e => hdm (Int.ofNat_lt.1 e)
          simp (maxDischargeDepth := 99) [cst87, e0, hA, hA', e1, hB, hB', w1, w2, w3, w4, w5, w6, hdm, hdm', -Int.natCast_add, -Int.natCast_ediv]
          refine ends_to 8 _ (hC _ _ σ ?_) ?_
          · exact ⟨lo, hi, rfl, ⟨Nat.le_refl _, u8, Nat.le_refl _, .inl rfl, .inl rfl⟩, ⟨by simp, by simp, by simp, by simp, by simp, by simp⟩, by simp, by simp, by simp [elo], by simp [ehi], by simp, Keeps.refl _⟩
          · rintro fr τ ⟨s, hcut, ⟨hl, f0, f1, f2, f3, f4⟩, f18, f19, f20, hk⟩
            have hg1 : τ.get id = some ⟨acells L, .own⟩ := by rw [hk.2 _ (AHeap.get_lt hg), hg]
            have hkB := KeepsBut.of (id := id) hk
            obtain ⟨e, he⟩ : ∃ e, e = n - s := ⟨_, rfl⟩
            obtain ⟨v1, v2, v3, v4, v5, v6, v7, v8, v9⟩ := sym_e h1 h2 hb hm hcut.1 hcut.2.2.1 u1 u2 u3 u6 u7 y6' he hn
            have x1 : wr .i64 ((n : Int) - (s : Int)) = ((e : Nat) : Int) := by rw [he]; exact wr_sub v9 y6'
            obtain ⟨kk1, kk2⟩ := cut_all hc hs1 hs2 hcut u1 u2 (Nat.add_sub_of_le v9).symm (he ▸ v3) (he ▸ v4) u4 u5
            rw [← he] at kk1 kk2
            refine ⟨rfl, ?_⟩
            refine ends_cut (QE id fn caps L σ a m b s d e) ?_ ?_
            · simp (maxDischargeDepth := 99) [hl, f19, f20, x1]
              exact ⟨⟨by simp [hl], by simp [hl, f0], by simp [hl, f1], by simp [hl, f2], by simp [hl, f3], by simp [hl, f4]⟩, by simp [hl, f18], by simp [hl, f20], by simp [hl], hkB, hg1⟩
            rintro fr τ ⟨⟨hl, f0, f1, f2, f3, f4⟩, f18, f20, f24, hkB, hg1⟩
            refine ends_cut (QR cf id fn caps L σ a m b s d e) ?_ ?_
            · have hfin : ∀ fr' τ' M, frS fr' id fn caps L a m b → getSlot fr' 18 = .one (.int .i64 (d : Int)) → getSlot fr' 20 = .one (.int .i64 (s : Int)) → getSlot fr' 24 = .one (.int .i64 (e : Int)) → KeepsBut id τ τ' → τ'.get id = some ⟨acells M, .own⟩ → M.length = L.length → M.Perm L → (∀ x, rAt M x = rotT L s m e x) → QR cf id fn caps L σ a m b s d e fr' τ' :=
                fun fr' τ' M g1 g2 g3 g4 g5 g6 g7 g8 g9 => ⟨M, g1, g2, g3, g4, hkB.trans g5, g6, both_of hc hs1 hs2 hx v1 v2 v3 v4 v5 hb kk1 kk2 g7 g8 g9⟩
              by_cases hr1 : s < m
              · have hr1' : (s : Int) < (m : Int) := Int.ofNat_lt.2 hr1
                by_cases hr2 : m < e
                · have hr2' : (m : Int) < (e : Int) := Int.ofNat_lt.2 hr2
                  have hrot := rotate_run τ id L s m e (.one (.func fn caps)) hg1 hr1 hr2 (Nat.le_trans v4 hb) hm f (fu3 hb hf v4)
                  simp (maxDischargeDepth := 99) [hl, f0, f2, f4, f20, f24, hr1, hr1', hr2, hr2']
                  refine hrot.mono ?_
                  rintro v τ2 ⟨k2, M, g2, g7, g8, g9⟩
                  simp (maxDischargeDepth := 99)
                  exact hfin _ _ M ⟨by simp [hl], by simp [hl, f0], by simp [hl, f1], by simp [hl, f2], by simp [hl, f3], by simp [hl, f4]⟩ (by simp [hl, f18]) (by simp [hl, f20]) (by simp [hl, f24]) k2 g2 g7 g8 g9
                · have hr2' : ¬ (m : Int) < (e : Int) := fun e => hr2 (Int.ofNat_lt.1 e)
                  simp (maxDischargeDepth := 99) [hl, f0, f2, f4, f20, f24, hr1, hr1', hr2, hr2']
                  exact hfin _ _ L ⟨by simp [hl], by simp [hl, f0], by simp [hl, f1], by simp [hl, f2], by simp [hl, f3], by simp [hl, f4]⟩ (by simp [hl, f18]) (by simp [hl, f20]) (by simp [hl, f24]) (KeepsBut.refl _ _) hg1 rfl (.refl _) (rotT_none (fun e => hr2 e.2) v2 v3)
              · have hr1' : ¬ (s : Int) < (m : Int) := fun e => hr1 (Int.ofNat_lt.1 e)
                simp (maxDischargeDepth := 99) [hl, f0, f2, f4, f20, f24, hr1, hr1']
                exact hfin _ _ L ⟨by simp [hl], by simp [hl, f0], by simp [hl, f1], by simp [hl, f2], by simp [hl, f3], by simp [hl, f4]⟩ (by simp [hl, f18]) (by simp [hl, f20]) (by simp [hl, f24]) (KeepsBut.refl _ _) hg1 rfl (.refl _) (rotT_none (fun e => hr1 e.1) v2 v3)
            rintro fr τ ⟨M, ⟨hl, f0, f1, f2, f3, f4⟩, f18, f20, f24, hkB, hg1, hBoth⟩
            have hML := hBoth.seg.len
            have hokM := hok.perm hBoth.seg.perm
            refine ends_cut (QS cf id fn caps L σ a m b s d e) ?_ ?_
            · have hfin : ∀ fr' τ' M1, frS fr' id fn caps L a m b → getSlot fr' 18 = .one (.int .i64 (d : Int)) → getSlot fr' 24 = .one (.int .i64 (e : Int)) → KeepsBut id τ τ' → τ'.get id = some ⟨acells M1, .own⟩ → Seg M M1 a d → SrtC cf M1 a d → QS cf id fn caps L σ a m b s d e fr' τ' :=
                fun fr' τ' M1 g1 g2 g4 g5 g6 g7 g8 => ⟨M, M1, g1, g2, g4, hkB.trans g5, g6, hBoth, g7, g8⟩
              by_cases hr1 : a < s
              · have hr1' : (a : Int) < (s : Int) := Int.ofNat_lt.2 hr1
                by_cases hr2 : s < d
                · have hr2' : (s : Int) < (d : Int) := Int.ofNat_lt.2 hr2
                  have hrec := symm_run cf hc id fn caps K ok z τ M a s d f (fu4 hz y8' y7') (hcmp.keeps hkB) hokM hr1 hr2 (fu5 hML v7 v4 hb) (by rw [hML]; exact hm) hBoth.s1 hBoth.s2 hBoth.c1 hg1 (by rw [hML]; exact fu6 hf)
                  rw [hML] at hrec
                  simp (maxDischargeDepth := 99) [hl, f0, f1, f4, f18, f20, f24, hr1, hr1', hr2, hr2']
                  refine hrec.mono ?_
                  rintro v τ2 ⟨k2, M1, g2, g7, g8⟩
                  simp (maxDischargeDepth := 99)
                  exact hfin _ _ M1 ⟨by simp [hl], by simp [hl, f0], by simp [hl, f1], by simp [hl, f2], by simp [hl, f3], by simp [hl, f4]⟩ (by simp [hl, f18]) (by simp [hl, f24]) k2 g2 g7 g8
                · have hr2' : ¬ (s : Int) < (d : Int) := fun e => hr2 (Int.ofNat_lt.1 e)
                  have hsd : s = d := Nat.le_antisymm v6 (Nat.not_lt.1 hr2)
                  simp (maxDischargeDepth := 99) [hl, f0, f1, f4, f18, f20, f24, hr1, hr1', hr2, hr2']
                  exact hfin _ _ M ⟨by simp [hl], by simp [hl, f0], by simp [hl, f1], by simp [hl, f2], by simp [hl, f3], by simp [hl, f4]⟩ (by simp [hl, f18]) (by simp [hl, f24]) (KeepsBut.refl _ _) hg1 (Seg.refl _ _ _) (hsd ▸ hBoth.s1)
              · have hr1' : ¬ (a : Int) < (s : Int) := fun e => hr1 (Int.ofNat_lt.1 e)
                have hsa : s = a := Nat.le_antisymm (Nat.not_lt.1 hr1) v1
                have hsrt : SrtC cf M a d := by have := hBoth.s2; rw [hsa] at this; exact this
                simp (maxDischargeDepth := 99) [hl, f0, f1, f4, f18, f20, f24, hr1, hr1']
                exact hfin _ _ M ⟨by simp [hl], by simp [hl, f0], by simp [hl, f1], by simp [hl, f2], by simp [hl, f3], by simp [hl, f4]⟩ (by simp [hl, f18]) (by simp [hl, f24]) (KeepsBut.refl _ _) hg1 (Seg.refl _ _ _) hsrt
            rintro fr τ ⟨M, M1, ⟨hl, f0, f1, f2, f3, f4⟩, f18, f24, hkB, hg1, hBoth, hS1, hT1⟩
            have hML := hBoth.seg.len
            have hML1 : M1.length = L.length := by rw [hS1.len, hML]
            have hokM1 := (hok.perm hBoth.seg.perm).perm hS1.perm
            have hfin : ∀ τ' M2, KeepsBut id τ τ' → τ'.get id = some ⟨acells M2, .own⟩ → Seg M1 M2 d b → SrtC cf M2 d b → SymPost cf σ id L a b τ' := fun τ' M2 g1 g2 g3 g4 => by
              obtain ⟨h5, h6⟩ := both_done hBoth (Nat.le_of_lt y7') (Nat.le_of_lt y8') hS1 hT1 g3 g4
              exact ⟨hkB.trans g1, M2, g2, h5, h6⟩
            have hout : ∀ x, d ≤ x → rAt M1 x = rAt M x := fun x hx => hS1.out x (fun e => absurd e.2 (Nat.not_lt.2 hx))
            have t3 : SrtC cf M1 d e := fun i j i1 i2 i3 => by rw [hout i i1, hout j (Nat.le_trans i1 (Nat.le_of_lt i2))]; exact hBoth.s3 i j i1 i2 i3
            have t4 : SrtC cf M1 e b := fun i j i1 i2 i3 => by rw [hout i (Nat.le_trans v7 i1), hout j (Nat.le_trans v7 (Nat.le_trans i1 (Nat.le_of_lt i2)))]; exact hBoth.s4 i j i1 i2 i3
            have t5 : CrossC M1 d e b := fun i j i1 i2 i3 i4 => by rw [hout i i1, hout j (Nat.le_trans v7 i3)]; exact hBoth.c2 i j i1 i2 i3 i4
            by_cases hr1 : d < e
            · have hr1' : (d : Int) < (e : Int) := Int.ofNat_lt.2 hr1
              by_cases hr2 : e < b
              · have hr2' : (e : Int) < (b : Int) := Int.ofNat_lt.2 hr2
                have hrec := symm_run cf hc id fn caps K ok z τ M1 d e b f (fu7 hz y7' y8') (hcmp.keeps hkB) hokM1 hr1 hr2 (by rw [hML1]; exact hb) (by rw [hML1]; exact hm) t3 t4 t5 hg1 (by rw [hML1]; exact fu6 hf)
                rw [hML1] at hrec
                simp (maxDischargeDepth := 99) [hl, f0, f3, f4, f18, f24, hr1, hr1', hr2, hr2']
                refine hrec.mono ?_
                rintro v τ2 ⟨k2, M2, g2, g7, g8⟩
                simp (maxDischargeDepth := 99)
                exact hfin _ M2 k2 g2 g7 g8
              · have hr2' : ¬ (e : Int) < (b : Int) := fun e => hr2 (Int.ofNat_lt.1 e)
                have heb : e = b := Nat.le_antisymm v4 (Nat.not_lt.1 hr2)
                simp (maxDischargeDepth := 99) [hl, f0, f3, f4, f18, f24, hr1, hr1', hr2, hr2']
                exact hfin _ M1 (KeepsBut.refl _ _) hg1 (Seg.refl _ _ _) (heb ▸ t3)
            · have hr1' : ¬ (d : Int) < (e : Int) := fun e => hr1 (Int.ofNat_lt.1 e)
              have hed : e = d := Nat.le_antisymm (Nat.not_lt.1 hr1) v7
              have hsrt : SrtC cf M1 d b := by have := t4; rw [hed] at this; exact this
              simp (maxDischargeDepth := 99) [hl, f0, f3, f4, f18, f24, hr1, hr1']
              exact hfin _ M1 (KeepsBut.refl _ _) hg1 (Seg.refl _ _ _) hsrt
end Go.Proofs.Ythjijjkoeoemgaa.Ab

/- The library's stable sort at arrivals, whole. -/
namespace Go.Proofs.Ythjijjkoeoemgaa.Ab
open Go
set_option maxRecDepth 20000
set_option maxHeartbeats 8000000
set_option linter.unusedSimpArgs false
set_option linter.unusedVariables false

def SameB (B i j : Nat) : Prop := ∃ k, k * B ≤ i ∧ j < (k + 1) * B
def LessB (B i j : Nat) : Prop := ∃ k, i < k * B ∧ k * B ≤ j
theorem mul_cut {k t B : Nat} (h : k * B < (t + 1) * B) : k * B ≤ t * B := by
  have : k < t + 1 := Nat.lt_of_mul_lt_mul_right h
  exact Nat.mul_le_mul_right B (Nat.le_of_lt_succ this)
structure PB (cf : Arr → Arr → Int) (M : List Arr) (B a N : Nat) : Prop where
  srt : ∀ i j, i < j → j < a → SameB B i j → ltC cf (rAt M i) (rAt M j)
  seq : ∀ i j, i < N → j < N → LessB B i j → (rAt M i).seq < (rAt M j).seq
theorem PB.step {cf : Arr → Arr → Int} {M M' : List Arr} {B t b N : Nat} (h : PB cf M B (t * B) N) (hb : b ≤ (t + 1) * B) (hbN : b ≤ N) (hl : b = (t + 1) * B ∨ b = N) (hs : Seg M M' (t * B) b) (hr : SrtC cf M' (t * B) b) : PB cf M' B b N where
  srt := fun i j h1 h2 ⟨k, k1, k2⟩ => by
    by_cases c1 : t * B ≤ i
    · exact hr i j c1 h1 h2
    · have c2 : j < t * B := by
        have e1 : k * B < t * B := by omega
        have e2 : k < t := Nat.lt_of_mul_lt_mul_right e1
        have e3 : (k + 1) * B ≤ t * B := Nat.mul_le_mul_right B e2
        omega
      rw [hs.out i (by omega), hs.out j (by omega)]
      exact h.srt i j h1 c2 ⟨k, k1, k2⟩
  seq := fun i j h1 h2 ⟨k, k1, k2⟩ => by
    by_cases c1 : t * B ≤ i ∧ i < b
    · obtain ⟨p, p1, p2, e⟩ := hs.ins i c1.1 c1.2
      have e1 : (t + 1) * B ≤ k * B := by
        by_cases g : k * B < (t + 1) * B
        · have := mul_cut g; omega
        · omega
      rw [e, hs.out j (by omega)]
      exact h.seq p j (by omega) h2 ⟨k, by omega, k2⟩
    · rw [hs.out i c1]
      by_cases c2 : t * B ≤ j ∧ j < b
      · obtain ⟨p, p1, p2, e⟩ := hs.ins j c2.1 c2.2
        have e1 : k * B ≤ t * B := by
          by_cases g : k * B < (t + 1) * B
          · exact mul_cut g
          · omega
        rw [e]
        exact h.seq i p h1 (by omega) ⟨k, k1, by omega⟩
      · rw [hs.out j c2]
        exact h.seq i j h1 h2 ⟨k, k1, k2⟩
theorem PB.all {cf : Arr → Arr → Int} {M : List Arr} {B N : Nat} (h : PB cf M B N N) (hN : N ≤ B) : SrtC cf M 0 N := fun i j _ h1 h2 => h.srt i j h1 h2 ⟨0, by omega, by omega⟩
theorem two_mul' (t B : Nat) : t * (2 * B) = (2 * t) * B := by rw [← Nat.mul_assoc, Nat.mul_comm t 2]
/-- From blocks of one size to those of twice that. -/
theorem PB.twice {cf : Arr → Arr → Int} {M : List Arr} {B N : Nat} (h : PB cf M B N N) : PB cf M (2 * B) 0 N where
  srt := fun i j _ h2 => by omega
  seq := fun i j h1 h2 ⟨k, k1, k2⟩ => h.seq i j h1 h2 ⟨2 * k, by rw [← two_mul']; exact k1, by rw [← two_mul']; exact k2⟩
/-- The blocks behind a that are not yet merged. -/
structure PR (cf : Arr → Arr → Int) (M : List Arr) (B a N : Nat) : Prop where
  srt : ∀ i j, a ≤ i → i < j → j < N → SameB B i j → ltC cf (rAt M i) (rAt M j)
  seq : ∀ i j, a ≤ i → i < N → j < N → LessB B i j → (rAt M i).seq < (rAt M j).seq
theorem PR.of {cf : Arr → Arr → Int} {M : List Arr} {B N : Nat} (h : PB cf M B N N) : PR cf M B 0 N := ⟨fun i j _ h1 h2 h3 => h.srt i j h1 h2 h3, fun i j _ h1 h2 h3 => h.seq i j h1 h2 h3⟩
theorem PR.step {cf : Arr → Arr → Int} {M M' : List Arr} {B a b N : Nat} (h : PR cf M B a N) (hab : a ≤ b) (hs : Seg M M' a b) : PR cf M' B b N where
  srt := fun i j h1 h2 h3 h4 => by
    rw [hs.out i (by omega), hs.out j (by omega)]
    exact h.srt i j (by omega) h2 h3 h4
  seq := fun i j h1 h2 h3 h4 => by
    have : i < j := by obtain ⟨k, k1, k2⟩ := h4; omega
    rw [hs.out i (by omega), hs.out j (by omega)]
    exact h.seq i j (by omega) h2 h3 h4
/-- What the merge of two blocks asks. -/
theorem PR.pre {cf : Arr → Arr → Int} {M : List Arr} {B t b N : Nat} (h : PR cf M B (t * (2 * B)) N) (h1 : t * (2 * B) + B ≤ b) (h2 : b ≤ t * (2 * B) + 2 * B) (h3 : b ≤ N) :
    SrtC cf M (t * (2 * B)) (t * (2 * B) + B) ∧ SrtC cf M (t * (2 * B) + B) b ∧ CrossC M (t * (2 * B)) (t * (2 * B) + B) b := by
  have e1 := two_mul' t B
  have e2 : (2 * t + 1) * B = t * (2 * B) + B := by rw [Nat.add_mul, e1, Nat.one_mul]
  have e3 : (2 * t + 1 + 1) * B = t * (2 * B) + 2 * B := by rw [Nat.add_mul, e2, Nat.one_mul]; omega
  refine ⟨fun i j i1 i2 i3 => h.srt i j i1 i2 (by omega) ⟨2 * t, by omega, by omega⟩, fun i j i1 i2 i3 => h.srt i j (by omega) i2 (by omega) ⟨2 * t + 1, by omega, by omega⟩, fun i j i1 i2 i3 i4 => h.seq i j i1 (by omega) (by omega) ⟨2 * t + 1, by omega, by omega⟩⟩
theorem PR.last {cf : Arr → Arr → Int} {M : List Arr} {B t N : Nat} (h : PR cf M B (t * (2 * B)) N) (h1 : N ≤ t * (2 * B) + B) : SrtC cf M (t * (2 * B)) N := by
  have e1 := two_mul' t B
  have e2 : (2 * t + 1) * B = t * (2 * B) + B := by rw [Nat.add_mul, e1, Nat.one_mul]
  exact fun i j i1 i2 i3 => h.srt i j i1 i2 i3 ⟨2 * t, by omega, by omega⟩
end Go.Proofs.Ythjijjkoeoemgaa.Ab

/- The library's stable sort at arrivals, whole: the walk. -/
namespace Go.Proofs.Ythjijjkoeoemgaa.Ab
open Go
set_option maxRecDepth 20000
set_option maxHeartbeats 8000000
set_option linter.unusedSimpArgs false
set_option linter.unusedVariables false

/-- What stays of the list that is sorted. -/
def Kin (σ : AHeap) (id : Nat) (L M : List Arr) (τ : AHeap) : Prop := KeepsBut id σ τ ∧ τ.get id = some ⟨acells M, .own⟩ ∧ M.length = L.length ∧ M.Perm L
def frT (fr : List AV) (id fn : Nat) (caps : List SV) (N : Nat) : Prop :=
  fr.length = 63 ∧ getSlot fr 0 = .one (.slice id 0 3 N none) ∧ getSlot fr 1 = .one (.int .i64 (N : Int)) ∧ getSlot fr 2 = .one (.func fn caps)
/-- Blocks of twenty. -/
def IT0 (cf : Arr → Arr → Int) (σ : AHeap) (id fn : Nat) (caps : List SV) (L : List Arr) (k : Nat) (fr : List AV) (τ : AHeap) : Prop :=
  ∃ t M, k = L.length - t * 20 ∧ t * 20 ≤ L.length ∧ frT fr id fn caps L.length ∧ getSlot fr 6 = .one (.int .i64 20) ∧ getSlot fr 7 = .one (.int .i64 ((t * 20 : Nat) : Int)) ∧ getSlot fr 8 = .one (.int .i64 ((t * 20 + 20 : Nat) : Int)) ∧
    Kin σ id L M τ ∧ PB cf M 20 (t * 20) L.length ∧ ∀ x, t * 20 ≤ x → rAt M x = rAt L x
def OT0 (cf : Arr → Arr → Int) (σ : AHeap) (id fn : Nat) (caps : List SV) (L : List Arr) (fr : List AV) (τ : AHeap) : Prop :=
  ∃ t M, t * 20 ≤ L.length ∧ L.length < t * 20 + 20 ∧ frT fr id fn caps L.length ∧ getSlot fr 6 = .one (.int .i64 20) ∧ getSlot fr 7 = .one (.int .i64 ((t * 20 : Nat) : Int)) ∧
    Kin σ id L M τ ∧ PB cf M 20 (t * 20) L.length ∧ ∀ x, t * 20 ≤ x → rAt M x = rAt L x
theorem inc_of {L M : List Arr} {a b : Nat} (h : SeqInc L 0 L.length) (hx : ∀ x, a ≤ x → rAt M x = rAt L x) (hb : b ≤ L.length) : SeqInc M a b := fun i j h1 h2 h3 => by
  rw [hx i h1, hx j (by omega)]
  exact h i j (by omega) h2 (by omega)
theorem st0 {R : KN} (cf : Arr → Arr → Int) (hc : COrd cf) (σ : AHeap) (id fn : Nat) (caps : List SV) (K : Nat) (ok : Arr → Prop) (hcmp : CmpOk σ id fn caps K ok cf) (L : List Arr) (hok : AllOk ok L) (hm : L.length ≤ 1048576) (hinc : SeqInc L 0 L.length)
    (f : Nat) (hf : K + L.length + 100 ≤ f) (k : Nat) (hkb : k ≤ L.length) (fr : List AV) (τ : AHeap) (hI : IT0 cf σ id fn caps L k fr τ) :
    EndsC .go (evCall D9 f) f (ACode.loop cst77_0) fr τ (fun _ _ _ => False) (fun e _ fr τ => e = 0 ∧ OT0 cf σ id fn caps L fr τ) R := by
  refine ends_loop (I := IT0 cf σ id fn caps L) ?_ (k := k) hI (by omega)
  rintro k fr τ ⟨t, M, rfl, ht, ⟨hl, f0, f1, f2⟩, f6, f7, f8, ⟨hk, hg, hM, hp⟩, hPB, hx⟩
  by_cases hle : t * 20 + 20 ≤ L.length
  · have hle' : ((t * 20 + 20 : Nat) : Int) ≤ (L.length : Int) := Int.ofNat_le.2 hle
    have e1 : wr .i64 (((t * 20 + 20 : Nat) : Int) + 20) = (((t + 1) * 20 + 20 : Nat) : Int) := by rw [wr64 (by omega) (by omega)]; omega
    have e2 : (t + 1) * 20 = t * 20 + 20 := by omega
    have hS := insertion_run cf hc τ id fn caps K ok (hcmp.keeps hk) M (hok.perm hp) (t * 20) (t * 20 + 20) (inc_of hinc hx hle) (by omega) (by omega) (by omega) hg f (by omega)
    rw [hM] at hS
    simp (maxDischargeDepth := 99) [cst77_0, hl, f0, f1, f2, f6, f7, f8, hle, hle', -Int.natCast_add, -Int.natCast_mul]
    refine hS.mono ?_
    rintro v τ2 ⟨k2, M2, g2, hseg, hsr⟩
    simp (maxDischargeDepth := 99) [hl, f6, f8, e1, -Int.natCast_add, -Int.natCast_mul]
    refine ⟨L.length - (t + 1) * 20, by omega, t + 1, M2, rfl, by omega, ⟨by simp [hl], by simp [hl, f0], by simp [hl, f1], by simp [hl, f2]⟩, by simp [hl, f6], ?_, by simp [hl, -Int.natCast_add, -Int.natCast_mul], ⟨hk.trans k2, g2, by rw [hseg.len, hM], hseg.perm.trans hp⟩, ?_, fun x hx2 => by rw [hseg.out x (by omega)]; exact hx x (by omega)⟩
    · rw [e2]; simp [hl, -Int.natCast_add, -Int.natCast_mul]
    · rw [e2]
      exact hPB.step (by omega) hle (.inl (by omega)) hseg hsr
  · have hle' : ¬ ((t * 20 + 20 : Nat) : Int) ≤ (L.length : Int) := fun e => hle (Int.ofNat_le.1 e)
    simp (maxDischargeDepth := 99) [cst77_0, hl, f1, f8, hle, hle', -Int.natCast_add, -Int.natCast_mul]
    exact ⟨t, M, ht, by omega, ⟨by simp [hl], by simp [hl, f0], by simp [hl, f1], by simp [hl, f2]⟩, by simp [hl, f6], by simp [hl, f7, -Int.natCast_mul], ⟨hk, hg, hM, hp⟩, hPB, hx⟩

/-! ### the merges of one size -/
def IT1 (cf : Arr → Arr → Int) (σ : AHeap) (id fn : Nat) (caps : List SV) (L : List Arr) (B : Nat) (k : Nat) (fr : List AV) (τ : AHeap) : Prop :=
  ∃ t M, k = L.length - t * (2 * B) ∧ t * (2 * B) ≤ L.length ∧ frT fr id fn caps L.length ∧ getSlot fr 6 = .one (.int .i64 (B : Int)) ∧ getSlot fr 7 = .one (.int .i64 ((t * (2 * B) : Nat) : Int)) ∧ getSlot fr 8 = .one (.int .i64 ((t * (2 * B) + 2 * B : Nat) : Int)) ∧
    Kin σ id L M τ ∧ PB cf M (2 * B) (t * (2 * B)) L.length ∧ PR cf M B (t * (2 * B)) L.length
def OT1 (cf : Arr → Arr → Int) (σ : AHeap) (id fn : Nat) (caps : List SV) (L : List Arr) (B : Nat) (fr : List AV) (τ : AHeap) : Prop :=
  ∃ t M, t * (2 * B) ≤ L.length ∧ L.length < t * (2 * B) + 2 * B ∧ frT fr id fn caps L.length ∧ getSlot fr 6 = .one (.int .i64 (B : Int)) ∧ getSlot fr 7 = .one (.int .i64 ((t * (2 * B) : Nat) : Int)) ∧
    Kin σ id L M τ ∧ PB cf M (2 * B) (t * (2 * B)) L.length ∧ PR cf M B (t * (2 * B)) L.length
theorem t1b {a B l m : Nat} (h : a + 2 * B ≤ l) (hm : l ≤ 1048576) (h0 : 0 < B) (hM : m = l) : a + B ≤ 4398046511104 ∧ 2 * B ≤ 4398046511104 ∧ a + 2 * B + 2 * B ≤ 4398046511104 ∧ a < a + B ∧ a + B < a + 2 * B ∧ a + 2 * B ≤ m ∧ m ≤ 1048576 ∧ l - (a + 2 * B) < l - a ∧ a ≤ a + 2 * B := by omega
theorem t1f {K l f m a B : Nat} (hf : K + l + l + 200 ≤ f) (hM : m = l) (h : a + 2 * B ≤ l) : K + m + 100 + (a + 2 * B - a) ≤ f := by omega
theorem wr_two {B : Nat} (h : 2 * B ≤ 4398046511104) : wr .i64 (2 * (B : Int)) = ((2 * B : Nat) : Int) := by rw [wr64 (by omega) (by omega)]; omega
theorem wr_two' {B : Nat} (h : 2 * B ≤ 4398046511104) : wr .i64 ((B : Int) * 2) = ((2 * B : Nat) : Int) := by rw [wr64 (by omega) (by omega)]; omega
theorem st1 {R : KN} (cf : Arr → Arr → Int) (hc : COrd cf) (σ : AHeap) (id fn : Nat) (caps : List SV) (K : Nat) (ok : Arr → Prop) (hcmp : CmpOk σ id fn caps K ok cf) (L : List Arr) (hok : AllOk ok L) (hm : L.length ≤ 1048576) (B : Nat) (hB0 : 0 < B)
    (f : Nat) (hf : K + L.length + L.length + 200 ≤ f) (k : Nat) (hkb : k ≤ L.length) (fr : List AV) (τ : AHeap) (hI : IT1 cf σ id fn caps L B k fr τ) :
    EndsC .go (evCall D9 f) f (ACode.loop cst77_1) fr τ (fun _ _ _ => False) (fun e _ fr τ => e = 4 ∧ OT1 cf σ id fn caps L B fr τ) R := by
  refine ends_loop (I := IT1 cf σ id fn caps L B) ?_ (k := k) hI (by omega)
  rintro k fr τ ⟨t, M, rfl, ht, ⟨hl, f0, f1, f2⟩, f6, f7, f8, ⟨hk, hg, hM, hp⟩, hPB, hPR⟩
  have eS : (t + 1) * (2 * B) = t * (2 * B) + 2 * B := by rw [Nat.add_mul, Nat.one_mul]
  by_cases hle : t * (2 * B) + 2 * B ≤ L.length
  · have hle' : ((t * (2 * B) + 2 * B : Nat) : Int) ≤ (L.length : Int) := Int.ofNat_le.2 hle
    obtain ⟨z1, z2, z3, z4, z5, z6, z7, z8, z9⟩ := t1b hle hm hB0 hM
    obtain ⟨p1, p2, p3⟩ := hPR.pre (b := t * (2 * B) + 2 * B) (by omega) (Nat.le_refl _) hle
    have hst := hPB.step (b := t * (2 * B) + 2 * B) (M' := M) (by rw [eS]; exact Nat.le_refl _) hle (.inl eS.symm)
    have hstep := fun M' hs hr => PB.step (M' := M') (b := t * (2 * B) + 2 * B) hPB (by rw [eS]; exact Nat.le_refl _) hle (.inl eS.symm) hs hr
    have hstR := fun M' hs => PR.step (M' := M') (b := t * (2 * B) + 2 * B) hPR z9 hs
    rw [← eS] at hstep hstR
    have hgo : ∀ fr' τ' M', frT fr' id fn caps L.length → getSlot fr' 6 = .one (.int .i64 (B : Int)) → getSlot fr' 7 = .one (.int .i64 (((t + 1) * (2 * B) : Nat) : Int)) → getSlot fr' 8 = .one (.int .i64 (((t + 1) * (2 * B) + 2 * B : Nat) : Int)) →
        Kin σ id L M' τ' → PB cf M' (2 * B) ((t + 1) * (2 * B)) L.length → PR cf M' B ((t + 1) * (2 * B)) L.length → ∃ j, j < L.length - t * (2 * B) ∧ IT1 cf σ id fn caps L B j fr' τ' := fun fr' τ' M' g1 g2 g3 g4 g5 g6 g7 =>
      ⟨L.length - (t + 1) * (2 * B), by rw [eS]; exact z8, t + 1, M', rfl, by rw [eS]; exact hle, g1, g2, g3, g4, g5, g6, g7⟩
    clear hst
    have hf2 := t1f (a := t * (2 * B)) hf hM hle
    obtain ⟨a, ha⟩ : ∃ a, a = t * (2 * B) := ⟨_, rfl⟩
    obtain ⟨b, hb⟩ : ∃ b, b = a + 2 * B := ⟨_, rfl⟩
    rw [eS] at hgo hstep hstR
    rw [← ha] at f7 f8 hle hle' z1 z3 z4 z5 z6 z8 p1 p2 p3 hstep hstR hgo hf2
    rw [← hb] at f8 hle hle' z3 z5 z6 z8 p2 p3 hstep hstR hgo hf2
    rw [← ha]
    have e0 : wr .i64 ((a : Int) + (B : Int)) = ((a + B : Nat) : Int) := wr_add z1
    have e1 : wr .i64 (2 * (B : Int)) = ((2 * B : Nat) : Int) := wr_two z2
    have e2 : wr .i64 ((b : Int) + ((2 * B : Nat) : Int)) = ((b + 2 * B : Nat) : Int) := wr_add z3
    have hS := symm_run cf hc id fn caps K ok (b - a) τ M a (a + B) b f (Nat.le_refl _) (hcmp.keeps hk) (hok.perm hp) z4 z5 z6 z7 p1 p2 p3 hg hf2
    rw [hM] at hS
    simp (maxDischargeDepth := 99) [cst77_1, hl, f0, f1, f2, f6, f7, f8, hle, hle', e0, -Int.natCast_add, -Int.natCast_mul]
    refine hS.mono ?_
    rintro v τ2 ⟨k2, M2, g2, hseg, hsr⟩
    simp (maxDischargeDepth := 99) [hl, f6, f8, e1, e2, -Int.natCast_add, -Int.natCast_mul]
    exact hgo _ _ M2 ⟨by simp [hl], by simp [hl, f0], by simp [hl, f1], by simp [hl, f2]⟩ (by simp [hl, f6]) (by simp [hl, f8]) (by simp [hl, -Int.natCast_add, -Int.natCast_mul]) ⟨hk.trans k2, g2, by rw [hseg.len, hM], hseg.perm.trans hp⟩ (hstep _ hseg hsr) (hstR _ hseg)
  · have hle' : ¬ ((t * (2 * B) + 2 * B : Nat) : Int) ≤ (L.length : Int) := fun e => hle (Int.ofNat_le.1 e)
    simp (maxDischargeDepth := 99) [cst77_1, hl, f1, f8, hle, hle', -Int.natCast_add, -Int.natCast_mul]
    exact ⟨t, M, ht, Nat.not_le.1 hle, ⟨by simp [hl], by simp [hl, f0], by simp [hl, f1], by simp [hl, f2]⟩, by simp [hl, f6], by simp [hl, f7, -Int.natCast_mul], ⟨hk, hg, hM, hp⟩, hPB, hPR⟩

/-! ### all sizes -/
def IT2 (cf : Arr → Arr → Int) (σ : AHeap) (id fn : Nat) (caps : List SV) (L : List Arr) (k : Nat) (fr : List AV) (τ : AHeap) : Prop :=
  ∃ B M, k = L.length - B ∧ 0 < B ∧ B ≤ 2 * L.length + 20 ∧ frT fr id fn caps L.length ∧ getSlot fr 6 = .one (.int .i64 (B : Int)) ∧ Kin σ id L M τ ∧ PB cf M B L.length L.length
theorem t2b {a B l m : Nat} (h : l < a + 2 * B) (hm : l ≤ 1048576) (h0 : 0 < B) (hM : m = l) (hBl : B < l) (ha : a ≤ l) : a + B ≤ 4398046511104 ∧ 2 * B ≤ 4398046511104 ∧ a < a + B ∧ l ≤ m ∧ m ≤ 1048576 ∧ l - 2 * B < l - B ∧ 0 < 2 * B ∧ 2 * B ≤ 2 * l + 20 := by omega
theorem stable_run (cf : Arr → Arr → Int) (hc : COrd cf) (σ : AHeap) (id fn : Nat) (caps : List SV) (K : Nat) (ok : Arr → Prop) (hcmp : CmpOk σ id fn caps K ok cf) (L : List Arr) (hok : AllOk ok L) (hm : L.length ≤ 1048576) (hinc : SeqInc L 0 L.length) (hg : σ.get id = some ⟨acells L, .own⟩)
    (f : Nat) (hf : K + L.length + L.length + 300 ≤ f) :
    OptP (evCall D9 f 64 [.one (.slice id 0 3 L.length none), .one (.int .i64 (L.length : Int)), .one (.func fn caps)] σ)
      (fun _ _ τ => ∃ M, Kin σ id L M τ ∧ SrtC cf M 0 L.length) := by
  obtain ⟨f, rfl⟩ : ∃ k, f = k + 1 := ⟨f - 1, by omega⟩
  refine evCall_code (D9_prim 64) ((D9_code 64).trans codest77) ?_
  simp (maxDischargeDepth := 99) [cst77]
  refine ends_to 0 _ (st0 cf hc σ id fn caps K ok hcmp L hok hm hinc f (by omega) L.length (Nat.le_refl _) _ σ ?_) ?_
  · refine ⟨0, L, by simp, by simp, ⟨by simp, by simp, by simp, by simp⟩, by simp, by simp, by simp, ⟨KeepsBut.refl _ _, hg, rfl, .refl _⟩, ⟨fun i j h1 h2 => by omega, fun i j h1 h2 ⟨k, k1, k2⟩ => hinc i j (Nat.zero_le _) (by omega) h2⟩, fun x _ => rfl⟩
  · rintro fr τ ⟨t, M, ht, ht2, ⟨hl, f0, f1, f2⟩, f6, f7, ⟨hk, hg1, hM, hp⟩, hPB, hx⟩
    have hS := insertion_run cf hc τ id fn caps K ok (hcmp.keeps hk) M (hok.perm hp) (t * 20) L.length (inc_of hinc hx (Nat.le_refl _)) (by rw [hM]; exact Nat.le_refl _) (by rw [hM]; exact ht) (by rw [hM]; exact hm) hg1 f (by omega)
    rw [hM] at hS
    simp (maxDischargeDepth := 99) [hl, f0, f1, f2, f7, -Int.natCast_mul]
    refine hS.mono ?_
    rintro v τ2 ⟨k2, M2, g2, hseg, hsr⟩
    have hPB2 := hPB.step (b := L.length) (by omega) (Nat.le_refl _) (.inr rfl) hseg hsr
    have hM2 : M2.length = L.length := by rw [hseg.len, hM]
    have hp2 := hseg.perm.trans hp
    have hk2 := hk.trans k2
    simp (maxDischargeDepth := 99)
    refine ends_loop (I := IT2 cf σ id fn caps L) ?_ (k := L.length - 20) ?_ (by omega)
    · rintro k fr τ ⟨B, M, rfl, hB0, hBl, ⟨hl, f0, f1, f2⟩, f6, ⟨hk, hg, hM, hp⟩, hPB⟩
      by_cases hlt : B < L.length
      · have hlt' : (B : Int) < (L.length : Int) := Int.ofNat_lt.2 hlt
        have e1 : wr .i64 (2 * (B : Int)) = ((2 * B : Nat) : Int) := wr_two (by omega)
        simp (maxDischargeDepth := 99) [cst77_2, hl, f1, f6, hlt, hlt', e1, -Int.natCast_mul]
        refine ends_to 4 _ (st1 cf hc σ id fn caps K ok hcmp L hok hm B hB0 f (by omega) L.length (Nat.le_refl _) _ τ ?_) ?_
        · exact ⟨0, M, by simp, by simp, ⟨by simp [hl], by simp [hl, f0], by simp [hl, f1], by simp [hl, f2]⟩, by simp [hl, f6], by simp [hl], by simp [hl, -Int.natCast_mul], ⟨hk, hg, hM, hp⟩, by rw [Nat.zero_mul]; exact hPB.twice, by rw [Nat.zero_mul]; exact PR.of hPB⟩
        · rintro fr τ ⟨t, M, ht, ht2, ⟨hl, f0, f1, f2⟩, f6, f7, ⟨hk, hg, hM, hp⟩, hPB, hPR⟩
          have eS : (t + 1) * (2 * B) = t * (2 * B) + 2 * B := by rw [Nat.add_mul, Nat.one_mul]
          obtain ⟨z1, z2, z3, z4, z5, z6, z7, z8⟩ := t2b ht2 hm hB0 hM hlt ht
          have hgo : ∀ fr' τ' M', frT fr' id fn caps L.length → getSlot fr' 6 = .one (.int .i64 ((2 * B : Nat) : Int)) → Kin σ id L M' τ' → PB cf M' (2 * B) L.length L.length → ∃ j, j < L.length - B ∧ IT2 cf σ id fn caps L j fr' τ' := fun fr' τ' M' g1 g2 g3 g4 => ⟨L.length - 2 * B, z6, 2 * B, M', rfl, z7, z8, g1, g2, g3, g4⟩
          have hstep := fun M' hs hr => PB.step (M' := M') (b := L.length) hPB (by rw [eS]; exact Nat.le_of_lt ht2) (Nat.le_refl _) (.inr rfl) hs hr
          have hpre := fun h => hPR.pre (b := L.length) h (Nat.le_of_lt ht2) (Nat.le_refl _)
          have hlast := fun h => hPR.last h
          obtain ⟨a, ha⟩ : ∃ a, a = t * (2 * B) := ⟨_, rfl⟩
          rw [← ha] at f7 ht ht2 z1 z3 hstep hpre hlast
          have e0 : wr .i64 ((a : Int) + (B : Int)) = ((a + B : Nat) : Int) := wr_add z1
          have e3 : wr .i64 ((B : Int) * 2) = ((2 * B : Nat) : Int) := wr_two' z2
          by_cases hab : a + B < L.length
          · have hab' : ((a + B : Nat) : Int) < (L.length : Int) := Int.ofNat_lt.2 hab
            obtain ⟨p1, p2, p3⟩ := hpre (Nat.le_of_lt hab)
            have hS := symm_run cf hc id fn caps K ok (L.length - a) τ M a (a + B) L.length f (Nat.le_refl _) (hcmp.keeps hk) (hok.perm hp) z3 hab z4 z5 p1 p2 p3 hg (by rw [hM]; omega)
            rw [hM] at hS
            simp (maxDischargeDepth := 99) [hl, f0, f1, f2, f6, f7, e0, hab, hab', -Int.natCast_add, -Int.natCast_mul]
            refine hS.mono ?_
            rintro v τ2 ⟨k2, M2, g2, hseg, hsr⟩
            simp (maxDischargeDepth := 99) [hl, f6, e3, -Int.natCast_mul]
            exact hgo _ _ M2 ⟨by simp [hl], by simp [hl, f0], by simp [hl, f1], by simp [hl, f2]⟩ (by simp [hl, -Int.natCast_mul]) ⟨hk.trans k2, g2, by rw [hseg.len, hM], hseg.perm.trans hp⟩ (hstep _ hseg hsr)
          · have hab' : ¬ ((a + B : Nat) : Int) < (L.length : Int) := fun e => hab (Int.ofNat_lt.1 e)
            simp (maxDischargeDepth := 99) [hl, f0, f1, f2, f6, f7, e0, e3, hab, hab', -Int.natCast_add, -Int.natCast_mul]
            exact hgo _ _ M ⟨by simp [hl], by simp [hl, f0], by simp [hl, f1], by simp [hl, f2]⟩ (by simp [hl, -Int.natCast_mul]) ⟨hk, hg, hM, hp⟩ (hstep _ (Seg.refl _ _ _) (hlast (Nat.not_lt.1 hab)))
      · have hlt' : ¬ (B : Int) < (L.length : Int) := fun e => hlt (Int.ofNat_lt.1 e)
        simp (maxDischargeDepth := 99) [cst77_2, hl, f1, f6, hlt, hlt']
        exact ⟨M, ⟨hk, hg, hM, hp⟩, hPB.all (Nat.not_lt.1 hlt)⟩
    · exact ⟨20, M2, rfl, by decide, by omega, ⟨by simp [hl], by simp [hl, f0], by simp [hl, f1], by simp [hl, f2]⟩, by simp [hl, f6], ⟨hk2, g2, hM2, hp2⟩, hPB2⟩
end Go.Proofs.Ythjijjkoeoemgaa.Ab
