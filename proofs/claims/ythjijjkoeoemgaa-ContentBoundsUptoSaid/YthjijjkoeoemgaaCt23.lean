/- Content's sorted view, whole. -/
import Derived.Test.YthjijjkoeoemgaaSt9
import Derived.Test.YthjijjkoeoemgaaCt22
import Derived.Test.YthjijjkoeoemgaaSqPlain
namespace Go.Proofs.Ythjijjkoeoemgaa.Ab
open Go
set_option maxRecDepth 20000
set_option maxHeartbeats 4000000
set_option linter.unusedSimpArgs false
set_option linter.unusedVariables false

/-! ### the plain part -/
def ltB (v : VS) (b a : Arr) : Bool := decide (cfV v b a < 0) || (decide (cfV v b a = 0) && decide (b.seq < a.seq))
theorem ltB_iff (v : VS) (b a : Arr) : ltB v b a = true ↔ ltC (cfV v) b a := by
  unfold ltB ltC
  simp only [Bool.or_eq_true, Bool.and_eq_true, decide_eq_true_eq]
theorem ltB_asym {v : VS} {a b : Arr} (h : ltC (cfV v) a b) : ltB v b a = false := by
  cases hb : ltB v b a with
  | false => rfl
  | true =>
    rw [ltB_iff] at hb
    have := (h.trans (cfV_ord v) hb)
    have a1 := (cfV_ord v).anti a a
    rcases this with g | ⟨_, g⟩
    · have := a1.1 g; omega
    · omega
theorem ltB_self (v : VS) (a : Arr) : ltB v a a = false := by
  cases hb : ltB v a a with
  | false => rfl
  | true =>
    rw [ltB_iff] at hb
    have a1 := (cfV_ord v).anti a a
    rcases hb with g | ⟨_, g⟩
    · have := a1.1 g; omega
    · omega
/-- How many stand ahead. -/
def cntB (v : VS) (l : List Arr) (a : Arr) : Nat := (l.filter fun b => ltB v b a).length
def sortF (v : VS) (l : List Arr) : List Arr := l.filter fun a => decide ((cntB v l a : Int) < v.n)
theorem filter_take {p : Arr → Bool} {M : List Arr} {m : Nat} (h : ∀ i, i < M.length → p (rAt M i) = decide (i < m)) : M.filter p = M.take m := by
  conv => lhs; rw [← List.take_append_drop m M]
  rw [List.filter_append]
  have h1 : (M.take m).filter p = M.take m := by
    rw [List.filter_eq_self]
    intro a ha
    obtain ⟨i, hi, rfl⟩ := List.mem_iff_getElem.1 ha
    rw [List.length_take] at hi
    have := h i (by omega)
    rw [rAt_get (by omega)] at this
    rw [List.getElem_take, this, decide_eq_true_iff]
    omega
  have h2 : (M.drop m).filter p = [] := by
    rw [List.filter_eq_nil_iff]
    intro a ha
    obtain ⟨i, hi, rfl⟩ := List.mem_iff_getElem.1 ha
    rw [List.length_drop] at hi
    have := h (m + i) (by omega)
    rw [rAt_get (by omega)] at this
    rw [List.getElem_drop, this]
    simp
  rw [h1, h2, List.append_nil]
theorem cnt_at {v : VS} {M : List Arr} (hs : SrtC (cfV v) M 0 M.length) {i : Nat} (hi : i < M.length) : cntB v M (rAt M i) = i := by
  unfold cntB
  rw [filter_take (m := i), List.length_take, Nat.min_eq_left (Nat.le_of_lt hi)]
  intro j hj
  by_cases c : j < i
  · rw [(ltB_iff _ _ _).2 (hs j i (Nat.zero_le _) c hi)]
    simp [c]
  · by_cases c2 : j = i
    · rw [c2, ltB_self]; simp
    · rw [ltB_asym (hs i j (Nat.zero_le _) (by omega) hj)]
      simp [c]
theorem cnt_perm {v : VS} {l M : List Arr} (h : M.Perm l) (a : Arr) : cntB v l a = cntB v M a := by
  unfold cntB
  exact ((h.filter _).length_eq).symm
theorem sort_eq {v : VS} {l M : List Arr} (hp : M.Perm l) (hs : SrtC (cfV v) M 0 M.length) (hq : SrtQ l) {m : Nat} (hm : (m : Int) = v.n ∨ (M.length ≤ m ∧ (M.length : Int) ≤ v.n)) : isortQ (M.take m) = sortF v l := by
  have hnd : (l.map Arr.seq).Nodup := by
    refine List.Pairwise.map Arr.seq (R := fun a b => a.seq < b.seq) (fun a b h => ?_) hq
    omega
  have hndM : (M.map Arr.seq).Nodup := ((hp.map Arr.seq).nodup_iff).2 hnd
  have hndT : ((M.take m).map Arr.seq).Nodup := by
    rw [List.map_take]
    exact hndM.sublist (List.take_sublist _ _)
  refine srtQ_uniq _ _ (isortQ_srt _ hndT) (hq.filter _) ((isortQ_perm _).trans ?_)
  have hf : M.filter (fun a => decide ((cntB v l a : Int) < v.n)) = M.take m := by
    apply filter_take
    intro i hi
    rw [cnt_perm hp, cnt_at hs hi]
    have : ((i : Int) < v.n) ↔ i < m := by rcases hm with hm | hm <;> omega
    simp [this]
  rw [← hf]
  exact hp.filter _
theorem ins_er (x : Arr) : ∀ l, insQ (er x) (l.map er) = (insQ x l).map er
  | [] => rfl
  | y :: l => by
    simp only [List.map_cons, insQ]
    have e1 : (er x).seq = x.seq := rfl
    have e2 : (er y).seq = y.seq := rfl
    rw [e1, e2, ins_er x l]
    split <;> rfl
theorem isort_er : ∀ l, isortQ (l.map er) = (isortQ l).map er
  | [] => rfl
  | x :: l => by simp only [List.map_cons, isortQ, isort_er l, ins_er]
theorem acells_er : ∀ l, acells (l.map er) = acells l
  | [] => rfl
  | x :: l => by simp [acells, Arr.cells, er, acells_er l]
theorem acells_take (M : List Arr) (m : Nat) : (acells M).take (m * 3) = acells (M.take m) ∧ (acells M).drop (m * 3) = acells (M.drop m) := by
  by_cases h : m ≤ M.length
  · have e : acells M = acells (M.take m) ++ acells (M.drop m) := by rw [← acells_append, List.take_append_drop]
    have hl : (acells (M.take m)).length = m * 3 := by rw [acells_length, List.length_take, Nat.min_eq_left h]
    rw [e]
    exact ⟨List.take_left' hl, List.drop_left' hl⟩
  · have hl := acells_length M
    have hle : M.length * 3 ≤ m * 3 := Nat.mul_le_mul_right 3 (by omega)
    rw [List.take_of_length_le (by omega), List.drop_of_length_le (by omega), List.take_of_length_le (by omega), List.drop_of_length_le (by omega)]
    exact ⟨rfl, rfl⟩

/-! ### the walk -/
theorem sorted_run (σ : AHeap) (s : AV) (l : List Arr) (v : VS) (now c : Int) (hA : Arrs σ s l) (hG : Grown σ s l) (h0 : 0 < l.length) (hm : l.length ≤ 200) (hv : v.ok σ) (hcols : v.cols = [c]) (hc0 : 0 ≤ c) (n1 : 1 ≤ v.n) (n2 : v.n ≤ 65536)
    (hq : SrtQ l) (hb : ∀ a ∈ l, 0 ≤ a.seq ∧ a.seq ≤ 1073741824) (hne : ∀ a ∈ l, a.vals ≠ []) (hin : ∀ a ∈ l, VIn a.vals) (f : Nat) (hf : 1000 ≤ f) :
    OptP (evCall D9 f 47 [.agg (v.at' now), s] σ) (fun _ r τ => Arrs τ r (sortF v l) ∧ Keeps σ τ) := by
  obtain ⟨f, rfl⟩ : ∃ k, f = k + 1 := ⟨f - 1, by omega⟩
  refine evCall_code (D9_prim 47) ((D9_code 47).trans code47) ?_
  obtain ⟨q, rfl, hqg⟩ := hG
  have hmx : l.length ≤ maxElems := by unfold maxElems; omega
  obtain ⟨τ1, hτ1⟩ : ∃ τ1, τ1 = σ.alloc ⟨v.at' now, .own⟩ := ⟨_, rfl⟩
  have k1 : Keeps σ τ1 := by rw [hτ1]; exact (Keeps.refl _).alloc
  have z1 : τ1.size = σ.size + 1 := by rw [hτ1, AHeap.size_alloc]
  have g1 : τ1.get σ.size = some ⟨v.at' now, .own⟩ := by rw [hτ1]; simp
  have gq : τ1.get q = some ⟨acells l, .own⟩ := by rw [k1.2 _ (AHeap.get_lt hqg), hqg]
  have hcl := run64 τ1 q l gq h0 hmx f (by omega)
  rcases slInts_spec hv with ⟨_, hl⟩ | ⟨id0, off0, cap0, hs0, hrd0, _⟩
  · rw [hcols] at hl; cases hl
  have hs : v.s = .slice id0 off0 1 1 cap0 := by
    rw [hcols] at hs0
    injection hs0
  have hrd := hrd0 0 (by rw [hcols]; exact Nat.one_pos)
  simp only [hcols, List.getElem_cons_zero, Nat.add_zero] at hrd
  have hid0 := rd_lt hrd
  rw [z1] at hcl
  simp (maxDischargeDepth := 99) [c47, ← hτ1]
  refine hcl.mono ?_
  rintro w τ2 ⟨rfl, g2, k2⟩
  have k12 := k1.trans k2
  have gw : τ2.get σ.size = some ⟨[.int .i64 v.k, .int .i64 v.n, .slice id0 off0 1 1 cap0, .bool v.d, .int .i64 now], .own⟩ := by
    rw [k2.2 _ (AHeap.get_lt g1), g1]
    simp [VS.at', hs]
  rw [← k12.2 _ hid0] at hrd
  obtain ⟨τ3, hτ3⟩ : ∃ τ3, τ3 = (τ2.alloc ⟨[.int .i64 0], .own⟩).put τ2.size ⟨[.int .i64 c], .own⟩ := ⟨_, rfl⟩
  have k3 : Keeps τ2 τ3 := by rw [hτ3]; exact ((Keeps.refl _).alloc).put (Nat.le_refl _)
  have w3 : writeAt (τ2.alloc ⟨[.int .i64 0], .own⟩) τ2.size 0 [.int .i64 c] = some τ3 := by rw [hτ3]; simp [writeAt, splice]
  have g3 : τ3.get τ2.size = some ⟨[.int .i64 c], .own⟩ := by rw [hτ3, AHeap.get_put', if_pos ⟨rfl, by rw [AHeap.size_alloc]; omega⟩]
  have k13 := k12.trans k3
  have lid := AHeap.get_lt g2
  have gid : τ3.get (σ.size + 1 + 1) = some ⟨acells l, .own⟩ := by rw [k3.2 _ lid, g2]
  have gp : τ3.get σ.size = some ⟨v.at' now, .own⟩ := by rw [k3.2 _ (AHeap.get_lt gw), k2.2 _ (AHeap.get_lt g1), g1]
  have hcmp := run66 τ3 (σ.size + 1 + 1) σ.size τ2.size v now c hc0 (by rw [hcols]; rfl) gp g3 (by omega) (by omega)
  have hokL : AllOk (rowOk τ3 (σ.size + 1 + 1)) l := fun a ha => by
    have h1 := hA.2 a ha
    refine ⟨slVals_keeps k13 h1, hin a ha, fun q o n c e => ?_⟩
    rcases slVals_spec h1 with ⟨e2, hl⟩ | ⟨q2, off, cap, e2, hr2, _⟩
    · exact absurd hl (hne a ha)
    · have hpos : 0 < a.vals.length := by
        cases hx : a.vals with
        | nil => exact absurd hx (hne a ha)
        | cons => simp
      have := rd_lt (hr2 0 hpos)
      have e2 : a.row = .slice q2 off 3 a.vals.length cap := by injection e2
      rw [e2] at e
      cases e
      exact ⟨by omega, by have := k13.1; omega⟩
  have hinc : SeqInc l 0 l.length := fun i j _ h2 h3 => by
    rw [rAt_get (by omega), rAt_get h3]
    exact List.pairwise_iff_getElem.1 hq i j (by omega) h3 h2
  have hS := run65 (cfV v) (cfV_ord v) τ3 (σ.size + 1 + 1) 58 [.ptr σ.size 0, .ptr τ2.size 0] 40 _ hcmp l hokL (by omega) hinc gid f (by omega)
  simp (maxDischargeDepth := 99) [gw, hrd, w3, -writeAt]
  refine hS.mono ?_
  rintro w τ4 ⟨M, ⟨k4, g4, hMl, hMp⟩, hMs⟩
  have gw4 : τ4.get σ.size = some ⟨[.int .i64 v.k, .int .i64 v.n, .slice id0 off0 1 1 cap0, .bool v.d, .int .i64 now], .own⟩ := by
    rw [k4.2 _ (AHeap.get_lt gp) (by omega), gp]
    simp [VS.at', hs]
  -- what is cut off
  obtain ⟨N, hN⟩ : ∃ N : Nat, v.n = (N : Int) := ⟨v.n.toNat, by omega⟩
  obtain ⟨m, hmd⟩ : ∃ m : Nat, m = min N l.length := ⟨_, rfl⟩
  have hm1 : 1 ≤ m := by omega
  have hml : m ≤ l.length := by omega
  have emin : (if (l.length : Int) < (N : Int) then (l.length : Int) else (N : Int)) = (m : Int) := by split <;> omega
  have emin2 : (if l.length < N then (l.length : Int) else (N : Int)) = (m : Int) := by split <;> omega
  have hMl2 : M.length = l.length := hMl
  rw [← hMl2] at hMs
  have hfin : isortQ (M.take m) = sortF v l := sort_eq hMp hMs hq (by rw [hN]; omega)
  obtain ⟨at1, at2⟩ := acells_take M m
  have hndl : (l.map Arr.seq).Nodup := by
    refine List.Pairwise.map Arr.seq (R := fun a b => a.seq < b.seq) (fun a b h => ?_) hq
    omega
  have hndT : (((M.take m).map er).map Arr.seq).Nodup := by
    have e : ((M.take m).map er).map Arr.seq = (M.take m).map Arr.seq := by rw [List.map_map]; rfl
    rw [e, List.map_take]
    exact (((hMp.map Arr.seq).nodup_iff).2 hndl).sublist (List.take_sublist _ _)
  have hbT : bndQ ((M.take m).map er) = true := by
    unfold bndQ
    rw [List.all_eq_true]
    intro a ha
    obtain ⟨b, hb1, rfl⟩ := List.mem_map.1 ha
    have := hb b (hMp.mem_iff.1 (List.mem_of_mem_take hb1))
    simp [er, this]
  have hTl : ((M.take m).map er).length = m := by rw [List.length_map, List.length_take]; omega
  obtain ⟨m', hm'⟩ : ∃ m', m = m' + 1 := ⟨m - 1, by omega⟩
  obtain ⟨τ5, hτ5⟩ : ∃ τ5, τ5 = τ4.put (σ.size + 1 + 1) ⟨acells (sortF v l ++ M.drop m), .own⟩ := ⟨_, rfl⟩
  have hprim : pSortQ [.one (.slice (σ.size + 1 + 1) 0 3 m none), .one (.func 62 [])] τ4 = some (.tup [], τ5) := by
    have e1 : acells (isortQ ((M.take m).map er)) ++ (acells M).drop (m * 3) = acells (sortF v l ++ M.drop m) := by rw [isort_er, acells_er, at2, hfin, acells_append]
    have hx : toA ((acells M).take (m * 3)) = some ((M.take m).map er) := by rw [at1, toA_acells]
    rw [hτ5, ← e1]
    rw [hm'] at hx hTl hndT hbT ⊢
    unfold pSortQ
    simp only [g4, hx, hTl, hndT, hbT, and_self, and_true, true_and]
    rw [if_pos (by unfold maxElems; omega)]
  have k5 : KeepsBut (σ.size + 1 + 1) τ3 τ5 := by rw [hτ5]; exact k4.put _
  have hK : Keeps σ τ5 := ⟨Nat.le_trans k13.1 k5.1, fun j hj => by rw [k5.2 j (by have := k13.1; omega) (by omega), k13.2 j hj]⟩
  have g5 : τ5.get (σ.size + 1 + 1) = some ⟨acells (sortF v l ++ M.drop m), .own⟩ := by rw [hτ5, AHeap.get_put', if_pos ⟨rfl, AHeap.get_lt g4⟩]
  have hsl : (sortF v l).length = m := by rw [← hfin, (isortQ_perm _).length_eq, List.length_take]; omega
  have hArr : Arrs τ5 (.one (.slice (σ.size + 1 + 1) 0 3 m none)) (sortF v l) := by
    refine ⟨.inr ⟨_, 0, none, .own, by rw [hsl], .inl rfl, by rw [hsl]; omega, [], M.drop m, rfl, by simpa using g5⟩, fun a ha => ?_⟩
    have ha2 : a ∈ l := (List.mem_filter.1 ha).1
    exact slVals_keeps hK (hA.2 a ha2)
  have hlc : (acells M).length = l.length * 3 := by rw [acells_length, hMl]
  have hm3 : m * 3 ≤ l.length * 3 := Nat.mul_le_mul_right 3 hml
  obtain ⟨f, rfl⟩ : ∃ k, f = k + 1 := ⟨f - 1, by omega⟩
  rw [hN] at gw4
  simp (maxDischargeDepth := 99) [gw4, g4, mms, mm, emin, emin2, hlc, hm3, hml, D9_Sort, hprim]
  exact ⟨hArr, hK⟩
end Go.Proofs.Ythjijjkoeoemgaa.Ab
