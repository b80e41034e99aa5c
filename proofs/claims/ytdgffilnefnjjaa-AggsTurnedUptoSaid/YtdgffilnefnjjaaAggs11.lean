/- The least and the greatest of values; an aggregate of values. -/
import Derived.Test.YtdgffilnefnjjaaAggs10
namespace Go.Proofs.Ytdgffilnefnjjaa.Ab
open Go
set_option maxRecDepth 20000
set_option maxHeartbeats 4000000
set_option linter.unusedSimpArgs false

theorem C22_60 (n : Nat) (args : List AV) (σ : AHeap) : evCall C22 (n + 1) 60 args σ = p60 args σ := evCall_prim (by kernel_rfl) _ _ _

def extB (mn mx : Bool) (c : Int) : Bool := (mn && decide (c < 0)) || (mx && decide (0 < c))
def extGo (mn mx : Bool) (best : V) : List V → Option V
  | [] => some best
  | v :: l => if (compareV v best).2 = true then extGo mn mx (if extB mn mx (compareV v best).1 = true then v else best) l else none
def extV (mn mx : Bool) (v0 : V) (l : List V) : V × Int := match extGo mn mx v0 l with
  | some v => (v, 0)
  | none => (zeroV, 22)
def p37 : Prim := fun args σ => match args with
  | [.agg [.str nm, .bool _, .bool _], s] => match slVals σ s with
    | some (v :: l) => some (.tup [(extV (decide (nm = sMin)) (decide (nm = sMax)) v (v :: l)).1.av, .one (.int .i64 (extV (decide (nm = sMin)) (decide (nm = sMax)) v (v :: l)).2)], σ)
    | _ => none
  | _ => none

theorem run37 (σ : AHeap) (nm : List UInt8) (b1 b2 : Bool) (s : AV) (v0 : V) (l0 : List V) (hl : slVals σ s = some (v0 :: l0)) :
    OptP (evCall C22 (l0.length + 5) 37 [.agg [.str nm, .bool b1, .bool b2], s] σ) (fun _ v τ =>
      v = .tup [(extV (decide (nm = sMin)) (decide (nm = sMax)) v0 (v0 :: l0)).1.av, .one (.int .i64 (extV (decide (nm = sMin)) (decide (nm = sMax)) v0 (v0 :: l0)).2)] ∧ Keeps σ τ) := by
  refine evCall_code (by kernel_rfl) code37 ?_
  obtain ⟨l, hll⟩ : ∃ l, l = v0 :: l0 := ⟨_, rfl⟩
  have hlen1 : l.length = l0.length + 1 := by rw [hll]; rfl
  rw [← hll] at hl ⊢
  have hb1 : beqL nm (bytes [109, 105, 110]) = decide (nm = sMin) := by rw [beqL_iff]; rfl
  have hb2 : beqL nm (bytes [109, 97, 120]) = decide (nm = sMax) := by rw [beqL_iff]; rfl
  generalize decide (nm = sMin) = mn at hb1 ⊢
  generalize decide (nm = sMax) = mx at hb2 ⊢
  rcases slVals_spec hl with ⟨rfl, h0⟩ | ⟨id, off, cap, rfl, hr, hm⟩
  · rw [h0] at hll; cases hll
  · have h0 : 0 < l.length := by omega
    have hr0 := hr 0 h0
    have hl0 : l[0] = v0 := by simp [hll]
    rw [hl0] at hr0
    have hid : id < σ.size := rd_lt hr0
    simp only [Nat.zero_mul, Nat.add_zero] at hr0
    have i1 : id ≠ σ.size := by omega
    have i2 : id ≠ σ.size + 1 := by omega
    simp [c37, h0, i1, i2, hr0, V.av]
    refine ends_loop (I := fun k fr τ => ∃ i best, k = l.length - i ∧ i ≤ l.length ∧ fr.length = 48 ∧ σ.size + 3 ≤ τ.size ∧ Keeps σ τ ∧ τ.get σ.size = some ⟨[.str nm, .bool b1, .bool b2], .own⟩ ∧
      τ.get (σ.size + 1) = some ⟨[.int .i64 0, .int .i64 0, .str []], .own⟩ ∧
      τ.get (σ.size + 2) = some ⟨V.cells best, .own⟩ ∧
      getSlot fr 2 = .one (.ptr σ.size 0) ∧ getSlot fr 4 = .one (.ptr (σ.size + 1) 0) ∧
      getSlot fr 6 = .one (.ptr (σ.size + 2) 0) ∧ getSlot fr 14 = .one (.slice id off 3 l.length cap) ∧ getSlot fr 15 = .one (.int .i64 l.length) ∧ getSlot fr 16 = .one (.int .i64 i) ∧
      extGo mn mx best (l.drop i) = extGo mn mx v0 l) ?_ (k := l.length) ?_ (by omega)
    · rintro k fr τ ⟨i, best, rfl, hi, hlen, hsz, hk, g0, g1, g2, f2, f4, f6, f14, f15, f16, ho⟩
      have n0 : σ.size ≠ τ.size := by omega
      have n1 : σ.size + 1 ≠ τ.size := by omega
      have n2 : σ.size + 2 ≠ τ.size := by omega
      obtain ⟨bk, bn, bs⟩ := best
      simp only [V.cells] at g2
      by_cases hlt : i < l.length
      · have hw := wr_next hlt hm
        have hrd := hr i hlt
        rw [← hk.2 id hid] at hrd
        have n3 : id ≠ τ.size := by omega
        have hd : l.drop i = l[i] :: l.drop (i + 1) := List.drop_eq_getElem_cons hlt
        rw [hd] at ho
        generalize l[i] = v at hrd ho
        obtain ⟨vk, vn, vs⟩ := v
        obtain ⟨c, hc⟩ : ∃ c, c = compareV ⟨vk, vn, vs⟩ ⟨bk, bn, bs⟩ := ⟨_, rfl⟩
        simp only [extGo] at ho
        rw [← hc] at ho
        obtain ⟨c1, c2⟩ := c
        have hp60 : ∀ n σ, evCall C22 (n + 1) 60 [.agg [.int .i64 vk, .int .i64 vn, .str vs], .agg [.int .i64 bk, .int .i64 bn, .str bs]] σ = some (.tup [.one (.int .i64 c1), .one (.bool c2)], σ) := by
          intro n σ
          rw [C22_60]
          simp only [p60]
          rw [← hc]
        clear hc
        have hlt2 : σ.size + 2 < τ.size + 1 := by omega
        have hlt1 : σ.size + 1 < τ.size + 1 := by omega
        cases c2
        · simp only [Bool.false_eq_true, if_false] at ho
          have he : extV mn mx v0 l = (zeroV, 22) := by unfold extV; rw [← ho]
          rw [he]
          simp (maxDischargeDepth := 99) [c37_0, hlen, f2, f4, f6, f14, f15, f16, hlt, hrd, V.av, n0, n1, n2, n3, g0, g1, g2, hp60, hlt1, hlt2, sbin, hb1, hb2, hw]
          exact ⟨⟨rfl, rfl, rfl⟩, ((hk.alloc).put (by omega)).put (by omega)⟩
        · simp only [if_true] at ho
          have stay : extB mn mx c1 = false → extGo mn mx ⟨bk, bn, bs⟩ (l.drop (i + 1)) = extGo mn mx v0 l := by
            intro h; simpa [h] using ho
          have turn : extB mn mx c1 = true → extGo mn mx ⟨vk, vn, vs⟩ (l.drop (i + 1)) = extGo mn mx v0 l := by
            intro h; simpa [h] using ho
          by_cases q1 : c1 < 0
          · have q2 : ¬ 0 < c1 := by omega
            cases mn <;> cases mx <;> simp (maxDischargeDepth := 99) [c37_0, hlen, f2, f4, f6, f14, f15, f16, hlt, hrd, V.av, n0, n1, n2, n3, g0, g1, g2, hp60, hlt1, hlt2, sbin, hb1, hb2, hw, q1, q2]
            all_goals first
              | exact ⟨l.length - (i + 1), by omega, i + 1, rfl, by omega, by omega, (hk.alloc).put (by omega), ⟨bk, bn, bs⟩, rfl, by omega, stay (by simp [extB, q1, q2])⟩
              | exact ⟨l.length - (i + 1), by omega, i + 1, rfl, by omega, by omega, ((hk.alloc).put (by omega)).put (by omega), ⟨vk, vn, vs⟩, rfl, by omega, turn (by simp [extB, q1, q2])⟩
          · by_cases q2 : 0 < c1
            · cases mn <;> cases mx <;> simp (maxDischargeDepth := 99) [c37_0, hlen, f2, f4, f6, f14, f15, f16, hlt, hrd, V.av, n0, n1, n2, n3, g0, g1, g2, hp60, hlt1, hlt2, sbin, hb1, hb2, hw, q1, q2]
              all_goals first
                | exact ⟨l.length - (i + 1), by omega, i + 1, rfl, by omega, by omega, (hk.alloc).put (by omega), ⟨bk, bn, bs⟩, rfl, by omega, stay (by simp [extB, q1, q2])⟩
                | exact ⟨l.length - (i + 1), by omega, i + 1, rfl, by omega, by omega, ((hk.alloc).put (by omega)).put (by omega), ⟨vk, vn, vs⟩, rfl, by omega, turn (by simp [extB, q1, q2])⟩
            · cases mn <;> cases mx <;> simp (maxDischargeDepth := 99) [c37_0, hlen, f2, f4, f6, f14, f15, f16, hlt, hrd, V.av, n0, n1, n2, n3, g0, g1, g2, hp60, hlt1, hlt2, sbin, hb1, hb2, hw, q1, q2]
              all_goals first
                | exact ⟨l.length - (i + 1), by omega, i + 1, rfl, by omega, by omega, (hk.alloc).put (by omega), ⟨bk, bn, bs⟩, rfl, by omega, stay (by simp [extB, q1, q2])⟩
                | exact ⟨l.length - (i + 1), by omega, i + 1, rfl, by omega, by omega, ((hk.alloc).put (by omega)).put (by omega), ⟨vk, vn, vs⟩, rfl, by omega, turn (by simp [extB, q1, q2])⟩
      · have hi' : i = l.length := by omega
        subst hi'
        rw [List.drop_length] at ho
        simp only [extGo] at ho
        have he : extV mn mx v0 l = (⟨bk, bn, bs⟩, 0) := by unfold extV; rw [← ho]
        rw [he]
        have hlt1 : σ.size + 1 < τ.size := by omega
        simp (maxDischargeDepth := 99) [c37_0, hlen, f2, f4, f6, f14, f15, f16, n0, n1, n2, g0, g1, g2, hlt1, hk, V.av]
    · refine ⟨0, v0, ?_⟩
      simp (maxDischargeDepth := 99) [V.cells]
      refine ⟨(((Keeps.refl σ).alloc.alloc).alloc).put (by omega), ?_⟩
      rw [if_neg (by omega), if_neg (by omega)]
theorem ok37 : PrimOk Try.prog 37 p37 := primOk_pure C22_good fun args σ v σ' h => by
  unfold p37 at h
  split at h
  · rename_i nm b1 b2 s
    split at h
    · rename_i v0 l hl
      cases h
      exact ⟨rfl, rfl, _, run37 σ nm b1 b2 s v0 l hl⟩
    · cases h
  · cases h
noncomputable def C23 : Ctx := C22.lay 37 p37
theorem C23_good : C23.Good Try.prog := Ctx.lay_good C22_good ok37
theorem C23_34 (n : Nat) (args : List AV) (σ : AHeap) : evCall C23 (n + 1) 34 args σ = p34 args σ := evCall_prim (by kernel_rfl) _ _ _
theorem C23_35 (n : Nat) (args : List AV) (σ : AHeap) : evCall C23 (n + 1) 35 args σ = p35 args σ := evCall_prim (by kernel_rfl) _ _ _
theorem C23_36 (n : Nat) (args : List AV) (σ : AHeap) : evCall C23 (n + 1) 36 args σ = p36 args σ := evCall_prim (by kernel_rfl) _ _ _
theorem C23_37 (n : Nat) (args : List AV) (σ : AHeap) : evCall C23 (n + 1) 37 args σ = p37 args σ := evCall_prim (by kernel_rfl) _ _ _

/-! ### aggs.Of -/
/-- An aggregate of the values that count. -/
def ofT (nm : List UInt8) (t : List V) : V × Int :=
  if nm = sCount then (⟨2, (t.length : Int), []⟩, 0) else
  match t with
  | [] => (zeroV, 0)
  | v :: l =>
    if nm = sSum ∨ nm = sAvg then sumV (decide (nm = sAvg)) v.k (v :: l)
    else if nm = sMin ∨ nm = sMax then extV (decide (nm = sMin)) (decide (nm = sMax)) v (v :: l)
    else if nm = sFirst then (v, 0) else ((v :: l).getLast (by simp), 0)
def ofV (nm : List UInt8) (dist all : Bool) (l : List V) : V × Int :=
  if checkB nm dist all = true then ofT nm (takeV all dist l []) else (zeroV, 170)
theorem takeV_all (all dist : Bool) (P : V → Bool) : ∀ (l out : List V), l.all P = true → out.all P = true → (takeV all dist l out).all P = true
  | [], out, _, h => h
  | v :: l, out, hl, ho => by
    simp only [List.all_cons, Bool.and_eq_true] at hl
    unfold takeV
    split
    · exact takeV_all all dist P l out hl.2 ho
    · split
      · exact takeV_all all dist P l out hl.2 ho
      · exact takeV_all all dist P l _ hl.2 (by simp [ho, hl.1])
theorem takeV_length (all dist : Bool) : ∀ (l out : List V), (takeV all dist l out).length ≤ l.length + out.length
  | [], out => by simp [takeV]
  | v :: l, out => by
    unfold takeV
    have h1 := takeV_length all dist l out
    have h2 := takeV_length all dist l (out ++ [v])
    simp only [List.length_append, List.length_cons, List.length_nil] at h2 ⊢
    split
    · omega
    · split <;> omega
def p9 : Prim := fun args σ => match args with
  | [.agg [.str nm, .bool dist, .bool all], s] => match slVals σ s with
    | some l => if (l.all fun v => inI v.n) = true then some (.tup [(ofV nm dist all l).1.av, .one (.int .i64 (ofV nm dist all l).2)], σ) else none
    | none => none
  | _ => none

/-- The values that count, where aggs.Of has them. -/
theorem slVals_outRes (σ τ : AHeap) (t : List V) (hm : t.length ≤ maxElems) (h : τ = (outRes σ 3 (vcells t) t.length).2) : slVals τ (outRes σ 3 (vcells t) t.length).1 = some t := by
  subst h
  cases t with
  | nil => rfl
  | cons v l => exact slVals_at (by simp [outRes]) (.inl rfl) hm

theorem rdList_none (agg : Option Nat) (esz : Nat) : ∀ (n off : Nat) (l : List AV), rdList none agg esz off n = some l → n = 0
  | 0, _, _, _ => rfl
  | n + 1, off, l, h => by simp [rdList, rd] at h
theorem slVals_keeps {σ τ : AHeap} (hk : Keeps σ τ) {s : AV} {l : List V} (h : slVals σ s = some l) : slVals τ s = some l := by
  unfold slVals at h ⊢
  split at h
  · exact h
  · rename_i id off e len cap
    by_cases hid : id < σ.size
    · simp only [hk.2 id hid]
      exact h
    · have hg : σ.get id = none := AHeap.get_ge (by omega)
      rw [hg] at h
      split at h
      · rename_i l' he hr
        have h0 := rdList_none _ _ _ _ _ hr
        subst h0
        simp only [rdList, Option.some.injEq] at hr
        subst hr
        simp only [he, rdList]
        exact h
      · cases h
  · cases h

theorem run9 (σ : AHeap) (nm : List UInt8) (dist all : Bool) (s : AV) (l : List V) (hl : slVals σ s = some l) (hin : (l.all fun v => inI v.n) = true) (hm : l.length ≤ maxElems) :
    OptP (evCall C23 5 9 [.agg [.str nm, .bool dist, .bool all], s] σ) (fun _ v τ =>
      v = .tup [(ofV nm dist all l).1.av, .one (.int .i64 (ofV nm dist all l).2)] ∧ Keeps σ τ) := by
  refine evCall_code (by kernel_rfl) code9 ?_
  unfold ofV
  by_cases hc : checkB nm dist all = true
  · rw [if_pos hc]
    obtain ⟨τ0, hτ0⟩ : ∃ τ0, τ0 = (σ.alloc ⟨[.str nm, .bool dist, .bool all], .own⟩).alloc ⟨[.int .i64 0, .int .i64 0, .str []], .own⟩ := ⟨_, rfl⟩
    have k0 : Keeps σ τ0 := by rw [hτ0]; exact (Keeps.refl σ).alloc.alloc
    have z0 : τ0.size = σ.size + 2 := by rw [hτ0]; rfl
    have g0 : τ0.get σ.size = some ⟨[.str nm, .bool dist, .bool all], .own⟩ := by rw [hτ0]; simp
    have g1 : τ0.get (σ.size + 1) = some ⟨[.int .i64 0, .int .i64 0, .str []], .own⟩ := by rw [hτ0]; simp
    have hl0 := slVals_keeps k0 hl
    have hti := takeV_all all dist (fun v => inI v.n) l [] hin rfl
    have htl := takeV_length all dist l []
    simp only [List.length_nil, Nat.add_zero] at htl
    have p35e : p35 [.agg [.str nm, .bool dist, .bool all], s] τ0 = some (outRes τ0 3 (vcells (takeV all dist l [])) (takeV all dist l []).length) := by
      simp only [p35, hl0]
    generalize takeV all dist l [] = t at hti htl p35e ⊢
    have e1 : beqL nm (bytes [99, 111, 117, 110, 116]) = decide (nm = sCount) := by rw [beqL_iff]; rfl
    have e2 : beqL nm (bytes [115, 117, 109]) = decide (nm = sSum) := by rw [beqL_iff]; rfl
    have e3 : beqL nm (bytes [97, 118, 103]) = decide (nm = sAvg) := by rw [beqL_iff]; rfl
    have e4 : beqL nm (bytes [109, 105, 110]) = decide (nm = sMin) := by rw [beqL_iff]; rfl
    have e5 : beqL nm (bytes [109, 97, 120]) = decide (nm = sMax) := by rw [beqL_iff]; rfl
    have e6 : beqL nm (bytes [102, 105, 114, 115, 116]) = decide (nm = sFirst) := by rw [beqL_iff]; rfl
    have lt1 : σ.size + 1 < τ0.size := by omega
    have ne0 : σ.size ≠ τ0.size := by omega
    have ne1 : σ.size + 1 ≠ τ0.size := by omega
    cases t with
    | nil =>
      simp only [List.length_nil, outRes] at p35e
      by_cases c1 : nm = sCount
      · have b1 : beqL nm (bytes [99, 111, 117, 110, 116]) = true := by rw [e1]; simpa using c1
        have ho : ofT nm [] = (⟨2, 0, []⟩, 0) := by unfold ofT; rw [if_pos c1]; rfl
        rw [ho]
        simp (maxDischargeDepth := 99) [c9, C23_34, p34, hc, ← hτ0, g0, g1, C23_35, p35e, sbin, lt1, ne0, ne1, V.av, k0, b1]
      · have b1 : beqL nm (bytes [99, 111, 117, 110, 116]) = false := by rw [e1]; simpa using c1
        have ho : ofT nm [] = (zeroV, 0) := by unfold ofT; rw [if_neg c1]
        rw [ho]
        simp (maxDischargeDepth := 99) [c9, C23_34, p34, hc, ← hτ0, g0, g1, C23_35, p35e, sbin, lt1, ne0, ne1, V.av, k0, b1, zeroV]
    | cons v0 t0 =>
      simp only [List.length_cons, outRes] at p35e
      obtain ⟨τ1, hτ1⟩ : ∃ τ1, τ1 = τ0.alloc ⟨vcells (v0 :: t0), .own⟩ := ⟨_, rfl⟩
      have q0 : τ1.get σ.size = some ⟨[.str nm, .bool dist, .bool all], .own⟩ := by rw [hτ1, AHeap.get_alloc, if_neg (by omega), g0]
      have q1 : τ1.get (σ.size + 1) = some ⟨[.int .i64 0, .int .i64 0, .str []], .own⟩ := by rw [hτ1, AHeap.get_alloc, if_neg (by omega), g1]
      have q2 : τ1.get τ0.size = some ⟨vcells (v0 :: t0), .own⟩ := by rw [hτ1, AHeap.get_alloc, if_pos rfl]
      have k1 : Keeps σ τ1 := by rw [hτ1]; exact k0.alloc
      have lt2 : σ.size + 1 < τ1.size := by rw [hτ1, AHeap.size_alloc]; omega
      have hsl : slVals τ1 (.one (.slice τ0.size 0 3 (t0.length + 1) none)) = some (v0 :: t0) := slVals_at q2 (.inl rfl) (by simp only [List.length_cons] at htl ⊢; omega)
      have p36e : p36 [.agg [.str nm, .bool dist, .bool all], .one (.slice τ0.size 0 3 (t0.length + 1) none)] τ1 =
          some (.tup [(sumV (decide (nm = sAvg)) v0.k (v0 :: t0)).1.av, .one (.int .i64 (sumV (decide (nm = sAvg)) v0.k (v0 :: t0)).2)], τ1) := by
        simp only [p36, hsl]
        rw [if_pos hti]
      have p37e : p37 [.agg [.str nm, .bool dist, .bool all], .one (.slice τ0.size 0 3 (t0.length + 1) none)] τ1 =
          some (.tup [(extV (decide (nm = sMin)) (decide (nm = sMax)) v0 (v0 :: t0)).1.av, .one (.int .i64 (extV (decide (nm = sMin)) (decide (nm = sMax)) v0 (v0 :: t0)).2)], τ1) := by
        simp only [p37, hsl]
      rw [← hτ1] at p35e
      have hnz : ¬ ((t0.length : Int) + 1 = 0) := by omega
      by_cases c1 : nm = sCount
      · have b1 : beqL nm (bytes [99, 111, 117, 110, 116]) = true := by rw [e1]; simpa using c1
        have ho : ofT nm (v0 :: t0) = (⟨2, ((v0 :: t0).length : Int), []⟩, 0) := by unfold ofT; rw [if_pos c1]
        rw [ho]
        simp (maxDischargeDepth := 99) [c9, C23_34, p34, hc, ← hτ0, g0, g1, C23_35, p35e, sbin, lt1, ne0, ne1, V.av, k0, q0, q1, k1, lt2, b1]
      · have b1 : beqL nm (bytes [99, 111, 117, 110, 116]) = false := by rw [e1]; simpa using c1
        by_cases c2 : nm = sSum ∨ nm = sAvg
        · have ho : ofT nm (v0 :: t0) = sumV (decide (nm = sAvg)) v0.k (v0 :: t0) := by unfold ofT; rw [if_neg c1]; simp only; rw [if_pos c2]
          rw [ho]
          generalize sumV (decide (nm = sAvg)) v0.k (v0 :: t0) = r at p36e ⊢
          obtain ⟨⟨r1, r2, r3⟩, r4⟩ := r
          cases b2 : beqL nm (bytes [115, 117, 109])
          · have b3 : beqL nm (bytes [97, 118, 103]) = true := by
              rw [e3]
              rw [e2] at b2
              simp at b2
              rcases c2 with h | h
              · exact absurd h b2
              · simpa using h
            simp (maxDischargeDepth := 99) [c9, C23_34, p34, hc, ← hτ0, g0, g1, C23_35, p35e, sbin, lt1, ne0, ne1, V.av, k0, q0, q1, k1, lt2, b1, b2, b3, C23_36, p36e, hnz]
          · simp (maxDischargeDepth := 99) [c9, C23_34, p34, hc, ← hτ0, g0, g1, C23_35, p35e, sbin, lt1, ne0, ne1, V.av, k0, q0, q1, k1, lt2, b1, b2, C23_36, p36e, hnz]
        · have b2 : beqL nm (bytes [115, 117, 109]) = false := by rw [e2]; simp; exact fun h => c2 (.inl h)
          have b3 : beqL nm (bytes [97, 118, 103]) = false := by rw [e3]; simp; exact fun h => c2 (.inr h)
          by_cases c3 : nm = sMin ∨ nm = sMax
          · have ho : ofT nm (v0 :: t0) = extV (decide (nm = sMin)) (decide (nm = sMax)) v0 (v0 :: t0) := by unfold ofT; rw [if_neg c1]; simp only; rw [if_neg c2, if_pos c3]
            rw [ho]
            generalize extV (decide (nm = sMin)) (decide (nm = sMax)) v0 (v0 :: t0) = r at p37e ⊢
            obtain ⟨⟨r1, r2, r3⟩, r4⟩ := r
            cases b4 : beqL nm (bytes [109, 105, 110])
            · have b5 : beqL nm (bytes [109, 97, 120]) = true := by
                rw [e5]
                rw [e4] at b4
                simp at b4
                rcases c3 with h | h
                · exact absurd h b4
                · simpa using h
              simp (maxDischargeDepth := 99) [c9, C23_34, p34, hc, ← hτ0, g0, g1, C23_35, p35e, sbin, lt1, ne0, ne1, V.av, k0, q0, q1, k1, lt2, b1, b2, b3, b4, b5, C23_37, p37e, hnz]
            · simp (maxDischargeDepth := 99) [c9, C23_34, p34, hc, ← hτ0, g0, g1, C23_35, p35e, sbin, lt1, ne0, ne1, V.av, k0, q0, q1, k1, lt2, b1, b2, b3, b4, C23_37, p37e, hnz]
          · have b4 : beqL nm (bytes [109, 105, 110]) = false := by rw [e4]; simp; exact fun h => c3 (.inl h)
            have b5 : beqL nm (bytes [109, 97, 120]) = false := by rw [e5]; simp; exact fun h => c3 (.inr h)
            have hrd : ∀ i (h : i < (v0 :: t0).length), rd (τ1.get τ0.size) (some 3) (i * 3) = some (v0 :: t0)[i].av := by
              rcases slVals_spec hsl with ⟨h, _⟩ | ⟨id, off, cap, h, hr, _⟩
              · cases h
              · cases h
                intro i hi
                have := hr i hi
                simpa using this
            by_cases c6 : nm = sFirst
            · have b6 : beqL nm (bytes [102, 105, 114, 115, 116]) = true := by rw [e6]; simpa using c6
              have ho : ofT nm (v0 :: t0) = (v0, 0) := by unfold ofT; rw [if_neg c1]; simp only; rw [if_neg c2, if_neg c3, if_pos c6]
              rw [ho]
              have hr0 := hrd 0 (by simp)
              simp only [Nat.zero_mul, List.getElem_cons_zero] at hr0
              simp (maxDischargeDepth := 99) [c9, C23_34, p34, hc, ← hτ0, g0, g1, C23_35, p35e, sbin, lt1, ne0, ne1, V.av, k0, q0, q1, k1, lt2, b1, b2, b3, b4, b5, b6, hnz, hr0]
            · have b6 : beqL nm (bytes [102, 105, 114, 115, 116]) = false := by rw [e6]; simpa using c6
              have ho : ofT nm (v0 :: t0) = ((v0 :: t0).getLast (by simp), 0) := by unfold ofT; rw [if_neg c1]; simp only; rw [if_neg c2, if_neg c3, if_neg c6]
              rw [ho]
              have hr0 := hrd t0.length (by simp)
              have hgl : (v0 :: t0).getLast (by simp) = (v0 :: t0)[t0.length] := by rw [List.getLast_eq_getElem]; rfl
              rw [hgl]
              generalize (v0 :: t0)[t0.length] = vl at hr0 ⊢
              have hwl : wr .i64 (t0.length : Int) = (t0.length : Int) := by
                simp only [List.length_cons] at htl
                unfold maxElems at hm
                exact wr64 (by omega) (by omega)
              simp (maxDischargeDepth := 99) [c9, C23_34, p34, hc, ← hτ0, g0, g1, C23_35, p35e, sbin, lt1, ne0, ne1, V.av, k0, q0, q1, k1, lt2, b1, b2, b3, b4, b5, b6, hnz, hr0, hwl]
  · rw [if_neg hc]
    simp (maxDischargeDepth := 99) [c9, C23_34, p34, hc, zeroV, V.av]

theorem slVals_le {σ : AHeap} {s : AV} {l : List V} (h : slVals σ s = some l) : l.length ≤ maxElems := by
  rcases slVals_spec h with ⟨_, rfl⟩ | ⟨_, _, _, _, _, hm⟩
  · exact Nat.zero_le _
  · exact hm
theorem ok9 : PrimOk Try.prog 9 p9 := primOk_pure C23_good fun args σ v σ' h => by
  unfold p9 at h
  split at h
  · rename_i nm dist all s
    split at h
    · rename_i l hl
      split at h
      · rename_i hin
        cases h
        exact ⟨rfl, rfl, _, run9 σ nm dist all s l hl hin (slVals_le hl)⟩
      · cases h
    · cases h
  · cases h
noncomputable def C24 : Ctx := C23.lay 9 p9
theorem C24_good : C24.Good Try.prog := Ctx.lay_good C23_good ok9

end Go.Proofs.Ytdgffilnefnjjaa.Ab
