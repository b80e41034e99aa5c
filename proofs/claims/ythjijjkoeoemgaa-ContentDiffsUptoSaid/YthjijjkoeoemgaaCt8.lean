/- content's Diff and the document's; their comparison. -/
import Derived.Test.YthjijjkoeoemgaaCt7
namespace Go.Proofs.Ythjijjkoeoemgaa.Ab
open Go
set_option maxRecDepth 20000
set_option maxHeartbeats 2000000
set_option linter.unusedSimpArgs false

/-- What of l is not in m, by the numbers. -/
def notIn (l m : List Arr) : List Arr := l.filter fun x => !hasA m x.seq
theorem OutSl.one {b : Nat} {τ : AHeap} {e n : Nat} {s : AV} {c : List SV} (h : OutSl b τ e s c n) : ∃ x, s = .one x := by
  rcases h.2 with ⟨h, _⟩ | ⟨_, h, _⟩
  · exact ⟨_, h⟩
  · exact ⟨_, h⟩
theorem OutSl.low {b b' : Nat} {τ : AHeap} {e n : Nat} {s : AV} {c : List SV} (h : OutSl b τ e s c n) (hb : b' ≤ b) : OutSl b' τ e s c n := by
  refine ⟨h.1, ?_⟩
  rcases h.2 with h | ⟨q, h1, h0, h2, h3⟩
  · exact .inl h
  · exact .inr ⟨q, h1, h0, by omega, h3⟩
theorem Arrs.one {σ : AHeap} {s : AV} {l : List Arr} (h : Arrs σ s l) : ∃ x, s = .one x := by
  rcases h.1 with ⟨h, _⟩ | ⟨_, _, _, _, h, _⟩
  · exact ⟨_, h⟩
  · exact ⟨_, h⟩
theorem notIn_mem {l m : List Arr} {x : Arr} (h : x ∈ notIn l m) : x ∈ l := (List.mem_filter.1 h).1
theorem notIn_len (l m : List Arr) : (notIn l m).length ≤ l.length := List.length_filter_le _ _

theorem acells_two {l : List Arr} {a b : SV} (h : acells l = [a, b]) : False := by
  have := congrArg List.length h
  rw [acells_length] at this
  simp only [List.length_cons, List.length_nil] at this
  omega
theorem slVals_put2 {τ : AHeap} {id : Nat} {a b c d : SV} {md : Md} (hg : τ.get id = some ⟨[a, b], md⟩) {s : AV} {l : List V} (h : slVals τ s = some l) : slVals (τ.put id ⟨[c, d], .own⟩) s = some l := by
  rcases slVals_spec h with ⟨rfl, rfl⟩ | ⟨i, off, cap, rfl, hr, hm⟩
  · rfl
  · by_cases h0 : l = []
    · subst h0
      have e0 : (0 : Nat) ≤ maxElems := Nat.zero_le _
      simp [slVals, e0, rdList, valsOf]
    · refine slVals_get h ?_
      have hpos : 0 < l.length := by
        cases l with
        | nil => exact absurd rfl h0
        | cons => simp
      have hi := hr 0 hpos
      rw [AHeap.get_put', if_neg]
      rintro ⟨rfl, _⟩
      rw [hg] at hi
      cases md with
      | own => simp [rd_own, partA] at hi
      | ro => simp [rd_ro, partA] at hi
      | dead => cases hi
theorem Arrs.put2 {τ : AHeap} {id : Nat} {a b c d : SV} {md : Md} (hg : τ.get id = some ⟨[a, b], md⟩) {s : AV} {l : List Arr} (h : Arrs τ s l) : Arrs (τ.put id ⟨[c, d], .own⟩) s l := by
  refine ⟨?_, fun x hx => slVals_put2 hg (h.2 x hx)⟩
  rcases h.1 with h | ⟨i, off, cap, md', h1, h2, h3, pre, suf, h4, h5⟩
  · exact .inl h
  · refine .inr ⟨i, off, cap, md', h1, h2, h3, pre, suf, h4, ?_⟩
    rw [AHeap.get_put', if_neg]
    · exact h5
    · rintro ⟨rfl, _⟩
      rw [hg] at h5
      simp only [Option.some.injEq, AObj.mk.injEq] at h5
      exact acells_two h5.1.symm
theorem run27 (σ : AHeap) (s1 s2 : AV) (l1 l2 : List Arr) (h1 : Arrs σ s1 l1) (h2 : Arrs σ s2 l2) (hne : ∀ a ∈ l1, a.vals ≠ []) (hm : l1.length ≤ maxElems) (f : Nat) (hf : 2 * l1.length + l2.length + 60 ≤ f) :
    OptP (evCall D9 f 27 [s1, s2] σ) (fun _ v τ => ∃ out, out.map Arr.key = (notIn l1 l2).map Arr.key ∧ RowsOk τ out ∧ OutSl σ.size τ 3 v (acells out) out.length ∧ Keeps σ τ) := by
  obtain ⟨f, rfl⟩ : ∃ k, f = k + 1 := ⟨f - 1, by omega⟩
  refine evCall_code (D9_prim 27) ((D9_code 27).trans code27) ?_
  obtain ⟨x2, rfl⟩ := h2.one
  have k1 : Keeps σ (σ.alloc ⟨[x2], .own⟩) := (Keeps.refl _).alloc
  have hS := run28 (σ.alloc ⟨[x2], .own⟩) s1 l1 29 [.ptr σ.size 0] (l2.length + 20) (fun _ => True) _ (run29 _ σ.size x2 l2 (h2.keeps k1) (by simp)) (h1.keeps k1) (fun _ _ => trivial) f (by omega)
  rw [fIdx_filter] at hS
  simp (maxDischargeDepth := 99) [c27]
  refine hS.mono ?_
  rintro v τ ⟨hO, k2⟩
  have hO : OutSl (σ.alloc ⟨[x2], .own⟩).size τ 3 v (acells (notIn l1 l2)) (notIn l1 l2).length := hO
  have hn := notIn_len l1 l2
  have hk := k1.trans k2
  have hA : Arrs τ v (notIn l1 l2) := acells_outsl hO (by omega) (fun a ha => (h1.keeps hk).2 a (notIn_mem ha))
  have hC := run23 τ v (notIn l1 l2) hA (fun a ha => hne a (notIn_mem ha)) f (by omega)
  simp (maxDischargeDepth := 99)
  refine hC.mono ?_
  rintro v2 τ2 ⟨out, e1, e2, e3, k3⟩
  simp (maxDischargeDepth := 99)
  exact ⟨out, e1, e2, e3.low hk.1, hk.trans k3⟩

/-- content.Diff -/
theorem run16 (σ : AHeap) (s1 s2 : AV) (l1 l2 : List Arr) (h1 : Arrs σ s1 l1) (h2 : Arrs σ s2 l2) (n1 : ∀ a ∈ l1, a.vals ≠ []) (n2 : ∀ a ∈ l2, a.vals ≠ []) (m1 : l1.length ≤ maxElems) (m2 : l2.length ≤ maxElems) (f : Nat) (hf : 2 * l1.length + 2 * l2.length + 70 ≤ f) :
    OptP (evCall D9 f 16 [s1, s2] σ) (fun _ v τ => ∃ x y oi oo, v = .agg [x, y] ∧ oi.map Arr.key = (notIn l2 l1).map Arr.key ∧ oo.map Arr.key = (notIn l1 l2).map Arr.key ∧ Arrs τ (.one x) oi ∧ Arrs τ (.one y) oo ∧ Keeps σ τ) := by
  obtain ⟨f, rfl⟩ : ∃ k, f = k + 1 := ⟨f - 1, by omega⟩
  refine evCall_code (D9_prim 16) ((D9_code 16).trans code16) ?_
  have k1 : Keeps σ (σ.alloc ⟨[.nilSlice, .nilSlice], .own⟩) := (Keeps.refl _).alloc
  have hS := run27 (σ.alloc ⟨[.nilSlice, .nilSlice], .own⟩) s2 s1 l2 l1 (h2.keeps k1) (h1.keeps k1) n2 m2 f (by omega)
  simp (maxDischargeDepth := 99) [c16]
  refine hS.mono ?_
  rintro v τ ⟨oi, e1, e2, e3, k2⟩
  obtain ⟨x, rfl⟩ := e3.one
  have hk := k1.trans k2
  have hT := run27 τ s1 s2 l1 l2 (h1.keeps hk) (h2.keeps hk) n1 m1 f (by omega)
  simp (maxDischargeDepth := 99)
  refine hT.mono ?_
  rintro v2 τ2 ⟨oo, e4, e5, e6, k3⟩
  obtain ⟨y, rfl⟩ := e6.one
  have hk2 := k2.trans k3
  have hg : τ2.get σ.size = some ⟨[.nilSlice, .nilSlice], .own⟩ := by rw [hk2.2 σ.size (by simp)]; simp
  have li : oi.length = (notIn l2 l1).length := by have := congrArg List.length e1; simpa using this
  have lo : oo.length = (notIn l1 l2).length := by have := congrArg List.length e4; simpa using this
  have hn1 := notIn_len l1 l2
  have hn2 := notIn_len l2 l1
  have hx : Arrs τ2 (.one x) oi := (acells_outsl e3 (by omega) e2).keeps k3
  have hy : Arrs τ2 (.one y) oo := acells_outsl e6 (by omega) e5
  have kp : Keeps τ2 τ2 := Keeps.refl _
  have hlt := AHeap.get_lt hg
  simp (maxDischargeDepth := 99) [hg, hlt]
  exact ⟨_, _, ⟨rfl, rfl⟩, oi, e1, oo, e4, hx.put2 hg, hy.put2 hg, (hk.trans k3).put (Nat.le_refl _)⟩

/-! ### the document's Diff -/
def hasNot (m : List Arr) : Nat → Arr → Bool := fun _ x => !hasA m x.seq
theorem hasNot_all (l m : List Arr) : fIdx (hasNot m) 0 l = notIn l m := fIdx_filter _ _ _
def I18a (σ : AHeap) (s1 s2 : AV) (l1 l2 : List Arr) (k : Nat) (fr : List AV) (τ : AHeap) : Prop :=
  ∃ i x, k = l2.length - i ∧ i ≤ l2.length ∧ fr.length = 55 ∧ getSlot fr 0 = s1 ∧ getSlot fr 1 = s2 ∧ getSlot fr 4 = .one (.ptr σ.size 0) ∧ getSlot fr 5 = .one (.ptr (σ.size + 1) 0) ∧ getSlot fr 6 = .one (.int .i64 (i : Int)) ∧
    τ.get σ.size = some ⟨[.nilSlice, .nilSlice], .own⟩ ∧ τ.get (σ.size + 1) = some ⟨[x, .nilSlice], .own⟩ ∧ OutSl (σ.size + 2) τ 3 (.one x) (acells (fIdx (hasNot l1) 0 (l2.take i))) (fIdx (hasNot l1) 0 (l2.take i)).length ∧ Keeps σ τ
def O18a (σ : AHeap) (s1 s2 : AV) (l1 l2 : List Arr) (fr : List AV) (τ : AHeap) : Prop :=
  ∃ x, fr.length = 55 ∧ getSlot fr 0 = s1 ∧ getSlot fr 1 = s2 ∧ getSlot fr 4 = .one (.ptr σ.size 0) ∧ getSlot fr 5 = .one (.ptr (σ.size + 1) 0) ∧
    τ.get σ.size = some ⟨[.nilSlice, .nilSlice], .own⟩ ∧ τ.get (σ.size + 1) = some ⟨[x, .nilSlice], .own⟩ ∧ OutSl (σ.size + 2) τ 3 (.one x) (acells (notIn l2 l1)) (notIn l2 l1).length ∧ Keeps σ τ
def I18b (σ τ0 : AHeap) (s1 s2 : AV) (l1 l2 : List Arr) (x : SV) (k : Nat) (fr : List AV) (τ : AHeap) : Prop :=
  ∃ i y, k = l1.length - i ∧ i ≤ l1.length ∧ fr.length = 55 ∧ getSlot fr 0 = s1 ∧ getSlot fr 1 = s2 ∧ getSlot fr 4 = .one (.ptr σ.size 0) ∧ getSlot fr 5 = .one (.ptr (σ.size + 1) 0) ∧ getSlot fr 7 = .one (.int .i64 (i : Int)) ∧
    τ.get (σ.size + 1) = some ⟨[x, y], .own⟩ ∧ OutSl τ0.size τ 3 (.one y) (acells (fIdx (hasNot l2) 0 (l1.take i))) (fIdx (hasNot l2) 0 (l1.take i)).length ∧ τ0.size ≤ τ.size ∧ ∀ id, id < τ0.size → id ≠ σ.size + 1 → τ.get id = τ0.get id
def O18b (σ τ0 : AHeap) (l1 l2 : List Arr) (x : SV) (fr : List AV) (τ : AHeap) : Prop :=
  ∃ y, fr.length = 55 ∧ getSlot fr 4 = .one (.ptr σ.size 0) ∧ getSlot fr 5 = .one (.ptr (σ.size + 1) 0) ∧
    τ.get (σ.size + 1) = some ⟨[x, y], .own⟩ ∧ OutSl τ0.size τ 3 (.one y) (acells (notIn l1 l2)) (notIn l1 l2).length ∧ τ0.size ≤ τ.size ∧ ∀ id, id < τ0.size → id ≠ σ.size + 1 → τ.get id = τ0.get id

theorem run18 (σ : AHeap) (s1 s2 : AV) (l1 l2 : List Arr) (h1 : Arrs σ s1 l1) (h2 : Arrs σ s2 l2) (m1 : l1.length ≤ maxElems) (m2 : l2.length ≤ maxElems) (f : Nat) (hf : l1.length + l2.length + 12 ≤ f) :
    OptP (evCall D9 f 18 [s1, s2] σ) (fun _ v τ => ∃ x y, v = .agg [x, y] ∧ Arrs τ (.one x) (notIn l2 l1) ∧ Arrs τ (.one y) (notIn l1 l2) ∧ Keeps σ τ) := by
  obtain ⟨f, rfl⟩ : ∃ k, f = k + 1 := ⟨f - 1, by omega⟩
  refine evCall_code (D9_prim 18) ((D9_code 18).trans code18) ?_
  simp (maxDischargeDepth := 99) [c18]
  refine ends_to 0 (O18a σ s1 s2 l1 l2) ?_ ?_
  · refine ends_loop (I := I18a σ s1 s2 l1 l2) ?_ (k := l2.length) ?_ (by omega)
    · rintro k fr τ ⟨i, x, rfl, hi, hlen, f0, f1, f4, f5, f6, g0, g1, hO, hk⟩
      by_cases hlt : i < l2.length
      · rcases h2.rd with ⟨_, rfl⟩ | ⟨id, off, cap, rfl, hm, hr⟩
        · simp at hlt
        obtain ⟨p0, q0, _, _⟩ := hr i hlt
        have hid := rd_lt p0
        rw [← hk.2 id hid] at p0 q0
        have hw := wr_next hlt hm
        have hlt' : (i : Int) < (l2.length : Int) := Int.ofNat_lt.2 hlt
        have hnx := fIdx_next (hasNot l1) hlt
        have hbd := fIdx_bound (hasNot l1) hlt hm
        have hH := run13 D9 (D9_prim 13) ((D9_code 13).trans code13) τ s1 l1 (rAt l2 i).seq (h1.keeps hk) f (by omega)
        generalize rAt l2 i = a at p0 q0 hnx hH
        simp only [Arr.av, Arr.cells] at p0
        simp (maxDischargeDepth := 99) [c18_0, hlen, f0, f1, f6, hlt, hlt', q0]
        refine hH.mono ?_
        rintro v τ2 ⟨rfl, rfl⟩
        cases hpr : hasA l1 a.seq with
        | true =>
          simp (maxDischargeDepth := 99) [hlen, f6, hw]
          refine ⟨l2.length - (i + 1), y1 hlt, i + 1, x, rfl, hlt, by simp [hlen], by simp [hlen, f0], by simp [hlen, f1], by simp [hlen, f4], by simp [hlen, f5], by simp [hlen], g0, g1, ?_, hk⟩
          rw [hnx]
          simpa [fIdx, hasNot, hpr] using hO
        | false =>
          have hO4 : OutSl (σ.size + 2) (τ2.alloc ⟨[.int .i64 a.seq, .int .i64 a.time, a.row], .own⟩) 3 (.one x) (acells (fIdx (hasNot l1) 0 (l2.take i))) (fIdx (hasNot l1) 0 (l2.take i)).length :=
            hO.stay (fun j h1 h2 => by rw [AHeap.get_alloc, if_neg (by omega)])
          have hz : σ.size + 1 < τ2.size := AHeap.get_lt g1
          have hap := append_out (b := σ.size + 2) (bytes := 40) (vs := [.int .i64 a.seq, .int .i64 a.time, a.row]) hO4 (by rw [AHeap.size_alloc]; omega) (by omega) rfl hbd (by decide)
          simp (maxDischargeDepth := 99) [hlen, f0, f1, f5, f6, g1, hlt, hlt', p0, srcLen, srcCells]
          refine hap.mono ?_
          rintro s' τ4 ⟨q1, q2, q3⟩
          obtain ⟨x', rfl⟩ := q1.one
          rw [AHeap.size_alloc] at q2
          have hlow : ∀ j, j < σ.size + 2 → τ4.get j = τ2.get j := fun j hj => by rw [q3 j hj, AHeap.get_alloc, if_neg (by omega)]
          have g1' : τ4.get (σ.size + 1) = some ⟨[x, .nilSlice], .own⟩ := by rw [hlow _ (by omega), g1]
          obtain ⟨τ5, hτ5⟩ : ∃ τ5, τ5 = τ4.put (σ.size + 1) ⟨[x', .nilSlice], .own⟩ := ⟨_, rfl⟩
          have hw5 : writeAt τ4 (σ.size + 1) 0 [x'] = some τ5 := by
            rw [hτ5]
            simp [writeAt, splice, g1']
          simp (maxDischargeDepth := 99) [hlen, f5, f6, hw, hw5, -writeAt]
          refine ⟨l2.length - (i + 1), y1 hlt, i + 1, x', rfl, hlt, by simp [hlen], by simp [hlen, f0], by simp [hlen, f1], by simp [hlen, f4], by simp [hlen, f5], by simp [hlen], ?_, ?_, ?_, ?_⟩
          · rw [hτ5, AHeap.get_put', if_neg (by omega), hlow _ (by omega), g0]
          · rw [hτ5, AHeap.get_put', if_pos ⟨rfl, by omega⟩]
          · rw [hnx]
            have q1' := q1.stay (τ' := τ5) (fun j hj1 hj2 => by rw [hτ5, AHeap.get_put', if_neg (by omega)])
            simp [fIdx, hasNot, hpr, acells_append, acells, Arr.cells]
            exact q1'
          · refine ⟨by rw [hτ5, AHeap.size_put]; omega, fun j hj => ?_⟩
            rw [hτ5, AHeap.get_put', if_neg (by omega), hlow _ (by omega), hk.2 j hj]
      · obtain rfl : i = l2.length := by omega
        rw [List.take_of_length_le (Nat.le_refl _), hasNot_all] at hO
        rcases h2.rd with ⟨rfl, rfl⟩ | ⟨id, off, cap, rfl, hm, hr⟩
        · simp (maxDischargeDepth := 99) [c18_0, hlen, f1, f6]
          exact ⟨x, by simp [hlen], by simp [hlen, f0], by simp [hlen, f1], by simp [hlen, f4], by simp [hlen, f5], g0, g1, hO, hk⟩
        · simp (maxDischargeDepth := 99) [c18_0, hlen, f1, f6]
          exact ⟨x, by simp [hlen], by simp [hlen, f0], by simp [hlen, f1], by simp [hlen, f4], by simp [hlen, f5], g0, g1, hO, hk⟩
    · refine ⟨0, .nilSlice, rfl, Nat.zero_le _, by simp, by simp, by simp, by simp, by simp, by simp, by simp, by simp, ?_, ((Keeps.refl _).alloc).alloc⟩
      simpa [fIdx, acells] using OutSl.nil _ _ _
  · rintro fr τ ⟨x, hlen, f0, f1, f4, f5, g0, g1, hO, hk⟩
    have hz : σ.size + 1 < τ.size := AHeap.get_lt g1
    simp (maxDischargeDepth := 99) [hlen]
    refine ends_to 2 (O18b σ τ l1 l2 x) ?_ ?_
    · refine ends_loop (I := I18b σ τ s1 s2 l1 l2 x) ?_ (k := l1.length) ?_ (by omega)
      · rintro k fr τ' ⟨i, y, rfl, hi, hlen, f0, f1, f4, f5, f7, g1', hO', hsz, hst⟩
        have hk' : Keeps σ τ' := ⟨by have := hk.1; omega, fun j hj => by rw [hst j (by have := hk.1; omega) (by omega), hk.2 j hj]⟩
        by_cases hlt : i < l1.length
        · rcases h1.rd with ⟨_, rfl⟩ | ⟨id, off, cap, rfl, hm, hr⟩
          · simp at hlt
          obtain ⟨p0, q0, _, _⟩ := hr i hlt
          have hid := rd_lt p0
          rw [← hk'.2 id hid] at p0 q0
          have hw := wr_next hlt hm
          have hlt' : (i : Int) < (l1.length : Int) := Int.ofNat_lt.2 hlt
          have hnx := fIdx_next (hasNot l2) hlt
          have hbd := fIdx_bound (hasNot l2) hlt hm
          have hH := run13 D9 (D9_prim 13) ((D9_code 13).trans code13) τ' s2 l2 (rAt l1 i).seq (h2.keeps hk') f (by omega)
          generalize rAt l1 i = a at p0 q0 hnx hH
          simp only [Arr.av, Arr.cells] at p0
          simp (maxDischargeDepth := 99) [c18_1, hlen, f0, f1, f7, hlt, hlt', q0]
          refine hH.mono ?_
          rintro v τ2 ⟨rfl, rfl⟩
          cases hpr : hasA l2 a.seq with
          | true =>
            simp (maxDischargeDepth := 99) [hlen, f7, hw]
            refine ⟨l1.length - (i + 1), y1 hlt, i + 1, y, rfl, hlt, by simp [hlen], by simp [hlen, f0], by simp [hlen, f1], by simp [hlen, f4], by simp [hlen, f5], by simp [hlen], g1', ?_, hsz, hst⟩
            rw [hnx]
            simpa [fIdx, hasNot, hpr] using hO'
          | false =>
            have hO4 : OutSl τ.size (τ2.alloc ⟨[.int .i64 a.seq, .int .i64 a.time, a.row], .own⟩) 3 (.one y) (acells (fIdx (hasNot l2) 0 (l1.take i))) (fIdx (hasNot l2) 0 (l1.take i)).length :=
              hO'.stay (fun j h1 h2 => by rw [AHeap.get_alloc, if_neg (by omega)])
            have hap := append_out (b := τ.size) (bytes := 40) (vs := [.int .i64 a.seq, .int .i64 a.time, a.row]) hO4 (by rw [AHeap.size_alloc]; omega) (by omega) rfl hbd (by decide)
            simp (maxDischargeDepth := 99) [hlen, f0, f1, f5, f7, g1', hlt, hlt', p0, srcLen, srcCells]
            refine hap.mono ?_
            rintro s' τ4 ⟨q1, q2, q3⟩
            obtain ⟨y', rfl⟩ := q1.one
            rw [AHeap.size_alloc] at q2
            have hlow : ∀ j, j < τ.size → τ4.get j = τ2.get j := fun j hj => by rw [q3 j hj, AHeap.get_alloc, if_neg (by omega)]
            have g1'' : τ4.get (σ.size + 1) = some ⟨[x, y], .own⟩ := by rw [hlow _ (by omega), g1']
            obtain ⟨τ5, hτ5⟩ : ∃ τ5, τ5 = τ4.put (σ.size + 1) ⟨[x, y'], .own⟩ := ⟨_, rfl⟩
            have hw5 : writeAt τ4 (σ.size + 1) 1 [y'] = some τ5 := by
              rw [hτ5]
              simp [writeAt, splice, g1'']
            simp (maxDischargeDepth := 99) [hlen, f5, f7, hw, hw5, -writeAt]
            refine ⟨l1.length - (i + 1), y1 hlt, i + 1, y', rfl, hlt, by simp [hlen], by simp [hlen, f0], by simp [hlen, f1], by simp [hlen, f4], by simp [hlen, f5], by simp [hlen], ?_, ?_, ?_, ?_⟩
            · rw [hτ5, AHeap.get_put', if_pos ⟨rfl, by omega⟩]
            · rw [hnx]
              have q1' := q1.stay (τ' := τ5) (fun j hj1 hj2 => by rw [hτ5, AHeap.get_put', if_neg (by omega)])
              simp [fIdx, hasNot, hpr, acells_append, acells, Arr.cells]
              exact q1'
            · rw [hτ5, AHeap.size_put]; omega
            · intro j hj1 hj2
              rw [hτ5, AHeap.get_put', if_neg (by omega), hlow _ hj1, hst j hj1 hj2]
        · obtain rfl : i = l1.length := by omega
          rw [List.take_of_length_le (Nat.le_refl _), hasNot_all] at hO'
          rcases h1.rd with ⟨rfl, rfl⟩ | ⟨id, off, cap, rfl, hm, hr⟩
          · simp (maxDischargeDepth := 99) [c18_1, hlen, f0, f7]
            exact ⟨y, by simp [hlen], by simp [hlen, f4], by simp [hlen, f5], g1', hO', hsz, hst⟩
          · simp (maxDischargeDepth := 99) [c18_1, hlen, f0, f7]
            exact ⟨y, by simp [hlen], by simp [hlen, f4], by simp [hlen, f5], g1', hO', hsz, hst⟩
      · refine ⟨0, .nilSlice, rfl, Nat.zero_le _, by simp [hlen], by simp [hlen, f0], by simp [hlen, f1], by simp [hlen, f4], by simp [hlen, f5], by simp [hlen], g1, ?_, Nat.le_refl _, fun _ _ _ => rfl⟩
        simpa [fIdx, acells] using OutSl.nil _ _ _
    · rintro fr τ' ⟨y, hlen, f4, f5, g1', hO', hsz, hst⟩
      have g0' : τ'.get σ.size = some ⟨[.nilSlice, .nilSlice], .own⟩ := by rw [hst _ (by omega) (by omega), g0]
      have hz' := AHeap.get_lt g0'
      have hk' : Keeps σ τ' := ⟨by have := hk.1; omega, fun j hj => by rw [hst j (by have := hk.1; omega) (by omega), hk.2 j hj]⟩
      have hx' : OutSl (σ.size + 2) τ' 3 (.one x) (acells (notIn l2 l1)) (notIn l2 l1).length := hO.stay (fun j h1 h2 => hst j h2 (by omega))
      have hn1 := notIn_len l1 l2
      have hn2 := notIn_len l2 l1
      have hX : Arrs τ' (.one x) (notIn l2 l1) := acells_outsl hx' (by omega) (fun a ha => (h2.keeps hk').2 a (notIn_mem ha))
      have hY : Arrs τ' (.one y) (notIn l1 l2) := acells_outsl hO' (by omega) (fun a ha => (h1.keeps hk').2 a (notIn_mem ha))
      refine ⟨rfl, ?_⟩
      simp (maxDischargeDepth := 99) [hlen, f4, f5, g0', g1', hz']
      exact ⟨_, _, ⟨rfl, rfl⟩, hX.put2 g0', hY.put2 g0', hk'.put (Nat.le_refl _)⟩
end Go.Proofs.Ythjijjkoeoemgaa.Ab
