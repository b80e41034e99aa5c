/- The law of the differences. -/
import Derived.Test.YthjijjkoeoemgaaCt8
namespace Go.Proofs.Ythjijjkoeoemgaa.Ab
open Go
set_option maxRecDepth 20000
set_option maxHeartbeats 4000000
set_option linter.unusedSimpArgs false

/-! ### the plain law -/
theorem badA_vals {q t : Int} {out : List Arr} {a : Arr} (h : ¬ badA q t out a = true) : a.vals ≠ [] ∧ q < a.seq := by
  unfold badA at h
  simp only [Bool.or_eq_true, decide_eq_true_eq, not_or] at h
  obtain ⟨⟨⟨⟨⟨h1, _⟩, _⟩, _⟩, _⟩, h6⟩ := h
  refine ⟨fun e => h6 (by rw [e]; rfl), by omega⟩
theorem fitGo_ok : ∀ (l : List Arr) (q t : Int) (out : List Arr), out.Pairwise (fun a b => a.seq < b.seq) → (∀ a ∈ out, a.seq ≤ q ∧ a.vals ≠ []) → (fitGo q t out l).1.Pairwise (fun a b => a.seq < b.seq) ∧ ∀ a ∈ (fitGo q t out l).1, a.vals ≠ []
  | [], q, t, out, h1, h2 => ⟨h1, fun a ha => (h2 a ha).2⟩
  | a :: l, q, t, out, h1, h2 => by
    unfold fitGo
    split
    · exact fitGo_ok l q t out h1 h2
    · rename_i hb
      obtain ⟨k1, k2⟩ := badA_vals hb
      refine fitGo_ok l _ _ _ ?_ ?_
      · rw [List.pairwise_append]
        refine ⟨h1, List.pairwise_singleton _ _, fun x hx y hy => ?_⟩
        simp only [List.mem_singleton] at hy
        subst hy
        have := (h2 x hx).1
        omega
      · intro x hx
        rcases List.mem_append.1 hx with hx | hx
        · exact ⟨by have := (h2 x hx).1; omega, (h2 x hx).2⟩
        · simp only [List.mem_singleton] at hx
          subst hx
          exact ⟨Int.le_refl _, k1⟩
theorem fitL_ok (l : List Arr) : (fitL l).1.Pairwise (fun a b => a.seq < b.seq) ∧ ∀ a ∈ (fitL l).1, a.vals ≠ [] := fitGo_ok _ _ _ _ List.Pairwise.nil (fun a ha => by cases ha)
theorem fitL_mem {l : List Arr} {x : Arr} (h : x ∈ (fitL l).1) : x ∈ l := fit_rows (l.take 200) 0 0 [] (fun a => a ∈ l) (fun a ha => List.mem_of_mem_take ha) (fun a ha => by cases ha) x h
theorem fitL_len (l : List Arr) : (fitL l).1.length ≤ 200 := by
  have := fit_len (l.take 200) 0 0 []
  rw [List.length_take, List.length_nil] at this
  unfold fitL
  omega
theorem seqs_nodup {l : List Arr} (h : l.Pairwise (fun a b => a.seq < b.seq)) : (l.map Arr.seq).Nodup := by
  refine List.Pairwise.map Arr.seq (R := fun a b => a.seq < b.seq) (fun a b h => ?_) h
  omega
theorem hasA_mem (l : List Arr) (q : Int) : hasA l q = true ↔ q ∈ l.map Arr.seq := by
  unfold hasA
  rw [List.any_eq_true, List.mem_map]
  constructor
  · rintro ⟨a, h1, h2⟩; exact ⟨a, h1, by simpa using h2⟩
  · rintro ⟨a, h1, h2⟩; exact ⟨a, h1, by simpa using h2⟩
theorem both_map (l m : List Arr) : (l.filter (fun x => hasA m x.seq)).map Arr.seq = (l.map Arr.seq).filter (fun q => hasA m q) := by
  rw [List.filter_map]; rfl
theorem both_len {l m : List Arr} (hl : l.Pairwise (fun a b => a.seq < b.seq)) (hm : m.Pairwise (fun a b => a.seq < b.seq)) : (l.filter (fun x => hasA m x.seq)).length = (m.filter (fun x => hasA l x.seq)).length := by
  have e1 : (l.filter (fun x => hasA m x.seq)).length = ((l.map Arr.seq).filter (fun q => hasA m q)).length := by rw [← both_map, List.length_map]
  have e2 : (m.filter (fun x => hasA l x.seq)).length = ((m.map Arr.seq).filter (fun q => hasA l q)).length := by rw [← both_map, List.length_map]
  rw [e1, e2]
  apply List.Perm.length_eq
  rw [List.perm_ext_iff_of_nodup (List.Nodup.sublist List.filter_sublist (seqs_nodup hl)) (List.Nodup.sublist List.filter_sublist (seqs_nodup hm))]
  intro q
  rw [List.mem_filter, List.mem_filter, hasA_mem, hasA_mem]
  exact And.comm
theorem notIn_both (l m : List Arr) : (notIn l m).length + (l.filter (fun x => hasA m x.seq)).length = l.length := by
  unfold notIn
  induction l with
  | nil => rfl
  | cons a l ih =>
    rw [List.filter_cons, List.filter_cons]
    cases hasA m a.seq <;> simp only [Bool.not_true, Bool.not_false, if_true, Bool.false_eq_true, if_false, List.length_cons] <;> omega
theorem diff_count {l m : List Arr} (hl : l.Pairwise (fun a b => a.seq < b.seq)) (hm : m.Pairwise (fun a b => a.seq < b.seq)) : l.length - (notIn l m).length + (notIn m l).length = m.length := by
  have h1 := notIn_both l m
  have h2 := notIn_both m l
  have h3 := both_len hl hm
  omega
theorem sameA_keys {l m : List Arr} (h : l.map Arr.key = m.map Arr.key) : sameA l m = true := by
  unfold sameA
  rw [decide_eq_true_iff]
  exact h

/-! ### SameDelta -/
theorem Arrs.same {σ : AHeap} {x : SV} {l : List Arr} (h : Arrs σ (.one x) l) : SV.same x x = true := by
  rcases h.1 with ⟨h, _⟩ | ⟨_, _, _, _, h, _⟩
  · cases h; rfl
  · cases h; simp [SV.same]
theorem run17 (σ : AHeap) (x1 y1 x2 y2 : SV) (l1 l2 m1 m2 : List Arr) (h1 : Arrs σ (.one x1) l1) (h2 : Arrs σ (.one y1) l2) (h3 : Arrs σ (.one x2) m1) (h4 : Arrs σ (.one y2) m2)
    (e1 : l1.map Arr.key = m1.map Arr.key) (e2 : l2.map Arr.key = m2.map Arr.key) (K : Nat) (hK1 : ∀ a ∈ l1, a.vals.length ≤ K) (hK2 : ∀ a ∈ l2, a.vals.length ≤ K) (f : Nat) (hf : l1.length + l2.length + K + 30 ≤ f) :
    OptP (evCall D9 f 17 [.agg [x1, y1], .agg [x2, y2]] σ) (fun _ v τ => v = .one (.bool true) ∧ Keeps σ τ) := by
  obtain ⟨f, rfl⟩ : ∃ k, f = k + 1 := ⟨f - 1, by omega⟩
  refine evCall_code (D9_prim 17) ((D9_code 17).trans code17) ?_
  obtain ⟨τ, hτ⟩ : ∃ τ, τ = (σ.alloc ⟨[x1, y1], .own⟩).alloc ⟨[x2, y2], .own⟩ := ⟨_, rfl⟩
  have hk : Keeps σ τ := by rw [hτ]; exact ((Keeps.refl _).alloc).alloc
  have r1 := run12 τ (.one x1) (.one x2) l1 m1 (h1.keeps hk) (h3.keeps hk) K hK1 f (by omega)
  have r2 := run12 τ (.one y1) (.one y2) l2 m2 (h2.keeps hk) (h4.keeps hk) K hK2 f (by omega)
  rw [sameA_keys e1] at r1
  rw [sameA_keys e2] at r2
  have ga : τ.get σ.size = some ⟨[x1, y1], .own⟩ := by rw [hτ]; simp
  have gb : τ.get (σ.size + 1) = some ⟨[x2, y2], .own⟩ := by rw [hτ]; simp
  simp (maxDischargeDepth := 99) [c17]
  rw [← hτ]
  refine r1.mono ?_
  rintro v τ2 ⟨rfl, rfl⟩
  simp (maxDischargeDepth := 99) [ga, gb]
  refine r2.mono ?_
  rintro v τ3 ⟨rfl, rfl⟩
  simp (maxDischargeDepth := 99)
  exact hk
/-- What a slice's length is told as. -/
def lenA (s : AV) (n : Nat) : Prop := (s = .one .nilSlice ∧ n = 0) ∨ ∃ id off cap, s = .one (.slice id off 3 n cap)
theorem Arrs.lenA {σ : AHeap} {s : AV} {l : List Arr} (h : Arrs σ s l) : lenA s l.length := by
  rcases h.1 with ⟨h, h0⟩ | ⟨id, off, cap, _, h, _⟩
  · exact .inl ⟨h, by rw [h0]; rfl⟩
  · exact .inr ⟨id, off * 3, cap, h⟩

theorem keys_vals {l m : List Arr} {K : Nat} (h : l.map Arr.key = m.map Arr.key) (hm : ∀ a ∈ m, a.vals.length ≤ K) : ∀ a ∈ l, a.vals.length ≤ K := by
  intro a ha
  have : a.key ∈ m.map Arr.key := by rw [← h]; exact List.mem_map_of_mem ha
  obtain ⟨b, hb, e⟩ := List.mem_map.1 this
  have e2 : b.vals = a.vals := by
    have := congrArg (fun k : Int × Int × List V => k.2.2) e
    simpa [Arr.key] using this
  rw [← e2]
  exact hm b hb
theorem keys_len {l m : List Arr} (h : l.map Arr.key = m.map Arr.key) : l.length = m.length := by
  have := congrArg List.length h
  simpa using this
theorem lenA.ev {s : AV} {n : Nat} (h : lenA s n) (hn : n ≤ maxElems) (call : CallF) (fr : List AV) (σ : AHeap) (t : Nat) (ht : getSlot fr t = s) : evStep call fr σ (.len (.tmp t)) = some (.one (.int .i64 n), σ) := by
  rcases h with ⟨rfl, rfl⟩ | ⟨id, off, cap, rfl⟩
  · simp [ht]
  · simp [ht]

theorem run6 (σ : AHeap) (s1 s2 : AV) (l1 l2 : List Arr) (now : Int) (h1 : Arrs σ s1 l1) (h2 : Arrs σ s2 l2) (b1 : l1.length ≤ 1048576) (b2 : l2.length ≤ 1048576) (K : Nat) (k1 : ∀ a ∈ l1, a.vals.length ≤ K) (k2 : ∀ a ∈ l2, a.vals.length ≤ K) (f : Nat) (hf : l1.length + l2.length + K + 2000 ≤ f) :
    OptP (evCall D9 f 6 [s1, s2, .one (.int .i64 now)] σ) (fun _ v _ => v = .one (.bool true)) := by
  obtain ⟨f, rfl⟩ : ∃ k, f = k + 1 := ⟨f - 1, by omega⟩
  refine evCall_code (D9_prim 6) ((D9_code 6).trans code6) ?_
  simp (maxDischargeDepth := 99) [c6]
  refine (run10 σ s1 l1 now h1 b1 f (by omega)).mono ?_
  rintro v τ ⟨a', t', rfl, hO, hk⟩
  simp (maxDischargeDepth := 99)
  refine (run10 τ s2 l2 now (h2.keeps hk) b2 f (by omega)).mono ?_
  rintro v τ2 ⟨b', t2', rfl, hO2, hk2⟩
  have hk02 := hk.trans hk2
  have mA : (fitL l1).1.length ≤ maxElems := Nat.le_trans (fitL_len l1) (by decide)
  have mB : (fitL l2).1.length ≤ maxElems := Nat.le_trans (fitL_len l2) (by decide)
  have hA : Arrs τ2 a' (fitL l1).1 := (acells_outsl hO mA (fun a ha => (h1.keeps hk).2 a (fitL_mem ha))).keeps hk2
  have hB : Arrs τ2 b' (fitL l2).1 := acells_outsl hO2 mB (fun a ha => (h2.keeps hk02).2 a (fitL_mem ha))
  obtain ⟨pA, nA⟩ := fitL_ok l1
  obtain ⟨pB, nB⟩ := fitL_ok l2
  have kA : ∀ a ∈ (fitL l1).1, a.vals.length ≤ K := fun a ha => k1 a (fitL_mem ha)
  have kB : ∀ a ∈ (fitL l2).1, a.vals.length ≤ K := fun a ha => k2 a (fitL_mem ha)
  have lA := fitL_len l1
  have lB := fitL_len l2
  clear hO hO2
  generalize (fitL l1).1 = A at *
  generalize (fitL l2).1 = B at *
  simp (maxDischargeDepth := 99)
  refine (run16 τ2 a' b' A B hA hB nA nB mA mB f (by omega)).mono ?_
  rintro v τ3 ⟨x, y, oi, oo, rfl, ei, eo, hx, hy, hk3⟩
  obtain ⟨τ4, hτ4⟩ : ∃ τ4, τ4 = (τ3.alloc ⟨[.nilSlice, .nilSlice], .own⟩).put τ3.size ⟨[x, y], .own⟩ := ⟨_, rfl⟩
  have hk4 : Keeps τ3 τ4 := by rw [hτ4]; exact ((Keeps.refl _).alloc).put (Nat.le_refl _)
  have g4 : τ4.get τ3.size = some ⟨[x, y], .own⟩ := by rw [hτ4, AHeap.get_put', if_pos ⟨rfl, by rw [AHeap.size_alloc]; omega⟩]
  have hw4 : writeAt (τ3.alloc ⟨[.nilSlice, .nilSlice], .own⟩) τ3.size 0 [x, y] = some τ4 := by
    rw [hτ4]
    simp [writeAt, splice]
  simp (maxDischargeDepth := 99) [hw4, -writeAt]
  have hkk := hk3.trans hk4
  have hX : Arrs τ4 (.one x) oi := hx.keeps hk4
  have hY : Arrs τ4 (.one y) oo := hy.keeps hk4
  have hsx := hX.same
  have hsy := hY.same
  refine ends_draw ?_
  simp (maxDischargeDepth := 99) [g4, -SV.same]
  refine (run18 τ4 a' b' A B (hA.keeps hkk) (hB.keeps hkk) mA mB f (by omega)).mono ?_
  rintro v τ5 ⟨x2, y2, rfl, hX2, hY2, hk5⟩
  have g5 : τ5.get τ3.size = some ⟨[x, y], .own⟩ := by rw [hk5.2 _ (AHeap.get_lt g4), g4]
  have lOi := keys_len ei
  have lOo := keys_len eo
  have nB' := notIn_len B A
  have nA' := notIn_len A B
  have kO1 := keys_vals ei (fun a ha => kB a (notIn_mem ha))
  have kO2 := keys_vals eo (fun a ha => kA a (notIn_mem ha))
  have hcount := diff_count pA pB
  have hnil : slVals τ5 (.one .nilSlice) = some [] := rfl
  simp (maxDischargeDepth := 99) [g5, -SV.same, hsx, hsy]
  refine (run17 τ5 x y x2 y2 oi oo (notIn B A) (notIn A B) (hX.keeps hk5) (hY.keeps hk5) hX2 hY2 ei eo K kO1 kO2 f (by omega)).mono ?_
  rintro v τ6 ⟨rfl, hk6⟩
  have g6 : τ6.get τ3.size = some ⟨[x, y], .own⟩ := by rw [hk6.2 _ (AHeap.get_lt g5), g5]
  have r19 := run19 D9 (D9_prim 19) ((D9_code 19).trans code19) τ6 (.one .nilSlice) (.one .nilSlice) [] [] rfl rfl f (by simp; omega)
  obtain ⟨f, rfl⟩ : ∃ k, f = k + 1 := ⟨f - 1, by omega⟩
  obtain ⟨d, hd⟩ : ∃ d : Nat, d = A.length - (notIn A B).length := ⟨_, rfl⟩
  have e1 : wr .i64 ((A.length : Int) - (notIn A B).length) = (d : Int) := by rw [wr64 (by omega) (by omega)]; omega
  have e2 : wr .i64 ((d : Int) + (notIn B A).length) = (B.length : Int) := by rw [wr64 (by omega) (by omega)]; omega
  clear hd
  rw [← lOo] at e1
  rw [← lOi] at e2
  have LA := hA.lenA
  have LB := hB.lenA
  have LX := hX.lenA
  have LY := hY.lenA
  generalize oi.length = n1 at *
  generalize oo.length = n2 at *
  generalize A.length = n3 at *
  generalize B.length = n4 at *
  rcases LA with ⟨rfl, rfl⟩ | ⟨ia, oa, ca, rfl⟩ <;> rcases LB with ⟨rfl, rfl⟩ | ⟨ib, ob, cb, rfl⟩ <;> rcases LX with ⟨LX, rfl⟩ | ⟨ix, ox, cx, LX⟩ <;> rcases LY with ⟨LY, rfl⟩ | ⟨iy, oy, cy, LY⟩ <;> cases LX <;> cases LY
  all_goals
    try simp only [Int.natCast_zero, Int.zero_sub, Int.sub_zero, Int.add_zero, Int.zero_add, Int.neg_zero] at e1 e2
    simp (maxDischargeDepth := 99) [g4, g5, g6, e1, e2, hsx, hsy, -SV.same]
    refine r19.mono ?_
    rintro v τ7 ⟨rfl, rfl⟩
    simp (maxDischargeDepth := 99) [D9_9, pBool]
end Go.Proofs.Ythjijjkoeoemgaa.Ab
