/- Timers: what a wheel drops. -/
import Derived.Test.YtdgffilnefnjjaaTq1
namespace Go.Proofs.Ytdgffilnefnjjaa.Ab
open Go
set_option maxRecDepth 20000
set_option maxHeartbeats 1000000
set_option linter.unusedSimpArgs false

/-! ### the heap made anew -/
def HeapLo (lo : Nat) (l : List T) (n i : Nat) : Prop := (∀ j, 0 < j → j < n → lo ≤ par j → par j ≠ i → leT (tAt l (par j)) (tAt l j)) ∧ (0 < i → lo ≤ par i → ∀ j, 0 < j → j < n → par j = i → leT (tAt l (par i)) (tAt l j))
theorem sink_lo (lo n : Nat) : ∀ (k i : Nat) (l : List T), n - i ≤ k → n ≤ l.length → lo ≤ i → HeapLo lo l n i → ∀ j, 0 < j → j < n → lo ≤ par j → leT (tAt (sinkL n l i) (par j)) (tAt (sinkL n l i) j) := by
  intro k
  induction k with
  | zero =>
    intro i l hk hn hlo h j hj1 hj2 hj3
    rw [sinkL]
    split
    · exact h.1 j hj1 hj2 hj3 (by unfold par; omega)
    · rename_i hne
      have := mj_par hne
      unfold par at this
      omega
  | succ k ih =>
    intro i l hk hn hlo h
    rw [sinkL]
    split
    · rename_i he
      intro j hj1 hj2 hj3
      by_cases e : par j = i
      · have := (mj_le l n i).2 j hj1 hj2 e
        rw [he] at this
        rw [e]; exact this
      · exact h.1 j hj1 hj2 hj3 e
    · rename_i hne
      obtain ⟨p1, p2, p3⟩ := mj_par hne
      have hml := mj_le l n i
      generalize hu : mj l n i 2 = u at *
      have hiu : i < u := by unfold par at p1; omega
      have hil : i < l.length := by omega
      have hul : u < l.length := by omega
      refine ih u (swapL l i u) (by omega) (by rw [swapL_length]; exact hn) (by omega) ⟨fun j hj1 hj2 hjl hj3 => ?_, fun h0 hjl j hj1 hj2 hj3 => ?_⟩
      · rw [tAt_swap hil hul, tAt_swap hil hul]
        rw [if_neg hj3]
        by_cases e1 : par j = i
        · rw [if_pos e1]
          by_cases e2 : j = u
          · rw [if_pos e2]; exact hml.1
          · rw [if_neg e2, if_neg (by intro e; subst e; unfold par at e1; omega)]
            exact hml.2 j hj1 hj2 e1
        · rw [if_neg e1]
          by_cases e2 : j = u
          · exact absurd (by rw [e2, p1]) e1
          · rw [if_neg e2]
            by_cases e3 : j = i
            · rw [if_pos e3]
              have := h.2 (by omega) (by rw [← e3]; exact hjl) u p2 p3 p1
              rw [e3]
              exact this
            · rw [if_neg e3]
              exact h.1 j hj1 hj2 hjl e1
      · have hju : j ≠ u := by intro e; subst e; unfold par at hj3; omega
        have hji : j ≠ i := by intro e; subst e; unfold par at hj3; omega
        rw [tAt_swap hil hul, tAt_swap hil hul, p1, if_neg (by omega), if_pos rfl, if_neg hju, if_neg hji]
        have := h.1 j hj1 hj2 (by omega) (by omega)
        rw [hj3] at this
        exact this
def heapL (n : Nat) (l : List T) : Nat → List T
  | 0 => l
  | i + 1 => heapL n (sinkL n l i) i
theorem heapL_heap (n : Nat) : ∀ (i : Nat) (l : List T), n ≤ l.length → (∀ j, 0 < j → j < n → i ≤ par j → leT (tAt l (par j)) (tAt l j)) → ∀ j, 0 < j → j < n → leT (tAt (heapL n l i) (par j)) (tAt (heapL n l i) j)
  | 0, l, _, h => fun j h1 h2 => h j h1 h2 (Nat.zero_le _)
  | i + 1, l, hn, h => by
    unfold heapL
    refine heapL_heap n i _ (by rw [sinkL_length _ _ _ _ (Nat.le_refl _)]; exact hn) (sink_lo i n _ i l (Nat.le_refl _) hn (Nat.le_refl _) ⟨fun j h1 h2 h3 h4 => h j h1 h2 (by omega), fun h0 h1 => ?_⟩)
    unfold par at h1
    omega
theorem heapL_length (n : Nat) : ∀ (i : Nat) (l : List T), (heapL n l i).length = l.length
  | 0, _ => rfl
  | i + 1, l => by unfold heapL; rw [heapL_length n i, sinkL_length _ _ _ _ (Nat.le_refl _)]
theorem heapL_perm (n : Nat) : ∀ (i : Nat) (l : List T), n ≤ l.length → (heapL n l i).Perm l
  | 0, _, _ => .refl _
  | i + 1, l, h => by
    unfold heapL
    exact (heapL_perm n i _ (by rw [sinkL_length _ _ _ _ (Nat.le_refl _)]; exact h)).trans (sink_perm n _ i l (Nat.le_refl _) h)
/-- What is left of a heap when some are dropped. -/
def dropL (pr : T → Bool) (L : List T) : List T := heapL (L.filter fun t => !pr t).length (L.filter fun t => !pr t) ((L.filter fun t => !pr t).length / 2)
theorem dropL_heap (pr : T → Bool) (L : List T) : Heap (dropL pr L) := by
  intro j h1 h2
  unfold dropL at h2 ⊢
  rw [heapL_length] at h2
  exact heapL_heap _ _ _ (Nat.le_refl _) (fun j k1 k2 k3 => by unfold par at k3; omega) j h1 h2
theorem dropL_perm (pr : T → Bool) (L : List T) : (dropL pr L).Perm (L.filter fun t => !pr t) := heapL_perm _ _ _ (Nat.le_refl _)

/-! ### the code -/
theorem run79_nil (σ : AHeap) (fn b : Nat) (f : Nat) (hf : 8 ≤ f) : OptP (evCall D3 f 79 [.one .nilSlice, .one (.func fn [.ptr b 0])] σ) (fun _ v τ => v = .one (.int .i64 (-1)) ∧ τ = σ) := by
  obtain ⟨f, rfl⟩ : ∃ k, f = k + 2 := ⟨f - 2, by omega⟩
  refine evCall_code (by kernel_rfl) ((D3_code 79).trans code79) ?_
  simp (maxDischargeDepth := 99) [c79]
  refine ends_loop (I := fun k fr τ => k = 0 ∧ τ = σ ∧ fr.length = 19 ∧ getSlot fr 7 = .one (.int .i64 0) ∧ getSlot fr 8 = .one (.int .i64 0)) ?_ (k := 0) ?_ (by omega)
  · rintro k fr τ ⟨rfl, rfl, hlen, f7, f8⟩
    simp (maxDischargeDepth := 99) [c79_0, hlen, f7, f8]
  · simp
theorem run65_nil (σ : AHeap) (fn b : Nat) (f : Nat) (hf : 12 ≤ f) : OptP (evCall D3 f 65 [.one .nilSlice, .one (.func fn [.ptr b 0])] σ) (fun _ v τ => v = .one .nilSlice ∧ τ = σ) := by
  obtain ⟨f, rfl⟩ : ∃ k, f = k + 1 := ⟨f - 1, by omega⟩
  refine evCall_code (by kernel_rfl) ((D3_code 65).trans code65) ?_
  simp (maxDischargeDepth := 99) [c65]
  refine (run79_nil σ fn b f (by omega)).mono ?_
  rintro v τ ⟨rfl, rfl⟩
  simp (maxDischargeDepth := 99) []

def I44 (σ : AHeap) (id q : Nat) (F junk : List T) (seq : Int) (n0 : Nat) (k : Nat) (fr : List AV) (τ : AHeap) : Prop :=
  ∃ G, fr.length = 42 ∧ getSlot fr 0 = .one (.ptr id 0) ∧ getSlot fr 5 = .one (.int .i64 (n0 : Int)) ∧ getSlot fr 6 = .one (.int .i64 ((k : Int) - 1)) ∧ k ≤ F.length ∧ G.length = F.length ∧
    τ.get id = some ⟨[.slice q 0 3 F.length none, .func 41 [], .int .i64 seq], .own⟩ ∧ τ.get q = some ⟨tcells (G ++ junk), .own⟩ ∧ Fr σ τ id q ∧ heapL F.length G k = heapL F.length F (F.length / 2)
theorem run44 (σ : AHeap) (id q b fn : Nat) (L : List T) (seq x : Int) (pr : T → Bool) (hp : Tells fn b x pr) (h : Whl σ id L seq q) (hb : σ.get b = some ⟨[.int .i64 x], .own⟩) (nb1 : b ≠ id) (nb2 : b ≠ q) (hL : L.length ≤ 1048576) (f : Nat) (hf : L.length + 40 ≤ f) :
    OptP (evCall D3 f 44 [.one (.ptr id 0), .one (.func fn [.ptr b 0])] σ) (fun _ v τ => v = .one (.int .i64 ((L.length : Int) - ((L.filter fun t => !pr t).length : Int))) ∧ Whl τ id (dropL pr L) seq q ∧ Fr σ τ id q) := by
  obtain ⟨f, rfl⟩ : ∃ k, f = k + 1 := ⟨f - 1, by omega⟩
  refine evCall_code (by kernel_rfl) ((D3_code 44).trans code44) ?_
  have hlt := h.lt
  have hh := h
  obtain ⟨sl, hg, hs⟩ := h
  rcases hs with ⟨rfl, rfl, rfl⟩ | ⟨junk, rfl, hne, hq⟩
  · simp (maxDischargeDepth := 99) [-partA, pw0, c44, hg]
    refine (run65_nil σ fn b f (by omega)).mono ?_
    rintro v τ ⟨rfl, rfl⟩
    have wr30 := write30 hg .nilSlice
    have hw1 : wr .i64 (-1) = -1 := by decide
    have hw0 : wr .i64 0 = 0 := by decide
    simp (maxDischargeDepth := 99) [-partA, -writeAt, pw0, hg, wr30, hlt.1, hw1, hw0]
    refine ends_loop (I := fun k fr τ' => k = 0 ∧ fr.length = 42 ∧ getSlot fr 0 = .one (.ptr q 0) ∧ getSlot fr 5 = .one (.int .i64 0) ∧ getSlot fr 6 = .one (.int .i64 (-1)) ∧ τ' = τ.put q ⟨[.nilSlice, .func 41 [], .int .i64 seq], .own⟩) ?_ (k := 0) ?_ (by omega)
    · rintro k fr τ' ⟨rfl, hlen, f0, f5, f6, rfl⟩
      simp (maxDischargeDepth := 99) [-partA, pw0, c44_0, hlen, f0, f5, f6, hlt.1, hw0]
      refine ⟨⟨_, by rw [AHeap.get_put', if_pos ⟨rfl, hlt.1⟩], .inl ⟨rfl, by simp [dropL, heapL], rfl⟩⟩, (Fr.refl _ _ _).put (.inl rfl)⟩
    · simp
  · have hdel := run65 σ q b fn x pr hp L junk hq hb nb2 (by unfold maxElems; omega) f (by omega)
    simp (maxDischargeDepth := 99) [-partA, pw0, c44, hg]
    refine hdel.mono ?_
    rintro v τ ⟨rfl, ⟨junk', hgq⟩, hsz, hfr⟩
    have hFle : (L.filter fun t => !pr t).length ≤ L.length := List.length_filter_le _ _
    unfold dropL
    generalize L.filter (fun t => !pr t) = F at hgq hFle ⊢
    have hgi : τ.get id = some ⟨[.slice q 0 3 L.length none, .func 41 [], .int .i64 seq], .own⟩ := by rw [hfr id hlt.1 (by omega), hg]
    have hil : id < τ.size := AHeap.get_lt hgi
    have wr30 := write30 hgi (.slice q 0 3 F.length none)
    obtain ⟨τ1, hτ1⟩ : ∃ τ1, τ1 = τ.put id ⟨[.slice q 0 3 F.length none, .func 41 [], .int .i64 seq], .own⟩ := ⟨_, rfl⟩
    rw [← hτ1] at wr30
    have hgi1 : τ1.get id = some ⟨[.slice q 0 3 F.length none, .func 41 [], .int .i64 seq], .own⟩ := by rw [hτ1, AHeap.get_put', if_pos ⟨rfl, hil⟩]
    have hgq1 : τ1.get q = some ⟨tcells (F ++ junk'), .own⟩ := by rw [hτ1, AHeap.get_put', if_neg (by omega), hgq]
    have hF1 : Fr σ τ1 id q := by
      refine ⟨by rw [hτ1, AHeap.size_put]; exact hsz, fun j h1 h2 h3 => ?_⟩
      rw [hτ1, AHeap.get_put', if_neg (by omega), hfr j h1 h3]
    have hw1 : wr .i64 ((F.length : Int) / 2) = ((F.length / 2 : Nat) : Int) := by
      have e : (F.length : Int) / 2 = ((F.length / 2 : Nat) : Int) := by omega
      rw [e, wr64 (by omega) (by omega)]
    have hw2 : wr .i64 (((F.length / 2 : Nat) : Int) - 1) = ((F.length / 2 : Nat) : Int) - 1 := wr64 (by omega) (by omega)
    have hwf : wr .i64 ((L.length : Int) - (F.length : Int)) = (L.length : Int) - (F.length : Int) := wr64 (by omega) (by omega)
    obtain ⟨half, hhalf⟩ : ∃ half, half = F.length / 2 := ⟨_, rfl⟩
    have hhl : half ≤ F.length := by omega
    rw [← hhalf] at hw1 hw2 ⊢
    simp (maxDischargeDepth := 99) [-partA, -writeAt, pw0, hgi, wr30, hgi1, hw1, hw2]
    refine ends_loop (I := I44 σ id q F junk' seq L.length) ?_ (k := half) ?_ (by omega)
    · rintro k fr τ' ⟨G, hlen, f0, f5, f6, hk, hGl, ggi, ggq, hF, hup⟩
      cases k with
      | zero =>
        simp (maxDischargeDepth := 99) [-partA, pw0, c44_0, hlen, f0, f5, f6, ggi, hwf]
        have hup' : G = heapL F.length F half := by rw [hhalf]; exact hup
        rw [← hup']
        exact ⟨⟨_, ggi, .inr ⟨junk', by rw [hGl], hne, ggq⟩⟩, hF⟩
      | succ k =>
        have e1 : ((k + 1 : Nat) : Int) - 1 = (k : Int) := by omega
        rw [e1] at f6
        have hwk : wr .i64 ((k : Int) - 1) = (k : Int) - 1 := wr64 (by omega) (by omega)
        have hsink := run66 τ' id q F.length k seq (G ++ junk') ggi ggq hne (by rw [List.length_append]; omega) (by unfold maxElems; omega) (by omega) f (by omega)
        rw [sinkL_append _ _ _ _ _ (Nat.le_refl _) (by omega)] at hsink
        simp (maxDischargeDepth := 99) [c44_0, hlen, f0, f5, f6]
        refine hsink.mono ?_
        rintro v τ2 ⟨k1, k2, k3⟩
        simp (maxDischargeDepth := 99) [hlen, f0, f5, f6, hwk]
        refine ⟨k, by omega, ?_⟩
        exact ⟨sinkL F.length G k, by simp [hlen], by simp [hlen, f0], by simp [hlen, f5], by simp [hlen], by omega, by rw [sinkL_length _ _ _ _ (Nat.le_refl _), hGl], k1, k2, hF.trans k3 (.inl rfl), hup⟩
    · exact ⟨F, by simp, by simp, by simp, by simp, hhl, rfl, hgi1, hgq1, hF1, by rw [hhalf]⟩
end Go.Proofs.Ytdgffilnefnjjaa.Ab
