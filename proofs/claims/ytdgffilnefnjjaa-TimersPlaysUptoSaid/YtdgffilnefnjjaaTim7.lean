/- Timers: all that is due; lists put behind one another. -/
import Derived.Test.YtdgffilnefnjjaaTim6
import Derived.Test.YtdgffilnefnjjaaTimP
namespace Go.Proofs.Ytdgffilnefnjjaa.Ab
open Go
set_option maxRecDepth 20000
set_option maxHeartbeats 1000000
set_option linter.unusedSimpArgs false

/-- append of many. -/
theorem append_many {b : Nat} {τ : AHeap} {esz bytes : Nat} {s : AV} {cells vs : List SV} {n k : Nat} (h : OutSl b τ esz s cells n) (hb : b ≤ τ.size) (he : 0 < esz)
    (hv : vs.length = k * esz) (hn : n + k ≤ maxElems) (hby : bytes ≤ maxBytes) :
    OptP (appendA τ esz bytes s k vs) (fun _ s' τ' => OutSl b τ' esz s' (cells ++ vs) (n + k) ∧ τ.size ≤ τ'.size ∧ ∀ id, id < b → τ'.get id = τ.get id) := by
  obtain ⟨hc, h⟩ := h
  cases k with
  | zero =>
    have hv0 : vs = [] := List.eq_nil_of_length_eq_zero (by rw [hv]; simp)
    subst hv0
    rcases h with ⟨rfl, rfl⟩ | ⟨q, rfl, h0, hq, hg⟩
    · have e : appendA τ esz bytes (.one .nilSlice) 0 [] = some (.one .nilSlice, τ) := rfl
      rw [e, optP_some]
      exact ⟨⟨by simpa using hc, .inl ⟨rfl, rfl⟩⟩, Nat.le_refl _, fun _ _ => rfl⟩
    · have e : appendA τ esz bytes (.one (.slice q 0 esz n none)) 0 [] = some (.one (.slice q 0 esz n none), τ) := rfl
      rw [e, optP_some]
      exact ⟨⟨by simpa using hc, .inr ⟨q, rfl, h0, hq, by simpa using hg⟩⟩, Nat.le_refl _, fun _ _ => rfl⟩
  | succ k =>
    rcases h with ⟨rfl, rfl⟩ | ⟨q, rfl, h0, hq, hg⟩
    · have hc0 : cells = [] := by simpa using hc
      subst hc0
      have h1 : k + 1 ≤ maxElems := by omega
      have e : appendA τ esz bytes (.one .nilSlice) (k + 1) vs = some (.one (.slice τ.size 0 esz (k + 1) none), τ.alloc ⟨vs, .own⟩) := by
        simp [appendA, appendK, h1, hby]
      rw [e, optP_some]
      refine ⟨⟨by simpa using hv, .inr ⟨τ.size, by simp, by omega, hb, by simp⟩⟩, by rw [AHeap.size_alloc]; omega, fun id hid => by rw [AHeap.get_alloc, if_neg (by omega)]⟩
    · have hlt := AHeap.get_lt hg
      have hkp : 0 < (k + 1) * esz := Nat.mul_pos (by omega) he
      have h2 : ¬ ((n + (k + 1)) * esz ≤ cells.length) := by rw [hc, Nat.add_mul]; omega
      have hcl : n * esz = cells.length := hc.symm
      have e : appendA τ esz bytes (.one (.slice q 0 esz n none)) (k + 1) vs = some (.one (.slice τ.size 0 esz (n + (k + 1)) none), (τ.put q ⟨cells, .dead⟩).alloc ⟨cells ++ vs, .own⟩) := by
        simp [appendA, appendK, hn, hby, hg, h2, hcl]
      rw [e, optP_some]
      refine ⟨⟨by rw [List.length_append, hc, hv, ← Nat.add_mul], .inr ⟨τ.size, rfl, by omega, hb, by rw [AHeap.get_alloc, if_pos (by rw [AHeap.size_put])]⟩⟩, by rw [AHeap.size_alloc, AHeap.size_put]; omega, fun id hid => ?_⟩
      rw [AHeap.get_alloc, if_neg (by rw [AHeap.size_put]; omega), AHeap.get_put', if_neg (by omega)]

theorem OutSl.fr {b : Nat} {τ τ' : AHeap} {esz : Nat} {s : AV} {cells : List SV} {n id q : Nat} (h : OutSl b τ esz s cells n) (hF : Fr τ τ' id q) (h1 : id < b) (h2 : q < b) : OutSl b τ' esz s cells n :=
  h.stay (fun j k1 k2 => hF.2 j k2 (by omega) (by omega))
theorem OutSl.lower {b b' : Nat} {τ : AHeap} {esz : Nat} {s : AV} {cells : List SV} {n : Nat} (h : OutSl b τ esz s cells n) (hb : b' ≤ b) : OutSl b' τ esz s cells n := by
  obtain ⟨hc, h⟩ := h
  refine ⟨hc, ?_⟩
  rcases h with h | ⟨q, h1, h2, h3, h4⟩
  · exact .inl h
  · exact .inr ⟨q, h1, h2, by omega, h4⟩

theorem run33 (σ : AHeap) (id q : Nat) (L : List T) (seq now : Int) (h : Whl σ id L seq q) (hL : L.length ≤ maxElems) (f : Nat) (hf : L.length + 20 ≤ f) :
    OptP (evCall D3 f 33 [.one (.ptr id 0), .one (.int .i64 now)] σ) (fun _ v τ => OutSl σ.size τ 3 v (tcells (popsL now L).1) (popsL now L).1.length ∧ Whl τ id (popsL now L).2 seq q ∧ Fr σ τ id q) := by
  obtain ⟨f, rfl⟩ : ∃ k, f = k + 1 := ⟨f - 1, by omega⟩
  refine evCall_code (by kernel_rfl) ((D3_code 33).trans code33) ?_
  have hlt := h.lt
  simp (maxDischargeDepth := 99) [c33]
  refine ends_loop (I := fun k fr τ => ∃ out L', k = L'.length ∧ out.length + L'.length ≤ L.length ∧ fr.length = 21 ∧ getSlot fr 0 = .one (.ptr id 0) ∧ getSlot fr 1 = .one (.int .i64 now) ∧
      Whl τ id L' seq q ∧ OutSl σ.size τ 3 (getSlot fr 5) (tcells out) out.length ∧ Fr σ τ id q ∧ out ++ (popsL now L').1 = (popsL now L).1 ∧ (popsL now L').2 = (popsL now L).2) ?_ (k := L.length) ?_ (by omega)
  · rintro k fr τ ⟨out, L', rfl, hol, hlen, f0, f1, hW, hO, hF, he1, he2⟩
    by_cases hd : 0 < L'.length ∧ (tAt L' 0).at' ≤ now
    · have hyes := run23_yes τ id q L' seq now hW (by omega) f (by omega) hd.1 hd.2
      rw [pops_yes hd] at he1 he2
      simp (maxDischargeDepth := 99) [c33_0, hlen, f0, f1]
      refine hyes.mono ?_
      rintro v τ1 ⟨rfl, k1, k2⟩
      have hle := k2.1
      have hO1 : OutSl σ.size τ1 3 (getSlot fr 5) (tcells out) out.length := hO.fr k2 hlt.1 hlt.2
      have hF1 := hF.trans k2 (.inl rfl)
      obtain ⟨τ2, hτ2⟩ : ∃ τ2, τ2 = (τ1.alloc ⟨[.int .i64 0, .int .i64 0, .int .i64 0], .own⟩).put τ1.size ⟨[.int .i64 (tAt L' 0).at', .int .i64 (tAt L' 0).stmt, .int .i64 (tAt L' 0).seq], .own⟩ := ⟨_, rfl⟩
      have hg2 : τ2.get τ1.size = some ⟨[.int .i64 (tAt L' 0).at', .int .i64 (tAt L' 0).stmt, .int .i64 (tAt L' 0).seq], .own⟩ := by
        rw [hτ2, AHeap.get_put', if_pos ⟨rfl, by rw [AHeap.size_alloc]; omega⟩]
      have hk2 : Keeps τ1 τ2 := by rw [hτ2]; exact (Keeps.alloc (Keeps.refl _)).put (Nat.le_refl _)
      have hs2 : τ2.size = τ1.size + 1 := by rw [hτ2]; rfl
      have hle2 := hF1.1
      have app : OptP (appendA (τ2.alloc ⟨[.int .i64 (tAt L' 0).at', .int .i64 (tAt L' 0).stmt, .int .i64 (tAt L' 0).seq], .own⟩) 3 24 (getSlot fr 5) 1 [.int .i64 (tAt L' 0).at', .int .i64 (tAt L' 0).stmt, .int .i64 (tAt L' 0).seq]) (fun _ s' τ3 =>
          OutSl σ.size τ3 3 s' (tcells (out ++ [tAt L' 0])) (out.length + 1) ∧ τ2.size + 1 + 1 = τ3.size ∧ ∀ j, j < σ.size → τ3.get j = τ1.get j) := by
        have hO2 : OutSl σ.size (τ2.alloc ⟨[.int .i64 (tAt L' 0).at', .int .i64 (tAt L' 0).stmt, .int .i64 (tAt L' 0).seq], .own⟩) 3 (getSlot fr 5) (tcells out) out.length :=
          hO1.stay (fun j h1 h2 => by rw [AHeap.get_alloc, if_neg (by omega), hk2.2 j h2])
        refine (append_out (bytes := 24) (vs := [.int .i64 (tAt L' 0).at', .int .i64 (tAt L' 0).stmt, .int .i64 (tAt L' 0).seq]) hO2 (by rw [AHeap.size_alloc]; omega) (by omega) rfl (by omega) (by decide)).mono ?_
        rintro s' τ3 ⟨q1, q2, q3⟩
        rw [AHeap.size_alloc] at q2
        refine ⟨by simpa [tcells_append, tcells, T.cells] using q1, by omega, fun j hj => ?_⟩
        rw [q3 j hj, AHeap.get_alloc, if_neg (by omega), hk2.2 j (by omega)]
      simp (maxDischargeDepth := 99) [hlen, T.av, T.cells, ← hτ2, hg2, srcLen, srcCells]
      refine app.mono ?_
      rintro s' τ3 ⟨q1, q2, q3⟩
      have hW3 : Whl τ3 id (popL L') seq q := by
        obtain ⟨sl, m1, m2⟩ := k1
        refine ⟨sl, by rw [q3 id hlt.1, m1], ?_⟩
        rcases m2 with m2 | ⟨junk, m2, m3, m4⟩
        · exact .inl m2
        · exact .inr ⟨junk, m2, m3, by rw [q3 q hlt.2, m4]⟩
      have hF3 : Fr σ τ3 id q := ⟨by omega, fun j h1 h2 h3 => by rw [q3 j h1, hF1.2 j h1 h2 h3]⟩
      simp (maxDischargeDepth := 99) [hlen, f0, f1]
      refine ⟨(popL L').length, by rw [popL_length]; omega, out ++ [tAt L' 0], popL L', rfl, by rw [List.length_append, popL_length]; simp; omega, hW3, by simpa using q1, hF3, by rw [← he1]; simp, he2⟩
    · have hno : L' = [] ∨ (L' ≠ [] ∧ now < (tAt L' 0).at') := by
        cases L' with
        | nil => exact .inl rfl
        | cons t L' => exact .inr ⟨by simp, by simp at hd; simpa using hd⟩
      rw [pops_no hd] at he1 he2
      simp only [List.append_nil] at he1
      have hn := run23_no τ id q L' seq now hW f (by omega) hno
      simp (maxDischargeDepth := 99) [c33_0, hlen, f0, f1]
      refine hn.mono ?_
      rintro v τ1 ⟨rfl, hk⟩
      have hle := hF.1
      have hO1 : OutSl σ.size τ1 3 (getSlot fr 5) (tcells out) out.length := hO.stay (fun j _ h2 => hk.2 j h2)
      have hk2 : Keeps τ1 ((τ1.alloc ⟨[.int .i64 0, .int .i64 0, .int .i64 0], .own⟩).put τ1.size ⟨[.int .i64 0, .int .i64 0, .int .i64 0], .own⟩) := (Keeps.alloc (Keeps.refl _)).put (Nat.le_refl _)
      have hW2 := (hW.keeps hk).keeps hk2
      have hF2 : Fr σ ((τ1.alloc ⟨[.int .i64 0, .int .i64 0, .int .i64 0], .own⟩).put τ1.size ⟨[.int .i64 0, .int .i64 0, .int .i64 0], .own⟩) id q := (hF.trans (hk.fr id q) (.inl rfl)).trans (hk2.fr id q) (.inl rfl)
      have hO2 := hO1.stay (τ' := (τ1.alloc ⟨[.int .i64 0, .int .i64 0, .int .i64 0], .own⟩).put τ1.size ⟨[.int .i64 0, .int .i64 0, .int .i64 0], .own⟩) (fun j _ h2 => hk2.2 j h2)
      subst he1
      simp only [] at he2
      rw [← he2]
      simp (maxDischargeDepth := 99) [hlen, T.av, T.cells, t0]
      exact ⟨hO2, hW2, hF2⟩
  · exact ⟨[], L, rfl, by simp, by simp, by simp, by simp, h, by simpa [tcells] using OutSl.nil _ _ _, Fr.refl _ _ _, by simp, rfl⟩
end Go.Proofs.Ytdgffilnefnjjaa.Ab
