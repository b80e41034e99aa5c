/- Timers: two lists compared. -/
import Derived.Test.YtdgffilnefnjjaaTpSort2
namespace Go.Proofs.Ytdgffilnefnjjaa.Ab
open Go
set_option maxRecDepth 20000
set_option maxHeartbeats 4000000
set_option linter.unusedSimpArgs false

theorem tAt_ext {l m : List T} (hl : l.length = m.length) (h : ∀ i, i < l.length → tAt l i = tAt m i) : l = m := by
  apply List.ext_getElem hl
  intro i h1 h2
  have := h i h1
  simpa [tAt, List.getD, h1, h2] using this

def p49 : Prim := fun args σ => match args with
  | [s1, s2] => match slTs σ s1, slTs σ s2 with
    | some l1, some l2 => some (.one (.bool (decide (l1 = l2))), σ)
    | _, _ => none
  | _ => none
theorem len_ts {σ : AHeap} {s : AV} {l : List T} (h : slTs σ s = some l) : (s = .one .nilSlice ∧ l = []) ∨ ∃ id off cap, s = .one (.slice id off 3 l.length cap) ∧ (∀ i, i < l.length → rd (σ.get id) (some 3) (off + i * 3) = some (tAt l i).av) ∧ l.length ≤ maxElems := slTs_spec h

theorem run49 (σ : AHeap) (s1 s2 : AV) (l1 l2 : List T) (h1 : slTs σ s1 = some l1) (h2 : slTs σ s2 = some l2) :
    OptP (evCall D1 (l1.length + 5) 49 [s1, s2] σ) (fun _ v τ => v = .one (.bool (decide (l1 = l2))) ∧ Keeps σ τ) := by
  refine evCall_code (by kernel_rfl) code49 ?_
  have lens : ∀ (X : (Prop)), (∀ q1 q2, s1 = q1 → s2 = q2 → X) → X := fun X h => h _ _ rfl rfl
  by_cases hlen : l1.length = l2.length
  · by_cases h0 : l1.length = 0
    · have e1 : l1 = [] := List.length_eq_zero_iff.1 h0
      have e2 : l2 = [] := List.length_eq_zero_iff.1 (by omega)
      subst e1; subst e2
      have hz : ∀ (σ : AHeap) (s : AV), slTs σ s = some [] → s = .one .nilSlice ∨ ∃ id off cap, s = .one (.slice id off 3 0 cap) := by
        intro σ s h
        rcases slTs_spec h with ⟨rfl, _⟩ | ⟨id, off, cap, rfl, _, _⟩
        · exact .inl rfl
        · exact .inr ⟨id, off, cap, rfl⟩
      rcases hz σ s1 h1 with rfl | ⟨i1, o1, c1, rfl⟩ <;> rcases hz σ s2 h2 with rfl | ⟨i2, o2, c2, rfl⟩
      all_goals
        simp (maxDischargeDepth := 99) [c49]
        refine ends_loop (I := fun k fr τ => k = 0 ∧ τ = σ ∧ fr.length = 26 ∧ (getSlot fr 0 = .one .nilSlice ∨ ∃ id off cap, getSlot fr 0 = .one (.slice id off 3 0 cap)) ∧ getSlot fr 5 = .one (.int .i64 0)) ?_ (k := 0) ?_ (by omega)
        · rintro k fr τ ⟨rfl, rfl, hlen, h0 | ⟨id, off, cap, h0⟩, h5⟩
          · simp (maxDischargeDepth := 99) [c49_0, hlen, h0, h5]
          · simp (maxDischargeDepth := 99) [c49_0, hlen, h0, h5]
        · simp
    · rcases slTs_spec h1 with ⟨_, rfl⟩ | ⟨i1, o1, c1, rfl, r1, m1⟩
      · simp at h0
      rcases slTs_spec h2 with ⟨_, rfl⟩ | ⟨i2, o2, c2, rfl, r2, m2⟩
      · simp only [List.length_nil] at hlen; omega
      rw [← hlen]
      simp (maxDischargeDepth := 99) [c49]
      refine ends_loop (I := fun k fr τ => ∃ i, k = l1.length - i ∧ i ≤ l1.length ∧ τ = σ ∧ fr.length = 26 ∧ getSlot fr 0 = .one (.slice i1 o1 3 l1.length c1) ∧ getSlot fr 1 = .one (.slice i2 o2 3 l1.length c2) ∧
          getSlot fr 5 = .one (.int .i64 i) ∧ ∀ j, j < i → tAt l1 j = tAt l2 j) ?_ (k := l1.length) ?_ (by omega)
      · rintro k fr τ ⟨i, rfl, hi, rfl, hfl, f0, f1, f5, hall⟩
        by_cases hlt : i < l1.length
        · have hrd1 := r1 i hlt
          have hrd2 := r2 i (by omega)
          have hw := wr_next hlt m1
          have hnext : tAt l1 i = tAt l2 i → ∀ j, j < i + 1 → tAt l1 j = tAt l2 j := by
            intro h j hj
            by_cases e : j = i
            · subst e; exact h
            · exact hall j (by omega)
          have hne : tAt l1 i ≠ tAt l2 i → decide (l1 = l2) = false := by
            intro h
            simp only [decide_eq_false_iff_not]
            intro e
            exact h (by rw [e])
          generalize tAt l1 i = t at hrd1 hnext hne
          generalize tAt l2 i = u at hrd2 hnext hne
          obtain ⟨ta, tb, tc⟩ := t
          obtain ⟨ua, ub, uc⟩ := u
          by_cases ha : ta = ua
          · by_cases hb : tb = ub
            · by_cases hc : tc = uc
              · simp (maxDischargeDepth := 99) [c49_0, hfl, f0, f1, f5, hlt, hrd1, hrd2, T.av, T.cells, ha, hb, hc, hw]
                exact ⟨l1.length - (i + 1), by omega, i + 1, rfl, by omega, by simp, hnext (by rw [ha, hb, hc])⟩
              · have hn := hne (by simp [hc])
                simp (maxDischargeDepth := 99) [c49_0, hfl, f0, f1, f5, hlt, hrd1, hrd2, T.av, T.cells, ha, hb, hc, hn]
                done
            · have hn := hne (by simp [hb])
              simp (maxDischargeDepth := 99) [c49_0, hfl, f0, f1, f5, hlt, hrd1, hrd2, T.av, T.cells, ha, hb, hn]
              done
          · have hn := hne (by simp [ha])
            simp (maxDischargeDepth := 99) [c49_0, hfl, f0, f1, f5, hlt, hrd1, hrd2, T.av, T.cells, ha, hn]
            done
        · simp (maxDischargeDepth := 99) [c49_0, hfl, f0, f1, f5, hlt]
          exact tAt_ext hlen (fun j hj => hall j (by omega))
      · exact ⟨0, by omega, by omega, rfl, by simp, by simp, by simp, by simp, fun j hj => absurd hj (Nat.not_lt_zero _)⟩
  · have hne : decide (l1 = l2) = false := by
      simp only [decide_eq_false_iff_not]
      intro e
      exact hlen (by rw [e])
    rcases slTs_spec h1 with ⟨rfl, rfl⟩ | ⟨i1, o1, c1, rfl, r1, m1⟩ <;> rcases slTs_spec h2 with ⟨rfl, rfl⟩ | ⟨i2, o2, c2, rfl, r2, m2⟩
    · simp at hlen
    · have hl2 : ¬ (0 : Int) = (l2.length : Int) := by simp only [List.length_nil] at hlen; omega
      have hl3 : ¬ l2 = [] := by intro e; subst e; exact hlen rfl
      simp (maxDischargeDepth := 99) [c49, hne, hl2, hl3]
    · have hl2 : ¬ (l1.length : Int) = 0 := by simp only [List.length_nil] at hlen; omega
      have hl3 : ¬ l1 = [] := by intro e; subst e; exact hlen rfl
      simp (maxDischargeDepth := 99) [c49, hne, hl2, hl3]
    · have hl2 : ¬ (l1.length : Int) = (l2.length : Int) := by omega
      have hl3 : ¬ l1 = l2 := by intro e; subst e; exact hlen rfl
      simp (maxDischargeDepth := 99) [c49, hlen, hne, hl2, hl3]
theorem ok49 : PrimOk Try.prog 49 p49 := primOk_pure D1_good fun args σ v σ' h => by
  unfold p49 at h
  split at h
  · rename_i s1 s2
    split at h
    · rename_i l1 l2 h1 h2
      cases h
      exact ⟨rfl, rfl, _, run49 σ s1 s2 l1 l2 h1 h2⟩
    · cases h
  · cases h
noncomputable def D2 : Ctx := D1.lay 49 p49
theorem D2_good : D2.Good Try.prog := Ctx.lay_good D1_good ok49
theorem D2_49 (n : Nat) (args : List AV) (σ : AHeap) : evCall D2 (n + 1) 49 args σ = p49 args σ := evCall_prim (by kernel_rfl) _ _ _
theorem ok29 : PrimOk Try.prog 29 p49 := primOk_pure D2_good fun args σ v σ' h => by
  have h0 := h
  unfold p49 at h
  split at h
  · rename_i s1 s2
    split at h
    · cases h
      refine ⟨rfl, rfl, 4, evCall_code (by kernel_rfl) code29 ?_⟩
      simp (maxDischargeDepth := 99) [c29, D2_49, h0]
    · cases h
  · cases h
theorem rdt_lt {σ : AHeap} {id off : Nat} {agg : Option Nat} {a : AV} (h : rd (σ.get id) agg off = some a) : id < σ.size := by
  cases hg : σ.get id with
  | none => rw [hg] at h; cases h
  | some o => exact AHeap.get_lt hg
/-! ### the reference's less; the closures of Cancel and Drop -/
theorem ok43 : PrimOk Try.prog 43 p41 := primOk_pure plainC_good fun args σ v σ' h => by
  unfold p41 at h
  split at h
  · rename_i a b c d e f
    cases h
    refine ⟨rfl, rfl, 4, evCall_code (by kernel_rfl) code43 ?_⟩
    unfold lessT
    by_cases h1 : a = d
    · by_cases h2 : b = e
      · simp (maxDischargeDepth := 99) [c43, h1, h2]
      · simp (maxDischargeDepth := 99) [c43, h1, h2]
    · simp (maxDischargeDepth := 99) [c43, h1]
  · cases h
def pPred (g : T → Int) : Prim := fun args σ => match args with
  | [.agg [.int .i64 a, .int .i64 b, .int .i64 c], .one (.ptr q o)] => match rd (σ.get q) none o with
    | some (.one (.int .i64 x)) => some (.one (.bool (decide (g ⟨a, b, c⟩ = x))), σ)
    | _ => none
  | _ => none
theorem ok45 : PrimOk Try.prog 45 (pPred T.seq) := primOk_pure plainC_good fun args σ v σ' h => by
  unfold pPred at h
  split at h
  · rename_i a b c q o
    split at h
    · rename_i x hx
      cases h
      refine ⟨rfl, rfl, 4, evCall_code (by kernel_rfl) code45 ?_⟩
      have hq : ¬ q = σ.size := by have := rdt_lt hx; omega
      simp (maxDischargeDepth := 99) [c45, hq, hx]
    · cases h
  · cases h
theorem ok48 : PrimOk Try.prog 48 (pPred T.stmt) := primOk_pure plainC_good fun args σ v σ' h => by
  unfold pPred at h
  split at h
  · rename_i a b c q o
    split at h
    · rename_i x hx
      cases h
      refine ⟨rfl, rfl, 4, evCall_code (by kernel_rfl) code48 ?_⟩
      have hq : ¬ q = σ.size := by have := rdt_lt hx; omega
      simp (maxDischargeDepth := 99) [c48, hq, hx]
    · cases h
  · cases h
noncomputable def D3 : Ctx := ((((D2.lay 29 p49).lay 43 p41).lay 45 (pPred T.seq)).lay 48 (pPred T.stmt)).lay 51 p51
theorem D3_good : D3.Good Try.prog := Ctx.lay_good (Ctx.lay_good (Ctx.lay_good (Ctx.lay_good (Ctx.lay_good D2_good ok29) ok43) ok45) ok48) ok51
theorem D3_43 (n : Nat) (args : List AV) (σ : AHeap) : evCall D3 (n + 1) 43 args σ = p41 args σ := evCall_prim (by kernel_rfl) _ _ _
theorem D3_45 (n : Nat) (args : List AV) (σ : AHeap) : evCall D3 (n + 1) 45 args σ = pPred T.seq args σ := evCall_prim (by kernel_rfl) _ _ _
theorem D3_48 (n : Nat) (args : List AV) (σ : AHeap) : evCall D3 (n + 1) 48 args σ = pPred T.stmt args σ := evCall_prim (by kernel_rfl) _ _ _
theorem D3_51 (n : Nat) (args : List AV) (σ : AHeap) : evCall D3 (n + 1) 51 args σ = p51 args σ := evCall_prim (by kernel_rfl) _ _ _
theorem D3_code (f : Nat) : D3.code f = codeOf f := by kernel_rfl
theorem D3_29 (n : Nat) (args : List AV) (σ : AHeap) : evCall D3 (n + 1) 29 args σ = p49 args σ := evCall_prim (by kernel_rfl) _ _ _
theorem D3_41 (n : Nat) (args : List AV) (σ : AHeap) : evCall D3 (n + 1) 41 args σ = p41 args σ := evCall_prim (by kernel_rfl) _ _ _
theorem D3_32 (n : Nat) (args : List AV) (σ : AHeap) : evCall D3 (n + 1) 32 args σ = pBool true args σ := evCall_prim (by kernel_rfl) _ _ _
end Go.Proofs.Ytdgffilnefnjjaa.Ab
