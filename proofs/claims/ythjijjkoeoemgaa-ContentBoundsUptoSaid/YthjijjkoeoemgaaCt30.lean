/- Arrivals with the same keys hold the same; what fits. -/
import Derived.Test.YthjijjkoeoemgaaCt28
import Derived.Test.YthjijjkoeoemgaaCtFit
namespace Go.Proofs.Ythjijjkoeoemgaa.Ab
open Go
set_option maxRecDepth 20000
set_option maxHeartbeats 4000000
set_option linter.unusedSimpArgs false
set_option linter.unusedVariables false

/-- An arrival without the place of its row. -/
def nr (a : Arr) : Arr := ⟨a.seq, a.time, .nilSlice, a.vals⟩
theorem er_keys {l m : List Arr} (h : l.map Arr.key = m.map Arr.key) : l.map nr = m.map nr := by
  have e : ∀ l : List Arr, l.map nr = (l.map Arr.key).map (fun k => (⟨k.1, k.2.1, .nilSlice, k.2.2⟩ : Arr)) := fun l => by rw [List.map_map]; rfl
  rw [e l, e m, h]
theorem key_nr {l m : List Arr} (h : l.map nr = m.map nr) : l.map Arr.key = m.map Arr.key := by
  have e : ∀ l : List Arr, l.map Arr.key = (l.map nr).map Arr.key := fun l => by rw [List.map_map]; rfl
  rw [e l, e m, h]
theorem rAt_nr (l : List Arr) (i : Nat) : rAt (l.map nr) i = nr (rAt l i) := by
  unfold rAt List.getD
  rw [List.getElem?_map]
  cases l[i]? <;> rfl
theorem t0_nr (l : List Arr) : t0 (l.map nr) = t0 l := by unfold t0; rw [rAt_nr]; rfl
theorem wid_nr (l : List Arr) : wid (l.map nr) = wid l := by unfold wid; rw [rAt_nr]; rfl
theorem bNo_nr (l : List Arr) (now n : Int) : bNo (l.map nr) now n = bNo l now n := by unfold bNo; rw [t0_nr]
theorem okL_nr (v : VS) (l : List Arr) : okL v (l.map nr) = okL v l := by unfold okL; rw [wid_nr]
theorem hasA_nr (l : List Arr) (q : Int) : hasA (l.map nr) q = hasA l q := by
  unfold hasA
  rw [List.any_map]
  rfl
theorem ltB_nr (v : VS) (a b : Arr) : ltB v (nr a) (nr b) = ltB v a b := rfl
theorem cntB_nr (v : VS) (l : List Arr) (a : Arr) : cntB v (l.map nr) (nr a) = cntB v l a := by
  unfold cntB
  rw [List.filter_map, List.length_map]
  rfl
theorem uniqP_nr (v : VS) (l : List Arr) (i : Nat) (a : Arr) : uniqP v (l.map nr) i (nr a) = uniqP v l i a := by
  unfold uniqP
  rw [← List.map_drop, List.any_map]
  rfl
theorem holdsP_nr (v : VS) (l : List Arr) (now : Int) (i : Nat) (a : Arr) : holdsP v (l.map nr) now i (nr a) = holdsP v l now i a := by
  unfold holdsP
  rw [List.length_map, bNo_nr, t0_nr, uniqP_nr, cntB_nr]
  rfl
theorem fIdx_nr (p : Nat → Arr → Bool) : ∀ (l : List Arr) (j : Nat), fIdx p j (l.map nr) = (fIdx (fun i a => p i (nr a)) j l).map nr
  | [], _ => rfl
  | a :: l, j => by
    rw [List.map_cons]
    unfold fIdx
    rw [fIdx_nr p l (j + 1)]
    split <;> rfl
theorem heldF_nr (v : VS) (l : List Arr) (now : Int) : heldF v (l.map nr) now = (heldF v l now).map nr := by
  unfold heldF
  by_cases h : 0 < l.length ∧ okL v l
  · rw [if_pos h, if_pos (by rw [List.length_map, okL_nr]; exact h), fIdx_nr]
    congr 2
    funext i a
    exact holdsP_nr v l now i a
  · rw [if_neg h, if_neg (by rw [List.length_map, okL_nr]; exact h)]
    rfl
theorem filter_nr (p : Arr → Bool) (h : ∀ a, p (nr a) = p a) (l : List Arr) : (l.map nr).filter p = (l.filter p).map nr := by
  rw [List.filter_map]
  congr 2
  funext a
  exact h a
theorem ofF_nr (l : List Arr) (now : Int) : ∀ (vs : List VS) (out : List Arr), ofF (l.map nr) now vs (out.map nr) = (ofF l now vs out).map nr
  | [], _ => rfl
  | v :: vs, out => by
    unfold ofF
    rw [heldF_nr]
    have e : (fun a : Arr => hasA ((heldF v l now).map nr) a.seq) = fun a => hasA (heldF v l now) a.seq := by funext a; exact hasA_nr _ _
    rw [e, filter_nr _ (fun _ => rfl), ofF_nr l now vs]
theorem ofL_nr (vs : List VS) (l : List Arr) (now : Int) : ofL vs (l.map nr) now = (ofL vs l now).map nr := by
  cases vs with
  | nil => rfl
  | cons v vs =>
    show ofF _ _ _ (heldF v (l.map nr) now) = (ofF _ _ _ _).map nr
    rw [heldF_nr, ofF_nr]
theorem heldF_keys {l m : List Arr} (h : l.map Arr.key = m.map Arr.key) (v : VS) (now : Int) : (heldF v l now).map Arr.key = (heldF v m now).map Arr.key :=
  key_nr (by rw [← heldF_nr, ← heldF_nr, er_keys h])
theorem ofL_keys {l m : List Arr} (h : l.map Arr.key = m.map Arr.key) (vs : List VS) (now : Int) : (ofL vs l now).map Arr.key = (ofL vs m now).map Arr.key :=
  key_nr (by rw [← ofL_nr, ← ofL_nr, er_keys h])
theorem TimesOk.nr {l : List Arr} {now : Int} : TimesOk (l.map nr) now ↔ TimesOk l now := by
  constructor
  · intro h
    exact ⟨fun a ha => h.lo (Ab.nr a) (List.mem_map_of_mem ha), fun a ha => h.hi (Ab.nr a) (List.mem_map_of_mem ha), h.up, (List.pairwise_map (R := fun a b : Arr => a.time ≤ b.time) (f := Ab.nr)).1 h.mono, (List.pairwise_map (R := fun a b : Arr => a.seq < b.seq) (f := Ab.nr)).1 h.seqs, fun a ha => h.vals (Ab.nr a) (List.mem_map_of_mem ha), by simpa using h.len⟩
  · intro h
    refine ⟨fun a ha => ?_, fun a ha => ?_, h.up, List.pairwise_map.2 h.mono, List.pairwise_map.2 h.seqs, fun a ha => ?_, by simpa using h.len⟩
    all_goals obtain ⟨b, hb, rfl⟩ := List.mem_map.1 ha
    · exact h.lo b hb
    · exact h.hi b hb
    · exact h.vals b hb
theorem LOk.nr {l : List Arr} {now : Int} : LOk (l.map nr) now ↔ LOk l now := by
  constructor
  · intro h
    exact ⟨TimesOk.nr.1 h.t, h.n0, fun a ha => h.q (Ab.nr a) (List.mem_map_of_mem ha), fun a ha => h.vin (Ab.nr a) (List.mem_map_of_mem ha)⟩
  · intro h
    refine ⟨TimesOk.nr.2 h.t, h.n0, fun a ha => ?_, fun a ha => ?_⟩
    all_goals obtain ⟨b, hb, rfl⟩ := List.mem_map.1 ha
    · exact h.q b hb
    · exact h.vin b hb
theorem LOk.keys {l m : List Arr} {now : Int} (h : l.map Arr.key = m.map Arr.key) (hl : LOk m now) : LOk l now :=
  LOk.nr.1 (by rw [er_keys h]; exact LOk.nr.2 hl)

theorem sameA_keys' {l m : List Arr} (h : l.map Arr.key = m.map Arr.key) : sameA l m = true := by
  unfold sameA
  exact decide_eq_true h
theorem keys_vals' {l m : List Arr} {K : Nat} (h : l.map Arr.key = m.map Arr.key) (hm : ∀ a ∈ m, a.vals.length ≤ K) : ∀ a ∈ l, a.vals.length ≤ K := fun a ha => by
  obtain ⟨b, hb, e⟩ := keys_mem h ha
  have : b.vals = a.vals := by
    unfold Arr.key at e
    simp only [Prod.mk.injEq] at e
    exact e.2.2
  rw [← this]
  exact hm b hb
theorem ofF_sub (l : List Arr) (now : Int) : ∀ (vs : List VS) (out : List Arr), List.Sublist (ofF l now vs out) out
  | [], out => List.Sublist.refl _
  | v :: vs, out => by
    unfold ofF
    exact (ofF_sub l now vs _).trans List.filter_sublist
theorem heldF_sublist (v : VS) (l : List Arr) (now : Int) : List.Sublist (heldF v l now) l := by
  unfold heldF
  split
  · exact fIdx_sublist _ l 0
  · exact List.nil_sublist _
theorem ofL_sub (vs : List VS) (l : List Arr) (now : Int) : List.Sublist (ofL vs l now) l := by
  cases vs with
  | nil => exact List.nil_sublist _
  | cons v vs => exact (ofF_sub l now vs _).trans (heldF_sublist v l now)

/-! ### what fits -/
theorem fitGo_q : ∀ (l : List Arr) (q t : Int) (out : List Arr), 0 ≤ q → (∀ a ∈ out, 0 ≤ a.seq ∧ a.seq ≤ 1073741824) → ∀ a ∈ (fitGo q t out l).1, 0 ≤ a.seq ∧ a.seq ≤ 1073741824
  | [], q, t, out, _, h => h
  | a :: l, q, t, out, hq, h => by
    unfold fitGo
    split
    · exact fitGo_q l q t out hq h
    · rename_i hb
      obtain ⟨k1, k2, k3, k4, k5⟩ := badA_all hb
      refine fitGo_q l _ _ _ (by omega) (fun x hx => ?_)
      rcases List.mem_append.1 hx with hx | hx
      · exact h x hx
      · simp only [List.mem_singleton] at hx
        subst hx
        exact ⟨by omega, k5⟩
theorem vin_of {l : List V} (h : (l.all fun v => inI v.n) = true) : VIn l := fun v hv => by
  have := List.all_eq_true.1 h v hv
  unfold inI at this
  simp only [Bool.and_eq_true, decide_eq_true_eq] at this
  exact this
theorem fitL_ok2 {l : List Arr} (hv : ∀ a ∈ l, VIn a.vals) (now : Int) : LOk (fitL l).1 (nowL l now) :=
  ⟨(fitL_times l now).1, (fitL_times l now).2, fitGo_q _ _ _ _ (by omega) (fun a ha => by cases ha), fun a ha => hv a (fitL_mem ha)⟩
end Go.Proofs.Ythjijjkoeoemgaa.Ab
