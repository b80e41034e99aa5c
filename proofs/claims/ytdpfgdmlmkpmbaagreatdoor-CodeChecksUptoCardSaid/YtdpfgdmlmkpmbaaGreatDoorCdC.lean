/- Several of my texts in one: Cd11, Cd12, Cd13, Cd14. -/
import Derived.Test.YtdpfgdmlmkpmbaaGreatDoorCd10
import Derived.Test.YtdpfgdmlmkpmbaaGreatDoorLitCd
/- The document's asks, in, may; and that its heights are the program's. -/
namespace Go.Proofs.YtdpfgdmlmkpmbaaGreatDoor.Ab
open Go
set_option maxRecDepth 20000
set_option maxHeartbeats 8000000
set_option linter.unusedSimpArgs false

def asksF (o : Ins) : Int × Int :=
  if o.kind = 1 ∨ o.kind = 2 ∨ o.kind = 9 then (0, 1)
  else if o.kind = 3 ∨ o.kind = 5 ∨ o.kind = 10 then (1, 1)
  else if o.kind = 4 then (2, 1)
  else if o.kind = 6 then (o.n, 1)
  else if o.kind = 8 then (1, 0)
  else (0, 0)
theorem eq_asks (σ : AHeap) (o : Ins) : lim TyD 58 [.agg o.cells] σ = some (.tup [.one (.int .i64 (asksF o).1), .one (.int .i64 (asksF o).2)], σ) := by
  refine lim_rd (args' := [.agg o.cells]) (ids := []) (TyD_prim rfl) ((TyD_code _).trans codeRAsks) rfl (by simp [Ins.frz]) ?_ rfl
  unfold BodyP asksF Ins.cells
  obtain ⟨k, n, s, a, b, c⟩ := o
  by_cases h1 : k = 1
  · simp (maxDischargeDepth := 99) [cRAsks, h1]
  by_cases h2 : k = 2
  · simp (maxDischargeDepth := 99) [cRAsks, h2]
  by_cases h9 : k = 9
  · simp (maxDischargeDepth := 99) [cRAsks, h9]
  by_cases h3 : k = 3
  · simp (maxDischargeDepth := 99) [cRAsks, h3]
  by_cases h5 : k = 5
  · simp (maxDischargeDepth := 99) [cRAsks, h5]
  by_cases h10 : k = 10
  · simp (maxDischargeDepth := 99) [cRAsks, h10]
  by_cases h4 : k = 4
  · simp (maxDischargeDepth := 99) [cRAsks, h4]
  by_cases h6 : k = 6
  · simp (maxDischargeDepth := 99) [cRAsks, h6]
  by_cases h8 : k = 8
  · simp (maxDischargeDepth := 99) [cRAsks, h8]
  · simp (maxDischargeDepth := 99) [cRAsks, h1, h2, h9, h3, h5, h10, h4, h6, h8]

/-- A slice of strings of one's own, handed over. -/
theorem frz_strs {σ : AHeap} {id n : Nat} {cap : Option Nat} {l : List (List UInt8)} (h : σ.get id = some ⟨l.map SV.str, .own⟩) (hn : n = l.length) :
    frzD frzDepth σ (.slice id 0 1 n cap) = some (.lst (l.map fun x => [.str x]), [id]) := by
  subst hn
  have he : frzEW (frzD 8 σ) (l.map fun x => [SV.str x]) = some (l.map fun x => [SV.str x], []) := frzEW_id _ (fun e he => by
    obtain ⟨x, _, rfl⟩ := List.mem_map.1 he
    rfl)
  exact frzD_slice (f := 8) (off := 0) (esz := 1) h (by simp) (by rw [List.drop_zero, strs_chunks]; exact he)
theorem eq_in (σ : AHeap) (x : List UInt8) (s : SV) (l : List (List UInt8)) (ids : List Nat) (hs : frzD frzDepth σ s = some (.lst (l.map fun x => [.str x]), ids)) (hm : l.length ≤ maxElems) :
    lim TyD 99 [.one (.str x), .one s] σ = some (.one (.bool (decide (x ∈ l))), σ) := by
  refine lim_rd (args' := [.one (.str x), .one (.lst (l.map fun x => [.str x]))]) (ids := ids ++ []) (TyD_prim rfl) ((TyD_code _).trans codeRIn) rfl (by simp [hs]) ?_ rfl
  unfold BodyP
  simp (maxDischargeDepth := 99) [cRIn]
  refine endsi_range l.length (fun i fr τ => fr.length = 18 ∧ getSlot fr 0 = .one (.str x) ∧ getSlot fr 1 = .one (.lst (l.map fun x => [.str x])) ∧ getSlot fr 5 = .one (.int .i64 i) ∧ decide (x ∈ l) = decide (x ∈ l.drop i)) ?_ ?_ ?_
  · simp
  · rintro i fr τ hlt ⟨hlen, f0, f1, f5, hall⟩
    have hw := wr_next hlt hm
    rw [List.drop_eq_getElem_cons hlt] at hall
    by_cases hb : l[i] = x
    · have hmem : x ∈ l := by rw [← hb]; exact List.getElem_mem hlt
      simp (maxDischargeDepth := 99) [cRIn_0, hlen, f0, f1, f5, hlt, sbin, beqL_iff, hb, hw, hmem]
    · have hb' : ¬ x = l[i] := fun e => hb e.symm
      simp only [List.mem_cons, hb', false_or] at hall
      simp (maxDischargeDepth := 99) [cRIn_0, hlen, f0, f1, f5, hlt, sbin, beqL_iff, hb, hw, hall]
  · rintro fr τ ⟨hlen, f0, f1, f5, hall⟩
    rw [List.drop_length] at hall
    simp at hall
    simp (maxDischargeDepth := 99) [cRIn_0, hlen, f1, f5, hall]

def mayR (o : Ins) (i n f a : Int) : Bool :=
  if o.kind = 1 ∨ o.kind = 10 then true
  else if o.kind = 2 then decide (0 ≤ o.n) && decide (o.n < f)
  else if o.kind = 9 then decide (0 ≤ o.n) && decide (o.n < a)
  else if o.kind = 3 then decide (o.text ∈ [bytes [45], bytes [110, 111, 116]])
  else if o.kind = 4 then opB o.text
  else if o.kind = 5 then decide (o.n = 0) || decide (o.n = 1)
  else if o.kind = 6 then decide (0 ≤ o.n) && decide (o.n ≤ 1024)
  else if o.kind = 7 ∨ o.kind = 8 then decide (i < o.n) && decide (o.n ≤ n)
  else false
theorem eq_mayR (σ : AHeap) (o : Ins) (i n f a : Int) : lim TyD 59 [.agg o.cells, .one (.int .i64 i), .one (.int .i64 n), .one (.int .i64 f), .one (.int .i64 a)] σ = some (.one (.bool (mayR o i n f a)), σ) := by
  refine lim_rd (args' := [.agg o.cells, .one (.int .i64 i), .one (.int .i64 n), .one (.int .i64 f), .one (.int .i64 a)]) (ids := []) (TyD_prim rfl) ((TyD_code _).trans codeRMay) rfl (by simp [Ins.frz]) ?_ rfl
  unfold BodyP mayR Ins.cells
  obtain ⟨k, m, s, x, y, z⟩ := o
  by_cases h1 : k = 1
  · simp (maxDischargeDepth := 99) [cRMay, h1]
  by_cases h10 : k = 10
  · simp (maxDischargeDepth := 99) [cRMay, h10]
  by_cases h2 : k = 2
  · by_cases q : 0 ≤ m
    · simp (maxDischargeDepth := 99) [cRMay, h2, q]
    · simp (maxDischargeDepth := 99) [cRMay, h2, q]
  by_cases h9 : k = 9
  · by_cases q : 0 ≤ m
    · simp (maxDischargeDepth := 99) [cRMay, h9, q]
    · simp (maxDischargeDepth := 99) [cRMay, h9, q]
  by_cases h3 : k = 3
  · have hin : ∀ σ id, σ.get id = some ⟨[.str (bytes [45]), .str (bytes [110, 111, 116])], .own⟩ → lim TyD 99 [.one (.str s), .one (.slice id 0 1 2 (some 2))] σ = some (.one (.bool (decide (s ∈ [bytes [45], bytes [110, 111, 116]]))), σ) :=
      fun σ id h => eq_in σ s _ [bytes [45], bytes [110, 111, 116]] [id] (frz_strs (l := [bytes [45], bytes [110, 111, 116]]) h rfl) (by decide)
    generalize decide (s ∈ [bytes [45], bytes [110, 111, 116]]) = r at hin ⊢
    simp (maxDischargeDepth := 99) [cRMay, h3, hin, repeatCells]
  by_cases h4 : k = 4
  · have hin : ∀ σ id, σ.get id = some ⟨opNames.map SV.str, .own⟩ → lim TyD 99 [.one (.str s), .one (.slice id 0 1 13 (some 13))] σ = some (.one (.bool (opB s)), σ) :=
      fun σ id h => eq_in σ s _ opNames [id] (frz_strs h rfl) (by decide)
    simp only [opNames, List.map_cons, List.map_nil] at hin
    simp (maxDischargeDepth := 99) [cRMay, h4, hin, repeatCells]
  by_cases h5 : k = 5
  · by_cases q : m = 0
    · simp (maxDischargeDepth := 99) [cRMay, h5, q]
    · simp (maxDischargeDepth := 99) [cRMay, h5, q]
  by_cases h6 : k = 6
  · by_cases q : 0 ≤ m
    · simp (maxDischargeDepth := 99) [cRMay, h6, q]
    · simp (maxDischargeDepth := 99) [cRMay, h6, q]
  by_cases h7 : k = 7
  · by_cases q : i < m
    · simp (maxDischargeDepth := 99) [cRMay, h7, q]
    · simp (maxDischargeDepth := 99) [cRMay, h7, q]
  by_cases h8 : k = 8
  · by_cases q : i < m
    · simp (maxDischargeDepth := 99) [cRMay, h8, q]
    · simp (maxDischargeDepth := 99) [cRMay, h8, q]
  · simp (maxDischargeDepth := 99) [cRMay, h1, h2, h9, h3, h5, h10, h4, h6, h7, h8]

/-! ### the same heights -/
theorem may_over {o : Ins} {i n f a : Int} (hf : f ≤ 9223372036854775807) (ha : a ≤ 9223372036854775807) : mayR o i n f a = (mayB o i n && !overB o f a) := by
  unfold mayR mayB overB
  by_cases h1 : o.kind = 1
  · simp [h1]
  by_cases h10 : o.kind = 10
  · simp [h10]
  by_cases h2 : o.kind = 2
  · simp [h2]
    rw [Bool.eq_iff_iff]
    simp
    omega
  by_cases h9 : o.kind = 9
  · simp [h9]
    rw [Bool.eq_iff_iff]
    simp
    omega
  by_cases h3 : o.kind = 3
  · simp [h3]
  by_cases h4 : o.kind = 4
  · simp [h4]
  by_cases h5 : o.kind = 5
  · simp [h5]
  by_cases h6 : o.kind = 6
  · simp [h6]
  by_cases h7 : o.kind = 7
  · simp [h7]
  by_cases h8 : o.kind = 8
  · simp [h8]
  · simp [h1, h2, h9, h3, h5, h10, h4, h6, h7, h8]
theorem asks_need {o : Ins} {i n : Int} (h : mayB o i n = true) : (needF o).1 = (asksF o).1 ∧ (needF o).2 = (asksF o).2 - (asksF o).1 := by
  unfold needF asksF
  by_cases h1 : o.kind = 1 ∨ o.kind = 2 ∨ o.kind = 9
  · simp [h1]
  by_cases h2 : o.kind = 3 ∨ o.kind = 5 ∨ o.kind = 10
  · simp [h1, h2]
  by_cases h3 : o.kind = 4
  · simp [h3]
  by_cases h4 : o.kind = 6
  · have : 0 ≤ o.n ∧ o.n ≤ 1024 := by
      unfold mayB at h
      simp [h4] at h
      exact h
    rw [if_neg h1, if_neg h2, if_neg h3, if_pos h4, if_neg h1, if_neg h2, if_neg h3, if_pos h4]
    simp only
    rw [wr64 (by omega) (by omega)]
    simp
  by_cases h5 : o.kind = 8
  · simp [h5]
  · simp [h1, h2, h3, h4, h5]

/-- A height comes to a place, as the document has it. -/
def comeR (tall : List Int) (at_ : Nat) (h : Int) : Option (List Int) := if 0 ≤ tall.getD at_ 0 ∧ tall.getD at_ 0 ≠ h then none else some (tall.set at_ h)
theorem set_same {l : List Int} {i : Nat} (hi : i < l.length) : l.set i (l.getD i 0) = l := by
  apply List.ext_getElem?
  intro j
  rw [List.getElem?_set]
  by_cases h : i = j
  · subst h; simp [List.getD, hi]
  · simp [h]
theorem comeR_eq {tall : List Int} {a : Nat} (ha : a < tall.length) (h : Int) : comeR tall a h = comeH tall a h := by
  unfold comeR comeH
  by_cases h1 : tall.getD a 0 < 0
  · rw [if_neg (by omega), if_pos h1]
  · rw [if_neg h1]
    by_cases h2 : tall.getD a 0 = h
    · rw [if_neg (by omega), if_pos h2, ← h2, set_same ha]
    · rw [if_pos ⟨by omega, h2⟩, if_neg h2]
def comesR (h : Int) : List Nat → List Int → Option (List Int)
  | [], t => some t
  | a :: l, t => match comeR t a h with
    | none => none
    | some t' => comesR h l t'
def nextL (i : Nat) (o : Ins) : List Nat := (if o.kind = 7 then [] else [i + 1]) ++ (if o.kind = 7 ∨ o.kind = 8 then [o.n.toNat] else [])
def stepR (n i : Nat) (f a : Int) (o : Ins) (tall : List Int) : Option (List Int × Int) :=
  if mayR o i n f a = false then none
  else if tall.getD i 0 < (asksF o).1 then none
  else if 1024 < tall.getD i 0 - (asksF o).1 + (asksF o).2 then none
  else match comesR (tall.getD i 0 - (asksF o).1 + (asksF o).2) (nextL i o) tall with
    | none => none
    | some t => some (t, tall.getD i 0 - (asksF o).1 + (asksF o).2)
def goR (n : Nat) (f a : Int) : List Ins → Nat → List Int → Int → Option (List Int × Int)
  | [], _, tall, most => some (tall, most)
  | o :: l, i, tall, most => match stepR n i f a o tall with
    | none => none
    | some (t, h) => goR n f a l (i + 1) t (max most h)

theorem comeH_len {l l' : List Int} {a : Nat} {h : Int} (hc : comeH l a h = some l') : l'.length = l.length := by
  unfold comeH at hc
  split at hc
  · cases hc; simp
  · split at hc
    · cases hc; rfl
    · cases hc
/-- Two places, one behind the other, in either order. -/
theorem comeH_swap {t : List Int} {a b : Nat} {h : Int} (ha : a < t.length) (hb : b < t.length) (h0 : 0 ≤ h) :
    (match comeH t a h with | none => none | some t1 => comeH t1 b h) = (match comeH t b h with | none => none | some t1 => comeH t1 a h) := by
  by_cases hab : a = b
  · subst hab; rfl
  have key : ∀ {t : List Int} {a b : Nat}, a < t.length → a ≠ b → (t.set a h).getD b 0 = t.getD b 0 := by
    intro t a b ha hab
    simp [List.getD, List.getElem?_set, hab]
  have hba : b ≠ a := fun e => hab e.symm
  have hneg : ¬ h < 0 := by omega
  unfold comeH
  by_cases h1 : t.getD a 0 < 0
  · by_cases h2 : t.getD b 0 < 0
    · simp only [h1, h2, if_true, key ha hab, key hb hba]
      rw [List.set_comm _ _ hab]
    · by_cases h3 : t.getD b 0 = h
      · simp only [h1, h2, h3, if_true, if_false, key ha hab, hneg]
      · simp only [h1, h2, h3, if_true, if_false, key ha hab, hneg]
  · by_cases h2 : t.getD b 0 < 0
    · by_cases h4 : t.getD a 0 = h
      · simp only [h1, h2, h4, if_true, if_false, key hb hba, hneg]
      · simp only [h1, h2, h4, if_true, if_false, key hb hba, hneg]
    · by_cases h4 : t.getD a 0 = h
      · by_cases h3 : t.getD b 0 = h
        · simp only [h1, h2, h4, h3, if_true, if_false, hneg]
        · simp only [h1, h2, h4, h3, if_true, if_false, hneg]
      · by_cases h3 : t.getD b 0 = h
        · simp only [h1, h2, h4, h3, if_true, if_false, hneg]
        · simp only [h1, h2, h4, h3, if_true, if_false, hneg]

theorem stepR_eq {n i : Nat} {f a : Int} {o : Ins} {tall : List Int} (hf : f ≤ 9223372036854775807) (ha : a ≤ 9223372036854775807) (hlt : i < n) (ht : TallOk n tall) :
    stepR n i f a o tall = if overB o f a = true then none else stepH n i o tall := by
  unfold stepR
  rw [may_over hf ha]
  cases hov : overB o f a with
  | true => simp
  | false =>
    unfold stepH
    simp only [Bool.not_false, Bool.and_true, Bool.false_eq_true, if_false]
    have hti := ht.2 i
    cases hm : mayB o i n with
    | false => by_cases h0 : tall.getD i 0 < 0 <;> simp [h0]
    | true =>
      obtain ⟨b1, b2, b3, b4, b5⟩ := need_bounds hm
      obtain ⟨e1, e2⟩ := asks_need hm
      have hpl := fun hk => may_place hm hk
      have e3 : tall.getD i 0 - (asksF o).1 + (asksF o).2 = tall.getD i 0 + (needF o).2 := by omega
      simp only [Bool.true_eq_false, if_false]
      rw [e3, ← e1]
      by_cases h0 : tall.getD i 0 < 0
      · rw [if_pos h0, if_pos (by omega)]
      rw [if_neg h0]
      by_cases h1 : tall.getD i 0 < (needF o).1
      · rw [if_pos h1, if_pos h1]
      rw [if_neg h1, if_neg h1]
      by_cases h2 : 1024 < tall.getD i 0 + (needF o).2
      · rw [if_pos h2, if_pos h2]
      rw [if_neg h2, if_neg h2]
      have hx : 0 ≤ tall.getD i 0 + (needF o).2 := by omega
      generalize tall.getD i 0 + (needF o).2 = x at *
      have hi1 : i + 1 < tall.length := by rw [ht.1]; omega
      unfold nextL
      by_cases k7 : o.kind = 7
      · obtain ⟨p1, p2⟩ := hpl (.inl k7)
        have hn : o.n.toNat < tall.length := by rw [ht.1]; omega
        simp only [k7, if_true, true_or, List.nil_append, comesR, comeR_eq hn]
        cases comeH tall o.n.toNat x <;> rfl
      · by_cases k8 : o.kind = 8
        · obtain ⟨p1, p2⟩ := hpl (.inr k8)
          have hn : o.n.toNat < tall.length := by rw [ht.1]; omega
          have h87 : ¬ (8 : Int) = 7 := by decide
          simp only [k8, h87, if_false, or_true, if_true, List.cons_append, List.nil_append, comesR, comeR_eq hi1]
          have hs := comeH_swap hn hi1 hx
          cases hc1 : comeH tall (i + 1) x with
          | none =>
            rw [hc1] at hs
            simp only at hs
            cases hc2 : comeH tall o.n.toNat x with
            | none => rfl
            | some t1 => rw [hc2] at hs; simp only at hs; simp only [hs]
          | some t1 =>
            rw [hc1] at hs
            simp only at hs
            have hn1 : o.n.toNat < t1.length := by rw [comeH_len hc1]; exact hn
            simp only [comeR_eq hn1]
            cases hc2 : comeH tall o.n.toNat x with
            | none => rw [hc2] at hs; simp only at hs; rw [← hs]
            | some t2 =>
              rw [hc2] at hs
              simp only at hs
              simp only [hs]
              cases comeH t1 o.n.toNat x <;> rfl
        · have hk : ¬ (o.kind = 7 ∨ o.kind = 8) := by omega
          simp only [k7, k8, or_self, if_false, List.append_nil, comesR, comeR_eq hi1]
          cases comeH tall (i + 1) x <;> rfl

theorem stepH_ok {n i : Nat} {o : Ins} {tall t : List Int} {h : Int} (ht : TallOk n tall) (hs : stepH n i o tall = some (t, h)) : TallOk n t ∧ 0 ≤ h ∧ h ≤ 1024 ∧ ∀ j, t.getD j 0 ≤ max (tall.getD j 0) h := by
  unfold stepH at hs
  simp only at hs
  split at hs
  · cases hs
  · rename_i h0
    split at hs
    · cases hs
    · rename_i hm
      have hm : mayB o i n = true := by simpa using hm
      obtain ⟨b1, b2, b3, b4, b5⟩ := need_bounds hm
      split at hs
      · cases hs
      · rename_i h1
        split at hs
        · cases hs
        · rename_i h2
          have hx0 : 0 ≤ tall.getD i 0 + (needF o).2 := by omega
          have hx1 : tall.getD i 0 + (needF o).2 ≤ 1024 := by omega
          generalize tall.getD i 0 + (needF o).2 = x at *
          have hcome : ∀ {l l' : List Int} {a : Nat}, comeH l a x = some l' → ∀ j, l'.getD j 0 ≤ max (l.getD j 0) x := by
            intro l l' a hc j
            unfold comeH at hc
            split at hc
            · cases hc
              by_cases hj : a = j
              · subst hj
                by_cases hl : a < l.length
                · simp [List.getD, hl]; omega
                · simp [List.getD, hl]; omega
              · simp [List.getD, List.getElem?_set, hj]; omega
            · split at hc
              · cases hc; omega
              · cases hc
          split at hs
          · cases hs
          · rename_i t1 e1
            have k1 : TallOk n t1 ∧ ∀ j, t1.getD j 0 ≤ max (tall.getD j 0) x := by
              split at e1
              · exact ⟨ht.come hx0 hx1 e1, hcome e1⟩
              · cases e1; exact ⟨ht, fun j => by omega⟩
            split at hs
            · cases hs
            · rename_i t2 e2
              cases hs
              refine ⟨?_, hx0, hx1, ?_⟩
              · split at e2
                · cases e2; exact k1.1
                · exact k1.1.come hx0 hx1 e2
              · split at e2
                · cases e2; exact k1.2
                · intro j
                  have q1 := hcome e2 j
                  have q2 := k1.2 j
                  omega
theorem goR_eq {n : Nat} {f a : Int} (hf : f ≤ 9223372036854775807) (ha : a ≤ 9223372036854775807) : ∀ (l : List Ins) (i : Nat) (tall : List Int) (m : Int), i + l.length ≤ n → TallOk n tall →
    goR n f a l i tall m = if l.any (fun o => overB o f a) = true then none else goH n l i tall m
  | [], i, tall, m, _, _ => by simp [goR, goH]
  | o :: l, i, tall, m, hl, ht => by
    simp only [List.length_cons] at hl
    rw [goR, goH, stepR_eq hf ha (by omega) ht, List.any_cons]
    cases hov : overB o f a with
    | true => simp
    | false =>
      simp only [Bool.false_eq_true, if_false, Bool.false_or]
      cases hs : stepH n i o tall with
      | none => simp
      | some r =>
        obtain ⟨t, h⟩ := r
        simp only
        exact goR_eq hf ha l (i + 1) t _ (by omega) (stepH_ok ht hs).1
/-- The greatest is no less than any. -/
theorem goH_most {n : Nat} : ∀ (l : List Ins) (i : Nat) (tall : List Int) (m : Int) (t : List Int) (m' : Int), TallOk n tall → (∀ j, tall.getD j 0 ≤ m) → goH n l i tall m = some (t, m') → ∀ j, t.getD j 0 ≤ m'
  | [], i, tall, m, t, m', _, h, hg => by cases hg; exact h
  | o :: l, i, tall, m, t, m', ht, h, hg => by
    rw [goH] at hg
    split at hg
    · cases hg
    · rename_i t1 h1 hs
      obtain ⟨k1, k2, k3, k4⟩ := stepH_ok ht hs
      exact goH_most l (i + 1) t1 _ t m' k1 (fun j => by have := k4 j; have := h j; omega) hg
theorem heights_pos (ops : List Ins) (h : (heightsF ops).2 = true) : 1 ≤ (heightsF ops).1 := by
  unfold heightsF at h ⊢
  split at h
  · cases h
  · rename_i hn
    rw [if_neg hn]
    split at h
    · cases h
    · rename_i t m hg
      simp only at h ⊢
      have ht0 : ∀ j, (tall0 ops.length).getD j 0 ≤ 0 := by
        intro j
        unfold tall0
        simp only [List.getD, List.getElem?_set, List.getElem?_replicate]
        by_cases h1 : 0 = j
        · simp [h1]
          by_cases h2 : j < ops.length + 1 <;> simp [h2]
        · simp [h1]
          by_cases h2 : j < ops.length + 1 <;> simp [h2]
      have := goH_most ops 0 _ 0 t m (tall0_ok _) ht0 hg ops.length
      have h' : t.getD ops.length 0 = 1 := by simpa using h
      omega
/-- What the document says of a program's height: none where it may not be. -/
def heightsR (ops : List Ins) (f a : Int) : Int :=
  if ops.length = 0 ∨ 4096 < ops.length then 0
  else match goR ops.length f a ops 0 (tall0 ops.length) 0 with
    | none => 0
    | some (t, m) => if t.getD ops.length 0 = 1 then m else 0
theorem heightsR_eq (ops : List Ins) {f a : Int} (hf : f ≤ 9223372036854775807) (ha : a ≤ 9223372036854775807) : heightsR ops f a = if ops.any (fun o => overB o f a) = true then 0 else depthF ops := by
  unfold heightsR depthF heightsF
  by_cases h : ops.length = 0 ∨ 4096 < ops.length
  · rw [if_pos h, if_pos h]
    simp
  · rw [if_neg h, if_neg h, goR_eq hf ha ops 0 _ 0 (by omega) (tall0_ok _)]
    cases hb : ops.any (fun o => overB o f a) with
    | true => simp
    | false =>
      simp only [Bool.false_eq_true, if_false]
      cases goH ops.length ops 0 (tall0 ops.length) 0 with
      | none => simp
      | some r =>
        obtain ⟨t, m⟩ := r
        simp
theorem check_eq (ops : List Ins) {f a : Int} (hf : f ≤ 9223372036854775807) (ha : a ≤ 9223372036854775807) : checkF ops f a = if heightsR ops f a = 0 then 120 else 0 := by
  rw [heightsR_eq ops hf ha]
  unfold checkF depthF
  cases hb : ops.any (fun o => overB o f a) with
  | true => simp
  | false =>
    simp only [Bool.false_eq_true, if_false]
    cases hh : (heightsF ops).2 with
    | true =>
      have := heights_pos ops hh
      simp only [if_true]
      rw [if_neg (by omega)]
    | false => simp
theorem over_none (o : Ins) (h : o.n < 9223372036854775807) : overB o 9223372036854775807 9223372036854775807 = false := by
  unfold overB
  have : ¬ (9223372036854775807 : Int) ≤ o.n := by omega
  simp [this]
end Go.Proofs.YtdpfgdmlmkpmbaaGreatDoor.Ab

/- Check; the document's heights. -/
namespace Go.Proofs.YtdpfgdmlmkpmbaaGreatDoor.Ab
open Go
set_option maxRecDepth 20000
set_option maxHeartbeats 16000000
set_option linter.unusedSimpArgs false

theorem ins_take (o : Ins) : List.take 6 o.cells = o.cells := rfl
theorem eq_checkP (σ : AHeap) (s : AV) (ops : List Ins) (ids : List Nat) (f a : Int) (hs : frzDA frzDepth σ s = some (.one (.lst (ops.map Ins.cells)), ids)) (hm : ops.length ≤ maxElems) :
    lim TyD 13 [s, .one (.int .i64 f), .one (.int .i64 a)] σ = some (.one (.int .i64 (checkF ops f a)), σ) := by
  refine lim_rd (args' := [.one (.lst (ops.map Ins.cells)), .one (.int .i64 f), .one (.int .i64 a)]) (ids := ids ++ ([] ++ ([] ++ []))) (TyD_prim rfl) ((TyD_code _).trans codeCCheck) rfl (by simp [hs]) ?_ rfl
  unfold BodyP checkF
  obtain ⟨A, hA⟩ : ∃ A, ops.any (fun o => overB o f a) = A := ⟨_, rfl⟩
  rw [hA]
  have hh := fun σ => eq_heights σ _ ops [] (frz_inlst σ ops) hm
  simp (maxDischargeDepth := 99) [cCCheck]
  refine endsi_to 0 (fun fr τ => fr.length = 45 ∧ getSlot fr 0 = .one (.lst (ops.map Ins.cells)) ∧ A = false) ?_ ?_
  · refine endsi_range ops.length (fun i fr τ => fr.length = 45 ∧ getSlot fr 0 = .one (.lst (ops.map Ins.cells)) ∧ getSlot fr 1 = .one (.int .i64 f) ∧ getSlot fr 2 = .one (.int .i64 a) ∧ getSlot fr 11 = .one (.lst (ops.map Ins.cells)) ∧ getSlot fr 12 = .one (.int .i64 ops.length) ∧ getSlot fr 13 = .one (.int .i64 i) ∧ A = (ops.drop i).any (fun o => overB o f a)) ?_ ?_ ?_
    · simp [-List.any_eq_true, -List.any_eq_false, hA]
    · rintro i fr τ hlt ⟨hlen, f0, f1, f2, f11, f12, f13, hall⟩
      have hw := wr_next hlt hm
      rw [List.drop_eq_getElem_cons hlt, List.any_cons] at hall
      obtain ⟨o, ho⟩ : ∃ o, ops[i] = o := ⟨_, rfl⟩
      rw [ho] at hall
      have hlti : (i : Int) < (ops.length : Int) := by omega
      obtain ⟨τ1, hτ1⟩ : ∃ τ1, τ1 = (τ.alloc ⟨[.int .i64 0, .int .i64 0, .str [], .int .i64 0, .int .i64 0, .str []], .own⟩).put τ.size ⟨o.cells, .own⟩ := ⟨_, rfl⟩
      have hg1 : τ1.get τ.size = some ⟨o.cells, .own⟩ := by rw [hτ1]; simp
      have hwz : writeAt (τ.alloc ⟨[.int .i64 0, .int .i64 0, .str [], .int .i64 0, .int .i64 0, .str []], .own⟩) τ.size 0 o.cells = some τ1 := by
        rw [hτ1]
        simp [writeAt, splice, Ins.cells]
      have hc0 : o.cells[0]? = some (.int .i64 o.kind) := rfl
      have hc1 : o.cells[1]? = some (.int .i64 o.n) := rfl
      clear hτ1
      cases hov : overB o f a with
      | true =>
        rw [hov, Bool.true_or] at hall
        unfold overB at hov
        by_cases k2 : o.kind = 2
        · rw [k2] at hc0
          simp [k2] at hov
          simp (maxDischargeDepth := 99) [-writeAt, cCCheck_0, hlen, f0, f1, f2, f11, f12, f13, hlti, hlt, ho, ins_take, Ins.cells_len, hwz, hg1, hc0, hc1, k2, hov, hall]
        · simp [k2] at hov
          obtain ⟨k9, hov⟩ := hov
          rw [k9] at hc0
          simp (maxDischargeDepth := 99) [-writeAt, cCCheck_0, hlen, f0, f1, f2, f11, f12, f13, hlti, hlt, ho, ins_take, Ins.cells_len, hwz, hg1, hc0, hc1, k9, hov, hall]
      | false =>
        rw [hov, Bool.false_or] at hall
        unfold overB at hov
        generalize (ops.drop (i + 1)).any (fun o => overB o f a) = B at hall ⊢
        by_cases k2 : o.kind = 2
        · rw [k2] at hc0
          simp [k2] at hov
          have hov' : ¬ f ≤ o.n := by omega
          simp (maxDischargeDepth := 99) [-writeAt, cCCheck_0, hlen, f0, f1, f2, f11, f12, f13, hlti, hlt, ho, ins_take, Ins.cells_len, hwz, hg1, hc0, hc1, k2, hov', hall, hw]
        · by_cases k9 : o.kind = 9
          · simp [k9] at hov
            rw [k9] at hc0
            have hov' : ¬ a ≤ o.n := by omega
            simp (maxDischargeDepth := 99) [-writeAt, cCCheck_0, hlen, f0, f1, f2, f11, f12, f13, hlti, hlt, ho, ins_take, Ins.cells_len, hwz, hg1, hc0, hc1, k9, hov', hall, hw]
          · simp (maxDischargeDepth := 99) [-writeAt, cCCheck_0, hlen, f0, f1, f2, f11, f12, f13, hlti, hlt, ho, ins_take, Ins.cells_len, hwz, hg1, hc0, hc1, k2, k9, hall, hw]
    · rintro fr τ ⟨hlen, f0, f1, f2, f11, f12, f13, hall⟩
      rw [List.drop_length] at hall
      have hall : A = false := hall
      simp (maxDischargeDepth := 99) [cCCheck_0, hlen, f0, f12, f13, hall]
  · rintro fr τ ⟨hlen, f0, hall⟩
    rw [hall]
    cases hb : (heightsF ops).2 with
    | true =>
      rw [hb] at hh
      simp (maxDischargeDepth := 99) [hlen, f0, hh]
    | false =>
      rw [hb] at hh
      simp (maxDischargeDepth := 99) [hlen, f0, hh]

/-! ### the document's heights -/
def nextI (i : Nat) (o : Ins) : List Int := (nextL i o).map fun (n : Nat) => (n : Int)
/-- The rows: heights, and what comes next. -/
structure NSt (ops : List Ins) (f a : Int) (q x i : Nat) (h most : Int) (nx : List Nat) (fr : List AV) (τ : AHeap) (tall : List Int) : Prop where
  hlen : fr.length = 148
  f0 : getSlot fr 0 = .one (.lst (ops.map Ins.cells))
  f1 : getSlot fr 1 = .one (.int .i64 f)
  f2 : getSlot fr 2 = .one (.int .i64 a)
  f7 : getSlot fr 7 = .one (.int .i64 ops.length)
  f8 : getSlot fr 8 = .one (.slice q 0 1 (ops.length + 1) none)
  f10 : getSlot fr 10 = .one (.int .i64 most)
  f11 : getSlot fr 11 = .one (.int .i64 i)
  f12 : getSlot fr 12 = .one (.int .i64 h)
  f15 : getSlot fr 15 = .one (.slice x 0 1 nx.length none)
  hne : q ≠ x
  hq : τ.get q = some ⟨tcellsI tall, .own⟩
  hx : τ.get x = some ⟨tcellsI (nx.map fun (n : Nat) => (n : Int)), .own⟩
  ht : tall.length = ops.length + 1

theorem comeR_len {l l' : List Int} {a : Nat} {h : Int} (hc : comeR l a h = some l') : l'.length = l.length := by
  unfold comeR at hc
  split at hc
  · cases hc
  · cases hc; simp
theorem next_loop (ops : List Ins) (f a : Int) (q x i : Nat) (h most : Int) (nx : List Nat) (hn : nx.length ≤ maxElems) (hp : ∀ p ∈ nx, p < ops.length + 1) (fr : List AV) (τ : AHeap) (tall : List Int) (st : NSt ops f a q x i h most nx fr τ tall)
    (f16 : getSlot fr 16 = .one (.int .i64 0)) {N : KN} {E : KE} {R : KN}
    (hE : ∀ fr τ t, comesR h nx tall = some t → NSt ops f a q x i h most nx fr τ t → E 4 .go fr τ)
    (hR : ∀ fr τ, comesR h nx tall = none → fr.length = 148 → getSlot fr 6 = .one (.int .i64 0) → R .go fr τ) :
    EndsI .go (lim TyD) (.loop cRHeights_1) fr τ N E R := by
  refine endsi_range nx.length (fun j fr τ => ∃ t, NSt ops f a q x i h most nx fr τ t ∧ getSlot fr 16 = .one (.int .i64 j) ∧ comesR h nx tall = comesR h (nx.drop j) t) ?_ ?_ ?_
  · exact ⟨tall, st, f16, rfl⟩
  · rintro j fr τ hlt ⟨t, st, f16, hc⟩
    have hw := wr_next hlt hn
    rw [List.drop_eq_getElem_cons hlt] at hc
    obtain ⟨p, hpj⟩ : ∃ p, nx[j] = p := ⟨_, rfl⟩
    rw [hpj] at hc
    have hpl : p < ops.length + 1 := hp p (by rw [← hpj]; exact List.getElem_mem hlt)
    have hpl' : p < t.length := by rw [st.ht]; exact hpl
    have hlti : (j : Int) < (nx.length : Int) := by omega
    have hrd : (tcellsI (nx.map fun (n : Nat) => (n : Int)))[j]? = some (.int .i64 p) := by
      simp [tcellsI, hlt, hpj]
    have hrt := readI hpl'
    have hwr := writeI st.hq hpl' h
    have hpi : (p : Int) < (ops.length : Int) + 1 := by omega
    obtain ⟨hlen, f0, f1, f2, f7, f8, f10, f11, f12, f15, hne, hq, hx, ht⟩ := st
    have hql := AHeap.get_lt hq
    rw [comesR] at hc
    unfold comeR at hc
    generalize hy : t.getD p 0 = y at *
    by_cases c1 : 0 ≤ y
    · by_cases c2 : y = h
      · rw [if_neg (by simp [c2])] at hc
        simp only at hc
        have hst : NSt ops f a q x i h most nx fr (τ.put q ⟨tcellsI (t.set p h), .own⟩) (t.set p h) := ⟨hlen, f0, f1, f2, f7, f8, f10, f11, f12, f15, hne, by simp [hql], by rw [AHeap.get_put', if_neg (fun e => hne e.1.symm)]; exact hx, by simpa using ht⟩
        generalize τ.put q ⟨tcellsI (t.set p h), .own⟩ = τ1 at *
        have c3 : 0 ≤ h := by omega
        obtain ⟨s1, s2, s3, s4, s5, s6, s7, s8, s9, s10, s11, s12, s13, s14⟩ := hst
        simp (maxDischargeDepth := 99) [-writeAt, cRHeights_1, hlen, f8, f12, f15, f16, hlt, hlti, hx, hrd, hq, hrt, hpl, hpi, c1, c2, c3, hwr, hw]
        exact ⟨_, ⟨by simp [hlen], by simp [hlen, f0], by simp [hlen, f1], by simp [hlen, f2], by simp [hlen, f7], by simp [hlen, f8], by simp [hlen, f10], by simp [hlen, f11], by simp [hlen, f12], by simp [hlen, f15], hne, s12, s13, s14⟩, hc⟩
      · rw [if_pos ⟨c1, c2⟩] at hc
        simp (maxDischargeDepth := 99) [-writeAt, cRHeights_1, hlen, f8, f12, f15, f16, hlt, hlti, hx, hrd, hq, hrt, hpl, hpi, c1, c2, hwr, hw]
        exact hR _ _ hc (by simp [hlen]) (by simp [hlen])
    · rw [if_neg (by omega)] at hc
      simp only at hc
      have hst : NSt ops f a q x i h most nx fr (τ.put q ⟨tcellsI (t.set p h), .own⟩) (t.set p h) := ⟨hlen, f0, f1, f2, f7, f8, f10, f11, f12, f15, hne, by simp [hql], by rw [AHeap.get_put', if_neg (fun e => hne e.1.symm)]; exact hx, by simpa using ht⟩
      generalize τ.put q ⟨tcellsI (t.set p h), .own⟩ = τ1 at *
      obtain ⟨s1, s2, s3, s4, s5, s6, s7, s8, s9, s10, s11, s12, s13, s14⟩ := hst
      simp (maxDischargeDepth := 99) [-writeAt, cRHeights_1, hlen, f8, f12, f15, f16, hlt, hlti, hx, hrd, hq, hrt, hpl, hpi, c1, hwr, hw]
      exact ⟨_, ⟨by simp [hlen], by simp [hlen, f0], by simp [hlen, f1], by simp [hlen, f2], by simp [hlen, f7], by simp [hlen, f8], by simp [hlen, f10], by simp [hlen, f11], by simp [hlen, f12], by simp [hlen, f15], hne, s12, s13, s14⟩, hc⟩
  · rintro fr τ ⟨t, st, f16, hc⟩
    rw [List.drop_length] at hc
    obtain ⟨hlen, f0, f1, f2, f7, f8, f10, f11, f12, f15, hne, hq, hx, ht⟩ := st
    simp (maxDischargeDepth := 99) [-writeAt, cRHeights_1, hlen, f15, f16, hx]
    exact hE _ _ _ hc ⟨by simp [hlen], by simp [hlen, f0], by simp [hlen, f1], by simp [hlen, f2], by simp [hlen, f7], by simp [hlen, f8], by simp [hlen, f10], by simp [hlen, f11], by simp [hlen, f12], by simp [hlen, f15], hne, hq, hx, ht⟩

/-- Ahead of the i-th instruction. -/
def IR (ops : List Ins) (f a : Int) (q i : Nat) (fr : List AV) (τ : AHeap) : Prop :=
  ∃ tall most, fr.length = 148 ∧ getSlot fr 0 = .one (.lst (ops.map Ins.cells)) ∧ getSlot fr 1 = .one (.int .i64 f) ∧ getSlot fr 2 = .one (.int .i64 a) ∧ getSlot fr 7 = .one (.int .i64 ops.length) ∧
    getSlot fr 8 = .one (.slice q 0 1 (ops.length + 1) none) ∧ getSlot fr 10 = .one (.int .i64 most) ∧ getSlot fr 11 = .one (.int .i64 i) ∧ τ.get q = some ⟨tcellsI tall, .own⟩ ∧ TallOk ops.length tall ∧
    goR ops.length f a (ops.drop i) i tall most = goR ops.length f a ops 0 (tall0 ops.length) 0
theorem heightsR_none {ops : List Ins} {f a : Int} (h : goR ops.length f a ops 0 (tall0 ops.length) 0 = none) : heightsR ops f a = 0 := by
  unfold heightsR
  rw [h]
  split <;> rfl
theorem heightsR_some {ops : List Ins} {f a : Int} (h0 : ops.length ≠ 0) (h1 : ops.length ≤ 4096) {t : List Int} {m : Int} (h : goR ops.length f a ops 0 (tall0 ops.length) 0 = some (t, m)) : heightsR ops f a = if t.getD ops.length 0 = 1 then m else 0 := by
  unfold heightsR
  rw [if_neg (by omega), h]
theorem asks_bounds {o : Ins} {i n f a : Int} (h : mayR o i n f a = true) : 0 ≤ (asksF o).1 ∧ (asksF o).1 ≤ 1024 ∧ 0 ≤ (asksF o).2 ∧ (asksF o).2 ≤ 1 := by
  unfold asksF
  by_cases h1 : o.kind = 1 ∨ o.kind = 2 ∨ o.kind = 9
  · simp [h1]
  by_cases h2 : o.kind = 3 ∨ o.kind = 5 ∨ o.kind = 10
  · simp [h1, h2]
  by_cases h3 : o.kind = 4
  · simp [h3]
  by_cases h4 : o.kind = 6
  · have : 0 ≤ o.n ∧ o.n ≤ 1024 := by
      unfold mayR at h
      simp [h4] at h
      exact h
    rw [if_neg h1, if_neg h2, if_neg h3, if_pos h4]
    simp only
    omega
  by_cases h5 : o.kind = 8
  · simp [h5]
  · simp [h1, h2, h3, h4, h5]
theorem mayR_place {o : Ins} {i n f a : Int} (h : mayR o i n f a = true) (hk : o.kind = 7 ∨ o.kind = 8) : i < o.n ∧ o.n ≤ n := by
  unfold mayR at h
  rcases hk with hk | hk <;> simp [hk] at h <;> exact h
theorem comesR_ok {n : Nat} {h : Int} (h0 : 0 ≤ h) (h1 : h ≤ 1024) : ∀ (l : List Nat) (t t' : List Int), TallOk n t → comesR h l t = some t' → TallOk n t'
  | [], t, t', ht, e => by cases e; exact ht
  | p :: l, t, t', ht, e => by
    rw [comesR] at e
    split at e
    · cases e
    · rename_i t1 he
      refine comesR_ok h0 h1 l t1 t' ?_ e
      unfold comeR at he
      split at he
      · cases he
      · cases he; exact ht.set p h0 h1

theorem stepRef (ops : List Ins) (f a : Int) (q : Nat) (h0 : ops.length ≠ 0) (h1 : ops.length ≤ 4096) (i : Nat) (fr : List AV) (τ : AHeap) (hlt : i < ops.length) (hI : IR ops f a q i fr τ) (E : KE) (R : KN)
    (hR : ∀ fr τ, fr.length = 148 → getSlot fr 6 = .one (.int .i64 0) → heightsR ops f a = 0 → R .go fr τ) :
    EndsI .go (lim TyD) cRHeights_2 fr τ (fun _ fr τ => IR ops f a q (i + 1) fr τ) E R := by
  obtain ⟨tall, most, hlen, f0, f1, f2, f7, f8, f10, f11, hq, htall, hgo⟩ := hI
  have hw := wr_next hlt (by unfold maxElems; omega)
  have hlti : (i : Int) < (ops.length : Int) := by omega
  have hlti1 : (i : Int) < (ops.length : Int) + 1 := by omega
  rw [List.drop_eq_getElem_cons hlt] at hgo
  have hit : i < tall.length := by rw [htall.1]; omega
  obtain ⟨o, ho⟩ : ∃ o, ops[i] = o := ⟨_, rfl⟩
  rw [ho] at hgo
  have hql := AHeap.get_lt hq
  have hne : goR ops.length f a ops 0 (tall0 ops.length) 0 = none → heightsR ops f a = 0 := heightsR_none
  have hasks := fun σ => eq_asks σ o
  have hmay := fun σ => eq_mayR σ o i ops.length f a
  have hrd := readI hit
  have htb := htall.2 i
  have hc0 : o.cells[0]? = some (.int .i64 o.kind) := rfl
  have hc1 : o.cells[1]? = some (.int .i64 o.n) := rfl
  rw [goR] at hgo
  unfold stepR at hgo
  have hit2 : i < ops.length + 1 := by omega
  cases c1 : mayR o i ops.length f a with
  | false =>
    rw [c1] at hgo hmay
    rw [if_pos rfl] at hgo
    simp (maxDischargeDepth := 99) [-writeAt, cRHeights_2, hlen, f0, f1, f2, f7, f8, f10, f11, hlti, hlti1, hlt, hit2, ho, ins_take, Ins.cells_len, hq, hrd, hasks, hmay]
    exact hR _ _ (by simp [hlen]) (by simp [hlen]) (hne hgo.symm)
  | true =>
    obtain ⟨b1, b2, b3, b4⟩ := asks_bounds c1
    have hpl := fun hk => mayR_place c1 hk
    rw [c1] at hgo hmay
    rw [if_neg (by simp)] at hgo
    generalize hh : tall.getD i 0 = h at hgo hrd htb
    generalize asksF o = nd at hgo hasks b1 b2 b3 b4
    by_cases c3 : h < nd.1
    · rw [if_pos c3] at hgo
      simp (maxDischargeDepth := 99) [-writeAt, cRHeights_2, hlen, f0, f1, f2, f7, f8, f10, f11, hlti, hlti1, hlt, hit2, ho, ins_take, Ins.cells_len, hq, hrd, hasks, hmay, c3]
      exact hR _ _ (by simp [hlen]) (by simp [hlen]) (hne hgo.symm)
    rw [if_neg c3] at hgo
    have hwa : wr .i64 (h - nd.1) = h - nd.1 := wr64 (by omega) (by omega)
    have hwb : wr .i64 (h - nd.1 + nd.2) = h - nd.1 + nd.2 := wr64 (by omega) (by omega)
    by_cases c4 : 1024 < h - nd.1 + nd.2
    · rw [if_pos c4] at hgo
      simp (maxDischargeDepth := 99) [-writeAt, cRHeights_2, hlen, f0, f1, f2, f7, f8, f10, f11, hlti, hlti1, hlt, hit2, ho, ins_take, Ins.cells_len, hq, hrd, hasks, hmay, c3, hwa, hwb, mms, mm_max, c4]
      exact hR _ _ (by simp [hlen]) (by simp [hlen]) (hne hgo.symm)
    rw [if_neg c4] at hgo
    obtain ⟨y, hy⟩ : ∃ y, h - nd.1 + nd.2 = y := ⟨_, rfl⟩
    have hx0 : 0 ≤ y := by omega
    have hx1 : y ≤ 1024 := by omega
    have c4' : ¬ 1024 < y := by omega
    have hwb : wr .i64 (h - nd.1 + nd.2) = y := hwb.trans hy
    rw [hy] at hgo
    have hfin : ∀ (nx : List Nat), nextL i o = nx → ∀ fr τ x, NSt ops f a q x i y (max most y) nx fr τ tall → (∀ p ∈ nx, p < ops.length + 1) → nx.length ≤ maxElems → getSlot fr 16 = .one (.int .i64 0) →
        EndsI .go (lim TyD) (.loop cRHeights_1) fr τ (fun _ _ _ => False) (fun j _ fr τ => j = 4 ∧ ∃ t, NSt ops f a q x i y (max most y) nx fr τ t ∧ TallOk ops.length t ∧ goR ops.length f a (ops.drop (i + 1)) (i + 1) t (max most y) = goR ops.length f a ops 0 (tall0 ops.length) 0) R := by
      intro nx hnx fr τ x st hp hl f16
      rw [hnx] at hgo
      refine next_loop ops f a q x i y (max most y) nx hl hp fr τ tall st f16 ?_ ?_
      · intro fr τ t hc st'
        rw [hc] at hgo
        exact ⟨rfl, t, st', comesR_ok hx0 hx1 nx tall t htall hc, hgo⟩
      · intro fr τ hc hl6 h6
        rw [hc] at hgo
        exact hR _ _ hl6 h6 (hne hgo.symm)
    have hend : ∀ fr τ x (nx : List Nat), (∃ t, NSt ops f a q x i y (max most y) nx fr τ t ∧ TallOk ops.length t ∧ goR ops.length f a (ops.drop (i + 1)) (i + 1) t (max most y) = goR ops.length f a ops 0 (tall0 ops.length) 0) →
        ∀ fr', fr'.length = 148 → (∀ k, k ∈ [0, 1, 2, 7, 8, 10] → getSlot fr' k = getSlot fr k) → getSlot fr' 11 = .one (.int .i64 ((i + 1 : Nat) : Int)) → IR ops f a q (i + 1) fr' τ := by
      rintro fr τ x nx ⟨t, st, ht, hg⟩ fr' hl' hk h11
      exact ⟨t, max most y, hl', (hk 0 (by simp)).trans st.f0, (hk 1 (by simp)).trans st.f1, (hk 2 (by simp)).trans st.f2, (hk 7 (by simp)).trans st.f7, (hk 8 (by simp)).trans st.f8, (hk 10 (by simp)).trans st.f10, h11, st.hq, ht, hg⟩
    by_cases k7 : o.kind = 7
    · obtain ⟨p1, p2⟩ := hpl (.inl k7)
      have hnx : nextL i o = [o.n.toNat] := by simp [nextL, k7]
      have hon : ((o.n.toNat : Nat) : Int) = o.n := by omega
      rw [k7] at hc0
      obtain ⟨τ1, hτ1⟩ : ∃ τ1, τ1 = τ.alloc ⟨[.int .i64 o.n], .own⟩ := ⟨_, rfl⟩
      have hk1 : Keeps τ τ1 := by rw [hτ1]; exact (Keeps.refl τ).alloc
      have hg1 : τ1.get τ.size = some ⟨[.int .i64 o.n], .own⟩ := by rw [hτ1]; simp
      have hap := append_own (bytes := 8) (vs := [.int .i64 o.n]) (OutSl.nil τ1.size τ1 1) (Nat.le_refl _) (by omega) rfl (by decide) (by decide)
      simp (maxDischargeDepth := 99) [-writeAt, cRHeights_2, hlen, f0, f1, f2, f7, f8, f10, f11, hlti, hlti1, hlt, hit2, ho, ins_take, Ins.cells_len, hq, hrd, hasks, hmay, c3, hwa, hwb, mms, mm_max, c4', hc0, hc1, ← hτ1, srcLen, srcCells, hg1]
      refine hap.mono ?_
      rintro v τ2 ⟨q1, q2, rfl, q3⟩
      obtain ⟨e1, e2 | ⟨x, e2, e3, e4, e5⟩⟩ := q1
      · exact absurd e2.2 (by omega)
      cases e2
      have hq2 : τ2.get q = some ⟨tcellsI tall, .own⟩ := by rw [q3 q (by have := hk1.1; omega) (fun o e k c he => by cases he), hk1.2 q hql]; exact hq
      simp (maxDischargeDepth := 99) [-writeAt, hlen]
      refine endsi_to 4 (fun fr τ => ∃ t, NSt ops f a q τ1.size i y (max most y) [o.n.toNat] fr τ t ∧ TallOk ops.length t ∧ goR ops.length f a (ops.drop (i + 1)) (i + 1) t (max most y) = goR ops.length f a ops 0 (tall0 ops.length) 0) ?_ ?_
      · refine hfin _ hnx _ _ τ1.size ⟨by simp [hlen], by simp [hlen, f0], by simp [hlen, f1], by simp [hlen, f2], by simp [hlen, f7], by simp [hlen, f8], by simp [hlen], by simp [hlen, f11], by simp [hlen], by simp [hlen], by have := hk1.1; omega, hq2, ?_, htall.1⟩ ?_ ?_ (by simp [hlen])
        · rw [e5]; simp [tcellsI, hon]
        · intro p hp; simp at hp; omega
        · exact (by decide : (1 : Nat) ≤ maxElems)
      · intro fr τ hx
        have hx' := hx
        obtain ⟨t, st, _⟩ := hx'
        simp (maxDischargeDepth := 99) [st.hlen, st.f11, hw]
        exact hend _ _ _ _ hx _ (by simp [st.hlen]) (by intro k hk; simp at hk; rcases hk with rfl | rfl | rfl | rfl | rfl | rfl <;> simp [st.hlen]) (by simp [st.hlen])
    · have hw' : wr .i64 ((i : Int) + 1) = (i : Int) + 1 := by rw [hw]; simp
      obtain ⟨τ1, hτ1⟩ : ∃ τ1, τ1 = τ.alloc ⟨[.int .i64 ((i : Int) + 1)], .own⟩ := ⟨_, rfl⟩
      have hk1 : Keeps τ τ1 := by rw [hτ1]; exact (Keeps.refl τ).alloc
      have hg1 : τ1.get τ.size = some ⟨[.int .i64 ((i : Int) + 1)], .own⟩ := by rw [hτ1]; simp
      have hap := append_own (bytes := 8) (vs := [.int .i64 ((i : Int) + 1)]) (OutSl.nil τ1.size τ1 1) (Nat.le_refl _) (by omega) rfl (by decide) (by decide)
      by_cases k8 : o.kind = 8
      · obtain ⟨p1, p2⟩ := hpl (.inr k8)
        have hnx : nextL i o = [i + 1, o.n.toNat] := by simp [nextL, k8]
        have hon : ((o.n.toNat : Nat) : Int) = o.n := by omega
        rw [k8] at hc0
        simp (maxDischargeDepth := 99) [-writeAt, cRHeights_2, hlen, f0, f1, f2, f7, f8, f10, f11, hlti, hlti1, hlt, hit2, ho, ins_take, Ins.cells_len, hq, hrd, hasks, hmay, c3, hwa, hwb, mms, mm_max, c4', hc0, hc1, ← hτ1, srcLen, srcCells, hg1, hw']
        refine hap.mono ?_
        rintro v τ2 ⟨q1, q2, rfl, q3⟩
        have hq2 : τ2.get q = some ⟨tcellsI tall, .own⟩ := by rw [q3 q (by have := hk1.1; omega) (fun o e k c he => by cases he), hk1.2 q hql]; exact hq
        obtain ⟨τ3, hτ3⟩ : ∃ τ3, τ3 = τ2.alloc ⟨[.int .i64 o.n], .own⟩ := ⟨_, rfl⟩
        have hk3 : Keeps τ2 τ3 := by rw [hτ3]; exact (Keeps.refl τ2).alloc
        have hg3 : τ3.get τ2.size = some ⟨[.int .i64 o.n], .own⟩ := by rw [hτ3]; simp
        have q4 := q1.stay (τ' := τ3) (fun id _ h2 => hk3.2 id h2)
        have hap2 := append_own (bytes := 8) (vs := [.int .i64 o.n]) q4 (by have := hk3.1; omega) (by omega) rfl (by decide) (by decide)
        simp (maxDischargeDepth := 99) [-writeAt, hlen, f0, f11, hlti, hlt, ho, ins_take, Ins.cells_len, hc0, hc1, ← hτ3, srcLen, srcCells, hg3]
        refine hap2.mono ?_
        rintro v τ4 ⟨q5, q6, rfl, q7⟩
        have hq4 : τ4.get q = some ⟨tcellsI tall, .own⟩ := by rw [q7 q (by have := hk1.1; have := hk3.1; omega) (fun o e k c he => by cases he; have := hk1.1; omega), hk3.2 q (AHeap.get_lt hq2)]; exact hq2
        obtain ⟨e1, e2 | ⟨x, e2, e3, e4, e5⟩⟩ := q5
        · exact absurd e2.2 (by omega)
        cases e2
        simp (maxDischargeDepth := 99) [-writeAt, hlen]
        refine endsi_to 4 (fun fr τ => ∃ t, NSt ops f a q τ3.size i y (max most y) [i + 1, o.n.toNat] fr τ t ∧ TallOk ops.length t ∧ goR ops.length f a (ops.drop (i + 1)) (i + 1) t (max most y) = goR ops.length f a ops 0 (tall0 ops.length) 0) ?_ ?_
        · refine hfin _ hnx _ _ τ3.size ⟨by simp [hlen], by simp [hlen, f0], by simp [hlen, f1], by simp [hlen, f2], by simp [hlen, f7], by simp [hlen, f8], by simp [hlen], by simp [hlen, f11], by simp [hlen], by simp [hlen], by have := hk1.1; have := hk3.1; omega, hq4, ?_, htall.1⟩ ?_ ?_ (by simp [hlen])
          · rw [e5]; simp [tcellsI, hon]
          · intro p hp; simp at hp; omega
          · exact (by decide : (2 : Nat) ≤ maxElems)
        · intro fr τ hx
          have hx' := hx
          obtain ⟨t, st, _⟩ := hx'
          simp (maxDischargeDepth := 99) [st.hlen, st.f11, hw]
          exact hend _ _ _ _ hx _ (by simp [st.hlen]) (by intro k hk; simp at hk; rcases hk with rfl | rfl | rfl | rfl | rfl | rfl <;> simp [st.hlen]) (by simp [st.hlen])

      · have hnx : nextL i o = [i + 1] := by simp [nextL, k7, k8]
        simp (maxDischargeDepth := 99) [-writeAt, cRHeights_2, hlen, f0, f1, f2, f7, f8, f10, f11, hlti, hlti1, hlt, hit2, ho, ins_take, Ins.cells_len, hq, hrd, hasks, hmay, c3, hwa, hwb, mms, mm_max, c4', hc0, hc1, ← hτ1, srcLen, srcCells, hg1, hw', k7, k8]
        refine hap.mono ?_
        rintro v τ2 ⟨q1, q2, rfl, q3⟩
        have hq2 : τ2.get q = some ⟨tcellsI tall, .own⟩ := by rw [q3 q (by have := hk1.1; omega) (fun o e k c he => by cases he), hk1.2 q hql]; exact hq
        obtain ⟨e1, e2 | ⟨x, e2, e3, e4, e5⟩⟩ := q1
        · exact absurd e2.2 (by omega)
        cases e2
        simp (maxDischargeDepth := 99) [-writeAt, hlen, f0, f11, hlti, hlt, ho, ins_take, Ins.cells_len, hc0, k7, k8]
        refine endsi_to 4 (fun fr τ => ∃ t, NSt ops f a q τ1.size i y (max most y) [i + 1] fr τ t ∧ TallOk ops.length t ∧ goR ops.length f a (ops.drop (i + 1)) (i + 1) t (max most y) = goR ops.length f a ops 0 (tall0 ops.length) 0) ?_ ?_
        · refine hfin _ hnx _ _ τ1.size ⟨by simp [hlen], by simp [hlen, f0], by simp [hlen, f1], by simp [hlen, f2], by simp [hlen, f7], by simp [hlen, f8], by simp [hlen], by simp [hlen, f11], by simp [hlen], by simp [hlen], by have := hk1.1; omega, hq2, ?_, htall.1⟩ ?_ ?_ (by simp [hlen])
          · rw [e5]; simp [tcellsI]
          · intro p hp; simp at hp; omega
          · exact (by decide : (1 : Nat) ≤ maxElems)
        · intro fr τ hx
          have hx' := hx
          obtain ⟨t, st, _⟩ := hx'
          simp (maxDischargeDepth := 99) [st.hlen, st.f11, hw]
          exact hend _ _ _ _ hx _ (by simp [st.hlen]) (by intro k hk; simp at hk; rcases hk with rfl | rfl | rfl | rfl | rfl | rfl <;> simp [st.hlen]) (by simp [st.hlen])

end Go.Proofs.YtdpfgdmlmkpmbaaGreatDoor.Ab

/- The document's heights, whole; its Check, Depth, Same. -/
namespace Go.Proofs.YtdpfgdmlmkpmbaaGreatDoor.Ab
open Go
set_option maxRecDepth 20000
set_option maxHeartbeats 16000000
set_option linter.unusedSimpArgs false

/-- Ahead of the i-th place that is written with -1. -/
def IR0 (ops : List Ins) (f a : Int) (i : Nat) (fr : List AV) (τ : AHeap) : Prop :=
  fr.length = 148 ∧ getSlot fr 0 = .one (.lst (ops.map Ins.cells)) ∧ getSlot fr 1 = .one (.int .i64 f) ∧ getSlot fr 2 = .one (.int .i64 a) ∧ getSlot fr 7 = .one (.int .i64 ops.length) ∧ getSlot fr 9 = .one (.int .i64 i) ∧
    ∃ s, getSlot fr 8 = s ∧ OutSl 0 τ 1 s (tcellsI (List.replicate i (-1))) i
theorem tc_snoc (i : Nat) : tcellsI (List.replicate i (-1)) ++ [SV.int .i64 (-1)] = tcellsI (List.replicate (i + 1) (-1)) := by
  rw [List.replicate_succ']
  simp [tcellsI]
theorem eq_heightsRef (σ : AHeap) (s : AV) (ops : List Ins) (ids : List Nat) (f a : Int) (hs : frzDA frzDepth σ s = some (.one (.lst (ops.map Ins.cells)), ids)) (hm : ops.length ≤ maxElems) :
    lim TyD 26 [s, .one (.int .i64 f), .one (.int .i64 a)] σ = some (.one (.int .i64 (heightsR ops f a)), σ) := by
  refine lim_rd (args' := [.one (.lst (ops.map Ins.cells)), .one (.int .i64 f), .one (.int .i64 a)]) (ids := ids ++ ([] ++ ([] ++ []))) (TyD_prim rfl) ((TyD_code _).trans codeRHeights) rfl (by simp [hs]) ?_ rfl
  unfold BodyP
  have hm' : ops.length ≤ 4294967296 := hm
  by_cases h0 : ops.length = 0
  · have : ops = [] := List.length_eq_zero_iff.1 h0
    subst this
    simp (maxDischargeDepth := 99) [cRHeights, heightsR]
  have h0' : ¬ (ops.length : Int) = 0 := by omega
  have h0'' : ¬ ops = [] := fun e => h0 (by rw [e]; rfl)
  by_cases h1 : 4096 < ops.length
  · have h1' : (4096 : Int) < (ops.length : Int) := by omega
    have hF : heightsR ops f a = 0 := by unfold heightsR; rw [if_pos (.inr h1)]
    simp (maxDischargeDepth := 99) [cRHeights, h0', h1', h0'', hF]
  have h1' : ¬ (4096 : Int) < (ops.length : Int) := by omega
  simp (maxDischargeDepth := 99) [-writeAt, cRHeights, h0', h1', h0'']
  refine endsi_to 0 (IR0 ops f a (ops.length + 1)) ?_ ?_
  · refine endsi_range (ops.length + 1) (IR0 ops f a) ?_ ?_ ?_
    · exact ⟨by simp, by simp, by simp, by simp, by simp, by simp, .one .nilSlice, by simp, OutSl.nil _ _ _⟩
    · rintro i fr τ hlt ⟨hlen, f0, f1, f2, f7, f9, s, f8, hsl⟩
      have hw : wr .i64 ((i : Int) + 1) = (i : Int) + 1 := wr64 (by omega) (by omega)
      have hle : (i : Int) ≤ (ops.length : Int) := by omega
      obtain ⟨τ1, hτ1⟩ : ∃ τ1, τ1 = τ.alloc ⟨[.int .i64 (-1)], .own⟩ := ⟨_, rfl⟩
      have hk1 : Keeps τ τ1 := by rw [hτ1]; exact (Keeps.refl τ).alloc
      have hg1 : τ1.get τ.size = some ⟨[.int .i64 (-1)], .own⟩ := by rw [hτ1]; simp
      have hsl1 := hsl.stay (τ' := τ1) (fun id _ h2 => hk1.2 id h2)
      have hap := append_own (bytes := 8) (vs := [.int .i64 (-1)]) hsl1 (Nat.zero_le _) (by omega) rfl (by unfold maxElems; omega) (by decide)
      simp (maxDischargeDepth := 99) [-writeAt, cRHeights_0, hlen, f7, f8, f9, hle, ← hτ1, srcLen, srcCells, hg1]
      refine hap.mono ?_
      rintro v τ2 ⟨q1, q2, rfl, q3⟩
      rw [tc_snoc] at q1
      simp (maxDischargeDepth := 99) [-writeAt, hlen, f9, hw]
      exact ⟨by simp [hlen], by simp [hlen, f0], by simp [hlen, f1], by simp [hlen, f2], by simp [hlen, f7], by simp [hlen], _, by simp [hlen], q1⟩
    · rintro fr τ ⟨hlen, f0, f1, f2, f7, f9, s, f8, hsl⟩
      have hnl : ¬ ((ops.length : Int) + 1 ≤ (ops.length : Int)) := by omega
      simp (maxDischargeDepth := 99) [cRHeights_0, hlen, f7, f9, hnl]
      exact ⟨by simp [hlen], by simp [hlen, f0], by simp [hlen, f1], by simp [hlen, f2], by simp [hlen, f7], by simp [hlen, f9], s, by simp [hlen, f8], hsl⟩
  · rintro fr τ ⟨hlen, f0, f1, f2, f7, f9, s, f8, hsl⟩
    obtain ⟨e1, e2 | ⟨q, rfl, e3, e4, e5⟩⟩ := hsl
    · exact absurd e2.2 (by omega)
    have hwr := writeI e5 (i := 0) (by simp) 0
    have hql := AHeap.get_lt e5
    have hl1 : (0 : Int) < (ops.length : Int) + 1 := by omega
    have hq1 : (τ.put q ⟨tcellsI ((List.replicate (ops.length + 1) (-1)).set 0 0), .own⟩).get q = some ⟨tcellsI (tall0 ops.length), .own⟩ := by simp [hql, tall0]
    generalize τ.put q ⟨tcellsI ((List.replicate (ops.length + 1) (-1)).set 0 0), .own⟩ = τ1 at hwr hq1
    simp (maxDischargeDepth := 99) [-writeAt, hlen, f8, hwr, hl1]
    refine endsi_to 2 (fun fr τ => IR ops f a q ops.length fr τ) ?_ ?_
    · refine endsi_range ops.length (IR ops f a q) ?_ ?_ ?_
      · exact ⟨tall0 ops.length, 0, by simp [hlen], by simp [hlen, f0], by simp [hlen, f1], by simp [hlen, f2], by simp [hlen, f7], by simp [hlen, f8], by simp [hlen], by simp [hlen], hq1, tall0_ok _, rfl⟩
      · intro i fr τ hlt hI
        refine stepRef ops f a q h0 (by omega) i fr τ hlt hI _ _ ?_
        intro fr τ q1 q2 q3
        rw [q3]
        simp [q1, q2]
      · intro fr τ hI
        have hI' := hI
        obtain ⟨tall, most, hlen, f0, f1, f2, f7, f8, f10, f11, _⟩ := hI'
        simp (maxDischargeDepth := 99) [cRHeights_2, hlen, f7, f11]
        obtain ⟨tall, most, hlen, f0, f1, f2, f7, f8, f10, f11, q1, q2, q3⟩ := hI
        exact ⟨tall, most, by simp [hlen], by simp [hlen, f0], by simp [hlen, f1], by simp [hlen, f2], by simp [hlen, f7], by simp [hlen, f8], by simp [hlen, f10], by simp [hlen, f11], q1, q2, q3⟩
    · rintro fr τ ⟨tall, most, hlen, f0, f1, f2, f7, f8, f10, f11, q1, q2, q3⟩
      rw [List.drop_length] at q3
      have hF := heightsR_some h0 (by omega) q3.symm
      have hrd := readI (l := tall) (i := ops.length) (by rw [q2.1]; omega)
      have hl2 : (ops.length : Int) < (ops.length : Int) + 1 := by omega
      rw [hF]
      by_cases h9 : tall.getD ops.length 0 = 1
      · rw [if_pos h9]
        rw [h9] at hrd
        simp (maxDischargeDepth := 99) [hlen, f7, f8, f10, q1, hrd, hl2]
      · rw [if_neg h9]
        generalize tall.getD ops.length 0 = z at hrd h9
        simp (maxDischargeDepth := 99) [hlen, f7, f8, f10, q1, hrd, hl2, h9]

theorem eq_checkR (σ : AHeap) (s : AV) (ops : List Ins) (ids : List Nat) (f a : Int) (hs : frzDA frzDepth σ s = some (.one (.lst (ops.map Ins.cells)), ids)) (hm : ops.length ≤ maxElems) :
    lim TyD 14 [s, .one (.int .i64 f), .one (.int .i64 a)] σ = some (.one (.int .i64 (if heightsR ops f a = 0 then 120 else 0)), σ) := by
  refine lim_rd (args' := [.one (.lst (ops.map Ins.cells)), .one (.int .i64 f), .one (.int .i64 a)]) (ids := ids ++ ([] ++ ([] ++ []))) (TyD_prim rfl) ((TyD_code _).trans codeRCheck) rfl (by simp [hs]) ?_ rfl
  unfold BodyP
  have hh := fun σ => eq_heightsRef σ _ ops [] f a (frz_inlst σ ops) hm
  by_cases h : heightsR ops f a = 0
  · rw [if_pos h]
    rw [h] at hh
    simp (maxDischargeDepth := 99) [cRCheck, hh]
  · rw [if_neg h]
    generalize heightsR ops f a = z at hh h
    simp (maxDischargeDepth := 99) [cRCheck, hh, h]
theorem eq_depthR (σ : AHeap) (s : AV) (ops : List Ins) (ids : List Nat) (hs : frzDA frzDepth σ s = some (.one (.lst (ops.map Ins.cells)), ids)) (hm : ops.length ≤ maxElems) :
    lim TyD 16 [s] σ = some (.one (.int .i64 (heightsR ops 9223372036854775807 9223372036854775807)), σ) := by
  refine lim_rd (args' := [.one (.lst (ops.map Ins.cells))]) (ids := ids ++ []) (TyD_prim rfl) ((TyD_code _).trans codeRDepth) rfl (by simp only [frzDAs, hs]) ?_ rfl
  unfold BodyP
  have hh := fun σ => eq_heightsRef σ _ ops [] 9223372036854775807 9223372036854775807 (frz_inlst σ ops) hm
  simp (maxDischargeDepth := 99) [cRDepth, hh]
theorem stepH_over {n i : Nat} {o : Ins} {tall : List Int} (h : overB o 9223372036854775807 9223372036854775807 = true) : stepH n i o tall = none := by
  have hm : mayB o i n = false := by
    unfold overB at h
    unfold mayB
    by_cases k2 : o.kind = 2
    · simp [k2] at h
      have : ¬ o.n < 9223372036854775807 := by omega
      simp [k2, this]
    · simp [k2] at h
      obtain ⟨k9, h⟩ := h
      have : ¬ o.n < 9223372036854775807 := by omega
      simp [k9, this]
  unfold stepH
  rw [hm]
  by_cases h0 : tall.getD i 0 < 0
  · simp [h0]
  · simp [h0]
theorem goH_over {n : Nat} : ∀ (l : List Ins) (i : Nat) (tall : List Int) (m : Int), l.any (fun o => overB o 9223372036854775807 9223372036854775807) = true → goH n l i tall m = none
  | [], _, _, _, h => by cases h
  | o :: l, i, tall, m, h => by
    rw [List.any_cons, Bool.or_eq_true] at h
    rw [goH]
    rcases h with h | h
    · rw [stepH_over h]
    · cases stepH n i o tall with
      | none => rfl
      | some r => exact goH_over l _ _ _ h
/-- The two depths are one: what is over the greatest number may not be at all. -/
theorem depth_same (ops : List Ins) : heightsR ops 9223372036854775807 9223372036854775807 = depthF ops := by
  rw [heightsR_eq ops (by omega) (by omega)]
  cases hb : ops.any (fun o => overB o 9223372036854775807 9223372036854775807) with
  | false => simp
  | true =>
    rw [if_pos rfl]
    unfold depthF heightsF
    rw [goH_over ops _ _ _ hb]
    split <;> simp
theorem eq_sameL (σ : AHeap) (s : AV) (ops : List Ins) (ids : List Nat) (hs : frzDA frzDepth σ s = some (.one (.lst (ops.map Ins.cells)), ids)) (hm : ops.length ≤ maxElems) :
    lim TyD 11 [s, .one (.lst (ops.map Ins.cells))] σ = some (.one (.bool true), σ) := by
  refine lim_rd (args' := [.one (.lst (ops.map Ins.cells)), .one (.lst (ops.map Ins.cells))]) (ids := ids ++ ([] ++ [])) (TyD_prim rfl) ((TyD_code _).trans codeRSame12) rfl (by simp only [frzDAs, hs, frz_inlst]) ?_ rfl
  unfold BodyP
  simp (maxDischargeDepth := 99) [cRSame12]
  refine endsi_to 0 (fun fr τ => fr.length = 26) ?_ ?_
  · refine endsi_range ops.length (fun i fr τ => fr.length = 26 ∧ getSlot fr 0 = .one (.lst (ops.map Ins.cells)) ∧ getSlot fr 1 = .one (.lst (ops.map Ins.cells)) ∧ getSlot fr 5 = .one (.int .i64 i)) ?_ ?_ ?_
    · simp
    · rintro i fr τ hlt ⟨hlen, f0, f1, f5⟩
      have hw := wr_next hlt hm
      obtain ⟨o, ho⟩ : ∃ o, ops[i] = o := ⟨_, rfl⟩
      have hlti : (i : Int) < (ops.length : Int) := by omega
      simp (maxDischargeDepth := 99) [cRSame12_0, hlen, f0, f1, f5, hlt, hlti, ho, ins_take, Ins.cells, hw, beqL_refl]
    · rintro fr τ ⟨hlen, f0, f1, f5⟩
      simp (maxDischargeDepth := 99) [cRSame12_0, hlen, f0, f5]
  · rintro fr τ hlen
    simp (maxDischargeDepth := 99) [hlen]
end Go.Proofs.YtdpfgdmlmkpmbaaGreatDoor.Ab

/- The law of Checks walked. -/
namespace Go.Proofs.YtdpfgdmlmkpmbaaGreatDoor.Ab
open Go
set_option maxRecDepth 20000
set_option maxHeartbeats 8000000
set_option linter.unusedSimpArgs false

noncomputable def ckPrims : List (Nat × Prim) := [(12, pBool true), (13, fun args σ => lim TyD 13 args σ), (15, fun args σ => lim TyD 15 args σ),
  (14, fun args σ => lim TyD 14 args σ), (16, fun args σ => lim TyD 16 args σ), (11, fun args σ => lim TyD 11 args σ)]
noncomputable def CkC : Ctx := ⟨codeOf, primAt ckPrims, fun _ => .no⟩
theorem CkC_good : CkC.Good Tryz.prog where
  code := fun f F h => codeOf_good h
  prim := fun f p h => primAt_ok (l := ckPrims) (fun g p hm => by
    simp only [ckPrims, List.mem_cons, Prod.mk.injEq, List.not_mem_nil, or_false] at hm
    rcases hm with ⟨rfl, rfl⟩ | ⟨rfl, rfl⟩ | ⟨rfl, rfl⟩ | ⟨rfl, rfl⟩ | ⟨rfl, rfl⟩ | ⟨rfl, rfl⟩
    · exact primOk_closed CdM_good sure12_runs
    all_goals exact primOk_limC TyD_good _) f p h
theorem CkC_sure (σ : AHeap) : lim CkC 12 [] σ = some (.one (.bool true), σ) := (lim_prim (p := pBool true) rfl).trans rfl
theorem CkC_check (σ : AHeap) (args : List AV) : lim CkC 13 args σ = lim TyD 13 args σ := lim_prim (p := fun args σ => lim TyD 13 args σ) rfl
theorem CkC_depth (σ : AHeap) (args : List AV) : lim CkC 15 args σ = lim TyD 15 args σ := lim_prim (p := fun args σ => lim TyD 15 args σ) rfl
theorem CkC_checkR (σ : AHeap) (args : List AV) : lim CkC 14 args σ = lim TyD 14 args σ := lim_prim (p := fun args σ => lim TyD 14 args σ) rfl
theorem CkC_depthR (σ : AHeap) (args : List AV) : lim CkC 16 args σ = lim TyD 16 args σ := lim_prim (p := fun args σ => lim TyD 16 args σ) rfl
theorem CkC_same (σ : AHeap) (args : List AV) : lim CkC 11 args σ = lim TyD 11 args σ := lim_prim (p := fun args σ => lim TyD 11 args σ) rfl

theorem append_all (σ : AHeap) (ops : List Ins) (hm : ops.length ≤ maxElems) :
    OptP (appendA σ 6 64 (.one .nilSlice) ops.length (icells ops)) (fun _ v τ => ∃ s, v = .one s ∧ OutSl 0 τ 6 (.one s) (icells ops) ops.length) := by
  cases ops with
  | nil => exact ⟨_, _, rfl, _, rfl, OutSl.nil _ _ _⟩
  | cons o l =>
    have hb : (64 : Nat) ≤ maxBytes := by decide
    have hl := icells_len (o :: l)
    generalize icells (o :: l) = cs at hl ⊢
    simp only [List.length_cons] at hm hl ⊢
    simp [appendA, appendK, hm, hb]
    exact ⟨hl, .inr ⟨_, rfl, by omega, Nat.zero_le _, by simp⟩⟩
theorem srcLen_ins (ops : List Ins) : srcLen (.one (.lst (ops.map Ins.cells))) = some ops.length := by simp [srcLen]
theorem srcCells_ins (σ : AHeap) (ops : List Ins) : srcCells σ 6 ops.length (.one (.lst (ops.map Ins.cells))) = some (icells ops) := by
  have hl := icells_len ops
  have h1 : List.take ops.length (ops.map Ins.cells) = ops.map Ins.cells := List.take_of_length_le (by simp)
  unfold icells at hl
  simp only [srcCells, h1, hl, List.length_map]
  rw [Nat.ble_self_eq_true, show Nat.beq (ops.length * 6) (ops.length * 6) = true from Nat.beq_refl _]
  rfl

theorem law_checks (ops : List Ins) (f a : Int) (hm : ops.length ≤ maxElems) (hf : f ≤ 9223372036854775807) (ha : a ≤ 9223372036854775807) :
    ∃ σ', lim CkC 4 [.one (.lst (ops.map Ins.cells)), .one (.int .i64 f), .one (.int .i64 a)] emptyH = some (.one (.bool true), σ') := by
  have key : OptP (lim CkC 4 [.one (.lst (ops.map Ins.cells)), .one (.int .i64 f), .one (.int .i64 a)] emptyH) (fun _ v _ => v = .one (.bool true)) := by
    refine lim_code rfl (show codeOf 4 = _ from codeLawChecks) rfl ?_
    unfold BodyP
    have hap := append_all emptyH ops hm
    simp (maxDischargeDepth := 99) [cLawChecks, srcLen_ins, srcCells_ins]
    refine hap.mono ?_
    rintro v τ ⟨s, rfl, hsl⟩
    obtain ⟨ids, hfr⟩ := frz_out hsl
    have h1 := (CkC_check τ _).trans (eq_checkP τ _ ops ids f a hfr hm)
    have h2 := (CkC_checkR τ _).trans (eq_checkR τ _ ops [] f a (frz_inlst τ ops) hm)
    have h3 := (CkC_depth τ _).trans (eq_depthP τ _ ops ids hfr hm)
    have h4 := (CkC_depthR τ _).trans (eq_depthR τ _ ops [] (frz_inlst τ ops) hm)
    have h5 := (CkC_same τ _).trans (eq_sameL τ _ ops ids hfr hm)
    rw [check_eq ops hf ha] at h1
    rw [depth_same] at h4
    generalize depthF ops = d at h3 h4
    generalize (if heightsR ops f a = 0 then (120 : Int) else 0) = c at h1 h2
    simp (maxDischargeDepth := 99) [h1, h2, h3, h4, h5, CkC_sure]
  obtain ⟨v, σ', h1, rfl⟩ := key
  exact ⟨σ', h1⟩
end Go.Proofs.YtdpfgdmlmkpmbaaGreatDoor.Ab
