/- Several of my texts in one: Ty33, Ty34, Ty35, Ty36, Ty37, Ty38. -/
import Derived.Test.YtlgdhnjmmahgdaaGreatDoorTyH
import Derived.Test.YtlgdhnjmmahgdaaGreatDoorTyB
import Derived.Test.YtlgdhnjmmahgdaaGreatDoorAbD
import Derived.Test.YtlgdhnjmmahgdaaGreatDoorLitTy
import Derived.Test.YtlgdhnjmmahgdaaGreatDoorTyI
import Derived.Test.YtlgdhnjmmahgdaaGreatDoorTyF
/- An aggregate is refused where none may stand; without one a type is the same in either case. -/
namespace Go.Proofs.YtlgdhnjmmahgdaaGreatDoor.Ab
open Go
set_option maxRecDepth 20000
set_option maxHeartbeats 8000000
set_option linter.unusedSimpArgs false

mutual
def noAgg : T → Bool
  | .mk k _ _ _ l => !decide (k = 14) && noAggL l
def noAggL : List T → Bool
  | [] => true
  | t :: l => noAgg t && noAggL l
end
theorem noAggL_all : ∀ l, noAggL l = l.all noAgg
  | [] => rfl
  | t :: l => by rw [noAggL, List.all_cons, noAggL_all l]
theorem noAgg_eq (t : T) : noAgg t = (!decide (t.kind = 14) && t.kids.all noAgg) := by
  cases t with
  | mk k s n a l => rw [noAgg, noAggL_all]; rfl

/-! ### without an aggregate -/
theorem nodeS_aggs (F : List Fld) (t : T) (ins : Bool) (st : CSt) (a b c d : List Int × CSt) (h : ¬ t.kind = 14) : nodeS F true t ins st a b c = nodeS F false t ins st a b d := by
  unfold nodeS
  simp only [if_neg h]
mutual
theorem expS_noAgg (F : List Fld) : ∀ (t : T) (ins : Bool) (st : CSt), noAgg t = true → expS F true t ins st = expS F false t ins st
  | .mk k s n a l, ins, st, h => by
    rw [noAgg, Bool.and_eq_true, Bool.not_eq_true', decide_eq_false_iff_not] at h
    rw [expS, expS, expL_noAgg F l ins st h.2, expC_noAgg F _ _ l ins st h.2, nodeS_aggs F (.mk k s n a l) ins st _ _ _ (expL F false l true st) h.1]
theorem expL_noAgg (F : List Fld) : ∀ (l : List T) (ins : Bool) (st : CSt), noAggL l = true → expL F true l ins st = expL F false l ins st
  | [], _, _, _ => by rw [expL, expL]
  | t :: l, ins, st, h => by
    rw [noAggL, Bool.and_eq_true] at h
    rw [expL, expL, expS_noAgg F t ins st h.1, expL_noAgg F l _ _ h.2]
theorem expC_noAgg (F : List Fld) (last : Int) (i : Nat) : ∀ (l : List T) (ins : Bool) (st : CSt), noAggL l = true → expC F true last i l ins st = expC F false last i l ins st
  | [], _, _, _ => by rw [expC, expC]
  | t :: l, ins, st, h => by
    rw [noAggL, Bool.and_eq_true] at h
    rw [expC, expC, expS_noAgg F t ins st h.1, expC_noAgg F last (i + 1) l _ _ h.2, expC_noAgg F last (i + 1) l _ _ h.2]
end
theorem tyExpr_noAgg (F : List Fld) (t : T) (h : noAgg t = true) : tyExpr F true t = tyExpr F false t := by
  unfold tyExpr
  rw [expS_noAgg F t false ⟨0, 0⟩ h]

/-! ### with one -/
theorem failS_err {st : CSt} {e : Int} {n : T} (h : ¬ st.err = 0) : ¬ (failS st e n).err = 0 := by
  unfold failS
  rw [if_neg h]
  exact h
theorem failS_new {st : CSt} {e : Int} {n : T} (h : ¬ e = 0) : ¬ (failS st e n).err = 0 := by
  unfold failS
  split
  · exact h
  · assumption
theorem unS_err {n : T} {k : Int} {st : CSt} (h : ¬ st.err = 0) : ¬ (unS n k st).2.err = 0 := by
  unfold unS
  repeat' split
  all_goals first | exact h | exact failS_err h
theorem binS_err {n : T} {a b : Int} {st : CSt} (h : ¬ st.err = 0) : ¬ (binS n a b st).2.err = 0 := by
  unfold binS
  repeat' split
  all_goals first | exact h | exact failS_err h
theorem amongS_err {n : T} {l : List Int} {st : CSt} (h : ¬ st.err = 0) : ¬ (amongS n l st).2.err = 0 := by
  unfold amongS
  repeat' split
  all_goals first | exact h | exact failS_err h
theorem casesS_err {n : T} {l : List Int} {st : CSt} (h : ¬ st.err = 0) : ¬ (casesS n l st).2.err = 0 := by
  unfold casesS
  repeat' split
  all_goals first | exact h | exact failS_err h
theorem callS_err {n : T} {l : List Int} {st : CSt} (h : ¬ st.err = 0) : ¬ (callS n l st).2.err = 0 := by
  unfold callS
  repeat' split
  all_goals first | exact h | exact failS_err h
theorem caseN_err {r : Int × CSt} {t : T} (h : ¬ r.2.err = 0) : ¬ (caseN r t).err = 0 := by
  unfold caseN
  split
  · exact h
  · exact failS_err h
theorem expS_stays (F : List Fld) (aggs : Bool) (t : T) (ins : Bool) (st : CSt) (h : ¬ st.err = 0) : ¬ (expS F aggs t ins st).2.err = 0 := by
  rw [expS_eq, if_neg h]
  exact h
theorem kindsS_stays (F : List Fld) (aggs ins : Bool) : ∀ (l : List T) (st : CSt), ¬ st.err = 0 → ¬ (kindsS (fun t st => expS F aggs t ins st) l st).2.err = 0
  | [], _, h => h
  | t :: l, st, h => kindsS_stays F aggs ins l _ (expS_stays F aggs t ins st h)
theorem caseS_stays (F : List Fld) (aggs ins : Bool) (last : Int) : ∀ (l : List T) (i : Nat) (st : CSt), ¬ st.err = 0 → ¬ (caseS (fun t st => expS F aggs t ins st) last i l st).2.err = 0
  | [], _, _, h => h
  | t :: l, i, st, h => by
    unfold caseS
    split
    · exact caseS_stays F aggs ins last l _ _ (caseN_err (expS_stays F aggs t ins st h))
    · exact caseS_stays F aggs ins last l _ _ (expS_stays F aggs t ins st h)
/-- One of these trees is refused. -/
def Bad (F : List Fld) (t : T) : Prop := ∀ ins st, ¬ (expS F false t ins st).2.err = 0
theorem kindsS_bad (F : List Fld) (ins : Bool) : ∀ (l : List T) (st : CSt), (∃ u ∈ l, Bad F u) → ¬ (kindsS (fun t st => expS F false t ins st) l st).2.err = 0
  | [], _, h => by obtain ⟨u, hu, _⟩ := h; cases hu
  | t :: l, st, h => by
    obtain ⟨u, hu, hb⟩ := h
    rcases List.mem_cons.1 hu with rfl | hu
    · exact kindsS_stays F false ins l _ (hb ins st)
    · exact kindsS_bad F ins l _ ⟨u, hu, hb⟩
theorem caseS_bad (F : List Fld) (ins : Bool) (last : Int) : ∀ (l : List T) (i : Nat) (st : CSt), (∃ u ∈ l, Bad F u) → ¬ (caseS (fun t st => expS F false t ins st) last i l st).2.err = 0
  | [], _, _, h => by obtain ⟨u, hu, _⟩ := h; cases hu
  | t :: l, i, st, h => by
    obtain ⟨u, hu, hb⟩ := h
    unfold caseS
    rcases List.mem_cons.1 hu with rfl | hu
    · split
      · exact caseS_stays F false ins last l _ _ (caseN_err (hb ins st))
      · exact caseS_stays F false ins last l _ _ (hb ins st)
    · split
      · exact caseS_bad F ins last l _ _ ⟨u, hu, hb⟩
      · exact caseS_bad F ins last l _ _ ⟨u, hu, hb⟩
theorem name_noAgg {t : T} (h : nameT t = true) : noAgg t = true := by
  simp only [nameT, Bool.and_eq_true, decide_eq_true_eq] at h
  rw [noAgg_eq, List.eq_nil_of_length_eq_zero (show t.kids.length = 0 by omega)]
  simp [h.1]
theorem leaf_noAgg {t : T} (h : leafB t = true) : noAgg t = true := by
  have hk := leaf_kind h
  rw [noAgg_eq, Bool.and_eq_true]
  refine ⟨by simp; omega, ?_⟩
  have h0 : ∀ x : Bool, (t.kids.length : Int) = 0 → t.kids.all noAgg = true := fun _ h => by rw [List.eq_nil_of_length_eq_zero (show t.kids.length = 0 by omega)]; rfl
  unfold leafB at h
  split at h
  · simp only [bareB, Bool.and_eq_true, decide_eq_true_eq] at h
    exact h0 true h.2
  · split at h
    · simp only [Bool.and_eq_true, decide_eq_true_eq] at h
      exact h0 true h.2.2
    · split at h
      · simp only [Bool.and_eq_true, decide_eq_true_eq] at h
        exact h0 true h.2.2
      · split at h
        · simp only [Bool.and_eq_true, decide_eq_true_eq] at h
          exact h0 true h.2.1
        · split at h
          · simp only [Bool.and_eq_true, decide_eq_true_eq] at h
            rw [List.all_eq_true]
            exact fun u hu => name_noAgg (List.all_eq_true.1 h.2.2.2 u hu)
          · cases h
theorem expr_bad (F : List Fld) (N : Nat) : ∀ t : T, t.size ≤ N → exprB t = true → noAgg t = false → Bad F t := by
  induction N with
  | zero => intro t h; have := t.size_pos; omega
  | succ N ih =>
    intro t ht hx hn ins st
    rw [expS_eq]
    by_cases he : st.err = 0
    · rw [if_pos he]
      rw [exprB_eq, Bool.or_eq_true, Bool.and_eq_true] at hx
      rcases hx with hl | ⟨hh, hall⟩
      · rw [leaf_noAgg hl] at hn; cases hn
      · have hk := head_kind hh
        have n2 : ¬ t.kind = 2 := by omega
        have n3 : ¬ t.kind = 3 := by omega
        have n4 : ¬ t.kind = 4 := by omega
        have n5 : ¬ t.kind = 5 := by omega
        have n6 : ¬ t.kind = 6 := by omega
        unfold nodeS
        rw [if_neg n2, if_neg n3, if_neg n4, if_neg n5, if_neg n6]
        by_cases k14 : t.kind = 14
        · simp only [k14]
          exact failS_new (by decide)
        · have hb : ∃ u ∈ t.kids, Bad F u := by
            rw [noAgg_eq, Bool.and_eq_false_iff] at hn
            rcases hn with hn | hn
            · simp [k14] at hn
            · rw [List.all_eq_false] at hn
              obtain ⟨u, hu, h1⟩ := hn
              exact ⟨u, hu, ih u (by have := t.size_kid hu; omega) (List.all_eq_true.1 hall u hu) (by simpa using h1)⟩
          have h1 := kindsS_bad F ins t.kids st hb
          have h2 := caseS_bad F ins ((t.kids.length : Int) - 1) t.kids 0 st hb
          repeat' split
          all_goals first
            | exact unS_err h1
            | exact binS_err h1
            | exact h1
            | exact amongS_err h1
            | exact casesS_err h2
            | exact callS_err h1
            | omega
    · rw [if_neg he]
      exact he
theorem tyExpr_bad (F : List Fld) (t : T) (h : noAgg t = false) : ¬ (tyExpr F false t).2.2 = 0 := by
  unfold tyExpr
  cases hx : exprB t with
  | false =>
    rw [if_neg (by decide)]
    show ¬ (60 : Int) = 0
    decide
  | true =>
    have := expr_bad F t.size t (Nat.le_refl _) hx h false ⟨0, 0⟩
    rw [if_pos rfl, if_neg this]
    exact this
end Go.Proofs.YtlgdhnjmmahgdaaGreatDoor.Ab

/- The document's Same and Copy of trees. -/
namespace Go.Proofs.YtlgdhnjmmahgdaaGreatDoor.Ab
open Go
set_option maxRecDepth 20000
set_option maxHeartbeats 8000000
set_option linter.unusedSimpArgs false

mutual
def sameT : T → T → Bool
  | .mk k s n _ l, u => decide (k = u.kind) && (decide (s = u.text) && (decide (n = u.n) && (decide ((l.length : Int) = (u.kids.length : Int)) && sameL l u.kids)))
def sameL : List T → List T → Bool
  | [], _ => true
  | _ :: _, [] => true
  | t :: l, v :: m => sameT t v && sameL l m
end
theorem sameT_eq (t u : T) : sameT t u = (decide (t.kind = u.kind) && (decide (t.text = u.text) && (decide (t.n = u.n) && (decide ((t.kids.length : Int) = (u.kids.length : Int)) && sameL t.kids u.kids)))) := by
  cases t with
  | mk k s n a l => rw [sameT]; rfl
theorem eq_rsame (N : Nat) : ∀ (t u : T), t.size ≤ N → N ≤ maxElems → ∀ σ, lim TyD 47 [.agg t.cells, .agg u.cells] σ = some (.one (.bool (sameT t u)), σ) := by
  induction N with
  | zero => intro t u h; have := t.size_pos; omega
  | succ N ih =>
    intro t u ht hN σ
    refine lim_eq (TyD_prim rfl) ((TyD_code _).trans codeRSame) rfl ?_
    unfold BodyP
    rw [sameT_eq]
    have hK : t.kids.length ≤ maxElems := by have := t.kids_size; omega
    have hkid : ∀ v ∈ t.kids, ∀ w σ, lim TyD 47 [.agg v.cells, .agg w.cells] σ = some (.one (.bool (sameT v w)), σ) := fun v hv w σ => ih v w (by have := t.size_kid hv; omega) (by omega) σ
    clear ih
    generalize hL : t.kids = l at *
    generalize hM : u.kids = m at *
    rw [T.cells_eq t, T.cells_eq u, hL, hM]
    by_cases h1 : t.kind = u.kind
    · by_cases h2 : t.text = u.text
      · by_cases h3 : t.n = u.n
        · by_cases h4 : (l.length : Int) = (m.length : Int)
          · have h4' : l.length = m.length := by omega
            rw [h1, h2, h3]
            obtain ⟨τ, hτ⟩ : ∃ τ, τ = (σ.alloc ⟨[.int .i64 u.kind, .str u.text, .int .i64 u.n, .int .i64 t.at_, .lst (l.map T.cells)], .own⟩).alloc ⟨[.int .i64 u.kind, .str u.text, .int .i64 u.n, .int .i64 u.at_, .lst (m.map T.cells)], .own⟩ := ⟨_, rfl⟩
            have hkp : Keeps σ τ := by rw [hτ]; simp
            have g1 : τ.get σ.size = some ⟨[.int .i64 u.kind, .str u.text, .int .i64 u.n, .int .i64 t.at_, .lst (l.map T.cells)], .own⟩ := by rw [hτ]; simp
            have g2 : τ.get (σ.size + 1) = some ⟨[.int .i64 u.kind, .str u.text, .int .i64 u.n, .int .i64 u.at_, .lst (m.map T.cells)], .own⟩ := by rw [hτ]; simp
            generalize hR : sameL l m = R
            simp (maxDischargeDepth := 99) [cRSame, ← hτ, g1, g2, sbin, beqL_iff, h4, h4']
            refine endsi_range l.length (fun i fr τ' => τ' = τ ∧ fr.length = 53 ∧ getSlot fr 2 = .one (.ptr σ.size 0) ∧ getSlot fr 3 = .one (.ptr (σ.size + 1) 0) ∧ getSlot fr 5 = .one (.int .i64 i) ∧ sameL (l.drop i) (m.drop i) = R) ?_ ?_ ?_
            · simp [hR]
            · rintro i fr τ' hlt ⟨rfl, hlen, f2, f3, f5, hall⟩
              have hw := wr_next hlt hK
              have hltm : i < m.length := h4' ▸ hlt
              have hc := fun σ => hkid l[i] (List.getElem_mem hlt) m[i] σ
              rw [List.drop_eq_getElem_cons hlt, List.drop_eq_getElem_cons hltm] at hall
              simp only [sameL] at hall
              cases hb : sameT l[i] m[i] with
              | true =>
                rw [hb] at hc
                rw [hb, Bool.true_and] at hall
                simp (maxDischargeDepth := 99) [cRSame_0, hlen, f2, f3, f5, g1, g2, hlt, hltm, hc, hw, hall]
              | false =>
                rw [hb] at hc
                rw [hb, Bool.false_and] at hall
                simp (maxDischargeDepth := 99) [cRSame_0, hlen, f2, f3, f5, g1, g2, hlt, hltm, hc, hkp, ← hall]
            · rintro fr τ' ⟨rfl, hlen, f2, f3, f5, hall⟩
              rw [List.drop_length] at hall
              simp only [sameL] at hall
              simp (maxDischargeDepth := 99) [cRSame_0, hlen, f2, f5, g1, hkp, ← hall]
          · have h4' : ¬ l.length = m.length := by omega
            simp (maxDischargeDepth := 99) [cRSame, h1, h2, h3, h4, h4', sbin, beqL_iff]
        · simp (maxDischargeDepth := 99) [cRSame, h1, h2, h3, sbin, beqL_iff]
      · simp (maxDischargeDepth := 99) [cRSame, h1, h2, sbin, beqL_iff]
    · simp (maxDischargeDepth := 99) [cRSame, h1, sbin, beqL_iff]

def tflat (L : List T) : List SV := (L.map T.cells).flatten
theorem tflat_len (L : List T) : (tflat L).length = L.length * 5 := by
  unfold tflat
  rw [flatten_len (e := 5) (by simp), List.length_map]
theorem tflat_push (L : List T) (i : Nat) (h : i < L.length) : tflat (L.take (i + 1)) = tflat (L.take i) ++ L[i].cells := by
  rw [List.take_succ_eq_append_getElem h]
  unfold tflat
  rw [List.map_append, List.flatten_append]
  simp
theorem tflat_lo (n : Nat) : ∀ L : List T, loL n (tflat L) = true
  | [] => rfl
  | t :: L => by
    have := tflat_lo n L
    unfold tflat at this ⊢
    rw [List.map_cons, List.flatten_cons]
    rw [T.cells_eq]
    simp [this]
theorem tflat_chunks : ∀ L : List T, chunks 5 L.length (tflat L) = L.map T.cells
  | [] => rfl
  | t :: L => by
    have := tflat_chunks L
    unfold tflat at this ⊢
    have h5 : t.cells.length = 5 := T.cells_len t
    rw [List.map_cons, List.flatten_cons, List.length_cons, chunks, List.take_left' h5, List.drop_left' h5, this]
theorem OutSl.frzT {σ τ : AHeap} {s : SV} {L : List T} {b : Nat} (hb : σ.size ≤ b) (h : OutSl b τ 5 (.one s) (tflat L) L.length) : frzS σ.size τ s = some (.lst (L.map T.cells)) := by
  rcases h.2 with ⟨h1, h0⟩ | ⟨q, h1, h0, hq, hg⟩
  · cases h1
    rw [List.eq_nil_of_length_eq_zero h0]; rfl
  · cases h1
    have h1 : (tflat L).take (L.length * 5) = tflat L := List.take_of_length_le (by rw [tflat_len]; exact Nat.le_refl _)
    have h2 := tflat_len L
    have h3 : σ.size ≤ q := by omega
    simp [frzS, h3, hg, h1, h2, tflat_lo, tflat_chunks]
end Go.Proofs.YtlgdhnjmmahgdaaGreatDoor.Ab

/- The document's Copy of trees. -/
namespace Go.Proofs.YtlgdhnjmmahgdaaGreatDoor.Ab
open Go
set_option maxRecDepth 20000
set_option maxHeartbeats 8000000
set_option linter.unusedSimpArgs false

theorem eq_rcopy (N : Nat) : ∀ (t : T), t.size ≤ N → N ≤ maxElems → ∀ σ, lim TyD 48 [.agg t.cells] σ = some (.agg t.cells, σ) := by
  induction N with
  | zero => intro t h; have := t.size_pos; omega
  | succ N ih =>
    intro t ht hN σ
    refine lim_eq (TyD_prim rfl) ((TyD_code _).trans codeRCopy) rfl ?_
    unfold BodyP
    have hK : t.kids.length ≤ maxElems := by have := t.kids_size; omega
    have hkid : ∀ v ∈ t.kids, ∀ σ, lim TyD 48 [.agg v.cells] σ = some (.agg v.cells, σ) := fun v hv σ => ih v (by have := t.size_kid hv; omega) (by omega) σ
    clear ih
    rw [T.cells_eq t]
    generalize t.kids = l at *
    generalize t.kind = k at *
    generalize t.text = s at *
    generalize t.n = n at *
    generalize t.at_ = a at *
    obtain ⟨c, hcell⟩ : ∃ c, c = [SV.int .i64 k, .str s, .int .i64 n, .int .i64 a, .lst (l.map T.cells)] := ⟨_, rfl⟩
    obtain ⟨z, hz⟩ : ∃ z, z = [SV.int .i64 0, .str [], .int .i64 0, .int .i64 0, .nilSlice] := ⟨_, rfl⟩
    obtain ⟨τ, hτ⟩ : ∃ τ, τ = ((((σ.alloc ⟨c, .own⟩).alloc ⟨z, .own⟩).alloc ⟨z, .own⟩).put (σ.size + 1 + 1) ⟨c, .own⟩).put (σ.size + 1 + 1) ⟨[.int .i64 k, .str s, .int .i64 n, .int .i64 a, .nilSlice], .own⟩ := ⟨_, rfl⟩
    have n1 : ¬ σ.size = σ.size + 1 + 1 := by omega
    have n2 : ¬ σ.size + 1 = σ.size + 1 + 1 := by omega
    have g1 : τ.get σ.size = some ⟨c, .own⟩ := by rw [hτ]; simp [n1]
    have g2 : τ.get (σ.size + 1) = some ⟨z, .own⟩ := by rw [hτ]; simp [n2]
    have g3 : τ.get (σ.size + 1 + 1) = some ⟨[.int .i64 k, .str s, .int .i64 n, .int .i64 a, .nilSlice], .own⟩ := by rw [hτ]; simp
    have hkp : Keeps σ τ := by rw [hτ]; exact Keeps.put (Keeps.put (Keeps.alloc (Keeps.alloc (Keeps.alloc (Keeps.refl _)))) (by omega)) (by omega)
    have zτ : τ.size = σ.size + 3 := by rw [hτ]; simp
    rw [hcell, hz] at hτ
    simp (maxDischargeDepth := 99) [cRCopy, ← hτ]
    rw [hcell] at g1
    rw [hz] at g2
    refine endsi_range l.length (fun i fr τ => fr.length = 26 ∧ getSlot fr 1 = .one (.ptr σ.size 0) ∧ getSlot fr 2 = .one (.ptr (σ.size + 1) 0) ∧ getSlot fr 3 = .one (.ptr (σ.size + 1 + 1) 0) ∧ getSlot fr 4 = .one (.int .i64 i) ∧
      τ.get σ.size = some ⟨[.int .i64 k, .str s, .int .i64 n, .int .i64 a, .lst (l.map T.cells)], .own⟩ ∧ τ.get (σ.size + 1) = some ⟨[.int .i64 0, .str [], .int .i64 0, .int .i64 0, .nilSlice], .own⟩ ∧ Keeps σ τ ∧ σ.size + 3 ≤ τ.size ∧
      ∃ kv, τ.get (σ.size + 1 + 1) = some ⟨[.int .i64 k, .str s, .int .i64 n, .int .i64 a, kv], .own⟩ ∧ OutSl (σ.size + 3) τ 5 (.one kv) (tflat (l.take i)) i) ?_ ?_ ?_
    · simp [g1, g2, g3, hkp, zτ]
      exact OutSl.nil _ _ _
    · rintro i fr τ hlt ⟨hlen, f1, f2, f3, f4, g1, g2, hkp, hz, kv, g3, hO⟩
      have hw := wr_next hlt hK
      have hc := fun σ => hkid l[i] (List.getElem_mem hlt) σ
      obtain ⟨τa, hτa⟩ : ∃ τa, τa = τ.alloc ⟨l[i].cells, .own⟩ := ⟨_, rfl⟩
      have hO2 : OutSl (σ.size + 3) τa 5 (.one kv) (tflat (l.take i)) i := hO.stay fun j h1 h2 => by
        have h3 : ¬ j = τ.size := by omega
        rw [hτa]
        simp [h3]
      obtain ⟨k', τb, ha, hO3, hs3, hg3⟩ := append_out (bytes := 64) (vs := l[i].cells) hO2 (by rw [hτa]; simp; omega) (by omega) (by simp) (by omega) (by decide)
      rw [← tflat_push l i hlt] at hO3
      obtain ⟨kv', rfl⟩ : ∃ kv', k' = .one kv' := by
        rcases hO3.2 with ⟨h, _⟩ | ⟨q, h, _⟩
        · exact ⟨_, h⟩
        · exact ⟨_, h⟩
      have ga : τa.get τ.size = some ⟨l[i].cells, .own⟩ := by rw [hτa]; simp
      have hold : ∀ j, j < σ.size + 3 → τb.get j = τ.get j := fun j hj => by
        have h3 : ¬ j = τ.size := by omega
        rw [hg3 j hj, hτa]
        simp [h3]
      have ga3 : τa.get (σ.size + 1 + 1) = τ.get (σ.size + 1 + 1) := by
        have h3 : ¬ σ.size + 1 + 1 = τ.size := by omega
        rw [hτa]
        simp [h3]
      have zb : τb.size = τ.size + 2 := by rw [hs3, hτa]; simp
      have gb3 := hold (σ.size + 1 + 1) (by omega)
      rw [g3] at gb3 ga3
      obtain ⟨τc, hτc⟩ : ∃ τc, τc = τb.put (σ.size + 1 + 1) ⟨[.int .i64 k, .str s, .int .i64 n, .int .i64 a, kv'], .own⟩ := ⟨_, rfl⟩
      have hlb : σ.size + 1 + 1 < τb.size := by omega
      have c1 : τc.get σ.size = some ⟨[.int .i64 k, .str s, .int .i64 n, .int .i64 a, .lst (l.map T.cells)], .own⟩ := by
        rw [hτc, AHeap.get_put _ _ _ _ hlb, if_neg (by omega), hold _ (by omega), g1]
      have c2 : τc.get (σ.size + 1) = some ⟨[.int .i64 0, .str [], .int .i64 0, .int .i64 0, .nilSlice], .own⟩ := by
        rw [hτc, AHeap.get_put _ _ _ _ hlb, if_neg (by omega), hold _ (by omega), g2]
      have c3 : τc.get (σ.size + 1 + 1) = some ⟨[.int .i64 k, .str s, .int .i64 n, .int .i64 a, kv'], .own⟩ := by
        rw [hτc, AHeap.get_put _ _ _ _ hlb, if_pos rfl]
      have kc : Keeps σ τc := ⟨by rw [hτc, AHeap.size_put]; omega, fun j hj => by rw [hτc, AHeap.get_put _ _ _ _ hlb, if_neg (by omega), hold _ (by omega), hkp.2 j hj]⟩
      have zc : σ.size + 3 ≤ τc.size := by rw [hτc, AHeap.size_put]; omega
      have oc : OutSl (σ.size + 3) τc 5 (.one kv') (tflat (l.take (i + 1))) (i + 1) := hO3.stay fun j h1 h2 => by rw [hτc, AHeap.get_put _ _ _ _ hlb, if_neg (by omega)]
      simp (maxDischargeDepth := 99) [cRCopy_0, hlen, f1, f2, f3, f4, g1, hlt]
      refine endsi_draw ?_
      simp (maxDischargeDepth := 99) [hlen, f1, f2, f3, f4, g1, g3, hlt, hc, ← hτa, ga, ga3, srcLen, srcCells, ha, gb3, hlb, ← hτc, hw, c1, c2, c3, kc, zc, oc]
    · rintro fr τ ⟨hlen, f1, f2, f3, f4, g1, g2, hkp, hz, kv, g3, hO⟩
      rw [List.take_length] at hO
      have hlb : σ.size + 1 < τ.size := by omega
      obtain ⟨τ', hτ'⟩ : ∃ τ', τ' = τ.put (σ.size + 1) ⟨[.int .i64 k, .str s, .int .i64 n, .int .i64 a, kv], .own⟩ := ⟨_, rfl⟩
      have k' : Keeps σ τ' := by rw [hτ']; exact Keeps.put hkp (by omega)
      have g' : τ'.get (σ.size + 1) = some ⟨[.int .i64 k, .str s, .int .i64 n, .int .i64 a, kv], .own⟩ := by rw [hτ', AHeap.get_put _ _ _ _ hlb, if_pos rfl]
      rcases hO.2 with ⟨h1, h0⟩ | ⟨q, h1, h0, hq, hg⟩
      · cases h1
        have h0' := List.eq_nil_of_length_eq_zero h0
        subst h0'
        simp only [List.map_nil] at g1
        simp (maxDischargeDepth := 99) [cRCopy_0, hlen, f1, f2, f3, f4, g1, g2, g3, hlb, ← hτ', k', g']
      · cases h1
        have q1 : τ'.get q = some ⟨tflat l, .own⟩ := by rw [hτ', AHeap.get_put _ _ _ _ hlb, if_neg (by omega), hg]
        have q2 : (tflat l).take (l.length * 5) = tflat l := List.take_of_length_le (by rw [tflat_len]; exact Nat.le_refl _)
        have q3 := tflat_len l
        have q4 : σ.size ≤ q := by omega
        simp (maxDischargeDepth := 99) [cRCopy_0, hlen, f1, f2, f3, f4, g1, g2, g3, hlb, ← hτ', k', g', q1, q2, q3, q4, tflat_lo, tflat_chunks]
end Go.Proofs.YtlgdhnjmmahgdaaGreatDoor.Ab

/- The document's aggregates of a tree: none or some. -/
namespace Go.Proofs.YtlgdhnjmmahgdaaGreatDoor.Ab
open Go
set_option maxRecDepth 20000
set_option maxHeartbeats 8000000
set_option linter.unusedSimpArgs false

def slId : AV → Option Nat
  | .one (.slice q _ _ _ _) => some q
  | _ => none
theorem append_out2 {b : Nat} {τ : AHeap} {esz bytes : Nat} {s : AV} {cells vs : List SV} {n : Nat} (h : OutSl b τ esz s cells n) (hb : b ≤ τ.size) (he : 0 < esz)
    (hv : vs.length = esz) (hn : n + 1 ≤ maxElems) (hby : bytes ≤ maxBytes) :
    OptP (appendA τ esz bytes s 1 vs) (fun _ s' τ' => OutSl b τ' esz s' (cells ++ vs) (n + 1) ∧ τ'.size = τ.size + 1 ∧ slId s' = some τ.size ∧ ∀ id, id < τ.size → slId s ≠ some id → τ'.get id = τ.get id) := by
  obtain ⟨hc, h⟩ := h
  rcases h with ⟨rfl, rfl⟩ | ⟨q, rfl, h0, hq, hg⟩
  · have h1 : 1 ≤ maxElems := by decide
    have hc0 : cells = [] := by simpa using hc
    subst hc0
    simp [appendA, appendK, h1, hby]
    refine ⟨⟨by simpa using hv, .inr ⟨τ.size, rfl, by omega, hb, by simp⟩⟩, rfl, fun id hid _ hid' => by omega⟩
  · have hlt := AHeap.get_lt hg
    have h2 : ¬ ((n + 1) * esz ≤ cells.length) := by rw [hc, Nat.succ_mul]; omega
    simp [appendA, appendK, hn, hby, hg, h2, hc.symm]
    have hmul : cells.length + esz = (n + 1) * esz := by rw [hc, Nat.succ_mul]
    refine ⟨⟨by simp [hv, hmul], .inr ⟨τ.size, rfl, by omega, hb, by simp⟩⟩, rfl, fun id hid hne => ?_⟩
    have h3 : ¬ id = q := fun e => hne (by rw [e]; rfl)
    rw [if_neg (by omega), if_neg (fun h => h3 h.1)]

mutual
def aggsT : T → List T → List T
  | .mk k s n a l, L => if k = 14 then (if L.any (fun x => sameT x (.mk k s n a l)) = true then L else L ++ [.mk k s n a l]) else aggsTL l L
def aggsTL : List T → List T → List T
  | [], L => L
  | t :: l, L => aggsTL l (aggsT t L)
end
theorem aggsT_eq (t : T) (L : List T) : aggsT t L = if t.kind = 14 then (if L.any (fun x => sameT x t) = true then L else L ++ [t]) else aggsTL t.kids L := by
  cases t with
  | mk k s n a l => rw [aggsT]; rfl

def Some5 (b : Nat) (σ : AHeap) (s : AV) (L : List T) : Prop := OutSl b σ 5 s (tflat L) L.length ∧ ∀ x ∈ L, x.size ≤ maxElems
/-- What a call leaves of the objects that were there. -/
def Rest (σ : AHeap) (s v : AV) (σ' : AHeap) : Prop := σ.size ≤ σ'.size ∧ (slId v = slId s ∨ ∃ j, σ.size ≤ j ∧ slId v = some j) ∧ ∀ j, j < σ.size → slId s ≠ some j → σ'.get j = σ.get j
theorem tflat_part {L : List T} {i : Nat} (h : i < L.length) : partA (tflat L) (some 5) (i * 5) = some (.agg L[i].cells) := by
  have := part_row (e := 5) (rows := L.map T.cells) (by simp) (pre := []) (suf := []) (i := i) (by rw [List.length_map]; exact h)
  rw [List.append_nil, List.nil_append, List.length_nil, Nat.zero_add] at this
  unfold tflat
  rw [this, rowAt, List.getD, List.getElem?_map, List.getElem?_eq_getElem h]
  rfl

theorem raggs_one (t : T) (hk : t.kind = 14) (hm : t.size ≤ maxElems) (σ : AHeap) (s : AV) (L : List T) (b : Nat) (hb : b ≤ σ.size) (hS : Some5 b σ s L) (hL : L.length + 1 ≤ maxElems) :
    ∃ v σ', lim TyD 24 [.agg t.cells, s] σ = some (v, σ') ∧ Some5 b σ' v (aggsT t L) ∧ Rest σ s v σ' := by
  obtain ⟨R, hR⟩ : ∃ R, L.any (fun x => sameT x t) = R := ⟨_, rfl⟩
  have hA : aggsT t L = if R = true then L else L ++ [t] := by rw [aggsT_eq, if_pos hk, hR]
  rw [hA]
  have key : OptP (lim TyD 24 [.agg t.cells, s] σ) (fun _ v σ' => Some5 b σ' v (if R = true then L else L ++ [t]) ∧ Rest σ s v σ') := by
    refine lim_code (TyD_prim rfl) ((TyD_code _).trans codeRaggsL) rfl ?_
    unfold BodyP
    obtain ⟨τ, hτ⟩ : ∃ τ, τ = σ.alloc ⟨t.cells, .own⟩ := ⟨_, rfl⟩
    have g0 : τ.get σ.size = some ⟨t.cells, .own⟩ := by rw [hτ]; simp
    have zτ : τ.size = σ.size + 1 := by rw [hτ]; simp
    have hgt : ∀ j, j < σ.size → τ.get j = σ.get j := fun j hj => by
      have : ¬ j = σ.size := by omega
      rw [hτ]
      simp [this]
    have hO : OutSl b τ 5 s (tflat L) L.length := hS.1.stay fun j h1 h2 => hgt j h2
    have hrest : Rest σ s s τ := ⟨by omega, .inl rfl, fun j hj _ => hgt j hj⟩
    have hcopy := eq_rcopy t.size t (Nat.le_refl _) hm
    obtain ⟨τ2, hτ2⟩ : ∃ τ2, τ2 = τ.alloc ⟨t.cells, .own⟩ := ⟨_, rfl⟩
    have hO2 : OutSl b τ2 5 s (tflat L) L.length := hO.stay fun j h1 h2 => by
      have : ¬ j = τ.size := by omega
      rw [hτ2]
      simp [this]
    have g2 : τ2.get τ.size = some ⟨t.cells, .own⟩ := by rw [hτ2]; simp
    obtain ⟨v, τ3, ha, hO3, hs3, hid, hg3⟩ := append_out2 (bytes := 64) (vs := t.cells) hO2 (by rw [hτ2]; simp; omega) (by omega) (by simp) hL (by decide)
    have hO4 : OutSl b τ3 5 v (tflat (L ++ [t])) (L ++ [t]).length := by
      have : tflat (L ++ [t]) = tflat L ++ t.cells := by unfold tflat; simp
      rw [this, List.length_append]
      exact hO3
    have hrest3 : Rest σ s v τ3 := ⟨by rw [hs3, hτ2]; simp; omega, .inr ⟨τ2.size, by rw [hτ2]; simp; omega, hid⟩, fun j hj hn => by
      have : ¬ j = τ.size := by omega
      rw [hg3 j (by rw [hτ2]; simp; omega) hn, hτ2, AHeap.get_alloc, if_neg this, hgt j hj]⟩
    have hsz : ∀ x ∈ L ++ [t], x.size ≤ maxElems := fun x hx => by
      rcases List.mem_append.1 hx with h | h
      · exact hS.2 x h
      · rw [List.mem_singleton.1 h]; exact hm
    have fin0 : Some5 b τ s L ∧ Rest σ s s τ := ⟨⟨hO, hS.2⟩, hrest⟩
    have fin1 : Some5 b τ3 v (L ++ [t]) ∧ Rest σ s v τ3 := ⟨⟨hO4, hsz⟩, hrest3⟩
    have hsame : ∀ i (h : i < L.length) σ, lim TyD 47 [.agg L[i].cells, .agg t.cells] σ = some (.one (.bool (sameT L[i] t)), σ) := fun i h σ => eq_rsame L[i].size L[i] t (Nat.le_refl _) (hS.2 _ (List.getElem_mem h)) σ
    have hml : L.length ≤ maxElems := by omega
    clear hO2 hO3 hO4 hrest hrest3 hsz hg3 hid hs3 hgt
    rw [T.cells_eq t, hk] at hτ g0 hcopy hτ2 g2 ha hsame ⊢
    rcases hO.2 with ⟨h1, h0⟩ | ⟨q, h1, h0, hq, hg⟩
    · subst h1
      have hL0 := List.eq_nil_of_length_eq_zero h0
      subst hL0
      have hR' : R = false := by rw [← hR]; rfl
      subst hR'
      rw [if_neg (by decide)]
      simp (maxDischargeDepth := 99) [cRaggsL, ← hτ, g0]
      refine endsi_range 0 (fun i fr τ' => τ' = τ ∧ fr.length = 43 ∧ getSlot fr 1 = .one .nilSlice ∧ getSlot fr 2 = .one (.ptr σ.size 0) ∧ getSlot fr 5 = .one (.int .i64 0)) ?_ ?_ ?_
      · simp
      · intro i fr τ' hlt; omega
      · rintro fr τ' ⟨rfl, hlen, f1, f2, f5⟩
        simp (maxDischargeDepth := 99) [cRaggsL_0, hlen, f1, f2, f5, g0, hcopy, ← hτ2, srcLen, srcCells, g2, ha]
        exact fin1
    · subst h1
      simp (maxDischargeDepth := 99) [cRaggsL, ← hτ, g0]
      refine endsi_range L.length (fun i fr τ' => τ' = τ ∧ fr.length = 43 ∧ getSlot fr 1 = .one (.slice q 0 5 L.length none) ∧ getSlot fr 2 = .one (.ptr σ.size 0) ∧ getSlot fr 5 = .one (.int .i64 i) ∧ (L.drop i).any (fun x => sameT x t) = R) ?_ ?_ ?_
      · simp [hR]
      · rintro i fr τ' hlt ⟨rfl, hlen, f1, f2, f5, hall⟩
        have hw := wr_next hlt hml
        have hpt := tflat_part hlt
        have hs := hsame i hlt
        rw [List.drop_eq_getElem_cons hlt, List.any_cons] at hall
        simp (maxDischargeDepth := 99) at hpt
        cases hb2 : sameT L[i] t with
        | true =>
          rw [hb2] at hs
          rw [hb2, Bool.true_or] at hall
          subst hall
          rw [if_pos rfl] 
          simp (maxDischargeDepth := 99) [cRaggsL_0, hlen, f1, f2, f5, g0, hg, hlt, hpt, hs, fin0]
        | false =>
          rw [hb2] at hs
          rw [hb2, Bool.false_or] at hall
          simp (maxDischargeDepth := 99) [-List.any_eq_true, cRaggsL_0, hlen, f1, f2, f5, g0, hg, hlt, hpt, hs, hw, hall]
      · rintro fr τ' ⟨rfl, hlen, f1, f2, f5, hall⟩
        rw [List.drop_length, List.any_nil] at hall
        subst hall
        rw [if_neg (by decide)]
        simp (maxDischargeDepth := 99) [cRaggsL_0, hlen, f1, f2, f5, g0, hcopy, ← hτ2, srcLen, srcCells, g2, ha, fin1]
  obtain ⟨v, σ', h1, h2⟩ := key
  exact ⟨v, σ', h1, h2⟩
end Go.Proofs.YtlgdhnjmmahgdaaGreatDoor.Ab

/- The document's aggregates of any tree; none where no aggregate stands. -/
namespace Go.Proofs.YtlgdhnjmmahgdaaGreatDoor.Ab
open Go
set_option maxRecDepth 20000
set_option maxHeartbeats 8000000
set_option linter.unusedSimpArgs false

theorem raggs_many (t : T) (hk : ¬ t.kind = 14) (hm : t.size ≤ maxElems) (σ : AHeap) (s : AV) (L : List T) (b : Nat) (hb : b ≤ σ.size) (hS : Some5 b σ s L) (hL : L.length + T.sizeL t.kids ≤ maxElems)
    (hkid : ∀ u ∈ t.kids, ∀ σ s L b, b ≤ σ.size → Some5 b σ s L → L.length + u.size ≤ maxElems →
      ∃ v σ', lim TyD 24 [.agg u.cells, s] σ = some (v, σ') ∧ Some5 b σ' v (aggsT u L) ∧ (aggsT u L).length ≤ L.length + u.size ∧ Rest σ s v σ') :
    ∃ v σ', lim TyD 24 [.agg t.cells, s] σ = some (v, σ') ∧ Some5 b σ' v (aggsTL t.kids L) ∧ (aggsTL t.kids L).length ≤ L.length + T.sizeL t.kids ∧ Rest σ s v σ' := by
  have hK : t.kids.length ≤ maxElems := by have := t.kids_size; omega
  obtain ⟨R, hR⟩ : ∃ R, aggsTL t.kids L = R := ⟨_, rfl⟩
  rw [hR]
  generalize hl : t.kids = l at *
  obtain ⟨M, hM⟩ : ∃ M, M = L.length + T.sizeL l := ⟨_, rfl⟩
  rw [← hM] at hL ⊢
  have key : OptP (lim TyD 24 [.agg t.cells, s] σ) (fun _ v σ' => Some5 b σ' v R ∧ R.length ≤ M ∧ Rest σ s v σ') := by
    refine lim_code (TyD_prim rfl) ((TyD_code _).trans codeRaggsL) rfl ?_
    unfold BodyP
    obtain ⟨τ, hτ⟩ : ∃ τ, τ = σ.alloc ⟨t.cells, .own⟩ := ⟨_, rfl⟩
    have g0 : τ.get σ.size = some ⟨t.cells, .own⟩ := by rw [hτ]; simp
    have zτ : τ.size = σ.size + 1 := by rw [hτ]; simp
    have hgt : ∀ j, j < σ.size → τ.get j = σ.get j := fun j hj => by
      have : ¬ j = σ.size := by omega
      rw [hτ]
      simp [this]
    have hO : Some5 b τ s L := ⟨hS.1.stay fun j h1 h2 => hgt j h2, hS.2⟩
    have hsid : slId s ≠ some σ.size := fun e => by
      rcases hS.1.2 with ⟨h, _⟩ | ⟨q, h, _, _, hg⟩
      · rw [h] at e; cases e
      · rw [h] at e
        cases e
        have := AHeap.get_lt hg
        omega
    have hrest : Rest σ s s τ := ⟨by omega, .inl rfl, fun j hj _ => hgt j hj⟩
    rw [T.cells_eq t, hl] at hτ g0 ⊢
    simp (maxDischargeDepth := 99) [cRaggsL, ← hτ, g0, hk]
    refine endsi_range l.length (fun i fr τ => fr.length = 43 ∧ getSlot fr 2 = .one (.ptr σ.size 0) ∧ getSlot fr 6 = .one (.int .i64 i) ∧ τ.get σ.size = some ⟨[.int .i64 t.kind, .str t.text, .int .i64 t.n, .int .i64 t.at_, .lst (l.map T.cells)], .own⟩ ∧ σ.size < τ.size ∧
      ∃ L', Some5 b τ (getSlot fr 1) L' ∧ Rest σ s (getSlot fr 1) τ ∧ slId (getSlot fr 1) ≠ some σ.size ∧ L'.length + T.sizeL (l.drop i) ≤ M ∧ aggsTL (l.drop i) L' = R) ?_ ?_ ?_
    · simp [g0, zτ]
      exact ⟨L, hO, hrest, hsid, by omega, hR⟩
    · rintro i fr τ hlt ⟨hlen, f2, f6, g0, hz, L', hO, hrest, hsid, hbd, hall⟩
      have hw := wr_next hlt hK
      rw [List.drop_eq_getElem_cons hlt] at hbd hall
      simp only [T.sizeL, aggsTL] at hbd hall
      obtain ⟨s1, hs1⟩ : ∃ s1, s1 = getSlot fr 1 := ⟨_, rfl⟩
      rw [← hs1] at hO hrest hsid
      obtain ⟨v, τ2, hc, hO2, hl2, hr2⟩ := hkid l[i] (List.getElem_mem hlt) τ s1 L' b (by omega) hO (by omega)
      have g2 : τ2.get σ.size = some ⟨[.int .i64 t.kind, .str t.text, .int .i64 t.n, .int .i64 t.at_, .lst (l.map T.cells)], .own⟩ := by rw [hr2.2.2 _ hz hsid, g0]
      have z2 : σ.size < τ2.size := Nat.lt_of_lt_of_le hz hr2.1
      have hsid2 : slId v ≠ some σ.size := fun e => by
        rcases hr2.2.1 with h | ⟨j, h1, h2⟩
        · exact hsid (h ▸ e)
        · rw [e] at h2
          cases h2
          omega
      have hrest2 : Rest σ s v τ2 := by
        refine ⟨Nat.le_trans hrest.1 hr2.1, ?_, fun j hj hn => ?_⟩
        · rcases hr2.2.1 with h | ⟨j, h1, h2⟩
          · rw [h]; exact hrest.2.1
          · exact .inr ⟨j, Nat.le_trans hrest.1 h1, h2⟩
        · rw [hr2.2.2 j (by omega) (fun e => ?_), hrest.2.2 j hj hn]
          rcases hrest.2.1 with h | ⟨i2, h1, h2⟩
          · exact hn (h ▸ e)
          · rw [e] at h2
            cases h2
            omega
      simp (maxDischargeDepth := 99) [cRaggsL_1, hlen, f2, f6, ← hs1, g0, hlt, hc, hw, g2, z2]
      exact ⟨aggsT l[i] L', hO2, hrest2, hsid2, by omega, hall⟩
    · rintro fr τ ⟨hlen, f2, f6, g0, hz, L', hO, hrest, hsid, hbd, hall⟩
      rw [List.drop_length] at hbd hall
      simp only [T.sizeL, aggsTL] at hbd hall
      subst hall
      simp (maxDischargeDepth := 99) [cRaggsL_1, hlen, f2, f6, g0]
      exact ⟨hO, by omega, hrest⟩
  obtain ⟨v, σ', h1, h2⟩ := key
  exact ⟨v, σ', h1, h2⟩

theorem eq_raggs (N : Nat) : ∀ (t : T), t.size ≤ N → N ≤ maxElems → ∀ σ s L b, b ≤ σ.size → Some5 b σ s L → L.length + t.size ≤ maxElems →
    ∃ v σ', lim TyD 24 [.agg t.cells, s] σ = some (v, σ') ∧ Some5 b σ' v (aggsT t L) ∧ (aggsT t L).length ≤ L.length + t.size ∧ Rest σ s v σ' := by
  induction N with
  | zero => intro t h; have := t.size_pos; omega
  | succ N ih =>
    intro t ht hN σ s L b hb hS hL
    have hsz := t.kids_sizeL
    by_cases hk : t.kind = 14
    · obtain ⟨v, σ', h1, h2, h3⟩ := raggs_one t hk (by omega) σ s L b hb hS (by omega)
      refine ⟨v, σ', h1, h2, ?_, h3⟩
      rw [aggsT_eq, if_pos hk]
      split
      · omega
      · rw [List.length_append, List.length_singleton]
        omega
    · obtain ⟨v, σ', h1, h2, h3, h4⟩ := raggs_many t hk (by omega) σ s L b hb hS (by omega) fun u hu σ s L b hb hS hL => ih u (by have := t.size_kid hu; omega) (by omega) σ s L b hb hS hL
      refine ⟨v, σ', h1, ?_, ?_, h4⟩
      · rw [aggsT_eq, if_neg hk]; exact h2
      · rw [aggsT_eq, if_neg hk]; omega

/-! ### none or some -/
mutual
theorem aggsT_keeps : ∀ (t : T) (L : List T), ¬ L = [] → ¬ aggsT t L = []
  | .mk k s n a l, L, h => by
    rw [aggsT]
    split
    · split
      · exact h
      · simp
    · exact aggsTL_keeps l L h
theorem aggsTL_keeps : ∀ (l : List T) (L : List T), ¬ L = [] → ¬ aggsTL l L = []
  | [], L, h => by rw [aggsTL]; exact h
  | t :: l, L, h => by rw [aggsTL]; exact aggsTL_keeps l _ (aggsT_keeps t L h)
end
mutual
theorem aggsT_none : ∀ t : T, (aggsT t [] = []) ↔ noAgg t = true
  | .mk k s n a l => by
    rw [aggsT, noAgg, Bool.and_eq_true]
    by_cases hk : k = 14
    · rw [if_pos hk]
      simp [hk]
    · rw [if_neg hk, aggsTL_none l]
      simp [hk]
theorem aggsTL_none : ∀ l : List T, (aggsTL l [] = []) ↔ noAggL l = true
  | [] => by simp [aggsTL, noAggL]
  | t :: l => by
    rw [aggsTL, noAggL, Bool.and_eq_true]
    constructor
    · intro h
      have h1 : aggsT t [] = [] := Classical.byContradiction fun hn => aggsTL_keeps l _ hn h
      rw [h1] at h
      exact ⟨(aggsT_none t).1 h1, (aggsTL_none l).1 h⟩
    · rintro ⟨h1, h2⟩
      rw [(aggsT_none t).2 h1]
      exact (aggsTL_none l).2 h2
end
end Go.Proofs.YtlgdhnjmmahgdaaGreatDoor.Ab

/- The law TypesPlaces, walked. -/
namespace Go.Proofs.YtlgdhnjmmahgdaaGreatDoor.Ab
open Go
set_option maxRecDepth 20000
set_option maxHeartbeats 8000000
set_option linter.unusedSimpArgs false

theorem eq_Raggs (σ : AHeap) (t : T) (hm : t.size ≤ maxElems) : ∃ v σ', lim TyD 9 [.agg t.cells] σ = some (v, σ') ∧ ((noAgg t = true ∧ v = .one .nilSlice) ∨ (noAgg t = false ∧ ∃ q n, v = .one (.slice q 0 5 n none) ∧ 0 < n)) := by
  have key : OptP (lim TyD 9 [.agg t.cells] σ) (fun _ v _ => (noAgg t = true ∧ v = .one .nilSlice) ∨ (noAgg t = false ∧ ∃ q n, v = .one (.slice q 0 5 n none) ∧ 0 < n)) := by
    refine lim_code (TyD_prim rfl) ((TyD_code _).trans codeRAggs) rfl ?_
    unfold BodyP
    obtain ⟨τ, hτ⟩ : ∃ τ, τ = σ.alloc ⟨t.cells, .own⟩ := ⟨_, rfl⟩
    have g0 : τ.get σ.size = some ⟨t.cells, .own⟩ := by rw [hτ]; simp
    obtain ⟨v, τ1, hc, hO, hl, hr⟩ := eq_raggs t.size t (Nat.le_refl _) hm τ (.one .nilSlice) [] τ.size (Nat.le_refl _) ⟨OutSl.nil _ _ _, fun x hx => by cases hx⟩ (by simpa using hm)
    have hv : (noAgg t = true ∧ v = .one .nilSlice) ∨ (noAgg t = false ∧ ∃ q n, v = .one (.slice q 0 5 n none) ∧ 0 < n) := by
      rcases hO.1.2 with ⟨h1, h2⟩ | ⟨q, h1, h2, _⟩
      · exact .inl ⟨(aggsT_none t).1 (List.eq_nil_of_length_eq_zero h2), h1⟩
      · refine .inr ⟨?_, q, _, h1, h2⟩
        cases hn : noAgg t with
        | false => rfl
        | true =>
          rw [(aggsT_none t).2 hn] at h2
          simp at h2
    rw [T.cells_eq t] at hτ g0 hc ⊢
    simp (maxDischargeDepth := 99) [cRAggs, ← hτ, g0, hc]
    simpa using hv
  obtain ⟨v, σ', h1, h2⟩ := key
  exact ⟨v, σ', h1, h2⟩

/-- What a function does in one context, as a step of another. -/
theorem primOk_limP {P : Program} {C : Ctx} (hC : C.Good P) (f : Nat) : PrimOk P f (fun args σ => lim C f args σ) := fun args σ v σ' h => by
  obtain ⟨n, hn⟩ := lim_iff.1 h
  exact sound hC n f args σ v σ' hn
noncomputable def tpPrims : List (Nat × Prim) := [(10, pBool true), (8, fun args σ => lim TyD 8 args σ), (9, fun args σ => lim TyD 9 args σ)]
noncomputable def TpC : Ctx := ⟨codeOf, primAt tpPrims, tyHint⟩
theorem TpC_good : TpC.Good Tryz.prog where
  code := fun f F h => codeOf_good h
  prim := fun f p h => primAt_ok (l := tpPrims) (fun g p hm => by
    simp only [tpPrims, List.mem_cons, Prod.mk.injEq, List.not_mem_nil, or_false] at hm
    rcases hm with ⟨rfl, rfl⟩ | ⟨rfl, rfl⟩ | ⟨rfl, rfl⟩
    · exact okAw
    · exact primOk_limP TyD_good _
    · exact primOk_limP TyD_good _) f p h
theorem TpC_awake (σ : AHeap) : lim TpC 10 [] σ = some (.one (.bool true), σ) := (lim_prim (p := pBool true) rfl).trans rfl
theorem TpC_expr (σ : AHeap) (args : List AV) : lim TpC 8 args σ = lim TyD 8 args σ := lim_prim (p := fun args σ => lim TyD 8 args σ) rfl
theorem TpC_aggs (σ : AHeap) (args : List AV) : lim TpC 9 args σ = lim TyD 9 args σ := lim_prim (p := fun args σ => lim TyD 9 args σ) rfl

theorem law_places (t : T) (F : List Fld) (ht : t.size ≤ maxElems) (hF : F.length ≤ maxElems) :
    ∃ σ', lim TpC 3 [.agg t.cells, .one (.lst (F.map Fld.cells))] emptyH = some (.one (.bool true), σ') := by
  have key : OptP (lim TpC 3 [.agg t.cells, .one (.lst (F.map Fld.cells))] emptyH) (fun _ v _ => v = .one (.bool true)) := by
    refine lim_code rfl (show codeOf 3 = _ from codeLawP) rfl ?_
    unfold BodyP
    have q0 := fun σ aggs => (TpC_expr σ _).trans (eq_tyExpr σ t (.one (.lst (F.map Fld.cells))) F aggs (.inl rfl) hF ht (form_ok t ht))
    have q1 := q0 emptyH true
    obtain ⟨σ0, hσ0⟩ : ∃ σ0, σ0 = emptyH.alloc ⟨t.cells, .own⟩ := ⟨_, rfl⟩
    have g0 : σ0.get emptyH.size = some ⟨t.cells, .own⟩ := by rw [hσ0]; simp
    obtain ⟨v, σ1, ha, hv⟩ := eq_Raggs σ0 t ht
    have ha := (TpC_aggs σ0 _).trans ha
    have hw := TpC_awake σ1
    have e1 := q0 σ0 true
    have e2 := q0 σ0 false
    clear q0 q1
    rcases hv with ⟨hn, rfl⟩ | ⟨hn, q, n, rfl, hpos⟩
    · rw [tyExpr_noAgg F t hn] at e1
      generalize tyExpr F false t = R at *
      rw [T.cells_eq t] at hσ0 g0 e1 e2 ha ⊢
      simp (maxDischargeDepth := 99) [cLawP, ← hσ0, g0, e1, e2, ha, hw]
    · have hb := tyExpr_bad F t hn
      generalize tyExpr F false t = R at *
      have hnz : ¬ n = 0 := by omega
      rw [T.cells_eq t] at hσ0 g0 e1 e2 ha ⊢
      simp (maxDischargeDepth := 99) [cLawP, ← hσ0, g0, e1, e2, ha, hw, hb, hnz]
  obtain ⟨v, σ', h1, h2⟩ := key
  exact ⟨σ', by rw [h1, h2]⟩
end Go.Proofs.YtlgdhnjmmahgdaaGreatDoor.Ab
