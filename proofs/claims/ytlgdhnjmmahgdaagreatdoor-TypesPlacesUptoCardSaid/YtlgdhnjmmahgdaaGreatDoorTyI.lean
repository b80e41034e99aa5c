/- Several of my texts in one: Ty23, Ty24, Ty25, Ty26, Ty27, Ty28, Ty29, Ty30. -/
import Derived.Test.YtlgdhnjmmahgdaaGreatDoorTyB
import Derived.Test.YtlgdhnjmmahgdaaGreatDoorLitTy
import Derived.Test.YtlgdhnjmmahgdaaGreatDoorTyH
/- Small forms of trees: none, star, or, list, col, whole, order. -/
namespace Go.Proofs.YtlgdhnjmmahgdaaGreatDoor.Ab
open Go
set_option maxRecDepth 20000
set_option maxHeartbeats 8000000
set_option linter.unusedSimpArgs false

/-- A test on one tree. -/
def TestAt (g : Nat) (caps : List SV) (p : T → Bool) (t : T) : Prop := ∀ σ, lim TyD g (.agg t.cells :: caps.map AV.one) σ = some (.one (.bool (p t)), σ)
def noneB (t : T) : Bool := decide (t.kind = 20) && bareB t 0
def starB (t : T) : Bool := decide (t.kind = 22) && bareB t 0
theorem eq_none (σ : AHeap) (t : T) :
    lim TyD 148 [.agg t.cells] σ = some (.one (.bool (noneB t)), σ) := by
  refine lim_eq (TyD_prim rfl) ((TyD_code _).trans codeTNone) rfl ?_
  unfold BodyP noneB
  have hb := fun σ => eq_bare σ t 0
  generalize bareB t 0 = b at *
  rw [T.cells_eq] at hb ⊢
  generalize t.kind = k at *
  by_cases h1 : k = 20
  · subst h1
    simp (maxDischargeDepth := 99) [cTNone, hb, sbin, beqL_iff, eq_within]
  · simp (maxDischargeDepth := 99) [cTNone, hb, sbin, beqL_iff, eq_within, h1]
theorem eq_star (σ : AHeap) (t : T) :
    lim TyD 191 [.agg t.cells] σ = some (.one (.bool (starB t)), σ) := by
  refine lim_eq (TyD_prim rfl) ((TyD_code _).trans codeTStar) rfl ?_
  unfold BodyP starB
  have hb := fun σ => eq_bare σ t 0
  generalize bareB t 0 = b at *
  rw [T.cells_eq] at hb ⊢
  generalize t.kind = k at *
  by_cases h1 : k = 22
  · subst h1
    simp (maxDischargeDepth := 99) [cTStar, hb, sbin, beqL_iff, eq_within]
  · simp (maxDischargeDepth := 99) [cTStar, hb, sbin, beqL_iff, eq_within, h1]
def orB (p : T → Bool) (t : T) : Bool := noneB t || p t
theorem eq_or (σ : AHeap) (t : T) (g : Nat) (caps : List SV) (p : T → Bool) (hp : TestAt g caps p t) :
    lim TyD 94 [.agg t.cells, .one (.func g caps)] σ = some (.one (.bool (orB p t)), σ) := by
  refine lim_eq (TyD_prim rfl) ((TyD_code _).trans codeTOr) rfl ?_
  unfold BodyP orB
  have hb := fun σ => eq_none σ t
  have hp' := hp
  unfold TestAt at hp'
  generalize noneB t = b at *
  generalize p t = q at *
  rw [T.cells_eq] at hb hp' ⊢
  cases h1 : b with
  | false =>
    simp (maxDischargeDepth := 99) [cTOr, hb, hp', sbin, beqL_iff, eq_within, h1]
  | true =>
    simp (maxDischargeDepth := 99) [cTOr, hb, hp', sbin, beqL_iff, eq_within, h1]
def listB (p : T → Bool) (lo hi : Int) (t : T) : Bool := decide (t.kind = 28) && (decide (t.text = []) && (decide (t.n = 0) && ((decide (lo ≤ (t.kids.length : Int)) && decide ((t.kids.length : Int) ≤ hi)) && t.kids.all p)))
theorem eq_list (σ : AHeap) (t : T) (lo hi : Int) (g : Nat) (caps : List SV) (p : T → Bool) (hp : Tests g caps p t.kids) (hm : t.kids.length ≤ maxElems) :
    lim TyD 158 [.agg t.cells, .one (.int .i64 lo), .one (.int .i64 hi), .one (.func g caps)] σ = some (.one (.bool (listB p lo hi t)), σ) := by
  refine lim_eq (TyD_prim rfl) ((TyD_code _).trans codeTList) rfl ?_
  unfold BodyP listB
  have hall := fun σ => eq_all σ t.kids g caps p hp hm
  generalize t.kids.all p = r at *
  rw [T.cells_eq]
  by_cases h1 : t.kind = 28
  · by_cases h2 : t.text = []
    · by_cases h3 : t.n = 0
      · by_cases h4 : lo ≤ (t.kids.length : Int)
        · by_cases h5 : (t.kids.length : Int) ≤ hi
          · simp (maxDischargeDepth := 99) [cTList, hall, sbin, beqL_iff, eq_within, h1, h2, h3, h4, h5]
          · simp (maxDischargeDepth := 99) [cTList, hall, sbin, beqL_iff, eq_within, h1, h2, h3, h4, h5]
        · simp (maxDischargeDepth := 99) [cTList, hall, sbin, beqL_iff, eq_within, h1, h2, h3, h4]
      · simp (maxDischargeDepth := 99) [cTList, hall, sbin, beqL_iff, eq_within, h1, h2, h3]
    · simp (maxDischargeDepth := 99) [cTList, hall, sbin, beqL_iff, eq_within, h1, h2]
  · simp (maxDischargeDepth := 99) [cTList, hall, sbin, beqL_iff, eq_within, h1]
def colB (t : T) : Bool := decide (t.kind = 6) && (leafB t && decide ((t.kids.length : Int) = 0))
theorem eq_tcol (σ : AHeap) (t : T) (hm : t.size ≤ maxElems) :
    lim TyD 150 [.agg t.cells] σ = some (.one (.bool (colB t)), σ) := by
  refine lim_eq (TyD_prim rfl) ((TyD_code _).trans codeTCol) rfl ?_
  unfold BodyP colB
  have hb := fun σ => eq_leaf σ t hm
  generalize leafB t = b at *
  rw [T.cells_eq] at hb ⊢
  generalize t.kind = k at *
  by_cases h1 : k = 6
  · subst h1
    cases h2 : b with
    | false =>
      simp (maxDischargeDepth := 99) [cTCol, hb, sbin, beqL_iff, eq_within, h2]
    | true =>
      simp (maxDischargeDepth := 99) [cTCol, hb, sbin, beqL_iff, eq_within, h2]
  · simp (maxDischargeDepth := 99) [cTCol, hb, sbin, beqL_iff, eq_within, h1]
def wholeB (s : List UInt8) (hi : Int) (t : T) : Bool := decide (t.kind = 3) && (decide (t.text = s) && ((decide (1 ≤ t.n) && decide (t.n ≤ hi)) && decide ((t.kids.length : Int) = 0)))
theorem eq_whole (σ : AHeap) (t : T) (s : List UInt8) (hi : Int) :
    lim TyD 149 [.agg t.cells, .one (.str s), .one (.int .i64 hi)] σ = some (.one (.bool (wholeB s hi t)), σ) := by
  refine lim_eq (TyD_prim rfl) ((TyD_code _).trans codeTWhole) rfl ?_
  unfold BodyP wholeB
  rw [T.cells_eq]
  by_cases h1 : t.kind = 3
  · by_cases h2 : t.text = s
    · by_cases h3 : 1 ≤ t.n
      · by_cases h4 : t.n ≤ hi
        · simp (maxDischargeDepth := 99) [cTWhole, sbin, beqL_iff, eq_within, h1, h2, h3, h4]
        · simp (maxDischargeDepth := 99) [cTWhole, sbin, beqL_iff, eq_within, h1, h2, h3, h4]
      · simp (maxDischargeDepth := 99) [cTWhole, sbin, beqL_iff, eq_within, h1, h2, h3]
    · simp (maxDischargeDepth := 99) [cTWhole, sbin, beqL_iff, eq_within, h1, h2]
  · simp (maxDischargeDepth := 99) [cTWhole, sbin, beqL_iff, eq_within, h1]
def kid0 (p : T → Bool) (t : T) : Bool := match t.kids with
  | u :: _ => p u
  | [] => false
def kid1 (p : T → Bool) (t : T) : Bool := match t.kids with
  | _ :: u :: _ => p u
  | _ => false
def orderB (p : T → Bool) (t : T) : Bool := decide (t.kind = 25) && (decide (t.text = []) && ((decide (0 ≤ t.n) && decide (t.n ≤ 1)) && (decide ((t.kids.length : Int) = 1) && kid0 p t)))
theorem eq_order (σ : AHeap) (t : T) (g : Nat) (caps : List SV) (p : T → Bool) (hp : ∀ u ∈ t.kids, TestAt g caps p u) :
    lim TyD 151 [.agg t.cells, .one (.func g caps)] σ = some (.one (.bool (orderB p t)), σ) := by
  refine lim_eq (TyD_prim rfl) ((TyD_code _).trans codeTOrder) rfl ?_
  unfold BodyP orderB kid0
  rw [T.cells_eq]
  generalize hL : t.kids = l at *
  by_cases h5 : (l.length : Int) = 1
  · obtain ⟨u, rfl⟩ : ∃ u, l = [u] := List.length_eq_one_iff.1 (by omega)
    have hu := hp u (by simp)
    unfold TestAt at hu

    rw [List.map_cons, List.map_nil, T.cells_eq u]
    rw [T.cells_eq u] at hu
    by_cases h1 : t.kind = 25
    · by_cases h2 : t.text = []
      · by_cases h3 : 0 ≤ t.n
        · by_cases h4 : t.n ≤ 1
          · simp (maxDischargeDepth := 99) [cTOrder, hu, sbin, beqL_iff, eq_within, h1, h2, h3, h4]
          · simp (maxDischargeDepth := 99) [cTOrder, hu, sbin, beqL_iff, eq_within, h1, h2, h3, h4]
        · simp (maxDischargeDepth := 99) [cTOrder, hu, sbin, beqL_iff, eq_within, h1, h2, h3]
      · simp (maxDischargeDepth := 99) [cTOrder, hu, sbin, beqL_iff, eq_within, h1, h2]
    · simp (maxDischargeDepth := 99) [cTOrder, hu, sbin, beqL_iff, eq_within, h1]
  · by_cases h1 : t.kind = 25
    · by_cases h2 : t.text = []
      · by_cases h3 : 0 ≤ t.n
        · by_cases h4 : t.n ≤ 1
          · simp (maxDischargeDepth := 99) [cTOrder, h5, sbin, beqL_iff, eq_within, h1, h2, h3, h4]
          · simp (maxDischargeDepth := 99) [cTOrder, h5, sbin, beqL_iff, eq_within, h1, h2, h3, h4]
        · simp (maxDischargeDepth := 99) [cTOrder, h5, sbin, beqL_iff, eq_within, h1, h2, h3]
      · simp (maxDischargeDepth := 99) [cTOrder, h5, sbin, beqL_iff, eq_within, h1, h2]
    · simp (maxDischargeDepth := 99) [cTOrder, h5, sbin, beqL_iff, eq_within, h1]
end Go.Proofs.YtlgdhnjmmahgdaaGreatDoor.Ab

/- tree.pattern, tree.not. -/
namespace Go.Proofs.YtlgdhnjmmahgdaaGreatDoor.Ab
open Go
set_option maxRecDepth 20000
set_option maxHeartbeats 16000000
set_option linter.unusedSimpArgs false

def fst1 : List (Bool × Bool) → Bool
  | (a, _) :: _ => a
  | [] => false
def snd1 : List (Bool × Bool) → Bool
  | _ :: (a, b) :: _ => a || b
  | _ => false
def timeB (t : T) : Bool := decide (0 ≤ t.n) && decide (t.n ≤ 1099511627776)
def patH (t : T) (r : List (Bool × Bool)) : Bool :=
  if t.kind = 30 then idB t.text && (decide (t.n = 0) && (decide ((t.kids.length : Int) = 2) && (kid0 (orB exprB) t && kid1 (orB nameT) t)))
  else if t.kind = 31 then bareB t 1 && fst1 r
  else if t.kind = 32 ∨ t.kind = 34 then bareB t 2 && r.all fun x => x.1
  else if t.kind = 33 then bareB t 2 && (fst1 r && snd1 r)
  else if t.kind = 36 then decide (t.text = []) && (timeB t && decide ((t.kids.length : Int) = 0))
  else if t.kind = 37 then decide (t.text = []) && (timeB t && (decide ((t.kids.length : Int) = 1) && fst1 r))
  else false
def notH (t : T) (r : List (Bool × Bool)) : Bool := decide (t.kind = 35) && (bareB t 1 && fst1 r)
mutual
def patS : T → Bool × Bool
  | .mk k s n a l => (patH (.mk k s n a l) (patL l), notH (.mk k s n a l) (patL l))
def patL : List T → List (Bool × Bool)
  | [] => []
  | t :: l => patS t :: patL l
end
theorem patL_eq : ∀ l, patL l = l.map patS
  | [] => rfl
  | t :: l => by rw [patL, patL_eq l]; rfl
def patB (t : T) : Bool := (patS t).1
def notB (t : T) : Bool := (patS t).2
theorem patB_eq (t : T) : patB t = patH t (t.kids.map patS) := by
  cases t with
  | mk k s n a l => unfold patB; rw [patS, patL_eq]; rfl
theorem notB_eq (t : T) : notB t = notH t (t.kids.map patS) := by
  cases t with
  | mk k s n a l => unfold notB; rw [patS, patL_eq]; rfl
theorem pat_all (l : List T) : (l.map patS).all (fun x => x.1) = l.all patB := by rw [List.all_map]; rfl

theorem kids_two {l : List T} (h : l.length = 2) : ∃ u v, l = [u, v] := match l, h with
  | [u, v], _ => ⟨u, v, rfl⟩
theorem bare_one {t : T} (h : bareB t 1 = true) : ∃ u, t.kids = [u] := by
  simp only [bareB, Bool.and_eq_true, decide_eq_true_eq] at h
  exact List.length_eq_one_iff.1 (by omega)
theorem bare_two {t : T} (h : bareB t 2 = true) : ∃ u v, t.kids = [u, v] := by
  simp only [bareB, Bool.and_eq_true, decide_eq_true_eq] at h
  exact kids_two (by omega)
theorem eq_notP (σ : AHeap) (t : T) (hp : ∀ u ∈ t.kids, TestAt 36 [] patB u) : lim TyD 96 [.agg t.cells] σ = some (.one (.bool (notB t)), σ) := by
  refine lim_eq (TyD_prim rfl) ((TyD_code _).trans codeTNot) rfl ?_
  unfold BodyP
  rw [notB_eq]
  unfold notH
  have hb := fun σ => eq_bare σ t 1
  cases hbb : bareB t 1 with
  | false =>
    rw [hbb] at hb
    rw [T.cells_eq] at hb ⊢
    generalize t.kind = k at *
    by_cases h1 : k = 35
    · subst h1
      simp (maxDischargeDepth := 99) [cTNot, hb, sbin]
    · simp (maxDischargeDepth := 99) [cTNot, hb, h1, sbin]
  | true =>
    have hlen : (t.kids.length : Int) = 1 := by
      simp only [bareB, Bool.and_eq_true, decide_eq_true_eq] at hbb
      exact hbb.2
    obtain ⟨u, hu⟩ : ∃ u, t.kids = [u] := List.length_eq_one_iff.1 (by omega)
    have hpu : ∀ σ, lim TyD 36 [.agg u.cells] σ = some (.one (.bool (patB u)), σ) := hp u (by rw [hu]; simp)
    have hf : fst1 (t.kids.map patS) = patB u := by rw [hu]; rfl
    rw [hf]
    rw [hbb] at hb
    rw [T.cells_eq, hu, List.map_cons, List.map_nil] at hb
    rw [T.cells_eq t, hu, List.map_cons, List.map_nil]
    rw [T.cells_eq u] at hb hpu ⊢
    generalize t.kind = k at *
    by_cases h1 : k = 35
    · subst h1
      simp (maxDischargeDepth := 99) [cTNot, hb, hpu, sbin]
    · simp (maxDischargeDepth := 99) [cTNot, hb, h1, sbin]

theorem eq_patterns (N : Nat) : ∀ (t : T), t.size ≤ N → N ≤ maxElems → TestAt 36 [] patB t := by
  induction N with
  | zero => intro t h; have := t.size_pos; omega
  | succ N ih =>
    intro t ht hN σ
    refine lim_eq (TyD_prim rfl) ((TyD_code _).trans codeTPat) rfl ?_
    unfold BodyP
    have hT := t.text_size
    have hK := t.kids_size
    have hS := t.kids_sizeL
    have hkid : ∀ u ∈ t.kids, TestAt 36 [] patB u := fun u hu => ih u (by have := t.size_kid hu; omega) (by omega)
    have hnot : ∀ u ∈ t.kids, ∀ σ, lim TyD 96 [.agg u.cells] σ = some (.one (.bool (notB u)), σ) := fun u hu σ =>
      eq_notP σ u fun v hv => ih v (by have := t.size_kid hu; have := u.size_kid hv; omega) (by omega)
    have hid := fun σ => eq_id σ t.text (by omega)
    have hall := fun σ => eq_all σ t.kids 36 [] patB hkid (by omega)
    have hor0 : ∀ u ∈ t.kids, ∀ σ, lim TyD 94 [.agg u.cells, .one (.func 35 [])] σ = some (.one (.bool (orB exprB u)), σ) := fun u hu σ =>
      eq_or σ u 35 [] exprB (fun σ => eq_expr u.size u (Nat.le_refl _) (by have := t.size_kid hu; omega) σ)
    have hor1 : ∀ u ∈ t.kids, ∀ σ, lim TyD 94 [.agg u.cells, .one (.func 95 [])] σ = some (.one (.bool (orB nameT u)), σ) := fun u hu σ =>
      eq_or σ u 95 [] nameT (fun σ => eq_name σ u (by have := t.size_kid hu; omega))
    have hbare := fun σ k => eq_bare σ t k
    simp only [List.map_nil]
    rw [patB_eq]
    unfold patH
    clear ih hT hK hS
    by_cases k30 : t.kind = 30
    · rw [if_pos k30]
      cases hb : idB t.text with
      | false =>
        rw [hb] at hid
        rw [T.cells_eq, k30]
        simp (maxDischargeDepth := 99) [cTPat, sbin, beqL_iff, eq_within, hid]
      | true =>
        rw [hb] at hid
        by_cases h2 : t.n = 0
        · by_cases h3 : (t.kids.length : Int) = 2
          · obtain ⟨u, v, huv⟩ : ∃ u v, t.kids = [u, v] := kids_two (by omega)
            have q0 := hor0 u (by rw [huv]; simp)
            have q1 := hor1 v (by rw [huv]; simp)
            have e0 : kid0 (orB exprB) t = orB exprB u := by unfold kid0; rw [huv]
            have e1 : kid1 (orB nameT) t = orB nameT v := by unfold kid1; rw [huv]
            rw [e0, e1]
            generalize orB nameT v = b1 at *
            rw [T.cells_eq t, k30, h2, huv, List.map_cons, List.map_cons, List.map_nil, T.cells_eq u, T.cells_eq v]
            rw [T.cells_eq u] at q0
            rw [T.cells_eq v] at q1
            cases b0 : orB exprB u with
            | false =>
              rw [b0] at q0
              simp (maxDischargeDepth := 99) [cTPat, sbin, beqL_iff, eq_within, hid, q0]
            | true =>
              rw [b0] at q0
              simp (maxDischargeDepth := 99) [cTPat, sbin, beqL_iff, eq_within, hid, q0, q1]
          · rw [T.cells_eq, k30, h2]
            simp (maxDischargeDepth := 99) [cTPat, sbin, beqL_iff, eq_within, hid, h3]
        · rw [T.cells_eq, k30]
          simp (maxDischargeDepth := 99) [cTPat, sbin, beqL_iff, eq_within, hid, h2]
    rw [if_neg k30]
    by_cases k31 : t.kind = 31
    · rw [if_pos k31]
      cases hbb : bareB t 1 with
      | false =>
        have hb := fun σ => hbare σ 1
        rw [hbb] at hb
        rw [T.cells_eq, k31] at hb ⊢
        simp (maxDischargeDepth := 99) [cTPat, sbin, beqL_iff, eq_within, hb]
      | true =>
        have hb := fun σ => hbare σ 1
        rw [hbb] at hb
        obtain ⟨u, hu⟩ := bare_one hbb
        have q0 : ∀ σ, lim TyD 36 [.agg u.cells] σ = some (.one (.bool (patB u)), σ) := hkid u (by rw [hu]; simp)
        have e0 : fst1 (t.kids.map patS) = patB u := by rw [hu]; rfl
        rw [e0]
        rw [T.cells_eq, k31, hu, List.map_cons, List.map_nil] at hb
        rw [T.cells_eq t, k31, hu, List.map_cons, List.map_nil]
        rw [T.cells_eq u] at hb q0 ⊢
        simp (maxDischargeDepth := 99) [cTPat, sbin, beqL_iff, eq_within, hb, q0]
    rw [if_neg k31]
    by_cases k32 : t.kind = 32 ∨ t.kind = 34
    · rw [if_pos k32, pat_all]
      have hb := fun σ => hbare σ 2
      generalize t.kids.all patB = r at *
      rcases (show t.kind = 32 ∨ (¬ t.kind = 32 ∧ t.kind = 34) by omega) with k | ⟨k, k'⟩
      · rw [T.cells_eq, k] at hb ⊢
        cases hbb : bareB t 2 with
        | false =>
          rw [hbb] at hb
          simp (maxDischargeDepth := 99) [cTPat, sbin, beqL_iff, eq_within, hb]
        | true =>
          rw [hbb] at hb
          simp (maxDischargeDepth := 99) [cTPat, sbin, beqL_iff, eq_within, hb, hall]
      · rw [T.cells_eq, k'] at hb ⊢
        cases hbb : bareB t 2 with
        | false =>
          rw [hbb] at hb
          simp (maxDischargeDepth := 99) [cTPat, sbin, beqL_iff, eq_within, hb]
        | true =>
          rw [hbb] at hb
          simp (maxDischargeDepth := 99) [cTPat, sbin, beqL_iff, eq_within, hb, hall]
    rw [if_neg k32]
    have k32a : ¬ t.kind = 32 := fun h => k32 (.inl h)
    have k34 : ¬ t.kind = 34 := fun h => k32 (.inr h)
    by_cases k33 : t.kind = 33
    · rw [if_pos k33]
      cases hbb : bareB t 2 with
      | false =>
        have hb := fun σ => hbare σ 2
        rw [hbb] at hb
        rw [T.cells_eq, k33] at hb ⊢
        simp (maxDischargeDepth := 99) [cTPat, sbin, beqL_iff, eq_within, hb]
      | true =>
        have hb := fun σ => hbare σ 2
        rw [hbb] at hb
        obtain ⟨u, v, huv⟩ := bare_two hbb
        have q0 : ∀ σ, lim TyD 36 [.agg u.cells] σ = some (.one (.bool (patB u)), σ) := hkid u (by rw [huv]; simp)
        have q1 : ∀ σ, lim TyD 36 [.agg v.cells] σ = some (.one (.bool (patB v)), σ) := hkid v (by rw [huv]; simp)
        have q2 := hnot v (by rw [huv]; simp)
        have e0 : fst1 (t.kids.map patS) = patB u := by rw [huv]; rfl
        have e1 : snd1 (t.kids.map patS) = (patB v || notB v) := by rw [huv]; rfl
        rw [e0, e1]
        rw [T.cells_eq, k33, huv, List.map_cons, List.map_cons, List.map_nil] at hb
        rw [T.cells_eq t, k33, huv, List.map_cons, List.map_cons, List.map_nil]
        rw [T.cells_eq u] at hb q0 ⊢
        rw [T.cells_eq v] at hb q1 q2 ⊢
        generalize notB v = b2 at *
        cases b0 : patB u with
        | false =>
          rw [b0] at q0
          simp (maxDischargeDepth := 99) [cTPat, sbin, beqL_iff, eq_within, hb, q0]
        | true =>
          rw [b0] at q0
          cases b1 : patB v with
          | false =>
            rw [b1] at q1
            simp (maxDischargeDepth := 99) [cTPat, sbin, beqL_iff, eq_within, hb, q0, q1, q2]
          | true =>
            rw [b1] at q1
            simp (maxDischargeDepth := 99) [cTPat, sbin, beqL_iff, eq_within, hb, q0, q1]
    rw [if_neg k33]
    by_cases k36 : t.kind = 36
    · rw [if_pos k36]
      unfold timeB
      rw [T.cells_eq, k36]
      by_cases h1 : t.text = []
      · by_cases h2 : 0 ≤ t.n
        · by_cases h3 : t.n ≤ 1099511627776
          · simp (maxDischargeDepth := 99) [cTPat, sbin, beqL_iff, eq_within, h1, h2, h3]
          · simp (maxDischargeDepth := 99) [cTPat, sbin, beqL_iff, eq_within, h1, h2, h3]
        · simp (maxDischargeDepth := 99) [cTPat, sbin, beqL_iff, eq_within, h1, h2]
      · simp (maxDischargeDepth := 99) [cTPat, sbin, beqL_iff, eq_within, h1]
    rw [if_neg k36]
    by_cases k37 : t.kind = 37
    · rw [if_pos k37]
      unfold timeB
      by_cases h4 : (t.kids.length : Int) = 1
      · obtain ⟨u, hu⟩ : ∃ u, t.kids = [u] := List.length_eq_one_iff.1 (by omega)
        have q0 : ∀ σ, lim TyD 36 [.agg u.cells] σ = some (.one (.bool (patB u)), σ) := hkid u (by rw [hu]; simp)
        have e0 : fst1 (t.kids.map patS) = patB u := by rw [hu]; rfl
        rw [e0]
        rw [T.cells_eq t, k37, hu, List.map_cons, List.map_nil]
        rw [T.cells_eq u] at q0 ⊢
        by_cases h1 : t.text = []
        · by_cases h2 : 0 ≤ t.n
          · by_cases h3 : t.n ≤ 1099511627776
            · simp (maxDischargeDepth := 99) [cTPat, sbin, beqL_iff, eq_within, q0, h1, h2, h3]
            · simp (maxDischargeDepth := 99) [cTPat, sbin, beqL_iff, eq_within, q0, h1, h2, h3]
          · simp (maxDischargeDepth := 99) [cTPat, sbin, beqL_iff, eq_within, q0, h1, h2]
        · simp (maxDischargeDepth := 99) [cTPat, sbin, beqL_iff, eq_within, q0, h1]
      · rw [T.cells_eq, k37]
        by_cases h1 : t.text = []
        · by_cases h2 : 0 ≤ t.n
          · by_cases h3 : t.n ≤ 1099511627776
            · simp (maxDischargeDepth := 99) [cTPat, sbin, beqL_iff, eq_within, h4, h1, h2, h3]
            · simp (maxDischargeDepth := 99) [cTPat, sbin, beqL_iff, eq_within, h4, h1, h2, h3]
          · simp (maxDischargeDepth := 99) [cTPat, sbin, beqL_iff, eq_within, h4, h1, h2]
        · simp (maxDischargeDepth := 99) [cTPat, sbin, beqL_iff, eq_within, h4, h1]
    rw [if_neg k37, T.cells_eq]
    simp (maxDischargeDepth := 99) [cTPat, sbin, beqL_iff, eq_within, k30, k31, k32a, k33, k34, k36, k37]
end Go.Proofs.YtlgdhnjmmahgdaaGreatDoor.Ab

/- Forms of trees: view, stream, source, target, start, item, items, set, sets, from, column. -/
namespace Go.Proofs.YtlgdhnjmmahgdaaGreatDoor.Ab
open Go
set_option maxRecDepth 20000
set_option maxHeartbeats 16000000
set_option linter.unusedSimpArgs false

def viewB (t : T) : Bool :=
  if ¬ t.kind = 23 ∨ ¬ t.n = 0 then false
  else if t.text = bytes [107, 101, 101, 112, 97, 108, 108] ∨ t.text = bytes [108, 97, 115, 116, 101, 118, 101, 110, 116] ∨ t.text = bytes [102, 105, 114, 115, 116, 101, 118, 101, 110, 116] then decide ((t.kids.length : Int) = 0)
  else if t.text = bytes [108, 101, 110, 103, 116, 104] ∨ t.text = bytes [108, 101, 110, 103, 116, 104, 95, 98, 97, 116, 99, 104] then decide ((t.kids.length : Int) = 1) && kid0 (wholeB [] 65536) t
  else if t.text = bytes [116, 105, 109, 101] ∨ t.text = bytes [116, 105, 109, 101, 95, 98, 97, 116, 99, 104] then decide ((t.kids.length : Int) = 1) && kid0 (wholeB (bytes [109, 115]) 1099511627776) t
  else if t.text = bytes [117, 110, 105, 113, 117, 101] then (decide (1 ≤ (t.kids.length : Int)) && decide ((t.kids.length : Int) ≤ 32)) && t.kids.all colB
  else if t.text = bytes [115, 111, 114, 116, 101, 100] then decide ((t.kids.length : Int) = 2) && (kid0 (wholeB [] 65536) t && kid1 (orderB colB) t)
  else false
theorem eq_view (σ : AHeap) (t : T) (hm : t.size ≤ maxElems) :
    lim TyD 98 [.agg t.cells] σ = some (.one (.bool (viewB t)), σ) := by
  refine lim_eq (TyD_prim rfl) ((TyD_code _).trans codeTView) rfl ?_
  unfold BodyP viewB
  have hS := t.kids_sizeL
  have hK := t.kids_size
  have hall := fun σ => eq_all σ t.kids 150 [] colB (fun u hu σ => eq_tcol σ u (by have := T.size_mem hu; omega)) (by omega)
  by_cases h1 : t.kind = 23
  · by_cases h2 : t.n = 0
    · rw [if_neg (fun h => h.elim (fun h => h h1) (fun h => h h2))]
      by_cases t0 : t.text = bytes [107, 101, 101, 112, 97, 108, 108]
      · rw [if_pos (.inl t0)]
        rw [T.cells_eq, h1, h2]
        simp (maxDischargeDepth := 99) [cTView, sbin, beqL_iff, eq_within, t0]
      by_cases t1 : t.text = bytes [108, 97, 115, 116, 101, 118, 101, 110, 116]
      · rw [if_pos (.inr (.inl t1))]
        rw [T.cells_eq, h1, h2]
        simp (maxDischargeDepth := 99) [cTView, sbin, beqL_iff, eq_within, t1, (show ¬ (bytes [108, 97, 115, 116, 101, 118, 101, 110, 116] = bytes [107, 101, 101, 112, 97, 108, 108]) by decide)]
      by_cases t2 : t.text = bytes [102, 105, 114, 115, 116, 101, 118, 101, 110, 116]
      · rw [if_pos (.inr (.inr t2))]
        rw [T.cells_eq, h1, h2]
        simp (maxDischargeDepth := 99) [cTView, sbin, beqL_iff, eq_within, t2, (show ¬ (bytes [102, 105, 114, 115, 116, 101, 118, 101, 110, 116] = bytes [107, 101, 101, 112, 97, 108, 108]) by decide), (show ¬ (bytes [102, 105, 114, 115, 116, 101, 118, 101, 110, 116] = bytes [108, 97, 115, 116, 101, 118, 101, 110, 116]) by decide)]
      by_cases t3 : t.text = bytes [108, 101, 110, 103, 116, 104]
      · rw [if_neg (fun h => h.elim t0 (fun h => h.elim t1 t2)), if_pos (.inl t3)]
        by_cases h4 : (t.kids.length : Int) = 1
        · obtain ⟨u, hu⟩ : ∃ u, t.kids = [u] := List.length_eq_one_iff.1 (by omega)
          have e0 : kid0 (wholeB [] 65536) t = (wholeB [] 65536) u := by unfold kid0; rw [hu]
          rw [e0]
          have q := fun σ => eq_whole σ u [] 65536
          generalize (wholeB [] 65536) u = w at *
          rw [T.cells_eq t, h1, h2, hu, List.map_cons, List.map_nil]
          rw [T.cells_eq u] at q ⊢
          simp (maxDischargeDepth := 99) [cTView, sbin, beqL_iff, eq_within, q, t3, (show ¬ (bytes [108, 101, 110, 103, 116, 104] = bytes [107, 101, 101, 112, 97, 108, 108]) by decide), (show ¬ (bytes [108, 101, 110, 103, 116, 104] = bytes [108, 97, 115, 116, 101, 118, 101, 110, 116]) by decide), (show ¬ (bytes [108, 101, 110, 103, 116, 104] = bytes [102, 105, 114, 115, 116, 101, 118, 101, 110, 116]) by decide)]
        · rw [T.cells_eq, h1, h2]
          simp (maxDischargeDepth := 99) [cTView, sbin, beqL_iff, eq_within, h4, t3, (show ¬ (bytes [108, 101, 110, 103, 116, 104] = bytes [107, 101, 101, 112, 97, 108, 108]) by decide), (show ¬ (bytes [108, 101, 110, 103, 116, 104] = bytes [108, 97, 115, 116, 101, 118, 101, 110, 116]) by decide), (show ¬ (bytes [108, 101, 110, 103, 116, 104] = bytes [102, 105, 114, 115, 116, 101, 118, 101, 110, 116]) by decide)]
      by_cases t4 : t.text = bytes [108, 101, 110, 103, 116, 104, 95, 98, 97, 116, 99, 104]
      · rw [if_neg (fun h => h.elim t0 (fun h => h.elim t1 t2)), if_pos (.inr t4)]
        by_cases h4 : (t.kids.length : Int) = 1
        · obtain ⟨u, hu⟩ : ∃ u, t.kids = [u] := List.length_eq_one_iff.1 (by omega)
          have e0 : kid0 (wholeB [] 65536) t = (wholeB [] 65536) u := by unfold kid0; rw [hu]
          rw [e0]
          have q := fun σ => eq_whole σ u [] 65536
          generalize (wholeB [] 65536) u = w at *
          rw [T.cells_eq t, h1, h2, hu, List.map_cons, List.map_nil]
          rw [T.cells_eq u] at q ⊢
          simp (maxDischargeDepth := 99) [cTView, sbin, beqL_iff, eq_within, q, t4, (show ¬ (bytes [108, 101, 110, 103, 116, 104, 95, 98, 97, 116, 99, 104] = bytes [107, 101, 101, 112, 97, 108, 108]) by decide), (show ¬ (bytes [108, 101, 110, 103, 116, 104, 95, 98, 97, 116, 99, 104] = bytes [108, 97, 115, 116, 101, 118, 101, 110, 116]) by decide), (show ¬ (bytes [108, 101, 110, 103, 116, 104, 95, 98, 97, 116, 99, 104] = bytes [102, 105, 114, 115, 116, 101, 118, 101, 110, 116]) by decide), (show ¬ (bytes [108, 101, 110, 103, 116, 104, 95, 98, 97, 116, 99, 104] = bytes [108, 101, 110, 103, 116, 104]) by decide)]
        · rw [T.cells_eq, h1, h2]
          simp (maxDischargeDepth := 99) [cTView, sbin, beqL_iff, eq_within, h4, t4, (show ¬ (bytes [108, 101, 110, 103, 116, 104, 95, 98, 97, 116, 99, 104] = bytes [107, 101, 101, 112, 97, 108, 108]) by decide), (show ¬ (bytes [108, 101, 110, 103, 116, 104, 95, 98, 97, 116, 99, 104] = bytes [108, 97, 115, 116, 101, 118, 101, 110, 116]) by decide), (show ¬ (bytes [108, 101, 110, 103, 116, 104, 95, 98, 97, 116, 99, 104] = bytes [102, 105, 114, 115, 116, 101, 118, 101, 110, 116]) by decide), (show ¬ (bytes [108, 101, 110, 103, 116, 104, 95, 98, 97, 116, 99, 104] = bytes [108, 101, 110, 103, 116, 104]) by decide)]
      by_cases t5 : t.text = bytes [116, 105, 109, 101]
      · rw [if_neg (fun h => h.elim t0 (fun h => h.elim t1 t2)), if_neg (fun h => h.elim t3 t4), if_pos (.inl t5)]
        by_cases h4 : (t.kids.length : Int) = 1
        · obtain ⟨u, hu⟩ : ∃ u, t.kids = [u] := List.length_eq_one_iff.1 (by omega)
          have e0 : kid0 (wholeB (bytes [109, 115]) 1099511627776) t = (wholeB (bytes [109, 115]) 1099511627776) u := by unfold kid0; rw [hu]
          rw [e0]
          have q := fun σ => eq_whole σ u (bytes [109, 115]) 1099511627776
          generalize (wholeB (bytes [109, 115]) 1099511627776) u = w at *
          rw [T.cells_eq t, h1, h2, hu, List.map_cons, List.map_nil]
          rw [T.cells_eq u] at q ⊢
          simp (maxDischargeDepth := 99) [cTView, sbin, beqL_iff, eq_within, q, t5, (show ¬ (bytes [116, 105, 109, 101] = bytes [107, 101, 101, 112, 97, 108, 108]) by decide), (show ¬ (bytes [116, 105, 109, 101] = bytes [108, 97, 115, 116, 101, 118, 101, 110, 116]) by decide), (show ¬ (bytes [116, 105, 109, 101] = bytes [102, 105, 114, 115, 116, 101, 118, 101, 110, 116]) by decide), (show ¬ (bytes [116, 105, 109, 101] = bytes [108, 101, 110, 103, 116, 104]) by decide), (show ¬ (bytes [116, 105, 109, 101] = bytes [108, 101, 110, 103, 116, 104, 95, 98, 97, 116, 99, 104]) by decide)]
        · rw [T.cells_eq, h1, h2]
          simp (maxDischargeDepth := 99) [cTView, sbin, beqL_iff, eq_within, h4, t5, (show ¬ (bytes [116, 105, 109, 101] = bytes [107, 101, 101, 112, 97, 108, 108]) by decide), (show ¬ (bytes [116, 105, 109, 101] = bytes [108, 97, 115, 116, 101, 118, 101, 110, 116]) by decide), (show ¬ (bytes [116, 105, 109, 101] = bytes [102, 105, 114, 115, 116, 101, 118, 101, 110, 116]) by decide), (show ¬ (bytes [116, 105, 109, 101] = bytes [108, 101, 110, 103, 116, 104]) by decide), (show ¬ (bytes [116, 105, 109, 101] = bytes [108, 101, 110, 103, 116, 104, 95, 98, 97, 116, 99, 104]) by decide)]
      by_cases t6 : t.text = bytes [116, 105, 109, 101, 95, 98, 97, 116, 99, 104]
      · rw [if_neg (fun h => h.elim t0 (fun h => h.elim t1 t2)), if_neg (fun h => h.elim t3 t4), if_pos (.inr t6)]
        by_cases h4 : (t.kids.length : Int) = 1
        · obtain ⟨u, hu⟩ : ∃ u, t.kids = [u] := List.length_eq_one_iff.1 (by omega)
          have e0 : kid0 (wholeB (bytes [109, 115]) 1099511627776) t = (wholeB (bytes [109, 115]) 1099511627776) u := by unfold kid0; rw [hu]
          rw [e0]
          have q := fun σ => eq_whole σ u (bytes [109, 115]) 1099511627776
          generalize (wholeB (bytes [109, 115]) 1099511627776) u = w at *
          rw [T.cells_eq t, h1, h2, hu, List.map_cons, List.map_nil]
          rw [T.cells_eq u] at q ⊢
          simp (maxDischargeDepth := 99) [cTView, sbin, beqL_iff, eq_within, q, t6, (show ¬ (bytes [116, 105, 109, 101, 95, 98, 97, 116, 99, 104] = bytes [107, 101, 101, 112, 97, 108, 108]) by decide), (show ¬ (bytes [116, 105, 109, 101, 95, 98, 97, 116, 99, 104] = bytes [108, 97, 115, 116, 101, 118, 101, 110, 116]) by decide), (show ¬ (bytes [116, 105, 109, 101, 95, 98, 97, 116, 99, 104] = bytes [102, 105, 114, 115, 116, 101, 118, 101, 110, 116]) by decide), (show ¬ (bytes [116, 105, 109, 101, 95, 98, 97, 116, 99, 104] = bytes [108, 101, 110, 103, 116, 104]) by decide), (show ¬ (bytes [116, 105, 109, 101, 95, 98, 97, 116, 99, 104] = bytes [108, 101, 110, 103, 116, 104, 95, 98, 97, 116, 99, 104]) by decide), (show ¬ (bytes [116, 105, 109, 101, 95, 98, 97, 116, 99, 104] = bytes [116, 105, 109, 101]) by decide)]
        · rw [T.cells_eq, h1, h2]
          simp (maxDischargeDepth := 99) [cTView, sbin, beqL_iff, eq_within, h4, t6, (show ¬ (bytes [116, 105, 109, 101, 95, 98, 97, 116, 99, 104] = bytes [107, 101, 101, 112, 97, 108, 108]) by decide), (show ¬ (bytes [116, 105, 109, 101, 95, 98, 97, 116, 99, 104] = bytes [108, 97, 115, 116, 101, 118, 101, 110, 116]) by decide), (show ¬ (bytes [116, 105, 109, 101, 95, 98, 97, 116, 99, 104] = bytes [102, 105, 114, 115, 116, 101, 118, 101, 110, 116]) by decide), (show ¬ (bytes [116, 105, 109, 101, 95, 98, 97, 116, 99, 104] = bytes [108, 101, 110, 103, 116, 104]) by decide), (show ¬ (bytes [116, 105, 109, 101, 95, 98, 97, 116, 99, 104] = bytes [108, 101, 110, 103, 116, 104, 95, 98, 97, 116, 99, 104]) by decide), (show ¬ (bytes [116, 105, 109, 101, 95, 98, 97, 116, 99, 104] = bytes [116, 105, 109, 101]) by decide)]
      by_cases t7 : t.text = bytes [117, 110, 105, 113, 117, 101]
      · rw [if_neg (fun h => h.elim t0 (fun h => h.elim t1 t2)), if_neg (fun h => h.elim t3 t4), if_neg (fun h => h.elim t5 t6), if_pos t7]
        generalize t.kids.all colB = r at *
        rw [T.cells_eq, h1, h2]
        by_cases h4 : 1 ≤ (t.kids.length : Int)
        · by_cases h5 : (t.kids.length : Int) ≤ 32
          · simp (maxDischargeDepth := 99) [cTView, sbin, beqL_iff, eq_within, hall, t7, (show ¬ (bytes [117, 110, 105, 113, 117, 101] = bytes [107, 101, 101, 112, 97, 108, 108]) by decide), (show ¬ (bytes [117, 110, 105, 113, 117, 101] = bytes [108, 97, 115, 116, 101, 118, 101, 110, 116]) by decide), (show ¬ (bytes [117, 110, 105, 113, 117, 101] = bytes [102, 105, 114, 115, 116, 101, 118, 101, 110, 116]) by decide), (show ¬ (bytes [117, 110, 105, 113, 117, 101] = bytes [108, 101, 110, 103, 116, 104]) by decide), (show ¬ (bytes [117, 110, 105, 113, 117, 101] = bytes [108, 101, 110, 103, 116, 104, 95, 98, 97, 116, 99, 104]) by decide), (show ¬ (bytes [117, 110, 105, 113, 117, 101] = bytes [116, 105, 109, 101]) by decide), (show ¬ (bytes [117, 110, 105, 113, 117, 101] = bytes [116, 105, 109, 101, 95, 98, 97, 116, 99, 104]) by decide), h4, h5]
          · simp (maxDischargeDepth := 99) [cTView, sbin, beqL_iff, eq_within, hall, t7, (show ¬ (bytes [117, 110, 105, 113, 117, 101] = bytes [107, 101, 101, 112, 97, 108, 108]) by decide), (show ¬ (bytes [117, 110, 105, 113, 117, 101] = bytes [108, 97, 115, 116, 101, 118, 101, 110, 116]) by decide), (show ¬ (bytes [117, 110, 105, 113, 117, 101] = bytes [102, 105, 114, 115, 116, 101, 118, 101, 110, 116]) by decide), (show ¬ (bytes [117, 110, 105, 113, 117, 101] = bytes [108, 101, 110, 103, 116, 104]) by decide), (show ¬ (bytes [117, 110, 105, 113, 117, 101] = bytes [108, 101, 110, 103, 116, 104, 95, 98, 97, 116, 99, 104]) by decide), (show ¬ (bytes [117, 110, 105, 113, 117, 101] = bytes [116, 105, 109, 101]) by decide), (show ¬ (bytes [117, 110, 105, 113, 117, 101] = bytes [116, 105, 109, 101, 95, 98, 97, 116, 99, 104]) by decide), h4, h5]
        · simp (maxDischargeDepth := 99) [cTView, sbin, beqL_iff, eq_within, hall, t7, (show ¬ (bytes [117, 110, 105, 113, 117, 101] = bytes [107, 101, 101, 112, 97, 108, 108]) by decide), (show ¬ (bytes [117, 110, 105, 113, 117, 101] = bytes [108, 97, 115, 116, 101, 118, 101, 110, 116]) by decide), (show ¬ (bytes [117, 110, 105, 113, 117, 101] = bytes [102, 105, 114, 115, 116, 101, 118, 101, 110, 116]) by decide), (show ¬ (bytes [117, 110, 105, 113, 117, 101] = bytes [108, 101, 110, 103, 116, 104]) by decide), (show ¬ (bytes [117, 110, 105, 113, 117, 101] = bytes [108, 101, 110, 103, 116, 104, 95, 98, 97, 116, 99, 104]) by decide), (show ¬ (bytes [117, 110, 105, 113, 117, 101] = bytes [116, 105, 109, 101]) by decide), (show ¬ (bytes [117, 110, 105, 113, 117, 101] = bytes [116, 105, 109, 101, 95, 98, 97, 116, 99, 104]) by decide), h4]
      by_cases t8 : t.text = bytes [115, 111, 114, 116, 101, 100]
      · rw [if_neg (fun h => h.elim t0 (fun h => h.elim t1 t2)), if_neg (fun h => h.elim t3 t4), if_neg (fun h => h.elim t5 t6), if_neg t7, if_pos t8]
        by_cases h4 : (t.kids.length : Int) = 2
        · obtain ⟨u, v, huv⟩ := kids_two (show t.kids.length = 2 by omega)
          have e0 : kid0 (wholeB [] 65536) t = wholeB [] 65536 u := by unfold kid0; rw [huv]
          have e1 : kid1 (orderB colB) t = orderB colB v := by unfold kid1; rw [huv]
          rw [e0, e1]
          have q0 := fun σ => eq_whole σ u [] 65536
          have hvs : v.size < t.size := t.size_kid (by rw [huv]; simp)
          have q1 := fun σ => eq_order σ v 150 [] colB (fun w hw σ => eq_tcol σ w (by have := v.size_kid hw; omega))
          generalize orderB colB v = w1 at *
          rw [T.cells_eq t, h1, h2, huv, List.map_cons, List.map_cons, List.map_nil]
          rw [T.cells_eq u] at q0 ⊢
          rw [T.cells_eq v] at q1 ⊢
          cases hw : wholeB [] 65536 u with
          | false =>
            rw [hw] at q0
            simp (maxDischargeDepth := 99) [cTView, sbin, beqL_iff, eq_within, q0, t8, (show ¬ (bytes [115, 111, 114, 116, 101, 100] = bytes [107, 101, 101, 112, 97, 108, 108]) by decide), (show ¬ (bytes [115, 111, 114, 116, 101, 100] = bytes [108, 97, 115, 116, 101, 118, 101, 110, 116]) by decide), (show ¬ (bytes [115, 111, 114, 116, 101, 100] = bytes [102, 105, 114, 115, 116, 101, 118, 101, 110, 116]) by decide), (show ¬ (bytes [115, 111, 114, 116, 101, 100] = bytes [108, 101, 110, 103, 116, 104]) by decide), (show ¬ (bytes [115, 111, 114, 116, 101, 100] = bytes [108, 101, 110, 103, 116, 104, 95, 98, 97, 116, 99, 104]) by decide), (show ¬ (bytes [115, 111, 114, 116, 101, 100] = bytes [116, 105, 109, 101]) by decide), (show ¬ (bytes [115, 111, 114, 116, 101, 100] = bytes [116, 105, 109, 101, 95, 98, 97, 116, 99, 104]) by decide), (show ¬ (bytes [115, 111, 114, 116, 101, 100] = bytes [117, 110, 105, 113, 117, 101]) by decide)]
          | true =>
            rw [hw] at q0
            simp (maxDischargeDepth := 99) [cTView, sbin, beqL_iff, eq_within, q0, q1, t8, (show ¬ (bytes [115, 111, 114, 116, 101, 100] = bytes [107, 101, 101, 112, 97, 108, 108]) by decide), (show ¬ (bytes [115, 111, 114, 116, 101, 100] = bytes [108, 97, 115, 116, 101, 118, 101, 110, 116]) by decide), (show ¬ (bytes [115, 111, 114, 116, 101, 100] = bytes [102, 105, 114, 115, 116, 101, 118, 101, 110, 116]) by decide), (show ¬ (bytes [115, 111, 114, 116, 101, 100] = bytes [108, 101, 110, 103, 116, 104]) by decide), (show ¬ (bytes [115, 111, 114, 116, 101, 100] = bytes [108, 101, 110, 103, 116, 104, 95, 98, 97, 116, 99, 104]) by decide), (show ¬ (bytes [115, 111, 114, 116, 101, 100] = bytes [116, 105, 109, 101]) by decide), (show ¬ (bytes [115, 111, 114, 116, 101, 100] = bytes [116, 105, 109, 101, 95, 98, 97, 116, 99, 104]) by decide), (show ¬ (bytes [115, 111, 114, 116, 101, 100] = bytes [117, 110, 105, 113, 117, 101]) by decide)]
        · rw [T.cells_eq, h1, h2]
          simp (maxDischargeDepth := 99) [cTView, sbin, beqL_iff, eq_within, h4, t8, (show ¬ (bytes [115, 111, 114, 116, 101, 100] = bytes [107, 101, 101, 112, 97, 108, 108]) by decide), (show ¬ (bytes [115, 111, 114, 116, 101, 100] = bytes [108, 97, 115, 116, 101, 118, 101, 110, 116]) by decide), (show ¬ (bytes [115, 111, 114, 116, 101, 100] = bytes [102, 105, 114, 115, 116, 101, 118, 101, 110, 116]) by decide), (show ¬ (bytes [115, 111, 114, 116, 101, 100] = bytes [108, 101, 110, 103, 116, 104]) by decide), (show ¬ (bytes [115, 111, 114, 116, 101, 100] = bytes [108, 101, 110, 103, 116, 104, 95, 98, 97, 116, 99, 104]) by decide), (show ¬ (bytes [115, 111, 114, 116, 101, 100] = bytes [116, 105, 109, 101]) by decide), (show ¬ (bytes [115, 111, 114, 116, 101, 100] = bytes [116, 105, 109, 101, 95, 98, 97, 116, 99, 104]) by decide), (show ¬ (bytes [115, 111, 114, 116, 101, 100] = bytes [117, 110, 105, 113, 117, 101]) by decide)]
      rw [if_neg (fun h => h.elim t0 (fun h => h.elim t1 t2)), if_neg (fun h => h.elim t3 t4), if_neg (fun h => h.elim t5 t6), if_neg t7, if_neg t8, T.cells_eq, h1, h2]
      simp (maxDischargeDepth := 99) [cTView, sbin, beqL_iff, eq_within, t0, t1, t2, t3, t4, t5, t6, t7, t8]
    · rw [if_pos (.inr h2), T.cells_eq, h1]
      simp (maxDischargeDepth := 99) [cTView, sbin, beqL_iff, eq_within, h2]
  · rw [if_pos (.inl h1), T.cells_eq]
    simp (maxDischargeDepth := 99) [cTView, sbin, beqL_iff, eq_within, h1]
def streamB (t : T) : Bool := decide (t.kind = 24) && (idB t.text && (decide (t.n = 0) && ((decide (2 ≤ (t.kids.length : Int)) && decide ((t.kids.length : Int) ≤ 6)) && (kid0 (orB exprB) t && (kid1 (orB nameT) t && (t.kids.drop 2).all viewB)))))
theorem or_expr (σ : AHeap) (u : T) (h : u.size ≤ maxElems) : lim TyD 94 [.agg u.cells, .one (.func 35 [])] σ = some (.one (.bool (orB exprB u)), σ) :=
  eq_or σ u 35 [] exprB (fun σ => eq_expr u.size u (Nat.le_refl _) h σ)
theorem or_name (σ : AHeap) (u : T) (h : u.size ≤ maxElems) : lim TyD 94 [.agg u.cells, .one (.func 95 [])] σ = some (.one (.bool (orB nameT u)), σ) :=
  eq_or σ u 95 [] nameT (fun σ => eq_name σ u h)
theorem two_more {l : List T} (h : 2 ≤ (l.length : Int)) : ∃ u v m, l = u :: v :: m := match l, h with
  | u :: v :: m, _ => ⟨u, v, m, rfl⟩
  | [], h => by simp at h
  | [_], h => by simp at h
theorem eq_stream (σ : AHeap) (t : T) (hm : t.size ≤ maxElems) :
    lim TyD 192 [.agg t.cells] σ = some (.one (.bool (streamB t)), σ) := by
  refine lim_eq (TyD_prim rfl) ((TyD_code _).trans codeTStream) rfl ?_
  unfold BodyP streamB
  have hid := fun σ => eq_id σ t.text (by have := t.text_size; omega)
  by_cases h1 : t.kind = 24
  · cases hb : idB t.text with
    | false =>
      rw [hb] at hid
      rw [T.cells_eq, h1]
      simp (maxDischargeDepth := 99) [cTStream, sbin, beqL_iff, eq_within, hid]
    | true =>
      rw [hb] at hid
      by_cases h2 : t.n = 0
      · by_cases h3 : 2 ≤ (t.kids.length : Int)
        · by_cases h4 : (t.kids.length : Int) ≤ 6
          · obtain ⟨u, v, m, huv⟩ := two_more h3
            have hsz : ∀ w ∈ t.kids, w.size ≤ maxElems := fun w hw => by have := t.size_kid hw; omega
            have q0 := fun σ => or_expr σ u (hsz u (by rw [huv]; simp))
            have q1 := fun σ => or_name σ v (hsz v (by rw [huv]; simp))
            have q2 := fun σ => eq_all σ m 98 [] viewB (fun w hw σ => eq_view σ w (hsz w (by rw [huv]; simp [hw]))) (by have := t.kids_size; rw [huv] at this; simp only [List.length_cons] at this; omega)
            have e0 : kid0 (orB exprB) t = orB exprB u := by unfold kid0; rw [huv]
            have e1 : kid1 (orB nameT) t = orB nameT v := by unfold kid1; rw [huv]
            have e2 : t.kids.drop 2 = m := by rw [huv]; rfl
            have htk : List.take m.length (m.map T.cells) = m.map T.cells := List.take_of_length_le (by simp)
            have hlw : lstW 5 (u.cells :: v.cells :: m.map T.cells) = true := by simp [lstW]
            rw [e0, e1, e2]
            rw [huv] at h3 h4
            simp only [List.length_cons] at h3 h4
            generalize m.all viewB = r at *
            rw [T.cells_eq t, h1, h2, huv, List.map_cons, List.map_cons]
            rw [T.cells_eq u] at q0 hlw ⊢
            rw [T.cells_eq v] at q1 hlw ⊢
            have h3' : (2 : Int) ≤ (m.length : Int) + 1 + 1 := by omega
            have h4' : (m.length : Int) + 1 + 1 ≤ 6 := by omega
            cases hb0 : orB exprB u with
            | false =>
              rw [hb0] at q0
              simp (maxDischargeDepth := 99) [cTStream, sbin, beqL_iff, eq_within, hid, q0, h3', h4']
            | true =>
              rw [hb0] at q0
              cases hb1 : orB nameT v with
              | false =>
                rw [hb1] at q1
                simp (maxDischargeDepth := 99) [cTStream, sbin, beqL_iff, eq_within, hid, q0, q1, h3', h4']
              | true =>
                rw [hb1] at q1
                simp (maxDischargeDepth := 99) [cTStream, sbin, beqL_iff, eq_within, hid, q0, q1, q2, h3', h4', hlw, htk]
          · rw [T.cells_eq, h1, h2]
            simp (maxDischargeDepth := 99) [cTStream, sbin, beqL_iff, eq_within, hid, h3, h4]
        · rw [T.cells_eq, h1, h2]
          simp (maxDischargeDepth := 99) [cTStream, sbin, beqL_iff, eq_within, hid, h3]
      · rw [T.cells_eq, h1]
        simp (maxDischargeDepth := 99) [cTStream, sbin, beqL_iff, eq_within, hid, h2]
  · rw [T.cells_eq]
    simp (maxDischargeDepth := 99) [cTStream, sbin, beqL_iff, eq_within, h1]
end Go.Proofs.YtlgdhnjmmahgdaaGreatDoor.Ab

/- Forms of trees: source, target, start, item, items, set, sets, from, column, and tests on them. -/
namespace Go.Proofs.YtlgdhnjmmahgdaaGreatDoor.Ab
open Go
set_option maxRecDepth 20000
set_option maxHeartbeats 16000000
set_option linter.unusedSimpArgs false

def sourceB (t : T) : Bool := streamB t && decide ((t.kids.length : Int) = 2)
theorem eq_source (σ : AHeap) (t : T) (hm : t.size ≤ maxElems) :
    lim TyD 161 [.agg t.cells] σ = some (.one (.bool (sourceB t)), σ) := by
  refine lim_eq (TyD_prim rfl) ((TyD_code _).trans codeTSource) rfl ?_
  unfold BodyP sourceB
  have q := fun σ => eq_stream σ t hm
  rw [T.cells_eq] at q ⊢
  cases hb : streamB t with
  | false =>
    rw [hb] at q
    simp (maxDischargeDepth := 99) [cTSource, sbin, beqL_iff, eq_within, q]
  | true =>
    rw [hb] at q
    simp (maxDischargeDepth := 99) [cTSource, sbin, beqL_iff, eq_within, q]
theorem source_two {t : T} (h : sourceB t = true) : ∃ u v, t.kids = [u, v] := by
  simp only [sourceB, Bool.and_eq_true, decide_eq_true_eq] at h
  exact kids_two (by omega)
def targetB (t : T) : Bool := sourceB t && kid0 noneB t
theorem eq_target (σ : AHeap) (t : T) (hm : t.size ≤ maxElems) :
    lim TyD 162 [.agg t.cells] σ = some (.one (.bool (targetB t)), σ) := by
  refine lim_eq (TyD_prim rfl) ((TyD_code _).trans codeTTarget) rfl ?_
  unfold BodyP targetB
  have q := fun σ => eq_source σ t hm
  cases hb : sourceB t with
  | false =>
    rw [hb] at q
    rw [T.cells_eq] at q ⊢
    simp (maxDischargeDepth := 99) [cTTarget, sbin, beqL_iff, eq_within, q]
  | true =>
    rw [hb] at q
    obtain ⟨u, v, huv⟩ := source_two hb
    have q0 := fun σ => eq_none σ u
    have e0 : kid0 noneB t = noneB u := by unfold kid0; rw [huv]
    rw [e0]
    generalize noneB u = w at *
    rw [T.cells_eq t, huv, List.map_cons, List.map_cons, List.map_nil] at q ⊢
    rw [T.cells_eq u] at *
    rw [T.cells_eq v] at *
    simp (maxDischargeDepth := 99) [cTTarget, sbin, beqL_iff, eq_within, q, q0]
def startB (t : T) : Bool := sourceB t && kid1 noneB t
theorem eq_start (σ : AHeap) (t : T) (hm : t.size ≤ maxElems) :
    lim TyD 155 [.agg t.cells] σ = some (.one (.bool (startB t)), σ) := by
  refine lim_eq (TyD_prim rfl) ((TyD_code _).trans codeTStart) rfl ?_
  unfold BodyP startB
  have q := fun σ => eq_source σ t hm
  cases hb : sourceB t with
  | false =>
    rw [hb] at q
    rw [T.cells_eq] at q ⊢
    simp (maxDischargeDepth := 99) [cTStart, sbin, beqL_iff, eq_within, q]
  | true =>
    rw [hb] at q
    obtain ⟨u, v, huv⟩ := source_two hb
    have q0 := fun σ => eq_none σ v
    have e0 : kid1 noneB t = noneB v := by unfold kid1; rw [huv]
    rw [e0]
    generalize noneB v = w at *
    rw [T.cells_eq t, huv, List.map_cons, List.map_cons, List.map_nil] at q ⊢
    rw [T.cells_eq u] at *
    rw [T.cells_eq v] at *
    simp (maxDischargeDepth := 99) [cTStart, sbin, beqL_iff, eq_within, q, q0]
def setB (t : T) : Bool := decide (t.kind = 27) && (idB t.text && (decide (t.n = 0) && (decide ((t.kids.length : Int) = 1) && kid0 exprB t)))
theorem eq_set (σ : AHeap) (t : T) (hm : t.size ≤ maxElems) :
    lim TyD 193 [.agg t.cells] σ = some (.one (.bool (setB t)), σ) := by
  refine lim_eq (TyD_prim rfl) ((TyD_code _).trans codeTSet) rfl ?_
  unfold BodyP setB
  have hid := fun σ => eq_id σ t.text (by have := t.text_size; omega)
  by_cases h9 : (t.kids.length : Int) = 1
  · obtain ⟨u, hu⟩ : ∃ u, t.kids = [u] := List.length_eq_one_iff.1 (by omega)
    have e0 : kid0 exprB t = exprB u := by unfold kid0; rw [hu]
    have q := eq_expr u.size u (Nat.le_refl _) (by have := t.size_kid (u := u) (by rw [hu]; simp); omega)
    rw [e0]
    generalize exprB u = w at *
    rw [T.cells_eq t, hu, List.map_cons, List.map_nil]
    rw [T.cells_eq u] at q ⊢
    by_cases h1 : t.kind = 27
    · cases h2 : idB t.text with
      | false =>
        simp (maxDischargeDepth := 99) [cTSet, sbin, beqL_iff, eq_within, q, hid, h1, h2]
      | true =>
        by_cases h3 : t.n = 0
        · simp (maxDischargeDepth := 99) [cTSet, sbin, beqL_iff, eq_within, q, hid, h1, h2, h3]
        · simp (maxDischargeDepth := 99) [cTSet, sbin, beqL_iff, eq_within, q, hid, h1, h2, h3]
    · simp (maxDischargeDepth := 99) [cTSet, sbin, beqL_iff, eq_within, q, hid, h1]
  · rw [T.cells_eq]
    by_cases h1 : t.kind = 27
    · cases h2 : idB t.text with
      | false =>
        simp (maxDischargeDepth := 99) [cTSet, sbin, beqL_iff, eq_within, h9, hid, h1, h2]
      | true =>
        by_cases h3 : t.n = 0
        · simp (maxDischargeDepth := 99) [cTSet, sbin, beqL_iff, eq_within, h9, hid, h1, h2, h3]
        · simp (maxDischargeDepth := 99) [cTSet, sbin, beqL_iff, eq_within, h9, hid, h1, h2, h3]
    · simp (maxDischargeDepth := 99) [cTSet, sbin, beqL_iff, eq_within, h9, hid, h1]
def itemB (t : T) : Bool := decide (t.kind = 21) && ((decide (t.text = []) || idB t.text) && (decide (t.n = 0) && (decide ((t.kids.length : Int) = 1) && kid0 exprB t)))
theorem eq_item (σ : AHeap) (t : T) (hm : t.size ≤ maxElems) :
    lim TyD 154 [.agg t.cells] σ = some (.one (.bool (itemB t)), σ) := by
  refine lim_eq (TyD_prim rfl) ((TyD_code _).trans codeTItem) rfl ?_
  unfold BodyP itemB
  have hid := fun σ => eq_id σ t.text (by have := t.text_size; omega)
  by_cases h9 : (t.kids.length : Int) = 1
  · obtain ⟨u, hu⟩ : ∃ u, t.kids = [u] := List.length_eq_one_iff.1 (by omega)
    have e0 : kid0 exprB t = exprB u := by unfold kid0; rw [hu]
    have q := eq_expr u.size u (Nat.le_refl _) (by have := t.size_kid (u := u) (by rw [hu]; simp); omega)
    rw [e0]
    generalize exprB u = w at *
    rw [T.cells_eq t, hu, List.map_cons, List.map_nil]
    rw [T.cells_eq u] at q ⊢
    by_cases h1 : t.kind = 21
    · by_cases h2 : t.text = []
      · by_cases h3 : t.n = 0
        · simp (maxDischargeDepth := 99) [cTItem, sbin, beqL_iff, eq_within, h1, h2, hid, q, h3]
        · simp (maxDischargeDepth := 99) [cTItem, sbin, beqL_iff, eq_within, h1, h2, hid, q, h3]
      · cases hb : idB t.text with
        | false => simp (maxDischargeDepth := 99) [cTItem, sbin, beqL_iff, eq_within, h1, h2, hb, hid, q]
        | true =>
          by_cases h3 : t.n = 0
          · simp (maxDischargeDepth := 99) [cTItem, sbin, beqL_iff, eq_within, h1, h2, hb, hid, q, h3]
          · simp (maxDischargeDepth := 99) [cTItem, sbin, beqL_iff, eq_within, h1, h2, hb, hid, q, h3]
    · simp (maxDischargeDepth := 99) [cTItem, sbin, beqL_iff, eq_within, h1, hid, q]
  · rw [T.cells_eq]
    by_cases h1 : t.kind = 21
    · by_cases h2 : t.text = []
      · by_cases h3 : t.n = 0
        · simp (maxDischargeDepth := 99) [cTItem, sbin, beqL_iff, eq_within, h1, h2, hid, h9, h3]
        · simp (maxDischargeDepth := 99) [cTItem, sbin, beqL_iff, eq_within, h1, h2, hid, h9, h3]
      · cases hb : idB t.text with
        | false => simp (maxDischargeDepth := 99) [cTItem, sbin, beqL_iff, eq_within, h1, h2, hb, hid, h9]
        | true =>
          by_cases h3 : t.n = 0
          · simp (maxDischargeDepth := 99) [cTItem, sbin, beqL_iff, eq_within, h1, h2, hb, hid, h9, h3]
          · simp (maxDischargeDepth := 99) [cTItem, sbin, beqL_iff, eq_within, h1, h2, hb, hid, h9, h3]
    · simp (maxDischargeDepth := 99) [cTItem, sbin, beqL_iff, eq_within, h1, hid, h9]
def itemsB (t : T) : Bool := starB t || listB itemB 1 32 t
theorem eq_items (σ : AHeap) (t : T) (hm : t.size ≤ maxElems) :
    lim TyD 156 [.agg t.cells] σ = some (.one (.bool (itemsB t)), σ) := by
  refine lim_eq (TyD_prim rfl) ((TyD_code _).trans codeTItems) rfl ?_
  unfold BodyP itemsB
  have q := fun σ => eq_star σ t
  have q1 := fun σ => eq_list σ t 1 32 154 [] itemB (fun u hu σ => eq_item σ u (by have := t.size_kid hu; omega)) (by have := t.kids_size; omega)
  generalize listB itemB 1 32 t = w at *
  rw [T.cells_eq] at q q1 ⊢
  cases hb : starB t with
  | false =>
    rw [hb] at q
    simp (maxDischargeDepth := 99) [cTItems, sbin, beqL_iff, eq_within, q, q1]
  | true =>
    rw [hb] at q
    simp (maxDischargeDepth := 99) [cTItems, sbin, beqL_iff, eq_within, q, q1]
def setsB (t : T) : Bool := listB setB 1 32 t
theorem eq_sets (σ : AHeap) (t : T) (hm : t.size ≤ maxElems) :
    lim TyD 163 [.agg t.cells] σ = some (.one (.bool (setsB t)), σ) := by
  refine lim_eq (TyD_prim rfl) ((TyD_code _).trans codeTSets) rfl ?_
  unfold BodyP setsB
  have q1 := fun σ => eq_list σ t 1 32 193 [] setB (fun u hu σ => eq_set σ u (by have := t.size_kid hu; omega)) (by have := t.kids_size; omega)
  generalize listB setB 1 32 t = w at *
  rw [T.cells_eq] at q1 ⊢
  simp (maxDischargeDepth := 99) [cTSets, sbin, beqL_iff, eq_within, q1]
def fromB (t : T) : Bool := if t.kind = 38 then bareB t 2 && (kid0 patB t && kid1 (orB nameT) t) else listB streamB 1 2 t
theorem eq_from (σ : AHeap) (t : T) (hm : t.size ≤ maxElems) :
    lim TyD 157 [.agg t.cells] σ = some (.one (.bool (fromB t)), σ) := by
  refine lim_eq (TyD_prim rfl) ((TyD_code _).trans codeTFrom) rfl ?_
  unfold BodyP fromB
  by_cases h1 : t.kind = 38
  · rw [if_pos h1]
    have hb := fun σ => eq_bare σ t 2
    cases hbb : bareB t 2 with
    | false =>
      rw [hbb] at hb
      rw [T.cells_eq, h1] at hb ⊢
      simp (maxDischargeDepth := 99) [cTFrom, sbin, beqL_iff, eq_within, hb]
    | true =>
      rw [hbb] at hb
      obtain ⟨u, v, huv⟩ := bare_two hbb
      have hsz : ∀ w ∈ t.kids, w.size ≤ maxElems := fun w hw => by have := t.size_kid hw; omega
      have q0 : ∀ σ, lim TyD 36 [.agg u.cells] σ = some (.one (.bool (patB u)), σ) := eq_patterns u.size u (Nat.le_refl _) (hsz u (by rw [huv]; simp))
      have q1 := fun σ => or_name σ v (hsz v (by rw [huv]; simp))
      have e0 : kid0 patB t = patB u := by unfold kid0; rw [huv]
      have e1 : kid1 (orB nameT) t = orB nameT v := by unfold kid1; rw [huv]
      rw [e0, e1]
      generalize orB nameT v = w at *
      rw [T.cells_eq, h1, huv, List.map_cons, List.map_cons, List.map_nil] at hb
      rw [T.cells_eq t, h1, huv, List.map_cons, List.map_cons, List.map_nil]
      rw [T.cells_eq u] at hb q0 ⊢
      rw [T.cells_eq v] at hb q1 ⊢
      cases hp : patB u with
      | false =>
        rw [hp] at q0
        simp (maxDischargeDepth := 99) [cTFrom, sbin, beqL_iff, eq_within, hb, q0]
      | true =>
        rw [hp] at q0
        simp (maxDischargeDepth := 99) [cTFrom, sbin, beqL_iff, eq_within, hb, q0, q1]
  · rw [if_neg h1]
    have q1 := fun σ => eq_list σ t 1 2 192 [] streamB (fun u hu σ => eq_stream σ u (by have := t.size_kid hu; omega)) (by have := t.kids_size; omega)
    generalize listB streamB 1 2 t = w at *
    rw [T.cells_eq] at q1 ⊢
    simp (maxDischargeDepth := 99) [cTFrom, sbin, beqL_iff, eq_within, q1, h1]
def columnB (t : T) : Bool := decide (t.kind = 39) && (idB t.text && ((decide (1 ≤ t.n) && decide (t.n ≤ 4)) && decide ((t.kids.length : Int) = 0)))
theorem eq_column (σ : AHeap) (t : T) (hm : t.size ≤ maxElems) :
    lim TyD 97 [.agg t.cells] σ = some (.one (.bool (columnB t)), σ) := by
  refine lim_eq (TyD_prim rfl) ((TyD_code _).trans codeTColumn) rfl ?_
  unfold BodyP columnB
  have hid := fun σ => eq_id σ t.text (by have := t.text_size; omega)
  rw [T.cells_eq]
  by_cases h1 : t.kind = 39
  · cases h2 : idB t.text with
    | false =>
      simp (maxDischargeDepth := 99) [cTColumn, sbin, beqL_iff, eq_within, hid, h1, h2]
    | true =>
      by_cases h3 : 1 ≤ t.n
      · by_cases h4 : t.n ≤ 4
        · simp (maxDischargeDepth := 99) [cTColumn, sbin, beqL_iff, eq_within, hid, h1, h2, h3, h4]
        · simp (maxDischargeDepth := 99) [cTColumn, sbin, beqL_iff, eq_within, hid, h1, h2, h3, h4]
      · simp (maxDischargeDepth := 99) [cTColumn, sbin, beqL_iff, eq_within, hid, h1, h2, h3]
  · simp (maxDischargeDepth := 99) [cTColumn, sbin, beqL_iff, eq_within, hid, h1]
def ctx1B (t : T) : Bool := decide (t.kind = 6) && (leafB t && decide ((t.kids.length : Int) = 1))
theorem eq_ctx1 (σ : AHeap) (t : T) (hm : t.size ≤ maxElems) :
    lim TyD 152 [.agg t.cells] σ = some (.one (.bool (ctx1B t)), σ) := by
  refine lim_eq (TyD_prim rfl) ((TyD_code _).trans codeTCtx1) rfl ?_
  unfold BodyP ctx1B
  have q := fun σ => eq_leaf σ t hm
  generalize leafB t = w at *
  rw [T.cells_eq] at q ⊢
  generalize t.kind = k at *
  by_cases h1 : k = 6
  · subst h1
    cases h2 : w with
    | false =>
      simp (maxDischargeDepth := 99) [cTCtx1, sbin, beqL_iff, eq_within, q, h2]
    | true =>
      simp (maxDischargeDepth := 99) [cTCtx1, sbin, beqL_iff, eq_within, q, h2]
  · simp (maxDischargeDepth := 99) [cTCtx1, sbin, beqL_iff, eq_within, q, h1]
def ctx2B (t : T) : Bool := itemB t && !decide (t.text = [])
theorem eq_ctx2 (σ : AHeap) (t : T) (hm : t.size ≤ maxElems) :
    lim TyD 153 [.agg t.cells] σ = some (.one (.bool (ctx2B t)), σ) := by
  refine lim_eq (TyD_prim rfl) ((TyD_code _).trans codeTCtx2) rfl ?_
  unfold BodyP ctx2B
  have q := fun σ => eq_item σ t hm
  generalize itemB t = w at *
  rw [T.cells_eq] at q ⊢
  cases h2 : w with
  | false =>
    simp (maxDischargeDepth := 99) [cTCtx2, sbin, beqL_iff, eq_within, q, h2]
  | true =>
    simp (maxDischargeDepth := 99) [cTCtx2, sbin, beqL_iff, eq_within, q, h2]
theorem eq_sel1 (σ : AHeap) (t : T) (hm : t.size ≤ maxElems) : lim TyD 159 [.agg t.cells] σ = some (.one (.bool (orderB exprB t)), σ) := by
  refine lim_eq (TyD_prim rfl) ((TyD_code _).trans codeTSel1) rfl ?_
  unfold BodyP
  have q := fun σ => eq_order σ t 35 [] exprB (fun u hu => eq_expr u.size u (Nat.le_refl _) (by have := t.size_kid hu; omega))
  generalize orderB exprB t = w at *
  rw [T.cells_eq] at q ⊢
  simp (maxDischargeDepth := 99) [cTSel1, sbin, beqL_iff, eq_within, q]
end Go.Proofs.YtlgdhnjmmahgdaaGreatDoor.Ab

/- Forms of trees: rate, sel, context, on, stmt; tree.Form. -/
namespace Go.Proofs.YtlgdhnjmmahgdaaGreatDoor.Ab
open Go
set_option maxRecDepth 20000
set_option maxHeartbeats 16000000
set_option linter.unusedSimpArgs false

def rateNames : List (List UInt8) := [bytes [97, 108, 108], bytes [102, 105, 114, 115, 116], bytes [108, 97, 115, 116], bytes [115, 110, 97, 112, 115, 104, 111, 116]]
def rateN (s : List UInt8) : Bool := decide (s ∈ rateNames)
theorem eq_rates (σ : AHeap) (id : Nat) (cap : Option Nat) (x : List UInt8) (h : σ.get id = some ⟨[.str (bytes [97, 108, 108]), .str (bytes [102, 105, 114, 115, 116]), .str (bytes [108, 97, 115, 116]), .str (bytes [115, 110, 97, 112, 115, 104, 111, 116])], .own⟩) :
    lim TyD 89 [.one (.slice id 0 1 4 cap), .one (.str x)] σ = some (.one (.bool (rateN x)), σ) := eq_contOwn rateNames (by decide) σ id 4 cap x rfl h
def rateK (n : Int) (u : T) : Bool :=
  if ¬ u.kind = 15 ∨ ¬ u.n = 0 ∨ ¬ (u.kids.length : Int) = 0 then false
  else (decide (u.text = bytes [101, 118, 101, 110, 116, 115]) && (decide (1 ≤ n) && decide (n ≤ 65536))) || (decide (u.text = bytes [109, 115]) && (decide (1 ≤ n) && decide (n ≤ 1099511627776)))
def rateB (t : T) : Bool := if ¬ t.kind = 26 ∨ ¬ rateN t.text = true ∨ ¬ (t.kids.length : Int) = 1 then false else kid0 (rateK t.n) t
theorem eq_rate (σ : AHeap) (t : T) :
    lim TyD 160 [.agg t.cells] σ = some (.one (.bool (rateB t)), σ) := by
  refine lim_eq (TyD_prim rfl) ((TyD_code _).trans codeTRate) rfl ?_
  unfold BodyP rateB
  have hc := eq_rates
  have hle : σ.size ≤ σ.size + 1 + 1 := by omega
  have hne : ¬ (σ.size = σ.size + 1 + 1) := by omega
  by_cases h1 : t.kind = 26
  · cases h2 : rateN t.text with
    | false =>
      rw [if_pos (.inr (.inl (by decide))), T.cells_eq, h1]
      simp (maxDischargeDepth := 99) [cTRate, sbin, beqL_iff, eq_within, hc, h2]
    | true =>
      by_cases h3 : (t.kids.length : Int) = 1
      · rw [if_neg (fun h => h.elim (fun h => h h1) (fun h => h.elim (fun h => h rfl) (fun h => h h3)))]
        obtain ⟨u, hu⟩ : ∃ u, t.kids = [u] := List.length_eq_one_iff.1 (by omega)
        have e0 : kid0 (rateK t.n) t = rateK t.n u := by unfold kid0; rw [hu]
        rw [e0]
        unfold rateK
        rw [T.cells_eq t, h1, hu, List.map_cons, List.map_nil, T.cells_eq u]
        by_cases g1 : u.kind = 15
        · by_cases g2 : u.n = 0
          · by_cases g3 : (u.kids.length : Int) = 0
            · have g3' : u.kids = [] := List.eq_nil_of_length_eq_zero (by omega)
              rw [if_neg (fun h => h.elim (fun h => h g1) (fun h => h.elim (fun h => h g2) (fun h => h g3)))]
              rw [g3', List.map_nil]
              by_cases g4 : u.text = bytes [101, 118, 101, 110, 116, 115]
              · by_cases g5 : 1 ≤ t.n
                · by_cases g6 : t.n ≤ 65536
                  · simp (maxDischargeDepth := 99) [cTRate, sbin, beqL_iff, eq_within, hc, h2, hne, hle, Keeps.put, g1, g2, g4, g5, g6]
                  · simp (maxDischargeDepth := 99) [cTRate, sbin, beqL_iff, eq_within, hc, h2, hne, hle, Keeps.put, g1, g2, g4, g5, g6, (show ¬ (bytes [101, 118, 101, 110, 116, 115] = bytes [109, 115]) by decide)]
                · simp (maxDischargeDepth := 99) [cTRate, sbin, beqL_iff, eq_within, hc, h2, hne, hle, Keeps.put, g1, g2, g4, g5, (show ¬ (bytes [101, 118, 101, 110, 116, 115] = bytes [109, 115]) by decide)]
              · by_cases g7 : u.text = bytes [109, 115]
                · by_cases g5 : 1 ≤ t.n
                  · by_cases g6 : t.n ≤ 1099511627776
                    · simp (maxDischargeDepth := 99) [cTRate, sbin, beqL_iff, eq_within, hc, h2, hne, hle, Keeps.put, g1, g2, g4, g7, g5, g6, (show ¬ (bytes [109, 115] = bytes [101, 118, 101, 110, 116, 115]) by decide)]
                    · simp (maxDischargeDepth := 99) [cTRate, sbin, beqL_iff, eq_within, hc, h2, hne, hle, Keeps.put, g1, g2, g4, g7, g5, g6, (show ¬ (bytes [109, 115] = bytes [101, 118, 101, 110, 116, 115]) by decide)]
                  · simp (maxDischargeDepth := 99) [cTRate, sbin, beqL_iff, eq_within, hc, h2, hne, hle, Keeps.put, g1, g2, g4, g7, g5, (show ¬ (bytes [109, 115] = bytes [101, 118, 101, 110, 116, 115]) by decide)]
                · simp (maxDischargeDepth := 99) [cTRate, sbin, beqL_iff, eq_within, hc, h2, hne, hle, Keeps.put, g1, g2, g4, g7]
            · have g3' : ¬ u.kids = [] := fun h => g3 (by rw [h]; rfl)
              rw [if_pos (.inr (.inr g3))]
              simp (maxDischargeDepth := 99) [cTRate, sbin, beqL_iff, eq_within, hc, h2, hne, hle, Keeps.put, g1, g2, g3, g3']
          · rw [if_pos (.inr (.inl g2))]
            simp (maxDischargeDepth := 99) [cTRate, sbin, beqL_iff, eq_within, hc, h2, hne, hle, Keeps.put, g1, g2]
        · rw [if_pos (.inl g1)]
          simp (maxDischargeDepth := 99) [cTRate, sbin, beqL_iff, eq_within, hc, h2, hne, hle, Keeps.put, g1]
      · rw [if_pos (.inr (.inr h3)), T.cells_eq, h1]
        simp (maxDischargeDepth := 99) [cTRate, sbin, beqL_iff, eq_within, hc, h2, h3]
  · rw [if_pos (.inl h1), T.cells_eq]
    simp (maxDischargeDepth := 99) [cTRate, sbin, beqL_iff, eq_within, hc, h1]
end Go.Proofs.YtlgdhnjmmahgdaaGreatDoor.Ab

/- Forms of trees: sel, context, on, stmt; tree.Form. -/
namespace Go.Proofs.YtlgdhnjmmahgdaaGreatDoor.Ab
open Go
set_option maxRecDepth 20000
set_option maxHeartbeats 16000000
set_option linter.unusedSimpArgs false

def kidAt (i : Nat) (p : T → Bool) (t : T) : Bool := match t.kids[i]? with
  | some u => p u
  | none => false
theorem eight {l : List T} (h : l.length = 8) : ∃ a b c d e f g i, l = [a, b, c, d, e, f, g, i] := match l, h with
  | [a, b, c, d, e, f, g, i], _ => ⟨a, b, c, d, e, f, g, i, rfl⟩
theorem or_rate (σ : AHeap) (u : T) : lim TyD 94 [.agg u.cells, .one (.func 160 [])] σ = some (.one (.bool (orB rateB u)), σ) :=
  eq_or σ u 160 [] rateB (fun σ => eq_rate σ u)
theorem list_expr (σ : AHeap) (u : T) (lo hi : Int) (h : u.size ≤ maxElems) : lim TyD 158 [.agg u.cells, .one (.int .i64 lo), .one (.int .i64 hi), .one (.func 35 [])] σ = some (.one (.bool (listB exprB lo hi u)), σ) :=
  eq_list σ u lo hi 35 [] exprB (fun v hv σ => eq_expr v.size v (Nat.le_refl _) (by have := u.size_kid hv; omega) σ) (by have := u.kids_size; omega)
theorem list_order (σ : AHeap) (u : T) (lo hi : Int) (h : u.size ≤ maxElems) : lim TyD 158 [.agg u.cells, .one (.int .i64 lo), .one (.int .i64 hi), .one (.func 159 [])] σ = some (.one (.bool (listB (orderB exprB) lo hi u)), σ) :=
  eq_list σ u lo hi 159 [] (orderB exprB) (fun v hv σ => eq_sel1 σ v (by have := u.size_kid hv; omega)) (by have := u.kids_size; omega)
def selB (t : T) : Bool := (decide (t.text = []) || idB t.text) && ((decide (1 ≤ t.n) && decide (t.n ≤ 3)) && (decide ((t.kids.length : Int) = 8) &&
  (kidAt 0 (orB nameT) t && (kidAt 1 itemsB t && (kidAt 2 fromB t && (kidAt 3 (orB exprB) t && (kidAt 4 (listB exprB 0 32) t && (kidAt 5 (orB exprB) t && (kidAt 6 (listB (orderB exprB) 0 32) t && kidAt 7 (orB rateB) t)))))))))
theorem eq_sel (σ : AHeap) (t : T) (hm : t.size ≤ maxElems) :
    lim TyD 100 [.agg t.cells] σ = some (.one (.bool (selB t)), σ) := by
  refine lim_eq (TyD_prim rfl) ((TyD_code _).trans codeTSel) rfl ?_
  unfold BodyP selB
  have hid := fun σ => eq_id σ t.text (by have := t.text_size; omega)
  have hsz : ∀ w ∈ t.kids, w.size ≤ maxElems := fun w hw => by have := t.size_kid hw; omega
  by_cases h8 : (t.kids.length : Int) = 8
  · obtain ⟨a, b, c, d, e, f, g, i, hk⟩ := eight (show t.kids.length = 8 by omega)
    have q0 := fun σ => or_name σ a (hsz a (by rw [hk]; simp))
    have e0 : kidAt 0 (orB nameT) t = orB nameT a := by unfold kidAt; rw [hk]; rfl
    have q1 := fun σ => eq_items σ b (hsz b (by rw [hk]; simp))
    have e1 : kidAt 1 (itemsB) t = itemsB b := by unfold kidAt; rw [hk]; rfl
    have q2 := fun σ => eq_from σ c (hsz c (by rw [hk]; simp))
    have e2 : kidAt 2 (fromB) t = fromB c := by unfold kidAt; rw [hk]; rfl
    have q3 := fun σ => or_expr σ d (hsz d (by rw [hk]; simp))
    have e3 : kidAt 3 (orB exprB) t = orB exprB d := by unfold kidAt; rw [hk]; rfl
    have q4 := fun σ => list_expr σ e 0 32 (hsz e (by rw [hk]; simp))
    have e4 : kidAt 4 (listB exprB 0 32) t = listB exprB 0 32 e := by unfold kidAt; rw [hk]; rfl
    have q5 := fun σ => or_expr σ f (hsz f (by rw [hk]; simp))
    have e5 : kidAt 5 (orB exprB) t = orB exprB f := by unfold kidAt; rw [hk]; rfl
    have q6 := fun σ => list_order σ g 0 32 (hsz g (by rw [hk]; simp))
    have e6 : kidAt 6 (listB (orderB exprB) 0 32) t = listB (orderB exprB) 0 32 g := by unfold kidAt; rw [hk]; rfl
    have q7 := fun σ => or_rate σ i
    have e7 : kidAt 7 (orB rateB) t = orB rateB i := by unfold kidAt; rw [hk]; rfl
    rw [e0, e1, e2, e3, e4, e5, e6, e7]
    generalize orB rateB i = w7 at *
    have hh8 : decide ((t.kids.length : Int) = 8) = true := by rw [h8]; rfl
    rw [hh8]
    rw [T.cells_eq t, hk]
    simp only [List.map_cons, List.map_nil]
    clear hsz e0 e1 e2 e3 e4 e5 e6 e7 hk h8
    by_cases h1 : t.text = []
    · by_cases h5 : 1 ≤ t.n
      · by_cases h6 : t.n ≤ 3
        · cases w0 : orB nameT a with
          | false =>
            simp (maxDischargeDepth := 99) [cTSel, sbin, beqL_iff, eq_within, h1, hid, q0, q1, q2, q3, q4, q5, q6, q7, h5, h6, w0]
          | true =>
            cases w1 : itemsB b with
            | false =>
              simp (maxDischargeDepth := 99) [cTSel, sbin, beqL_iff, eq_within, h1, hid, q0, q1, q2, q3, q4, q5, q6, q7, h5, h6, w0, w1]
            | true =>
              cases w2 : fromB c with
              | false =>
                simp (maxDischargeDepth := 99) [cTSel, sbin, beqL_iff, eq_within, h1, hid, q0, q1, q2, q3, q4, q5, q6, q7, h5, h6, w0, w1, w2]
              | true =>
                cases w3 : orB exprB d with
                | false =>
                  simp (maxDischargeDepth := 99) [cTSel, sbin, beqL_iff, eq_within, h1, hid, q0, q1, q2, q3, q4, q5, q6, q7, h5, h6, w0, w1, w2, w3]
                | true =>
                  cases w4 : listB exprB 0 32 e with
                  | false =>
                    simp (maxDischargeDepth := 99) [cTSel, sbin, beqL_iff, eq_within, h1, hid, q0, q1, q2, q3, q4, q5, q6, q7, h5, h6, w0, w1, w2, w3, w4]
                  | true =>
                    cases w5 : orB exprB f with
                    | false =>
                      simp (maxDischargeDepth := 99) [cTSel, sbin, beqL_iff, eq_within, h1, hid, q0, q1, q2, q3, q4, q5, q6, q7, h5, h6, w0, w1, w2, w3, w4, w5]
                    | true =>
                      cases w6 : listB (orderB exprB) 0 32 g with
                      | false =>
                        simp (maxDischargeDepth := 99) [cTSel, sbin, beqL_iff, eq_within, h1, hid, q0, q1, q2, q3, q4, q5, q6, q7, h5, h6, w0, w1, w2, w3, w4, w5, w6]
                      | true =>
                        simp (maxDischargeDepth := 99) [cTSel, sbin, beqL_iff, eq_within, h1, hid, q0, q1, q2, q3, q4, q5, q6, q7, h5, h6, w0, w1, w2, w3, w4, w5, w6]
        · simp (maxDischargeDepth := 99) [cTSel, sbin, beqL_iff, eq_within, h1, hid, q0, q1, q2, q3, q4, q5, q6, q7, h5, h6]
      · simp (maxDischargeDepth := 99) [cTSel, sbin, beqL_iff, eq_within, h1, hid, q0, q1, q2, q3, q4, q5, q6, q7, h5]
    · cases h2 : idB t.text with
      | false => simp (maxDischargeDepth := 99) [cTSel, sbin, beqL_iff, eq_within, h1, h2, hid, q0, q1, q2, q3, q4, q5, q6, q7]
      | true =>
        by_cases h5 : 1 ≤ t.n
        · by_cases h6 : t.n ≤ 3
          · cases w0 : orB nameT a with
            | false =>
              simp (maxDischargeDepth := 99) [cTSel, sbin, beqL_iff, eq_within, h1, h2, hid, q0, q1, q2, q3, q4, q5, q6, q7, h5, h6, w0]
            | true =>
              cases w1 : itemsB b with
              | false =>
                simp (maxDischargeDepth := 99) [cTSel, sbin, beqL_iff, eq_within, h1, h2, hid, q0, q1, q2, q3, q4, q5, q6, q7, h5, h6, w0, w1]
              | true =>
                cases w2 : fromB c with
                | false =>
                  simp (maxDischargeDepth := 99) [cTSel, sbin, beqL_iff, eq_within, h1, h2, hid, q0, q1, q2, q3, q4, q5, q6, q7, h5, h6, w0, w1, w2]
                | true =>
                  cases w3 : orB exprB d with
                  | false =>
                    simp (maxDischargeDepth := 99) [cTSel, sbin, beqL_iff, eq_within, h1, h2, hid, q0, q1, q2, q3, q4, q5, q6, q7, h5, h6, w0, w1, w2, w3]
                  | true =>
                    cases w4 : listB exprB 0 32 e with
                    | false =>
                      simp (maxDischargeDepth := 99) [cTSel, sbin, beqL_iff, eq_within, h1, h2, hid, q0, q1, q2, q3, q4, q5, q6, q7, h5, h6, w0, w1, w2, w3, w4]
                    | true =>
                      cases w5 : orB exprB f with
                      | false =>
                        simp (maxDischargeDepth := 99) [cTSel, sbin, beqL_iff, eq_within, h1, h2, hid, q0, q1, q2, q3, q4, q5, q6, q7, h5, h6, w0, w1, w2, w3, w4, w5]
                      | true =>
                        cases w6 : listB (orderB exprB) 0 32 g with
                        | false =>
                          simp (maxDischargeDepth := 99) [cTSel, sbin, beqL_iff, eq_within, h1, h2, hid, q0, q1, q2, q3, q4, q5, q6, q7, h5, h6, w0, w1, w2, w3, w4, w5, w6]
                        | true =>
                          simp (maxDischargeDepth := 99) [cTSel, sbin, beqL_iff, eq_within, h1, h2, hid, q0, q1, q2, q3, q4, q5, q6, q7, h5, h6, w0, w1, w2, w3, w4, w5, w6]
          · simp (maxDischargeDepth := 99) [cTSel, sbin, beqL_iff, eq_within, h1, h2, hid, q0, q1, q2, q3, q4, q5, q6, q7, h5, h6]
        · simp (maxDischargeDepth := 99) [cTSel, sbin, beqL_iff, eq_within, h1, h2, hid, q0, q1, q2, q3, q4, q5, q6, q7, h5]
  · rw [T.cells_eq]
    by_cases h1 : t.text = []
    · by_cases h5 : 1 ≤ t.n
      · by_cases h6 : t.n ≤ 3
        · simp (maxDischargeDepth := 99) [cTSel, sbin, beqL_iff, eq_within, hid, h1, h8, h5, h6]
        · simp (maxDischargeDepth := 99) [cTSel, sbin, beqL_iff, eq_within, hid, h1, h8, h5, h6]
      · simp (maxDischargeDepth := 99) [cTSel, sbin, beqL_iff, eq_within, hid, h1, h8, h5]
    · cases h2 : idB t.text with
      | false => simp (maxDischargeDepth := 99) [cTSel, sbin, beqL_iff, eq_within, h1, h2, hid]
      | true =>
        by_cases h5 : 1 ≤ t.n
        · by_cases h6 : t.n ≤ 3
          · simp (maxDischargeDepth := 99) [cTSel, sbin, beqL_iff, eq_within, hid, h1, h2, h8, h5, h6]
          · simp (maxDischargeDepth := 99) [cTSel, sbin, beqL_iff, eq_within, hid, h1, h2, h8, h5, h6]
        · simp (maxDischargeDepth := 99) [cTSel, sbin, beqL_iff, eq_within, hid, h1, h2, h8, h5]
end Go.Proofs.YtlgdhnjmmahgdaaGreatDoor.Ab

/- Forms of trees: context, on, stmt; tree.Form. -/
namespace Go.Proofs.YtlgdhnjmmahgdaaGreatDoor.Ab
open Go
set_option maxRecDepth 20000
set_option maxHeartbeats 16000000
set_option linter.unusedSimpArgs false

def lastB (u : T) : Bool := startB u || (decide (u.kind = 36) && (patB u && decide (0 < u.n)))
def ctxB (t : T) : Bool :=
  if t.kind = 58 then bareB t t.kids.length && ((decide (1 ≤ (t.kids.length : Int)) && decide ((t.kids.length : Int) ≤ 32)) && t.kids.all ctx1B)
  else if t.kind = 59 then idB t.text && (decide (t.n = 0) && ((decide (1 ≤ (t.kids.length : Int)) && decide ((t.kids.length : Int) ≤ 32)) && t.kids.all ctx2B))
  else if t.kind = 60 then (if ¬ t.text = [] ∨ ¬ (0 ≤ t.n ∧ t.n ≤ 1) ∨ ¬ (t.kids.length : Int) = 2 then false else kidAt 0 startB t && kidAt 1 lastB t)
  else false
theorem eq_ctx (σ : AHeap) (t : T) (hm : t.size ≤ maxElems) :
    lim TyD 99 [.agg t.cells] σ = some (.one (.bool (ctxB t)), σ) := by
  refine lim_eq (TyD_prim rfl) ((TyD_code _).trans codeTCtx) rfl ?_
  unfold BodyP ctxB
  have hsz : ∀ w ∈ t.kids, w.size ≤ maxElems := fun w hw => by have := t.size_kid hw; omega
  have hid := fun σ => eq_id σ t.text (by have := t.text_size; omega)
  have hall1 := fun σ => eq_all σ t.kids 152 [] ctx1B (fun u hu σ => eq_ctx1 σ u (hsz u hu)) (by have := t.kids_size; omega)
  have hall2 := fun σ => eq_all σ t.kids 153 [] ctx2B (fun u hu σ => eq_ctx2 σ u (hsz u hu)) (by have := t.kids_size; omega)
  by_cases k58 : t.kind = 58
  · rw [if_pos k58]
    have hb := fun σ => eq_bare σ t t.kids.length
    generalize t.kids.all ctx1B = r at *
    cases hbb : bareB t t.kids.length with
    | false =>
      rw [hbb] at hb
      rw [T.cells_eq, k58] at hb ⊢
      simp (maxDischargeDepth := 99) [cTCtx, sbin, beqL_iff, eq_within, hb]
    | true =>
      rw [hbb] at hb
      rw [T.cells_eq, k58] at hb ⊢
      by_cases h4 : 1 ≤ (t.kids.length : Int)
      · by_cases h5 : (t.kids.length : Int) ≤ 32
        · simp (maxDischargeDepth := 99) [cTCtx, sbin, beqL_iff, eq_within, hb, hall1, h4, h5]
        · simp (maxDischargeDepth := 99) [cTCtx, sbin, beqL_iff, eq_within, hb, hall1, h4, h5]
      · simp (maxDischargeDepth := 99) [cTCtx, sbin, beqL_iff, eq_within, hb, hall1, h4]
  rw [if_neg k58]
  by_cases k59 : t.kind = 59
  · rw [if_pos k59]
    generalize t.kids.all ctx2B = r at *
    rw [T.cells_eq, k59]
    cases h2 : idB t.text with
    | false =>
      simp (maxDischargeDepth := 99) [cTCtx, sbin, beqL_iff, eq_within, hid, hall2, h2]
    | true =>
      by_cases h3 : t.n = 0
      · by_cases h4 : 1 ≤ (t.kids.length : Int)
        · by_cases h5 : (t.kids.length : Int) ≤ 32
          · simp (maxDischargeDepth := 99) [cTCtx, sbin, beqL_iff, eq_within, hid, hall2, h2, h3, h4, h5]
          · simp (maxDischargeDepth := 99) [cTCtx, sbin, beqL_iff, eq_within, hid, hall2, h2, h3, h4, h5]
        · simp (maxDischargeDepth := 99) [cTCtx, sbin, beqL_iff, eq_within, hid, hall2, h2, h3, h4]
      · simp (maxDischargeDepth := 99) [cTCtx, sbin, beqL_iff, eq_within, hid, hall2, h2, h3]
  rw [if_neg k59]
  by_cases k60 : t.kind = 60
  · rw [if_pos k60]
    by_cases h1 : t.text = []
    · by_cases h2 : 0 ≤ t.n
      · by_cases h3 : t.n ≤ 1
        · by_cases h4 : (t.kids.length : Int) = 2
          · rw [if_neg (fun h => h.elim (fun h => h h1) (fun h => h.elim (fun h => h ⟨h2, h3⟩) (fun h => h h4)))]
            obtain ⟨u, v, huv⟩ := kids_two (show t.kids.length = 2 by omega)
            have q0 := fun σ => eq_start σ u (hsz u (by rw [huv]; simp))
            have q1 := fun σ => eq_start σ v (hsz v (by rw [huv]; simp))
            have q2 : ∀ σ, lim TyD 36 [.agg v.cells] σ = some (.one (.bool (patB v)), σ) := eq_patterns v.size v (Nat.le_refl _) (hsz v (by rw [huv]; simp))
            have e0 : kidAt 0 startB t = startB u := by unfold kidAt; rw [huv]; rfl
            have e1 : kidAt 1 lastB t = lastB v := by unfold kidAt; rw [huv]; rfl
            rw [e0, e1]
            unfold lastB
            rw [T.cells_eq t, k60, huv, List.map_cons, List.map_cons, List.map_nil]
            rw [T.cells_eq v] at q1 q2 ⊢
            cases w0 : startB u with
            | false => simp (maxDischargeDepth := 99) [cTCtx, sbin, beqL_iff, eq_within, h1, h2, h3, q0, w0]
            | true =>
              cases w1 : startB v with
              | true => simp (maxDischargeDepth := 99) [cTCtx, sbin, beqL_iff, eq_within, h1, h2, h3, q0, w0, q1, w1]
              | false =>
                generalize patB v = w2 at *
                generalize v.kind = kv at *
                by_cases g1 : kv = 36
                · subst g1
                  cases w2 with
                  | false => simp (maxDischargeDepth := 99) [cTCtx, sbin, beqL_iff, eq_within, h1, h2, h3, q0, w0, q1, w1, q2]
                  | true => simp (maxDischargeDepth := 99) [cTCtx, sbin, beqL_iff, eq_within, h1, h2, h3, q0, w0, q1, w1, q2]
                · simp (maxDischargeDepth := 99) [cTCtx, sbin, beqL_iff, eq_within, h1, h2, h3, q0, w0, q1, w1, q2, g1]
          · rw [if_pos (.inr (.inr h4)), T.cells_eq, k60]
            simp (maxDischargeDepth := 99) [cTCtx, sbin, beqL_iff, eq_within, h1, h2, h3, h4]
        · rw [if_pos (.inr (.inl (fun h => h3 h.2))), T.cells_eq, k60]
          simp (maxDischargeDepth := 99) [cTCtx, sbin, beqL_iff, eq_within, h1, h2, h3]
      · rw [if_pos (.inr (.inl (fun h => h2 h.1))), T.cells_eq, k60]
        simp (maxDischargeDepth := 99) [cTCtx, sbin, beqL_iff, eq_within, h1, h2]
    · rw [if_pos (.inl h1), T.cells_eq, k60]
      simp (maxDischargeDepth := 99) [cTCtx, sbin, beqL_iff, eq_within, h1]
  rw [if_neg k60, T.cells_eq]
  simp (maxDischargeDepth := 99) [cTCtx, sbin, beqL_iff, eq_within, k58, k59, k60]
def onB (t : T) : Bool :=
  if ¬ t.text = [] ∨ ¬ 3 ≤ (t.kids.length : Int) ∨ ¬ kidAt 0 sourceB t = true ∨ ¬ kidAt 1 targetB t = true then false
  else if t.kind = 54 then decide (t.n = 0) && (decide ((t.kids.length : Int) = 3) && kidAt 2 (orB exprB) t)
  else if t.kind = 55 then decide (t.n = 0) && (decide ((t.kids.length : Int) = 4) && (kidAt 2 setsB t && kidAt 3 (orB exprB) t))
  else if t.kind = 56 then decide (t.n = 0) && (decide ((t.kids.length : Int) = 4) && (kidAt 2 itemsB t && kidAt 3 (orB exprB) t))
  else if t.kind = 57 then (decide (0 ≤ t.n) && decide (t.n ≤ 1)) && (decide ((t.kids.length : Int) = 4) && (kidAt 2 exprB t && kidAt 3 setsB t))
  else false
theorem three_more : ∀ {l : List T}, 3 ≤ (l.length : Int) → ∃ a b c m, l = a :: b :: c :: m
  | a :: b :: c :: m, _ => ⟨a, b, c, m, rfl⟩
  | [], h => by simp at h
  | [_], h => by simp at h
  | [_, _], h => by simp at h
theorem eq_on (σ : AHeap) (t : T) (hm : t.size ≤ maxElems) :
    lim TyD 101 [.agg t.cells] σ = some (.one (.bool (onB t)), σ) := by
  refine lim_eq (TyD_prim rfl) ((TyD_code _).trans codeTOn) rfl ?_
  unfold BodyP onB
  have hsz : ∀ w ∈ t.kids, w.size ≤ maxElems := fun w hw => by have := t.size_kid hw; omega
  by_cases h1 : t.text = []
  · by_cases h2 : 3 ≤ (t.kids.length : Int)
    · obtain ⟨a, b, c, m, hk⟩ := three_more h2
      have q0 := fun σ => eq_source σ a (hsz a (by rw [hk]; simp))
      have q1 := fun σ => eq_target σ b (hsz b (by rw [hk]; simp))
      have e0 : kidAt 0 sourceB t = sourceB a := by unfold kidAt; rw [hk]; rfl
      have e1 : kidAt 1 targetB t = targetB b := by unfold kidAt; rw [hk]; rfl
      have h2' : ¬ ((m.length : Int) + 1 + 1 + 1) < 3 := by omega
      have ec : ∀ p : T → Bool, kidAt 2 p t = p c := fun p => by unfold kidAt; rw [hk]; rfl
      have hlen : (t.kids.length : Int) = (m.length : Int) + 1 + 1 + 1 := by rw [hk]; simp only [List.length_cons]; omega
      rw [e0, e1]
      cases w0 : sourceB a with
      | false =>
        rw [if_pos (.inr (.inr (.inl (by decide))))]
        rw [T.cells_eq, hk, List.map_cons, List.map_cons, List.map_cons]
        simp (maxDischargeDepth := 99) [cTOn, sbin, beqL_iff, eq_within, h1, h2', q0, w0]
      | true =>
        cases w1 : targetB b with
        | false =>
          rw [if_pos (.inr (.inr (.inr (by decide))))]
          rw [T.cells_eq, hk, List.map_cons, List.map_cons, List.map_cons]
          simp (maxDischargeDepth := 99) [cTOn, sbin, beqL_iff, eq_within, h1, h2', q0, w0, q1, w1]
        | true =>
          rw [w0] at q0
          rw [w1] at q1
          rw [if_neg (fun h => h.elim (fun h => h h1) (fun h => h.elim (fun h => h h2) (fun h => h.elim (fun h => h rfl) (fun h => h rfl))))]
          simp only [ec, hlen]
          have c0 := fun σ => or_expr σ c (hsz c (by rw [hk]; simp))
          have c1 := fun σ => eq_sets σ c (hsz c (by rw [hk]; simp))
          have c2 := fun σ => eq_items σ c (hsz c (by rw [hk]; simp))
          have c3 := fun σ => eq_expr c.size c (Nat.le_refl _) (hsz c (by rw [hk]; simp)) σ
          by_cases k54 : t.kind = 54
          · rw [if_pos k54]
            generalize orB exprB c = w at *
            rw [T.cells_eq, k54, hk, List.map_cons, List.map_cons, List.map_cons]
            by_cases g1 : t.n = 0
            · by_cases g2 : m = []
              · subst g2
                simp (maxDischargeDepth := 99) [cTOn, sbin, beqL_iff, eq_within, q0, q1, h1, g1, c0]
              · have g2' : ¬ (m.length : Int) + 1 + 1 + 1 = 3 := fun h => g2 (List.eq_nil_of_length_eq_zero (by omega))
                simp (maxDischargeDepth := 99) [cTOn, sbin, beqL_iff, eq_within, h1, h2', q0, q1, g1, g2, g2']
            · simp (maxDischargeDepth := 99) [cTOn, sbin, beqL_iff, eq_within, h1, h2', q0, q1, g1]
          rw [if_neg k54]
          by_cases k55 : t.kind = 55
          · rw [if_pos k55]
            by_cases g2 : (m.length : Int) + 1 + 1 + 1 = 4
            · obtain ⟨d, rfl⟩ : ∃ d, m = [d] := List.length_eq_one_iff.1 (by omega)
              have ed : kidAt 3 (orB exprB) t = orB exprB d := by unfold kidAt; rw [hk]; rfl
              have d0 := fun σ => or_expr σ d (hsz d (by rw [hk]; simp))
              rw [ed]
              generalize orB exprB d = wd at *
              have g2' : decide ((([d] : List T).length : Int) + 1 + 1 + 1 = 4) = true := rfl
              rw [g2']
              rw [T.cells_eq, k55, hk]
              simp only [List.map_cons, List.map_nil]
              by_cases g1 : t.n = 0
              · cases wc : setsB c with
                | false =>
                  simp (maxDischargeDepth := 99) [cTOn, sbin, beqL_iff, eq_within, q0, q1, h1, c1, d0, g1, wc]
                | true =>
                  simp (maxDischargeDepth := 99) [cTOn, sbin, beqL_iff, eq_within, q0, q1, h1, c1, d0, g1, wc]
              · simp (maxDischargeDepth := 99) [cTOn, sbin, beqL_iff, eq_within, q0, q1, h1, c1, d0, g1]
            · rw [T.cells_eq, k55, hk, List.map_cons, List.map_cons, List.map_cons]
              by_cases g1 : t.n = 0
              · simp (maxDischargeDepth := 99) [cTOn, sbin, beqL_iff, eq_within, q0, q1, h1, g2, h2', g1]
              · simp (maxDischargeDepth := 99) [cTOn, sbin, beqL_iff, eq_within, q0, q1, h1, g2, h2', g1]
          rw [if_neg k55]
          by_cases k56 : t.kind = 56
          · rw [if_pos k56]
            by_cases g2 : (m.length : Int) + 1 + 1 + 1 = 4
            · obtain ⟨d, rfl⟩ : ∃ d, m = [d] := List.length_eq_one_iff.1 (by omega)
              have ed : kidAt 3 (orB exprB) t = orB exprB d := by unfold kidAt; rw [hk]; rfl
              have d0 := fun σ => or_expr σ d (hsz d (by rw [hk]; simp))
              rw [ed]
              generalize orB exprB d = wd at *
              have g2' : decide ((([d] : List T).length : Int) + 1 + 1 + 1 = 4) = true := rfl
              rw [g2']
              rw [T.cells_eq, k56, hk]
              simp only [List.map_cons, List.map_nil]
              by_cases g1 : t.n = 0
              · cases wc : itemsB c with
                | false =>
                  simp (maxDischargeDepth := 99) [cTOn, sbin, beqL_iff, eq_within, q0, q1, h1, c2, d0, g1, wc]
                | true =>
                  simp (maxDischargeDepth := 99) [cTOn, sbin, beqL_iff, eq_within, q0, q1, h1, c2, d0, g1, wc]
              · simp (maxDischargeDepth := 99) [cTOn, sbin, beqL_iff, eq_within, q0, q1, h1, c2, d0, g1]
            · rw [T.cells_eq, k56, hk, List.map_cons, List.map_cons, List.map_cons]
              by_cases g1 : t.n = 0
              · simp (maxDischargeDepth := 99) [cTOn, sbin, beqL_iff, eq_within, q0, q1, h1, g2, h2', g1]
              · simp (maxDischargeDepth := 99) [cTOn, sbin, beqL_iff, eq_within, q0, q1, h1, g2, h2', g1]
          rw [if_neg k56]
          by_cases k57 : t.kind = 57
          · rw [if_pos k57]
            by_cases g2 : (m.length : Int) + 1 + 1 + 1 = 4
            · obtain ⟨d, rfl⟩ : ∃ d, m = [d] := List.length_eq_one_iff.1 (by omega)
              have ed : kidAt 3 (setsB) t = setsB d := by unfold kidAt; rw [hk]; rfl
              have d0 := fun σ => eq_sets σ d (hsz d (by rw [hk]; simp))
              rw [ed]
              generalize setsB d = wd at *
              have g2' : decide ((([d] : List T).length : Int) + 1 + 1 + 1 = 4) = true := rfl
              rw [g2']
              rw [T.cells_eq, k57, hk]
              simp only [List.map_cons, List.map_nil]
              by_cases g0 : 0 ≤ t.n
              · by_cases g1 : t.n ≤ 1
                · cases wc : exprB c with
                  | false =>
                    simp (maxDischargeDepth := 99) [cTOn, sbin, beqL_iff, eq_within, q0, q1, h1, c3, d0, g0, g1, wc]
                  | true =>
                    simp (maxDischargeDepth := 99) [cTOn, sbin, beqL_iff, eq_within, q0, q1, h1, c3, d0, g0, g1, wc]
                · simp (maxDischargeDepth := 99) [cTOn, sbin, beqL_iff, eq_within, q0, q1, h1, c3, d0, g0, g1]
              · simp (maxDischargeDepth := 99) [cTOn, sbin, beqL_iff, eq_within, q0, q1, h1, c3, d0, g0]
            · rw [T.cells_eq, k57, hk, List.map_cons, List.map_cons, List.map_cons]
              by_cases g0 : 0 ≤ t.n
              · by_cases g1 : t.n ≤ 1
                · simp (maxDischargeDepth := 99) [cTOn, sbin, beqL_iff, eq_within, q0, q1, h1, g2, h2', g0, g1]
                · simp (maxDischargeDepth := 99) [cTOn, sbin, beqL_iff, eq_within, q0, q1, h1, g2, h2', g0, g1]
              · simp (maxDischargeDepth := 99) [cTOn, sbin, beqL_iff, eq_within, q0, q1, h1, g2, h2', g0]
          rw [if_neg k57]
          rw [T.cells_eq, hk, List.map_cons, List.map_cons, List.map_cons]
          simp (maxDischargeDepth := 99) [cTOn, sbin, beqL_iff, eq_within, q0, q1, h1, h2', k54, k55, k56, k57]
    · rw [if_pos (.inr (.inl h2)), T.cells_eq]
      have h2' : (t.kids.length : Int) < 3 := by omega
      simp (maxDischargeDepth := 99) [cTOn, sbin, beqL_iff, eq_within, h1, h2']
  · rw [if_pos (.inl h1), T.cells_eq]
    simp (maxDischargeDepth := 99) [cTOn, sbin, beqL_iff, eq_within, h1]
end Go.Proofs.YtlgdhnjmmahgdaaGreatDoor.Ab

/- tree.stmt, tree.Form. -/
namespace Go.Proofs.YtlgdhnjmmahgdaaGreatDoor.Ab
open Go
set_option maxRecDepth 20000
set_option maxHeartbeats 16000000
set_option linter.unusedSimpArgs false

def stmtB (t : T) : Bool :=
  if t.kind = 50 then idB t.text && (decide (t.n = 0) && ((decide (1 ≤ (t.kids.length : Int)) && decide ((t.kids.length : Int) ≤ 32)) && t.kids.all columnB))
  else if t.kind = 51 then idB t.text && (decide (t.n = 0) && ((decide (2 ≤ (t.kids.length : Int)) && decide ((t.kids.length : Int) ≤ 5)) && (kidAt 0 nameT t && (t.kids.drop 1).all viewB)))
  else if t.kind = 52 then idB t.text && (decide (t.n = 0) && (decide ((t.kids.length : Int) = 1) && kidAt 0 ctxB t))
  else if t.kind = 53 then selB t
  else onB t
theorem one_more : ∀ {l : List T}, 2 ≤ (l.length : Int) → ∃ a m, l = a :: m
  | a :: m, _ => ⟨a, m, rfl⟩
  | [], h => by simp at h
theorem eq_stmt (σ : AHeap) (t : T) (hm : t.size ≤ maxElems) :
    lim TyD 37 [.agg t.cells] σ = some (.one (.bool (stmtB t)), σ) := by
  refine lim_eq (TyD_prim rfl) ((TyD_code _).trans codeTStmt) rfl ?_
  unfold BodyP stmtB
  have hsz : ∀ w ∈ t.kids, w.size ≤ maxElems := fun w hw => by have := t.size_kid hw; omega
  have hid := fun σ => eq_id σ t.text (by have := t.text_size; omega)
  by_cases k50 : t.kind = 50
  · rw [if_pos k50]
    have hall := fun σ => eq_all σ t.kids 97 [] columnB (fun u hu σ => eq_column σ u (hsz u hu)) (by have := t.kids_size; omega)
    generalize t.kids.all columnB = r at *
    rw [T.cells_eq, k50]
    cases hb : idB t.text with
    | false =>
      simp (maxDischargeDepth := 99) [cTStmt, sbin, beqL_iff, eq_within, hid, hall, hb]
    | true =>
      by_cases h3 : t.n = 0
      · by_cases h4 : 1 ≤ (t.kids.length : Int)
        · by_cases h5 : (t.kids.length : Int) ≤ 32
          · simp (maxDischargeDepth := 99) [cTStmt, sbin, beqL_iff, eq_within, hid, hall, hb, h3, h4, h5]
          · simp (maxDischargeDepth := 99) [cTStmt, sbin, beqL_iff, eq_within, hid, hall, hb, h3, h4, h5]
        · simp (maxDischargeDepth := 99) [cTStmt, sbin, beqL_iff, eq_within, hid, hall, hb, h3, h4]
      · simp (maxDischargeDepth := 99) [cTStmt, sbin, beqL_iff, eq_within, hid, hall, hb, h3]
  rw [if_neg k50]
  by_cases k51 : t.kind = 51
  · rw [if_pos k51]
    by_cases h4 : 2 ≤ (t.kids.length : Int)
    · obtain ⟨a, m, hk⟩ := one_more h4
      have q0 := fun σ => eq_name σ a (hsz a (by rw [hk]; simp))
      have q1 := fun σ => eq_all σ m 98 [] viewB (fun w hw σ => eq_view σ w (hsz w (by rw [hk]; simp [hw]))) (by have := t.kids_size; rw [hk] at this; simp only [List.length_cons] at this; omega)
      have e0 : kidAt 0 nameT t = nameT a := by unfold kidAt; rw [hk]; rfl
      have e1 : t.kids.drop 1 = m := by rw [hk]; rfl
      have htk : List.take m.length (m.map T.cells) = m.map T.cells := List.take_of_length_le (by simp)
      have hlw : lstW 5 (a.cells :: m.map T.cells) = true := by simp [lstW]
      have hlen : (t.kids.length : Int) = (m.length : Int) + 1 := by rw [hk]; simp only [List.length_cons]; omega
      rw [e0, e1]
      rw [hlen] at h4 ⊢
      generalize m.all viewB = r at *
      rw [T.cells_eq, k51, hk, List.map_cons]
      cases hb : idB t.text with
      | false =>
        simp (maxDischargeDepth := 99) [cTStmt, sbin, beqL_iff, eq_within, hid, h4, q0, q1, htk, hlw, hb]
      | true =>
        by_cases h3 : t.n = 0
        · by_cases h5 : (m.length : Int) + 1 ≤ 5
          · cases w0 : nameT a with
            | false =>
              simp (maxDischargeDepth := 99) [cTStmt, sbin, beqL_iff, eq_within, hid, h4, q0, q1, htk, hlw, hb, h3, h5, w0]
            | true =>
              simp (maxDischargeDepth := 99) [cTStmt, sbin, beqL_iff, eq_within, hid, h4, q0, q1, htk, hlw, hb, h3, h5, w0]
          · simp (maxDischargeDepth := 99) [cTStmt, sbin, beqL_iff, eq_within, hid, h4, q0, q1, htk, hlw, hb, h3, h5]
        · simp (maxDischargeDepth := 99) [cTStmt, sbin, beqL_iff, eq_within, hid, h4, q0, q1, htk, hlw, hb, h3]
    · rw [T.cells_eq, k51]
      cases hb : idB t.text with
      | false =>
        simp (maxDischargeDepth := 99) [cTStmt, sbin, beqL_iff, eq_within, hid, h4, hb]
      | true =>
        by_cases h3 : t.n = 0
        · simp (maxDischargeDepth := 99) [cTStmt, sbin, beqL_iff, eq_within, hid, h4, hb, h3]
        · simp (maxDischargeDepth := 99) [cTStmt, sbin, beqL_iff, eq_within, hid, h4, hb, h3]
  rw [if_neg k51]
  by_cases k52 : t.kind = 52
  · rw [if_pos k52]
    by_cases h4 : (t.kids.length : Int) = 1
    · obtain ⟨u, hu⟩ : ∃ u, t.kids = [u] := List.length_eq_one_iff.1 (by omega)
      have q0 := fun σ => eq_ctx σ u (hsz u (by rw [hu]; simp))
      have e0 : kidAt 0 ctxB t = ctxB u := by unfold kidAt; rw [hu]; rfl
      have hd : decide ((t.kids.length : Int) = 1) = true := by rw [h4]; rfl
      rw [e0, hd]
      generalize ctxB u = w at *
      rw [T.cells_eq, k52, hu, List.map_cons, List.map_nil]
      cases hb : idB t.text with
      | false =>
        simp (maxDischargeDepth := 99) [cTStmt, sbin, beqL_iff, eq_within, hid, q0, hb]
      | true =>
        by_cases h3 : t.n = 0
        · simp (maxDischargeDepth := 99) [cTStmt, sbin, beqL_iff, eq_within, hid, q0, hb, h3]
        · simp (maxDischargeDepth := 99) [cTStmt, sbin, beqL_iff, eq_within, hid, q0, hb, h3]
    · rw [T.cells_eq, k52]
      cases hb : idB t.text with
      | false =>
        simp (maxDischargeDepth := 99) [cTStmt, sbin, beqL_iff, eq_within, hid, h4, hb]
      | true =>
        by_cases h3 : t.n = 0
        · simp (maxDischargeDepth := 99) [cTStmt, sbin, beqL_iff, eq_within, hid, h4, hb, h3]
        · simp (maxDischargeDepth := 99) [cTStmt, sbin, beqL_iff, eq_within, hid, h4, hb, h3]
  rw [if_neg k52]
  by_cases k53 : t.kind = 53
  · rw [if_pos k53]
    have q := fun σ => eq_sel σ t hm
    generalize selB t = w at *
    rw [T.cells_eq, k53] at q ⊢
    simp (maxDischargeDepth := 99) [cTStmt, sbin, beqL_iff, eq_within, q]
  rw [if_neg k53]
  have q := fun σ => eq_on σ t hm
  generalize onB t = w at *
  rw [T.cells_eq] at q ⊢
  simp (maxDischargeDepth := 99) [cTStmt, sbin, beqL_iff, eq_within, q, k50, k51, k52, k53]

def formI (t : T) : Int := if exprB t = true then 1 else if patB t = true then 2 else if stmtB t = true then 3 else 0
theorem eq_form (σ : AHeap) (t : T) (hm : t.size ≤ maxElems) : lim TyD 22 [.agg t.cells] σ = some (.one (.int .i64 (formI t)), σ) := by
  refine lim_eq (TyD_prim rfl) ((TyD_code _).trans codeForm) rfl ?_
  unfold BodyP formI
  have h1 := fun σ => eq_expr t.size t (Nat.le_refl _) hm σ
  have h2 : ∀ σ, lim TyD 36 [.agg t.cells] σ = some (.one (.bool (patB t)), σ) := eq_patterns t.size t (Nat.le_refl _) hm
  have h3 := fun σ => eq_stmt σ t hm
  rw [T.cells_eq] at h1 h2 h3 ⊢
  cases w1 : exprB t with
  | true => simp (maxDischargeDepth := 99) [cForm, h1, w1]
  | false =>
    cases w2 : patB t with
    | true => simp (maxDischargeDepth := 99) [cForm, h1, h2, w1, w2]
    | false =>
      cases w3 : stmtB t with
      | true => simp (maxDischargeDepth := 99) [cForm, h1, h2, h3, w1, w2, w3]
      | false => simp (maxDischargeDepth := 99) [cForm, h1, h2, h3, w1, w2, w3]
theorem form_ok (t : T) (hm : t.size ≤ maxElems) (h : exprB t = false) : FormOk t := by
  refine ⟨formI t, ?_, fun σ => eq_form σ t hm⟩
  unfold formI
  rw [h, if_neg (by decide)]
  repeat' split
  all_goals decide
end Go.Proofs.YtlgdhnjmmahgdaaGreatDoor.Ab
