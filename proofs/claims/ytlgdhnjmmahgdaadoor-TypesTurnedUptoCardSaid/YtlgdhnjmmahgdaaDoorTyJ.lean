/- Several of my texts in one: Ty31, Ty32, TyIn2. -/
import Derived.Test.YtlgdhnjmmahgdaaDoorTyI
import Derived.Test.YtlgdhnjmmahgdaaDoorTyC
import Derived.Test.YtlgdhnjmmahgdaaDoorTyF
import Derived.Test.YtlgdhnjmmahgdaaDoorLitTy
import Derived.Test.YtlgdhnjmmahgdaaDoorTyB
/- The order of the fields plays no part for a type. -/
namespace Go.Proofs.YtlgdhnjmmahgdaaDoor.Ab
open Go
set_option maxRecDepth 20000
set_option maxHeartbeats 8000000
set_option linter.unusedSimpArgs false

theorem idxF_none (p : Fld → Bool) : ∀ (l : List Fld) (i : Nat), idxF p i l = -1 → l.filter p = []
  | [], _, _ => rfl
  | f :: l, i, h => by
    by_cases hp : p f = true
    · simp [idxF, hp] at h
    · simp only [idxF, if_neg hp] at h
      rw [List.filter_cons_of_neg hp]
      exact idxF_none p l (i + 1) h
theorem idxF_some (p : Fld → Bool) : ∀ (l : List Fld) (i k : Nat), idxF p i l = ((i + k : Nat) : Int) → ∃ x, l[k]? = some x ∧ l.filter p = x :: (l.drop (k + 1)).filter p
  | [], i, k, h => by simp [idxF] at h; omega
  | f :: l, i, k, h => by
    by_cases hp : p f = true
    · simp only [idxF, if_pos hp] at h
      have : k = 0 := by omega
      subst this
      exact ⟨f, rfl, by rw [List.filter_cons_of_pos hp]; rfl⟩
    · simp only [idxF, if_neg hp] at h
      cases k with
      | zero =>
        rcases idxF_range p l (i + 1) with h2 | ⟨m, _, h2⟩
        · rw [h2] at h; omega
        · rw [h2] at h; omega
      | succ k =>
        obtain ⟨x, h1, h2⟩ := idxF_some p l (i + 1) k (by rw [h]; congr 1; omega)
        exact ⟨x, by simpa using h1, by rw [List.filter_cons_of_neg hp, h2]; simp⟩
def oneOf (p : Fld → Bool) (F : List Fld) : Option Fld := match F.filter p with
  | [x] => some x
  | _ => none
theorem resAt_one_of (p : Fld → Bool) (F : List Fld) : match oneOf p F with
    | some x => (resAt p F (idxF p 0 F)).2 = 0 ∧ kindAt F (resAt p F (idxF p 0 F)).1 = x.kind
    | none => (resAt p F (idxF p 0 F)).2 = 110 := by
  rcases idxF_range p F 0 with h | ⟨k, hk, h⟩
  · have := idxF_none p F 0 h
    unfold oneOf
    rw [this, h]
    exact rfl
  · obtain ⟨x, h1, h2⟩ := idxF_some p F 0 k h
    unfold oneOf
    rw [h2, h, Nat.zero_add]
    cases hb : (F.drop (k + 1)).any p with
    | true =>
      rw [resAt_two hb]
      cases hf : (F.drop (k + 1)).filter p with
      | nil =>
        obtain ⟨y, hy, hy2⟩ := List.any_eq_true.1 hb
        have : y ∈ (F.drop (k + 1)).filter p := List.mem_filter.2 ⟨hy, hy2⟩
        rw [hf] at this
        cases this
      | cons y l => rfl
    | false =>
      have hf : (F.drop (k + 1)).filter p = [] := by
        rw [List.filter_eq_nil_iff]
        intro y hy hy2
        rw [List.any_eq_false] at hb
        exact hb y hy hy2
      rw [resAt_one hb, hf]
      refine ⟨rfl, ?_⟩
      unfold kindAt
      rw [Int.toNat_natCast, h1]
theorem oneOf_reverse (p : Fld → Bool) (F : List Fld) : oneOf p F.reverse = oneOf p F := by
  unfold oneOf
  rw [List.filter_reverse]
  match h : F.filter p with
  | [] => rfl
  | [x] => rfl
  | x :: y :: l =>
    have : (x :: y :: l).reverse.length = l.length + 2 := by simp
    match h2 : (x :: y :: l).reverse with
    | [] => rfl
    | [z] => rw [h2] at this; simp at this
    | z :: w :: m => rfl
theorem colS_oneOf (F : List Fld) (t : T) (st : CSt) : colS F t st = match oneOf (fldB (colStream t) t.text) F with
    | some x => (x.kind, st)
    | none => (0, failS st 110 t) := by
  have h := resAt_one_of (fldB (colStream t) t.text) F
  unfold colS resolveF
  cases ho : oneOf (fldB (colStream t) t.text) F with
  | some x =>
    rw [ho] at h
    rw [if_pos h.1, h.2]
  | none =>
    rw [ho] at h
    simp only at h
    rw [h, if_neg (by decide)]
theorem colS_reverse (F : List Fld) (t : T) (st : CSt) : colS F.reverse t st = colS F t st := by rw [colS_oneOf, colS_oneOf, oneOf_reverse]

section
variable {F G : List Fld} (h : ∀ t st, colS F t st = colS G t st)
include h in
theorem nodeS_congr (aggs : Bool) (t : T) (ins : Bool) (st : CSt) (a b c : List Int × CSt) : nodeS F aggs t ins st a b c = nodeS G aggs t ins st a b c := by
  unfold nodeS
  rw [h]
mutual
theorem expS_congr (aggs : Bool) (h : ∀ t st, colS F t st = colS G t st) : ∀ (t : T) (ins : Bool) (st : CSt), expS F aggs t ins st = expS G aggs t ins st
  | .mk k s n a l, ins, st => by rw [expS, expS, expL_congr aggs h l ins st, expL_congr aggs h l true st, expC_congr aggs h _ _ l ins st, nodeS_congr h]
theorem expL_congr (aggs : Bool) (h : ∀ t st, colS F t st = colS G t st) : ∀ (l : List T) (ins : Bool) (st : CSt), expL F aggs l ins st = expL G aggs l ins st
  | [], _, _ => by rw [expL, expL]
  | t :: l, ins, st => by rw [expL, expL, expS_congr aggs h t ins st, expL_congr aggs h l]
theorem expC_congr (aggs : Bool) (h : ∀ t st, colS F t st = colS G t st) (last : Int) (i : Nat) : ∀ (l : List T) (ins : Bool) (st : CSt), expC F aggs last i l ins st = expC G aggs last i l ins st
  | [], _, _ => by rw [expC, expC]
  | t :: l, ins, st => by rw [expC, expC, expS_congr aggs h t ins st, expC_congr aggs h last (i + 1) l, expC_congr aggs h last (i + 1) l]
end
end
theorem tyExpr_reverse (F : List Fld) (aggs : Bool) (t : T) : tyExpr F.reverse aggs t = tyExpr F aggs t := by
  unfold tyExpr
  rw [expS_congr aggs (fun t st => colS_reverse F t st) t false ⟨0, 0⟩]
end Go.Proofs.YtlgdhnjmmahgdaaDoor.Ab

/- The law TypesTurned, walked. -/
namespace Go.Proofs.YtlgdhnjmmahgdaaDoor.Ab
open Go
set_option maxRecDepth 20000
set_option maxHeartbeats 8000000
set_option linter.unusedSimpArgs false

/-- What a function does in one context, as a step of another. -/
theorem primOk_lim {P : Program} {C : Ctx} (hC : C.Good P) (f : Nat) : PrimOk P f (fun args σ => lim C f args σ) := fun args σ v σ' h => by
  obtain ⟨n, hn⟩ := lim_iff.1 h
  exact sound hC n f args σ v σ' hn
noncomputable def ttPrims : List (Nat × Prim) := [(6, pBool true), (5, fun args σ => lim TyD 5 args σ)]
noncomputable def TtC : Ctx := ⟨codeOf, primAt ttPrims, tyHint⟩
theorem TtC_good : TtC.Good Tryd.prog where
  code := fun f F h => codeOf_good h
  prim := fun f p h => primAt_ok (l := ttPrims) (fun g p hm => by
    simp only [ttPrims, List.mem_cons, Prod.mk.injEq, List.not_mem_nil, or_false] at hm
    rcases hm with ⟨rfl, rfl⟩ | ⟨rfl, rfl⟩
    · exact okAw
    · exact primOk_lim TyD_good _) f p h
theorem TtC_awake (σ : AHeap) : lim TtC 6 [] σ = some (.one (.bool true), σ) := (lim_prim (p := pBool true) rfl).trans rfl
theorem TtC_expr (σ : AHeap) (args : List AV) : lim TtC 5 args σ = lim TyD 5 args σ := lim_prim (p := fun args σ => lim TyD 5 args σ) rfl

theorem fcells_rev (F : List Fld) (j : Nat) (h : j < F.length) : fcells (F.reverse.take (j + 1)) = fcells (F.reverse.take j) ++ (F[F.length - 1 - j]'(by omega)).cells := by
  have hr : j < F.reverse.length := by rw [List.length_reverse]; exact h
  rw [List.take_succ_eq_append_getElem hr]
  unfold fcells
  rw [List.map_append, List.flatten_append, List.getElem_reverse]
  simp

theorem law_turned (t : T) (F : List Fld) (ht : t.size ≤ maxElems) (hF : F.length < maxElems) :
    ∃ σ', lim TtC 3 [.agg t.cells, .one (.lst (F.map Fld.cells))] emptyH = some (.one (.bool true), σ') := by
  have key : OptP (lim TtC 3 [.agg t.cells, .one (.lst (F.map Fld.cells))] emptyH) (fun _ v _ => v = .one (.bool true)) := by
    refine lim_code rfl (show codeOf 3 = _ from codeLawT) rfl ?_
    unfold BodyP
    have q0 := fun σ => (TtC_expr σ _).trans (eq_tyExpr σ t (.one (.lst (F.map Fld.cells))) F true (.inl rfl) (by omega) ht (form_ok t ht))
    have q1 := fun σ s (hs : FldSl σ s F.reverse) => (TtC_expr σ _).trans (eq_tyExpr σ t s F.reverse true hs (by rw [List.length_reverse]; omega) ht (form_ok t ht))
    rw [tyExpr_reverse] at q1
    generalize tyExpr F true t = R at *
    obtain ⟨σ0, hσ0⟩ : ∃ σ0, σ0 = emptyH.alloc ⟨t.cells, .own⟩ := ⟨_, rfl⟩
    have g0 : σ0.get emptyH.size = some ⟨t.cells, .own⟩ := by rw [hσ0]; simp
    have z0 : σ0.size = emptyH.size + 1 := by rw [hσ0]; simp
    have hwl : wr .i64 ((F.length : Int) - 1) = (F.length : Int) - 1 := by unfold maxElems at hF; exact wr64 (by omega) (by omega)
    simp (maxDischargeDepth := 99) [cLawT, ← hσ0, hwl]
    refine endsi_range F.length (fun j fr τ => fr.length = 57 ∧ getSlot fr 1 = .one (.lst (F.map Fld.cells)) ∧ getSlot fr 2 = .one (.ptr emptyH.size 0) ∧ getSlot fr 6 = .one (.int .i64 ((F.length : Int) - 1 - j)) ∧ τ.get emptyH.size = some ⟨t.cells, .own⟩ ∧ emptyH.size < τ.size ∧ OutSl (emptyH.size + 1) τ 3 (getSlot fr 5) (fcells (F.reverse.take j)) j) ?_ ?_ ?_
    · simp [g0, z0]
      exact OutSl.nil _ _ _
    · rintro j fr τ hlt ⟨hlen, f1, f2, f6, g0, z0, hO⟩
      obtain ⟨m, hm⟩ : ∃ m, m = F.length - 1 - j := ⟨_, rfl⟩
      have hmi : (F.length : Int) - 1 - j = (m : Int) := by omega
      have hml : m < F.length := by omega
      have hmn : (0 : Int) ≤ (m : Int) := by omega
      have hw : wr .i64 ((m : Int) - 1) = (F.length : Int) - 1 - (j + 1 : Nat) := by
        unfold maxElems at hF
        rw [wr64 (by omega) (by omega)]
        omega
      rw [hmi] at f6
      obtain ⟨s, hs5⟩ : ∃ s, s = getSlot fr 5 := ⟨_, rfl⟩
      rw [← hs5] at hO
      obtain ⟨τ2, hτ2⟩ : ∃ τ2, τ2 = τ.alloc ⟨F[m].cells, .own⟩ := ⟨_, rfl⟩
      have hO2 : OutSl (emptyH.size + 1) τ2 3 s (fcells (F.reverse.take j)) j := hO.stay fun i h1 h2 => by
        have h3 : ¬ i = τ.size := by omega
        rw [hτ2]
        simp [h3]
      obtain ⟨s', τ3, ha, hO3, hs3, hg3⟩ := append_out (bytes := 40) (vs := F[m].cells) hO2 (by rw [hτ2]; simp; omega) (by omega) rfl (by omega) (by decide)
      have hrv := fcells_rev F j hlt
      simp only [← hm] at hrv
      rw [← hrv] at hO3
      have gr : τ2.get τ.size = some ⟨F[m].cells, .own⟩ := by rw [hτ2]; simp
      have g3 : τ3.get emptyH.size = some ⟨t.cells, .own⟩ := by
        have h3 : ¬ emptyH.size = τ.size := by omega
        rw [hg3 _ (by omega), hτ2]
        simp [h3, g0]
      have z3 : emptyH.size < τ3.size := by rw [hs3, hτ2]; simp; omega
      have htk : F[m].cells.take 3 = F[m].cells := rfl
      simp (maxDischargeDepth := 99) [cLawT_0, hlen, f1, f2, f6, ← hs5, hml, hmn, ← hτ2, srcLen, srcCells, gr, ha, hw, g3, z3, hO3]
    · rintro fr τ ⟨hlen, f1, f2, f6, g0, z0, hO⟩
      have f6' : getSlot fr 6 = .one (.int .i64 (-1)) := by rw [f6]; congr 3; omega
      obtain ⟨s, hs5⟩ : ∃ s, s = getSlot fr 5 := ⟨_, rfl⟩
      rw [← hs5, show F.reverse.take F.length = F.reverse from List.take_of_length_le (by rw [List.length_reverse]; exact Nat.le_refl _)] at hO
      have hsl : FldSl τ s F.reverse := by
        rcases hO.2 with ⟨h1, h2⟩ | ⟨q, h1, _, _, h2⟩
        · exact .inr (.inr ⟨h1, by rw [List.eq_nil_of_length_eq_zero h2]; rfl⟩)
        · exact .inr (.inl ⟨q, [], by rw [h1, List.length_reverse]; rfl, h2⟩)
      have a0 := q0 τ
      have a1 := q1 τ s hsl
      have a2 := TtC_awake τ
      rw [T.cells_eq] at a0 a1 g0
      simp (maxDischargeDepth := 99) [cLawT_0, hlen, f1, f2, f6', ← hs5, g0, a0, a1, a2]
  obtain ⟨v, σ', h1, h2⟩ := key
  exact ⟨σ', by rw [h1, h2]⟩
end Go.Proofs.YtlgdhnjmmahgdaaDoor.Ab

/- Trees among the arguments. -/
namespace Go.Proofs.YtlgdhnjmmahgdaaDoor.Ab
open Go Go.RowKit
set_option maxRecDepth 100000
set_option maxHeartbeats 4000000
theorem rd_nodes {N : Nat} (h : ∀ ss b, b ≤ N → RdV Tryd.prog 24 ss b → ∃ t : T, ss = t.cells ∧ t.size ≤ b) : ∀ (l : List (List SV)) (b : Nat), b ≤ N → RdVE Tryd.prog 24 l b → ∃ L : List T, l = L.map T.cells ∧ T.sizeL L ≤ b
  | [], _, _, _ => ⟨[], rfl, Nat.zero_le _⟩
  | _ :: l, _, hb, hl => by
    cases hl with
    | cons h1 h2 =>
      obtain ⟨t, rfl, k1⟩ := h _ _ (by omega) h1
      obtain ⟨L, rfl, k2⟩ := rd_nodes h l _ (by omega) h2
      exact ⟨t :: L, rfl, by simp only [T.sizeL]; omega⟩
theorem rd_node : ∀ (N : Nat) (ss : List SV) (b : Nat), b ≤ N → RdV Tryd.prog 24 ss b → ∃ t : T, ss = t.cells ∧ t.size ≤ b := by
  intro N
  induction N with
  | zero =>
    intro ss b hb h
    obtain ⟨c, rfl, _⟩ := h.structI Tryd.underlying24
    omega
  | succ N ih =>
    intro ss b hb h
    obtain ⟨c, rfl, hF⟩ := h.structI Tryd.underlying24
    obtain ⟨s1, r1, b1, c1, rfl, rfl, h1, hF1⟩ := RdVF.consI hF
    obtain ⟨s2, r2, b2, c2, rfl, rfl, h2, hF2⟩ := RdVF.consI hF1
    obtain ⟨s3, r3, b3, c3, rfl, rfl, h3, hF3⟩ := RdVF.consI hF2
    obtain ⟨s4, r4, b4, c4, rfl, rfl, h4, hF4⟩ := RdVF.consI hF3
    obtain ⟨s5, r5, b5, c5, rfl, rfl, h5, hF5⟩ := RdVF.consI hF4
    obtain rfl := RdVF.nilI hF5
    obtain ⟨k, rfl, -, -⟩ := h1.intI Tryd.underlying3
    obtain ⟨x, rfl, e2⟩ := h2.strI Tryd.underlying9
    obtain ⟨n, rfl, -, -⟩ := h3.intI Tryd.underlying3
    obtain ⟨a, rfl, -, -⟩ := h4.intI Tryd.underlying3
    obtain ⟨l, c6, rfl, e5, h6⟩ := h5.sliceI Tryd.underlying22
    obtain ⟨L, rfl, k6⟩ := rd_nodes (N := N) ih l c6 (by omega) h6
    refine ⟨.mk k x n a L, ?_, ?_⟩
    · rw [T.cells, T.cellsL_map]; rfl
    · simp only [T.size]; omega
end Go.Proofs.YtlgdhnjmmahgdaaDoor.Ab
