/- Several of my texts in one: Tr1, Tr2, Tr3, TrIn. -/
import Derived.Test.YtkolhfpofmpijaaDoorTyB
import Derived.Test.YtkolhfpofmpijaaDoorAbD
import Derived.Test.YtkolhfpofmpijaaDoorLitTr
import Derived.Test.YtkolhfpofmpijaaDoorAbR
import Derived.Test.YtkolhfpofmpijaaDoorRdI
import Derived.Lib.LaidU8T
import Derived.Deep.DeepHandedRow
/- The program's Same and the document's, of trees. -/
namespace Go.Proofs.YtkolhfpofmpijaaDoor.Ab
open Go
set_option maxRecDepth 20000
set_option maxHeartbeats 8000000
set_option linter.unusedSimpArgs false

mutual
def sameT : T → T → Bool
  | .mk k s n _ l, u => decide (k = u.kind) && (decide (s = u.text) && (decide (n = u.n) && (decide ((l.length : Int) = (u.kids.length : Int)) && sameL l u.kids)))
def sameL : List T → List T → Bool
  | [], _ => true
  | _ :: _, [] => true
  | t :: l, v :: m => sameT t v && sameL l m
end
theorem sameT_eq (t u : T) : sameT t u = (decide (t.kind = u.kind) && (decide (t.text = u.text) && (decide (t.n = u.n) && (decide ((t.kids.length : Int) = (u.kids.length : Int)) && sameL t.kids u.kids)))) := by
  cases t with
  | mk k s n a l => rw [sameT]; rfl
theorem eq_rsame (N : Nat) : ∀ (t u : T), t.size ≤ N → N ≤ maxElems → ∀ σ, lim TyD 6 [.agg t.cells, .agg u.cells] σ = some (.one (.bool (sameT t u)), σ) := by
  induction N with
  | zero => intro t u h; have := t.size_pos; omega
  | succ N ih =>
    intro t u ht hN σ
    refine lim_eq (TyD_prim rfl) ((TyD_code _).trans codeRSame) rfl ?_
    unfold BodyP
    rw [sameT_eq]
    have hK : t.kids.length ≤ maxElems := by have := t.kids_size; omega
    have hkid : ∀ v ∈ t.kids, ∀ w σ, lim TyD 6 [.agg v.cells, .agg w.cells] σ = some (.one (.bool (sameT v w)), σ) := fun v hv w σ => ih v w (by have := t.size_kid hv; omega) (by omega) σ
    clear ih
    generalize hL : t.kids = l at *
    generalize hM : u.kids = m at *
    rw [T.cells_eq t, T.cells_eq u, hL, hM]
    by_cases h1 : t.kind = u.kind
    · by_cases h2 : t.text = u.text
      · by_cases h3 : t.n = u.n
        · by_cases h4 : (l.length : Int) = (m.length : Int)
          · have h4' : l.length = m.length := by omega
            rw [h1, h2, h3]
            obtain ⟨τ, hτ⟩ : ∃ τ, τ = (σ.alloc ⟨[.int .i64 u.kind, .str u.text, .int .i64 u.n, .int .i64 t.at_, .lst (l.map T.cells)], .own⟩).alloc ⟨[.int .i64 u.kind, .str u.text, .int .i64 u.n, .int .i64 u.at_, .lst (m.map T.cells)], .own⟩ := ⟨_, rfl⟩
            have hkp : Keeps σ τ := by rw [hτ]; simp
            have g1 : τ.get σ.size = some ⟨[.int .i64 u.kind, .str u.text, .int .i64 u.n, .int .i64 t.at_, .lst (l.map T.cells)], .own⟩ := by rw [hτ]; simp
            have g2 : τ.get (σ.size + 1) = some ⟨[.int .i64 u.kind, .str u.text, .int .i64 u.n, .int .i64 u.at_, .lst (m.map T.cells)], .own⟩ := by rw [hτ]; simp
            generalize hR : sameL l m = R
            simp (maxDischargeDepth := 99) [cRSame, ← hτ, g1, g2, sbin, beqL_iff, h4, h4']
            refine endsi_range l.length (fun i fr τ' => τ' = τ ∧ fr.length = 53 ∧ getSlot fr 2 = .one (.ptr σ.size 0) ∧ getSlot fr 3 = .one (.ptr (σ.size + 1) 0) ∧ getSlot fr 5 = .one (.int .i64 i) ∧ sameL (l.drop i) (m.drop i) = R) ?_ ?_ ?_
            · simp [hR]
            · rintro i fr τ' hlt ⟨rfl, hlen, f2, f3, f5, hall⟩
              have hw := wr_next hlt hK
              have hltm : i < m.length := h4' ▸ hlt
              have hc := fun σ => hkid l[i] (List.getElem_mem hlt) m[i] σ
              rw [List.drop_eq_getElem_cons hlt, List.drop_eq_getElem_cons hltm] at hall
              simp only [sameL] at hall
              cases hb : sameT l[i] m[i] with
              | true =>
                rw [hb] at hc
                rw [hb, Bool.true_and] at hall
                simp (maxDischargeDepth := 99) [cRSame_0, hlen, f2, f3, f5, g1, g2, hlt, hltm, hc, hw, hall]
              | false =>
                rw [hb] at hc
                rw [hb, Bool.false_and] at hall
                simp (maxDischargeDepth := 99) [cRSame_0, hlen, f2, f3, f5, g1, g2, hlt, hltm, hc, hkp, ← hall]
            · rintro fr τ' ⟨rfl, hlen, f2, f3, f5, hall⟩
              rw [List.drop_length] at hall
              simp only [sameL] at hall
              simp (maxDischargeDepth := 99) [cRSame_0, hlen, f2, f5, g1, hkp, ← hall]
          · have h4' : ¬ l.length = m.length := by omega
            simp (maxDischargeDepth := 99) [cRSame, h1, h2, h3, h4, h4', sbin, beqL_iff]
        · simp (maxDischargeDepth := 99) [cRSame, h1, h2, h3, sbin, beqL_iff]
      · simp (maxDischargeDepth := 99) [cRSame, h1, h2, sbin, beqL_iff]
    · simp (maxDischargeDepth := 99) [cRSame, h1, sbin, beqL_iff]

theorem eq_tsame (N : Nat) : ∀ (t u : T), t.size ≤ N → N ≤ maxElems → ∀ σ, lim TyD 5 [.agg t.cells, .agg u.cells] σ = some (.one (.bool (sameT t u)), σ) := by
  induction N with
  | zero => intro t u h; have := t.size_pos; omega
  | succ N ih =>
    intro t u ht hN σ
    refine lim_eq (TyD_prim rfl) ((TyD_code _).trans codeTSame) rfl ?_
    unfold BodyP
    rw [sameT_eq]
    have hK : t.kids.length ≤ maxElems := by have := t.kids_size; omega
    have hkid : ∀ v ∈ t.kids, ∀ w σ, lim TyD 5 [.agg v.cells, .agg w.cells] σ = some (.one (.bool (sameT v w)), σ) := fun v hv w σ => ih v w (by have := t.size_kid hv; omega) (by omega) σ
    clear ih
    generalize hL : t.kids = l at *
    generalize hM : u.kids = m at *
    rw [T.cells_eq t, T.cells_eq u, hL, hM]
    by_cases h1 : t.kind = u.kind
    · by_cases h2 : t.text = u.text
      · by_cases h3 : t.n = u.n
        · by_cases h4 : (l.length : Int) = (m.length : Int)
          · have h4' : l.length = m.length := by omega
            rw [h1, h2, h3]
            obtain ⟨τ, hτ⟩ : ∃ τ, τ = (σ.alloc ⟨[.int .i64 u.kind, .str u.text, .int .i64 u.n, .int .i64 t.at_, .lst (l.map T.cells)], .own⟩).alloc ⟨[.int .i64 u.kind, .str u.text, .int .i64 u.n, .int .i64 u.at_, .lst (m.map T.cells)], .own⟩ := ⟨_, rfl⟩
            have hkp : Keeps σ τ := by rw [hτ]; simp
            have g1 : τ.get σ.size = some ⟨[.int .i64 u.kind, .str u.text, .int .i64 u.n, .int .i64 t.at_, .lst (l.map T.cells)], .own⟩ := by rw [hτ]; simp
            have g2 : τ.get (σ.size + 1) = some ⟨[.int .i64 u.kind, .str u.text, .int .i64 u.n, .int .i64 u.at_, .lst (m.map T.cells)], .own⟩ := by rw [hτ]; simp
            generalize hR : sameL l m = R
            simp (maxDischargeDepth := 99) [cTSame, ← hτ, g1, g2, sbin, beqL_iff, h4, h4']
            refine endsi_range l.length (fun i fr τ' => τ' = τ ∧ fr.length = 53 ∧ getSlot fr 2 = .one (.ptr σ.size 0) ∧ getSlot fr 3 = .one (.ptr (σ.size + 1) 0) ∧ getSlot fr 36 = .one (.int .i64 m.length) ∧ getSlot fr 37 = .one (.int .i64 i) ∧ sameL (l.drop i) (m.drop i) = R) ?_ ?_ ?_
            · simp [hR]
            · rintro i fr τ' hlt ⟨rfl, hlen, f2, f3, f36, f37, hall⟩
              have hw := wr_next hlt hK
              have hltm : i < m.length := h4' ▸ hlt
              have hc := fun σ => hkid l[i] (List.getElem_mem hlt) m[i] σ
              rw [List.drop_eq_getElem_cons hlt, List.drop_eq_getElem_cons hltm] at hall
              simp only [sameL] at hall
              cases hb : sameT l[i] m[i] with
              | true =>
                rw [hb] at hc
                rw [hb, Bool.true_and] at hall
                simp (maxDischargeDepth := 99) [cTSame_0, hlen, f2, f3, f36, f37, g1, g2, hlt, hltm, hc, hw, hall]
              | false =>
                rw [hb] at hc
                rw [hb, Bool.false_and] at hall
                simp (maxDischargeDepth := 99) [cTSame_0, hlen, f2, f3, f36, f37, g1, g2, hlt, hltm, hc, hkp, ← hall]
            · rintro fr τ' ⟨rfl, hlen, f2, f3, f36, f37, hall⟩
              rw [List.drop_length] at hall
              simp only [sameL] at hall
              simp (maxDischargeDepth := 99) [cTSame_0, hlen, f2, f36, f37, g1, hkp, h4, h4', ← hall]
          · have h4' : ¬ l.length = m.length := by omega
            simp (maxDischargeDepth := 99) [cTSame, h1, h2, h3, h4, h4', sbin, beqL_iff]
        · simp (maxDischargeDepth := 99) [cTSame, h1, h2, h3, sbin, beqL_iff]
      · simp (maxDischargeDepth := 99) [cTSame, h1, h2, sbin, beqL_iff]
    · simp (maxDischargeDepth := 99) [cTSame, h1, sbin, beqL_iff]

end Go.Proofs.YtkolhfpofmpijaaDoor.Ab

/- Law 06's own examples, run whole. -/
namespace Go.Proofs.YtkolhfpofmpijaaDoor.Ab
open Go
set_option maxRecDepth 100000
set_option maxHeartbeats 4000000
set_option linter.unusedSimpArgs false

/-- A tree out of its cells. -/
def svT : Nat → List SV → Option T
  | 0, _ => none
  | f + 1, c => match c with
    | [.int .i64 k, .str s, .int .i64 n, .int .i64 a, .lst l] => match l.mapM (svT f) with
      | some kids => some (.mk k s n a kids)
      | none => none
    | _ => none
theorem mapM_cells {g : List SV → Option T} (hg : ∀ c t, g c = some t → c = t.cells) : ∀ {l : List (List SV)} {ts : List T}, l.mapM g = some ts → l = ts.map T.cells
  | [], ts, h => by simp at h; subst h; rfl
  | c :: l, ts, h => by
    simp only [List.mapM_cons, Option.bind_eq_bind, Option.bind_eq_some_iff, Option.pure_def, Option.some.injEq] at h
    obtain ⟨t, h1, ts', h2, rfl⟩ := h
    rw [hg c t h1, mapM_cells hg h2]
    rfl
theorem svT_spec : ∀ (f : Nat) (c : List SV) (t : T), svT f c = some t → c = t.cells
  | 0, c, t, h => by cases h
  | f + 1, c, t, h => by
    unfold svT at h
    split at h
    · rename_i k s n a l
      split at h
      · rename_i kids hk
        cases h
        have := mapM_cells (fun c t h => svT_spec f c t h) hk
        rw [this, T.cells_eq]
        rfl
      · cases h
    · cases h
def pExprT : Prim := fun args σ => match args with
  | [.agg c] => match svT 20 c with
    | some t => match Nat.ble t.size 1000 with
      | true => some (.one (.bool (exprB t)), σ)
      | false => none
    | none => none
  | _ => none
theorem primOk_exprT : PrimOk Tryd.prog 23 pExprT := by
  intro args σ v σ' h
  unfold pExprT at h
  split at h
  · rename_i c
    split at h
    · rename_i t ht
      split at h
      · rename_i hb
        cases h
        rw [svT_spec _ _ _ ht]
        have hm : t.size ≤ 1000 := Nat.le_of_ble_eq_true hb
        obtain ⟨n, hn⟩ := lim_iff.1 (eq_expr 1000 t hm (by unfold maxElems; omega) σ)
        exact sound TyD_good n _ _ σ _ σ hn
      · cases h
    · cases h
  · cases h
noncomputable def trPrims : List (Nat × Prim) := [(23, pExprT), (16, rngA 60 16 .rd), (8, rngT 60 8 .mv)]
def trHint (f : Nat) : Hint := match Nat.beq f 14 with
  | true => .rd
  | false => match Nat.beq f 13 with
    | true => .mv
    | false => match Nat.beq f 12 with
      | true => .mv
      | false => match Nat.beq f 15 with
        | true => .mv
        | false => .no
/-- The context of the closed run. -/
noncomputable def TrS : Ctx := ⟨codeOf, primAt trPrims, trHint⟩
theorem TrS_good : TrS.Good Tryd.prog where
  code := fun f F h => codeOf_good h
  prim := fun f p h => primAt_ok (l := trPrims) (fun g p hm => by
    simp only [trPrims, List.mem_cons, Prod.mk.injEq, List.not_mem_nil, or_false] at hm
    rcases hm with ⟨rfl, rfl⟩ | ⟨rfl, rfl⟩ | ⟨rfl, rfl⟩
    · exact primOk_exprT
    · exact rngA_ok _ _ _
    · exact rngT_ok _ _ _) f p h
theorem sure06_runs : saysTrue (evCall TrS 300 7 [] emptyH) = true := by kernel_rfl
end Go.Proofs.YtkolhfpofmpijaaDoor.Ab

/- The law TreeSame, walked. -/
namespace Go.Proofs.YtkolhfpofmpijaaDoor.Ab
open Go
set_option maxRecDepth 20000
set_option maxHeartbeats 8000000
set_option linter.unusedSimpArgs false

mutual
theorem sameT_refl : ∀ t : T, sameT t t = true
  | .mk k s n a l => by
    rw [sameT_eq]
    simp only [decide_true, Bool.true_and]
    exact sameL_refl l
theorem sameL_refl : ∀ l : List T, sameL l l = true
  | [] => by rw [sameL]
  | t :: l => by rw [sameL, sameT_refl t, sameL_refl l]; rfl
end
mutual
theorem sameT_comm : ∀ t u : T, sameT t u = sameT u t
  | .mk k s n a l, u => by
    rw [sameT_eq, sameT_eq u]
    show (decide (k = u.kind) && (decide (s = u.text) && (decide (n = u.n) && (decide ((l.length : Int) = (u.kids.length : Int)) && sameL l u.kids)))) = _
    rw [sameL_comm l u.kids]
    congr 1
    · exact decide_eq_decide.2 eq_comm
    congr 1
    · exact decide_eq_decide.2 eq_comm
    congr 1
    · exact decide_eq_decide.2 eq_comm
    congr 1
    · exact decide_eq_decide.2 eq_comm
theorem sameL_comm : ∀ l m : List T, sameL l m = sameL m l
  | [], [] => rfl
  | [], _ :: _ => by rw [sameL, sameL]
  | _ :: _, [] => by rw [sameL, sameL]
  | t :: l, u :: m => by rw [sameL, sameL, sameT_comm t u, sameL_comm l m]
end

theorem primOk_limT {P : Program} [IsProg P] {C : Ctx} (hC : C.Good P) (f : Nat) : PrimOk P f (fun args σ => lim C f args σ) := fun args σ v σ' h => by
  obtain ⟨n, hn⟩ := lim_iff.1 h
  exact sound hC n f args σ v σ' hn
noncomputable def tr3Prims : List (Nat × Prim) := [(7, pBool true), (5, fun args σ => lim TyD 5 args σ), (6, fun args σ => lim TyD 6 args σ)]
noncomputable def TrC : Ctx := ⟨codeOf, primAt tr3Prims, fun _ => .no⟩
theorem TrC_good : TrC.Good Tryd.prog where
  code := fun f F h => codeOf_good h
  prim := fun f p h => primAt_ok (l := tr3Prims) (fun g p hm => by
    simp only [tr3Prims, List.mem_cons, Prod.mk.injEq, List.not_mem_nil, or_false] at hm
    rcases hm with ⟨rfl, rfl⟩ | ⟨rfl, rfl⟩ | ⟨rfl, rfl⟩
    · exact primOk_closed TrS_good sure06_runs
    · exact primOk_limT TyD_good _
    · exact primOk_limT TyD_good _) f p h
theorem TrC_code (f : Nat) : TrC.code f = codeOf f := by kernel_rfl
theorem TrC_sure (σ : AHeap) : lim TrC 7 [] σ = some (.one (.bool true), σ) := (lim_prim (p := pBool true) rfl).trans rfl
theorem TrC_same (σ : AHeap) (args : List AV) : lim TrC 5 args σ = lim TyD 5 args σ := lim_prim (p := fun args σ => lim TyD 5 args σ) rfl
theorem TrC_rsame (σ : AHeap) (args : List AV) : lim TrC 6 args σ = lim TyD 6 args σ := lim_prim (p := fun args σ => lim TyD 6 args σ) rfl

theorem law_same (t u : T) (x : Int) (ht : t.size ≤ maxElems) (hu : u.size ≤ maxElems) :
    ∃ σ', lim TrC 3 [.agg t.cells, .agg u.cells, .one (.int .i64 x)] emptyH = some (.one (.bool true), σ') := by
  have key : OptP (lim TrC 3 [.agg t.cells, .agg u.cells, .one (.int .i64 x)] emptyH) (fun _ v _ => v = .one (.bool true)) := by
    refine lim_code rfl ((TrC_code _).trans codeLawSame) rfl ?_
    unfold BodyP
    obtain ⟨k, s, n, a, l⟩ := t
    have hc : (T.mk k s n x l).size ≤ maxElems := by simpa [T.size] using ht
    have q1 := fun σ => (TrC_same σ _).trans (eq_tsame _ (.mk k s n a l) u ht (Nat.le_refl _) σ)
    have r1 := fun σ => (TrC_rsame σ _).trans (eq_rsame _ (.mk k s n a l) u ht (Nat.le_refl _) σ)
    have q2 := fun σ => (TrC_same σ _).trans (eq_tsame _ (.mk k s n x l) (.mk k s n a l) hc (Nat.le_refl _) σ)
    have q3 := fun σ => (TrC_same σ _).trans (eq_tsame _ u (.mk k s n x l) hu (Nat.le_refl _) σ)
    have hs2 : sameT (.mk k s n x l) (.mk k s n a l) = true := by
      have := sameT_refl (.mk k s n a l)
      rw [sameT_eq] at this ⊢
      exact this
    have hs3 : sameT u (.mk k s n x l) = sameT (.mk k s n a l) u := by
      rw [sameT_comm u, sameT_eq, sameT_eq (.mk k s n a l)]
      rfl
    rw [hs2] at q2
    rw [hs3] at q3
    have hw := TrC_sure
    generalize sameT (.mk k s n a l) u = R at *
    obtain ⟨k', s', n', a', l'⟩ := u
    simp only [T.cells_eq] at q1 r1 q2 q3 ⊢
    simp only [T.kind, T.text, T.n, T.at_, T.kids] at q1 r1 q2 q3 ⊢
    have hz : emptyH.size = 0 := rfl
    simp (maxDischargeDepth := 99) [cLawSame, hz]
    refine endsi_draw ?_
    cases R <;> simp (maxDischargeDepth := 99) [q1, r1, q2, q3, hw, sbin, hz]
  obtain ⟨v, σ', h1, h2⟩ := key
  exact ⟨σ', by rw [h1, h2]⟩
end Go.Proofs.YtkolhfpofmpijaaDoor.Ab

/- Trees among the arguments; the tables that a row lists. -/
namespace Go.Proofs.YtkolhfpofmpijaaDoor.Ab
open Go Go.RowKit
set_option maxRecDepth 100000
set_option maxHeartbeats 4000000
set_option linter.unusedSimpArgs false

/-! ### the tables -/
theorem glob_row {W : World} {g : Nat} {n : Nat} {f : Nat → Int} {cells : List SV} (e : globTab g = some ((List.range n).map fun c => SV.int .u8 (f c))) (h : globTab g = some cells)
    (hc : ∀ c, c < n → W.cell? ⟨g, c, none⟩ = some (.int .u8 (f c))) : ∃ vs, litVals cells = some vs ∧ ∀ j v, vs[j]? = some v → (allLoc W).fz g j = some v := by
  rw [h] at e
  cases e
  refine ⟨_, litVals_ints _ _ _, fun j v hv => ?_⟩
  rw [List.getElem?_map] at hv
  obtain ⟨c, h1, rfl⟩ := Option.map_eq_some_iff.1 hv
  obtain ⟨h2, rfl⟩ := List.getElem?_eq_some_iff.1 h1
  rw [List.getElem_range]
  rw [List.length_range] at h2
  exact hc j h2
theorem fldsG : Tryd.prog.globalNamed "strings.asciiSpace" = some (Tryd.laysFields_ren.g 0) := by kernel_rfl
theorem globOk_laid {W : World} (h0 : Lib.VarReads Tryd.prog W "strings.asciiSpace" (Lib.tabData .u8 Lib.asciiSpaceTab)) (h3 : Lib.VarReads Tryd.prog W "unicode/utf8.first" Lib.firstData) (h4 : Lib.VarReads Tryd.prog W "unicode/utf8.acceptRanges" Lib.acceptData) : GlobOk (allLoc W) := by
  have hu : Lib.Utf8Tabs (Tryd.laysValid_ren.g 3) (Tryd.laysValid_ren.g 4) W :=
    utf8Tabs_of_readsT (U8Types.of196 Tryd.laysValid) ⟨by kernel_rfl, by kernel_rfl, by kernel_rfl, by kernel_rfl, by kernel_rfl, by kernel_rfl, by kernel_rfl⟩ h3 h4
  have ht : Lib.TabIs Tryd.prog W "strings.asciiSpace" .u8 Lib.asciiSpaceTab := by
    obtain ⟨g, t, cs, fuel, p, hg, hty, hvar, hd⟩ := h0
    obtain rfl := Option.some.inj (fldsG.symm.trans hg)
    obtain rfl := Option.some.inj ((show (Tryd.prog.globals[Tryd.laysFields_ren.g 0]?).map (·.type) = some 74 by kernel_rfl).symm.trans hty)
    unfold Lib.TabIs
    rw [hvar, ← Lib.cells_of_tab Tryd.underlying74 Tryd.underlying5 (by kernel_rfl) (by kernel_rfl) hd]
  refine ⟨fun g cells h => ?_, fun g k h => by cases h⟩
  have hg : g = Tryd.laysFields_ren.g 0 ∨ g = Tryd.laysValid_ren.g 3 ∨ g = Tryd.laysValid_ren.g 4 := by
    unfold globTab at h
    split at h
    · first | exact .inl rfl | exact .inr (.inl rfl) | exact .inr (.inr rfl)
    · first | exact .inl rfl | exact .inr (.inl rfl) | exact .inr (.inr rfl)
    · first | exact .inl rfl | exact .inr (.inl rfl) | exact .inr (.inr rfl)
    · cases h
  rcases hg with rfl | rfl | rfl
  · exact glob_row ascTab h fun c hc => by rw [ht.cell fldsG c (by rw [Lib.asciiSpaceTab_length]; exact hc), Lib.asciiSpaceTab_at c hc]
  · exact glob_row (n := 256) firstTab h fun c hc => hu.1 c hc
  · refine glob_row (n := 32) acceptTab h fun c hc => ?_
    obtain ⟨h1, h2⟩ := hu.2 (c / 2) (by omega)
    by_cases hp : c % 2 = 0
    · rw [if_pos hp]
      rw [show 2 * (c / 2) = c by omega] at h1
      exact h1
    · rw [if_neg hp]
      rw [show 2 * (c / 2) + 1 = c by omega] at h2
      exact h2
/-- A listed table is a whole row: its type says how long. -/
theorem row_shaped {W : World} (h : W.ShapedOpen Tryd.prog) {g n : Nat} {t : TypeId} {zero : Array Value} (hg : g < Tryd.prog.globals.size) (h0 : ((begin Tryd.prog (fun _ _ => 0) default).world.heap[g]?).bind Obj.row? = some (zero, t)) (hz : zero.size = n) :
    ∃ cur t fz, W.heap[g]? = some (.cells cur t fz) ∧ cur.size = n := by
  obtain ⟨cs, hh, hs, _⟩ := h.1 g zero t hg h0
  exact ⟨cs, t, (0, 0), hh, by rw [hs, hz]⟩
theorem rows_tr {W : World} (h : W.ShapedOpen Tryd.prog) : GlobRows W := by
  intro g c l hk
  have hg : g = 2 ∨ g = 1 ∨ g = 0 := by
    unfold globTab at hk
    split at hk
    · exact .inl rfl
    · exact .inr (.inl rfl)
    · exact .inr (.inr rfl)
    · cases hk
  rcases hg with rfl | rfl | rfl
  all_goals first
    | (have hl : (c :: l).length = 256 := by cases hk; rfl
       exact row_shaped h (zero := Array.replicate 256 (.int .u8 0)) (t := 74) (of_decide_eq_true (by kernel_rfl)) (by kernel_rfl) (by rw [← List.length_cons (a := c), hl]; rfl))
    | (have hl : (c :: l).length = 32 := by cases hk; rfl
       exact row_shaped h (zero := Array.replicate 32 (.int .u8 0)) (t := 77) (of_decide_eq_true (by kernel_rfl)) (by kernel_rfl) (by rw [← List.length_cons (a := c), hl]; rfl))
theorem rd_nodes {N : Nat} (h : ∀ ss b, b ≤ N → RdV Tryd.prog 24 ss b → ∃ t : T, ss = t.cells ∧ t.size ≤ b) : ∀ (l : List (List SV)) (b : Nat), b ≤ N → RdVE Tryd.prog 24 l b → ∃ L : List T, l = L.map T.cells ∧ T.sizeL L ≤ b
  | [], _, _, _ => ⟨[], rfl, Nat.zero_le _⟩
  | _ :: l, _, hb, hl => by
    cases hl with
    | cons h1 h2 =>
      obtain ⟨t, rfl, k1⟩ := h _ _ (by omega) h1
      obtain ⟨L, rfl, k2⟩ := rd_nodes h l _ (by omega) h2
      exact ⟨t :: L, rfl, by simp only [T.sizeL]; omega⟩
theorem rd_node : ∀ (N : Nat) (ss : List SV) (b : Nat), b ≤ N → RdV Tryd.prog 24 ss b → ∃ t : T, ss = t.cells ∧ t.size ≤ b := by
  intro N
  induction N with
  | zero =>
    intro ss b hb h
    obtain ⟨c, rfl, _⟩ := h.structI Tryd.underlying24
    omega
  | succ N ih =>
    intro ss b hb h
    obtain ⟨c, rfl, hF⟩ := h.structI Tryd.underlying24
    obtain ⟨s1, r1, b1, c1, rfl, rfl, h1, hF1⟩ := RdVF.consI hF
    obtain ⟨s2, r2, b2, c2, rfl, rfl, h2, hF2⟩ := RdVF.consI hF1
    obtain ⟨s3, r3, b3, c3, rfl, rfl, h3, hF3⟩ := RdVF.consI hF2
    obtain ⟨s4, r4, b4, c4, rfl, rfl, h4, hF4⟩ := RdVF.consI hF3
    obtain ⟨s5, r5, b5, c5, rfl, rfl, h5, hF5⟩ := RdVF.consI hF4
    obtain rfl := RdVF.nilI hF5
    obtain ⟨k, rfl, -, -⟩ := h1.intI Tryd.underlying3
    obtain ⟨x, rfl, e2⟩ := h2.strI Tryd.underlying9
    obtain ⟨n, rfl, -, -⟩ := h3.intI Tryd.underlying3
    obtain ⟨a, rfl, -, -⟩ := h4.intI Tryd.underlying3
    obtain ⟨l, c6, rfl, e5, h6⟩ := h5.sliceI Tryd.underlying22
    obtain ⟨L, rfl, k6⟩ := rd_nodes (N := N) ih l c6 (by omega) h6
    refine ⟨.mk k x n a L, ?_, ?_⟩
    · rw [T.cells, T.cellsL_map]; rfl
    · simp only [T.size]; omega
end Go.Proofs.YtkolhfpofmpijaaDoor.Ab
