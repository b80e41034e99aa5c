/- Several of my texts in one: TyAw, Ty9, TyIn. -/
import Derived.Test.YtlgdhnjmmahgdaaDoorTyB
import Derived.Test.YtlgdhnjmmahgdaaDoorTyC
import Derived.Lib.LaidU8T
import Derived.Deep.DeepHandedRow
/- The chapter's examples hold: a closed run. -/
namespace Go.Proofs.YtlgdhnjmmahgdaaDoor.Ab
open Go
set_option maxRecDepth 200000
set_option maxHeartbeats 20000000
/-- A slice of strings, as its strings. -/
def strsOf (σ : AHeap) : AV → Option (List (List UInt8))
  | .one (.slice id 0 1 n _) => match σ.get id with
    | some ⟨cs, .own⟩ => match Nat.beq n cs.length && Nat.ble n 1000000, cs.mapM (fun | .str s => some s | _ => none) with
      | true, some l => some l
      | _, _ => none
    | _ => none
  | _ => none
theorem mapM_str : ∀ {cs : List SV} {l : List (List UInt8)}, cs.mapM (fun | .str s => some s | _ => none) = some l → cs = l.map SV.str
  | [], l, h => by
    rw [List.mapM_nil] at h
    cases h
    rfl
  | c :: cs, l, h => by
    rw [List.mapM_cons] at h
    split at h
    · simp only [Option.bind_eq_bind, Option.bind_some, Option.pure_def] at h
      cases h2 : cs.mapM (m := Option) (fun | .str s => some s | _ => none) with
      | none => rw [h2] at h; cases h
      | some l2 =>
        rw [h2] at h
        cases h
        rw [mapM_str h2]
        rfl
    · cases h
theorem strsOf_sl {σ : AHeap} {s : AV} {l : List (List UInt8)} (h : strsOf σ s = some l) : StrSl σ s l ∧ l.length ≤ maxElems := by
  unfold strsOf at h
  split at h
  · split at h
    · rename_i hg
      split at h
      · rename_i hb hm
        cases h
        rw [Bool.and_eq_true, Nat.beq_eq, Nat.ble_eq] at hb
        have := mapM_str hm
        subst this
        rw [List.length_map] at hb
        obtain ⟨rfl, h2⟩ := hb
        exact ⟨.inr ⟨_, _, rfl, hg⟩, by unfold maxElems; omega⟩
      · cases h
    · cases h
  · cases h
def pContS : Prim := fun args σ => match args with
  | [s, .one (.str x)] => match strsOf σ s with
    | some l => some (.one (.bool (decide (x ∈ l))), σ)
    | none => none
  | _ => none
theorem primOk_contS : PrimOk Tryd.prog 30 pContS := primOk_pure TyD_good fun args σ v σ' h => by
  unfold pContS at h
  split at h
  · rename_i s x
    split at h
    · rename_i l hl
      cases h
      obtain ⟨h1, h2⟩ := strsOf_sl hl
      obtain ⟨n, hn⟩ := (lim_iff).1 (eq_contS σ s l x h1 h2)
      exact ⟨rfl, rfl, n, _, _, hn, rfl, Keeps.refl _⟩
    · cases h
  · cases h
def pSName : Prim := fun args σ => match args with
  | [.one (.str s)] => match Nat.ble s.length 1000000 with
    | true => some (.one (.bool (nameB s)), σ)
    | false => none
  | _ => none
theorem primOk_sname : PrimOk Tryd.prog 50 pSName := primOk_pure TyD_good fun args σ v σ' h => by
  unfold pSName at h
  split at h
  · rename_i s
    split at h
    · rename_i hl
      cases h
      rw [Nat.ble_eq] at hl
      obtain ⟨n, hn⟩ := (lim_iff).1 (eq_sname σ s (by unfold maxElems; omega))
      exact ⟨rfl, rfl, n, _, _, hn, rfl, Keeps.refl _⟩
    · cases h
  · cases h
def awPrims : List (Nat × Prim) := [(71, pFields), (52, pLower), (30, pContS), (50, pSName)]
noncomputable def awC : Ctx := ⟨codeOf, primAt awPrims, fun _ => .no⟩
theorem awC_good : awC.Good Tryd.prog where
  code := fun f F h => codeOf_good h
  prim := fun f p h => primAt_ok (l := awPrims) (fun g p hm => by
    simp only [awPrims, List.mem_cons, Prod.mk.injEq, List.not_mem_nil, or_false] at hm
    rcases hm with ⟨rfl, rfl⟩ | ⟨rfl, rfl⟩ | ⟨rfl, rfl⟩ | ⟨rfl, rfl⟩
    · exact primOk_fields
    · exact primOk_lower
    · exact primOk_contS
    · exact primOk_sname) f p h
theorem awake_runs : saysTrue (evCall awC 600 6 [] emptyH) = true := by kernel_rfl
theorem okAw : PrimOk Tryd.prog 6 (pBool true) := primOk_closed awC_good awake_runs
end Go.Proofs.YtlgdhnjmmahgdaaDoor.Ab

/- The law TypesFields, walked. -/
namespace Go.Proofs.YtlgdhnjmmahgdaaDoor.Ab
open Go
set_option maxRecDepth 20000
set_option maxHeartbeats 8000000
set_option linter.unusedSimpArgs false

def tfPrims : List (Nat × Prim) := [(6, pBool true)]
noncomputable def TfC : Ctx := ⟨codeOf, primAt tfPrims, tyHint⟩
theorem TfC_good : TfC.Good Tryd.prog where
  code := fun f F h => codeOf_good h
  prim := fun f p h => primAt_ok (l := tfPrims) (fun g p hm => by
    simp only [tfPrims, List.mem_cons, Prod.mk.injEq, List.not_mem_nil, or_false] at hm
    obtain ⟨rfl, rfl⟩ := hm
    exact okAw) f p h
theorem TfC_base : FBase2 TfC := { code := fun f => by kernel_rfl, res := by kernel_rfl, rest := by kernel_rfl, idx := by kernel_rfl, cont := by kernel_rfl, hint := rfl, fp := by kernel_rfl, fr := by kernel_rfl, rr := by kernel_rfl }
theorem TfC_awake (σ : AHeap) : lim TfC 6 [] σ = some (.one (.bool true), σ) := (lim_prim (p := pBool true) (by kernel_rfl)).trans rfl

theorem law_fields (nm nms : List UInt8) (L : List Col) (F : List Fld) (hL : L.length ≤ maxElems) (hF : F.length ≤ maxElems) :
    ∃ σ', lim TfC 4 [.agg [.str nm, .lst (L.map Col.cells)], .one (.str nms), .one (.lst (F.map Fld.cells))] emptyH = some (.one (.bool true), σ') := by
  have key : OptP (lim TfC 4 [.agg [.str nm, .lst (L.map Col.cells)], .one (.str nms), .one (.lst (F.map Fld.cells))] emptyH) (fun _ v _ => v = .one (.bool true)) := by
    refine lim_code (by kernel_rfl) ((TfC_base.code _).trans codeLawF) rfl ?_
    unfold BodyP
    have hp := fun σ => eq_fieldsP TfC_base σ nm nms L hL
    have hr := fun σ => eq_fieldsR TfC_base σ nm nms L hL
    have hflen : (flds nms L).length = L.length := by rw [flds, List.length_map]
    generalize flds nms L = G at hp hr hflen
    have hG : G.length ≤ maxElems := by omega
    simp (maxDischargeDepth := 99) [cLawF]
    refine endsi_draw ?_
    generalize hσ0 : emptyH.alloc ⟨[.str nm, .lst (L.map Col.cells)], .own⟩ = σ0
    have hg0 : σ0.get emptyH.size = some ⟨[.str nm, .lst (L.map Col.cells)], .own⟩ := by rw [← hσ0]; simp
    simp (maxDischargeDepth := 99) [hp, hr, hg0]
    refine endsi_range G.length (fun i fr τ => τ = σ0 ∧ fr.length = 127 ∧ getSlot fr 2 = .one (.lst (F.map Fld.cells)) ∧ getSlot fr 7 = .one (.lst (G.map Fld.cells)) ∧ getSlot fr 8 = .one (.lst (G.map Fld.cells)) ∧ getSlot fr 9 = .one (.int .i64 i)) ?_ ?_ ?_
    · simp
    · rintro i fr τ hlt ⟨rfl, hlen, f2, f7, f8, f9⟩
      have hw := wr_next hlt hG
      simp (maxDischargeDepth := 99) [cLawF_0, hlen, f2, f7, f8, f9, hlt, Fld.cells, beqL_iff, hw]
    rintro fr τ ⟨rfl, hlen, f2, f7, f8, f9⟩
    clear hp hr
    simp (maxDischargeDepth := 99) [cLawF_0, hlen, f7, f9]
    obtain ⟨σ1, hσ1⟩ : ∃ σ1, σ1 = τ.alloc ⟨[.str (bytes [97]), .str (bytes [112, 114, 105, 99, 101]), .str (bytes [115, 121, 109]), .str (bytes [120]), .str []], .own⟩ := ⟨_, rfl⟩
    have hg1 : σ1.get τ.size = some ⟨[.str (bytes [97]), .str (bytes [112, 114, 105, 99, 101]), .str (bytes [115, 121, 109]), .str (bytes [120]), .str []], .own⟩ := by rw [hσ1]; simp
    rw [← hσ1]
    refine endsi_range 5 (fun i fr σ' => σ' = σ1 ∧ fr.length = 127 ∧ getSlot fr 2 = .one (.lst (F.map Fld.cells)) ∧ getSlot fr 10 = .one (.slice τ.size 0 1 5 (some 5)) ∧ getSlot fr 11 = .one (.int .i64 i)) ?_ ?_ ?_
    · refine ⟨rfl, ?_, ?_, ?_, ?_⟩
      · simp [hlen]
      · simp [f2]
      · simp [hlen]
      · rw [getSlot_setSlot, if_pos ⟨rfl, by simp [hlen]⟩]
        rfl
    · rintro i fr σ' hlt ⟨rfl, hlen, f2, f10, f11⟩
      have hw := wr_next hlt (by decide)
      obtain ⟨nmi, hnm⟩ : ∃ x, partA [.str (bytes [97]), .str (bytes [112, 114, 105, 99, 101]), .str (bytes [115, 121, 109]), .str (bytes [120]), .str []] none i = some (.one (.str x)) := by
        have h5 : i = 0 ∨ i = 1 ∨ i = 2 ∨ i = 3 ∨ i = 4 := by omega
        rcases h5 with rfl | rfl | rfl | rfl | rfl
        · exact ⟨_, rfl⟩
        · exact ⟨_, rfl⟩
        · exact ⟨_, rfl⟩
        · exact ⟨_, rfl⟩
        · exact ⟨_, rfl⟩
      have hlt5 : (i : Int) < 5 := by omega
      simp (maxDischargeDepth := 99) [-partA, cLawF_2, hlen, f2, f10, f11, hlt, hlt5]
      refine endsi_range (min F.length 8) (fun k fr τ' => τ' = σ' ∧ fr.length = 127 ∧ getSlot fr 2 = .one (.lst (F.map Fld.cells)) ∧ getSlot fr 10 = .one (.slice τ.size 0 1 5 (some 5)) ∧ getSlot fr 11 = .one (.int .i64 i) ∧ getSlot fr 12 = .one (.int .i64 k)) ?_ ?_ ?_
      · simp [hlen, f2, f10, f11]
      · rintro k fr τ' hk ⟨rfl, hlen, f2, f10, f11, f12⟩
        have hk1 : k < F.length := by omega
        have hk2 : (k : Int) < 8 := by omega
        have hwk := wr_next hk1 hF
        have hp0 : partA F[k].cells none 0 = some (.one (.str F[k].stream)) := rfl
        have e1 := eq_resolve TfC_base.toFBase τ' (.one (.lst (F.map Fld.cells))) F F[k].stream nmi (.inl rfl) hF
        have e2 := eq_resolveR TfC_base τ' F F[k].stream nmi hF
        simp (maxDischargeDepth := 99) [-partA, cLawF_1, hlen, f2, f10, f11, f12, hk1, hk2, hp0, hg1, hlt, hlt5, hnm, e1, e2, hwk]
      · rintro fr τ' ⟨rfl, hlen, f2, f10, f11, f12⟩
        have e1 := eq_resolve TfC_base.toFBase τ' (.one (.lst (F.map Fld.cells))) F [] nmi (.inl rfl) hF
        have e2 := eq_resolveR TfC_base τ' F [] nmi hF
        by_cases hk1 : F.length ≤ 8
        · have hmin : min F.length 8 = F.length := by omega
          rw [hmin] at f12
          simp (maxDischargeDepth := 99) [-partA, cLawF_1, hlen, f2, f10, f11, f12, hg1, hlt, hlt5, hnm, e1, e2, hw]
        · have hmin : min F.length 8 = 8 := by omega
          have hk2 : 8 < F.length := by omega
          have hk3 : (8 : Int) < (F.length : Int) := by omega
          rw [hmin] at f12
          have f12 : getSlot fr 12 = .one (.int .i64 8) := f12
          simp (maxDischargeDepth := 99) [-partA, cLawF_1, hlen, f2, f10, f11, f12, hk2, hk3, hg1, hlt, hlt5, hnm, e1, e2, hw]
    · rintro fr σ' ⟨rfl, hlen, f2, f10, f11⟩
      have ha := TfC_awake σ'
      simp (maxDischargeDepth := 99) [-partA, cLawF_2, hlen, f10, f11, ha]
  obtain ⟨v, σ', h1, h2⟩ := key
  exact ⟨σ', by rw [h1, h2]⟩
end Go.Proofs.YtlgdhnjmmahgdaaDoor.Ab

/- Arguments of the types' laws, as they were read; the tables that a row lists. -/
namespace Go.Proofs.YtlgdhnjmmahgdaaDoor.Ab
open Go Go.RowKit
set_option maxRecDepth 100000
set_option maxHeartbeats 4000000
set_option linter.unusedSimpArgs false

section
variable {P : Program} {t : TypeId} {ss : List SV} {b : Nat}
theorem RdV.strI (ht : P.underlying t = some .string) (h : RdV P t ss b) : ∃ s, ss = [.str s] ∧ b = s.length + 1 := by
  cases h with
  | str h' s => exact ⟨s, rfl, rfl⟩
  | bool h' => rw [ht] at h'; cases h'
  | int h' => rw [ht] at h'; cases h'
  | slice h' => rw [ht] at h'; cases h'
  | struct h' => rw [ht] at h'; cases h'
  | array h' => rw [ht] at h'; cases h'
theorem RdV.intI {k : IntKind} (ht : P.underlying t = some (.int k)) (h : RdV P t ss b) : ∃ n, ss = [.int k n] ∧ (Lit.int k n).wf = true ∧ b = 1 := by
  cases h with
  | int h' n hw => rw [ht] at h'; cases h'; exact ⟨n, rfl, hw, rfl⟩
  | bool h' => rw [ht] at h'; cases h'
  | str h' => rw [ht] at h'; cases h'
  | slice h' => rw [ht] at h'; cases h'
  | struct h' => rw [ht] at h'; cases h'
  | array h' => rw [ht] at h'; cases h'
theorem RdV.boolI (ht : P.underlying t = some .bool) (h : RdV P t ss b) : ∃ x, ss = [.bool x] ∧ b = 1 := by
  cases h with
  | bool h' x => exact ⟨x, rfl, rfl⟩
  | int h' => rw [ht] at h'; cases h'
  | str h' => rw [ht] at h'; cases h'
  | slice h' => rw [ht] at h'; cases h'
  | struct h' => rw [ht] at h'; cases h'
  | array h' => rw [ht] at h'; cases h'
theorem RdV.sliceI {e : TypeId} (ht : P.underlying t = some (.slice e)) (h : RdV P t ss b) : ∃ elems c, ss = [.lst elems] ∧ b = c + 1 ∧ RdVE P e elems c := by
  cases h with
  | slice h' elems c hl => rw [ht] at h'; cases h'; exact ⟨elems, c, rfl, rfl, hl⟩
  | bool h' => rw [ht] at h'; cases h'
  | int h' => rw [ht] at h'; cases h'
  | str h' => rw [ht] at h'; cases h'
  | struct h' => rw [ht] at h'; cases h'
  | array h' => rw [ht] at h'; cases h'
theorem RdV.structI {fs : Array Field} (ht : P.underlying t = some (.struct fs)) (h : RdV P t ss b) : ∃ c, b = c + 1 ∧ RdVF P (fs.toList.map (·.type)) ss c := by
  cases h with
  | struct h' cells c hl => rw [ht] at h'; cases h'; exact ⟨c, rfl, hl⟩
  | bool h' => rw [ht] at h'; cases h'
  | int h' => rw [ht] at h'; cases h'
  | str h' => rw [ht] at h'; cases h'
  | slice h' => rw [ht] at h'; cases h'
  | array h' => rw [ht] at h'; cases h'
theorem RdVF.consI {e : TypeId} {es : List TypeId} (h : RdVF P (e :: es) ss b) : ∃ s1 s2 b1 b2, ss = s1 ++ s2 ∧ b = b1 + b2 ∧ RdV P e s1 b1 ∧ RdVF P es s2 b2 := by
  cases h with
  | cons h t => exact ⟨_, _, _, _, rfl, rfl, h, t⟩
theorem RdVA.aggI {ts : List TypeId} {avs : List AV} (ha : aggT P t = true) (h : RdVA P (t :: ts) avs b) : ∃ ss l b1 b2, avs = .agg ss :: l ∧ b = b1 + b2 ∧ RdV P t ss b1 ∧ RdVA P ts l b2 := by
  cases h with
  | one ha' => rw [ha] at ha'; cases ha'
  | agg _ h k => exact ⟨_, _, _, _, rfl, rfl, h, k⟩
theorem RdVA.oneI {ts : List TypeId} {avs : List AV} (ha : aggT P t = false) (h : RdVA P (t :: ts) avs b) : ∃ s l b1 b2, avs = .one s :: l ∧ b = b1 + b2 ∧ RdV P t [s] b1 ∧ RdVA P ts l b2 := by
  cases h with
  | agg ha' => rw [ha] at ha'; cases ha'
  | one _ h k => exact ⟨_, _, _, _, rfl, rfl, h, k⟩
theorem RdVA.nilI {avs : List AV} (h : RdVA P [] avs b) : avs = [] := by cases h; rfl
theorem RdVF.nilI (h : RdVF P [] ss b) : ss = [] := by cases h; rfl
end

theorem rd_fld {ss : List SV} {b : Nat} (h : RdV Tryd.prog 27 ss b) : ∃ f : Fld, ss = f.cells ∧ 1 ≤ b := by
  obtain ⟨c, rfl, hF⟩ := h.structI Tryd.underlying27
  obtain ⟨s1, s2, b1, b2, rfl, -, h1, hF⟩ := RdVF.consI hF
  obtain ⟨s3, s4, b3, b4, rfl, -, h2, hF⟩ := RdVF.consI hF
  obtain ⟨s5, s6, b5, b6, rfl, -, h3, hF⟩ := RdVF.consI hF
  obtain rfl := RdVF.nilI hF
  obtain ⟨x, rfl, -⟩ := h1.strI Tryd.underlying9
  obtain ⟨y, rfl, -⟩ := h2.strI Tryd.underlying9
  obtain ⟨z, rfl, -, -⟩ := h3.intI Tryd.underlying3
  exact ⟨⟨x, y, z⟩, rfl, by omega⟩
theorem rd_flds : ∀ {l : List (List SV)} {b : Nat}, RdVE Tryd.prog 27 l b → ∃ F : List Fld, l = F.map Fld.cells ∧ F.length ≤ b
  | [], _, _ => ⟨[], rfl, Nat.zero_le _⟩
  | _ :: _, _, h => by
    cases h with
    | cons h t =>
      obtain ⟨f, rfl, h1⟩ := rd_fld h
      obtain ⟨F, rfl, h2⟩ := rd_flds t
      exact ⟨f :: F, rfl, by simp only [List.length_cons]; omega⟩
theorem rd_col {ss : List SV} {b : Nat} (h : RdV Tryd.prog 50 ss b) : ∃ f : Col, ss = f.cells ∧ 1 ≤ b := by
  obtain ⟨c, rfl, hF⟩ := h.structI Tryd.underlying50
  obtain ⟨s1, s2, b1, b2, rfl, -, h1, hF⟩ := RdVF.consI hF
  obtain ⟨s3, s4, b3, b4, rfl, -, h2, hF⟩ := RdVF.consI hF
  obtain rfl := RdVF.nilI hF
  obtain ⟨x, rfl, -⟩ := h1.strI Tryd.underlying9
  obtain ⟨z, rfl, -, -⟩ := h2.intI Tryd.underlying3
  exact ⟨⟨x, z⟩, rfl, by omega⟩
theorem rd_cols : ∀ {l : List (List SV)} {b : Nat}, RdVE Tryd.prog 50 l b → ∃ F : List Col, l = F.map Col.cells ∧ F.length ≤ b
  | [], _, _ => ⟨[], rfl, Nat.zero_le _⟩
  | _ :: _, _, h => by
    cases h with
    | cons h t =>
      obtain ⟨f, rfl, h1⟩ := rd_col h
      obtain ⟨F, rfl, h2⟩ := rd_cols t
      exact ⟨f :: F, rfl, by simp only [List.length_cons]; omega⟩

/-! ### the tables -/
theorem glob_row {W : World} {g : Nat} {n : Nat} {f : Nat → Int} {cells : List SV} (e : globTab g = some ((List.range n).map fun c => SV.int .u8 (f c))) (h : globTab g = some cells)
    (hc : ∀ c, c < n → W.cell? ⟨g, c, none⟩ = some (.int .u8 (f c))) : ∃ vs, litVals cells = some vs ∧ ∀ j v, vs[j]? = some v → (allLoc W).fz g j = some v := by
  rw [h] at e
  cases e
  refine ⟨_, litVals_ints _ _ _, fun j v hv => ?_⟩
  rw [List.getElem?_map] at hv
  obtain ⟨c, h1, rfl⟩ := Option.map_eq_some_iff.1 hv
  obtain ⟨h2, rfl⟩ := List.getElem?_eq_some_iff.1 h1
  rw [List.getElem_range]
  rw [List.length_range] at h2
  exact hc j h2
theorem fldsG : Tryd.prog.globalNamed "strings.asciiSpace" = some (Tryd.laysFields_ren.g 0) := by kernel_rfl
theorem globOk_laid {W : World} (h0 : Lib.VarReads Tryd.prog W "strings.asciiSpace" (Lib.tabData .u8 Lib.asciiSpaceTab)) (h3 : Lib.VarReads Tryd.prog W "unicode/utf8.first" Lib.firstData) (h4 : Lib.VarReads Tryd.prog W "unicode/utf8.acceptRanges" Lib.acceptData) : GlobOk (allLoc W) := by
  have hu : Lib.Utf8Tabs (Tryd.laysValid_ren.g 3) (Tryd.laysValid_ren.g 4) W :=
    utf8Tabs_of_readsT (U8Types.of196 Tryd.laysValid) ⟨by kernel_rfl, by kernel_rfl, by kernel_rfl, by kernel_rfl, by kernel_rfl, by kernel_rfl, by kernel_rfl⟩ h3 h4
  have ht : Lib.TabIs Tryd.prog W "strings.asciiSpace" .u8 Lib.asciiSpaceTab := by
    obtain ⟨g, t, cs, fuel, p, hg, hty, hvar, hd⟩ := h0
    obtain rfl := Option.some.inj (fldsG.symm.trans hg)
    obtain rfl := Option.some.inj ((show (Tryd.prog.globals[Tryd.laysFields_ren.g 0]?).map (·.type) = some 96 by kernel_rfl).symm.trans hty)
    unfold Lib.TabIs
    rw [hvar, ← Lib.cells_of_tab Tryd.underlying96 Tryd.underlying5 (by kernel_rfl) (by kernel_rfl) hd]
  intro g cells h
  have hg : g = Tryd.laysFields_ren.g 0 ∨ g = Tryd.laysValid_ren.g 3 ∨ g = Tryd.laysValid_ren.g 4 := by
    unfold globTab at h
    split at h
    · first | exact .inl rfl | exact .inr (.inl rfl) | exact .inr (.inr rfl)
    · first | exact .inl rfl | exact .inr (.inl rfl) | exact .inr (.inr rfl)
    · first | exact .inl rfl | exact .inr (.inl rfl) | exact .inr (.inr rfl)
    · cases h
  rcases hg with rfl | rfl | rfl
  · exact glob_row ascTab h fun c hc => by rw [ht.cell fldsG c (by rw [Lib.asciiSpaceTab_length]; exact hc), Lib.asciiSpaceTab_at c hc]
  · exact glob_row (n := 256) firstTab h fun c hc => hu.1 c hc
  · refine glob_row (n := 32) acceptTab h fun c hc => ?_
    obtain ⟨h1, h2⟩ := hu.2 (c / 2) (by omega)
    by_cases hp : c % 2 = 0
    · rw [if_pos hp]
      rw [show 2 * (c / 2) = c by omega] at h1
      exact h1
    · rw [if_neg hp]
      rw [show 2 * (c / 2) + 1 = c by omega] at h2
      exact h2
end Go.Proofs.YtlgdhnjmmahgdaaDoor.Ab
