/- Several of my texts in one: TyAw, TyIn. -/
import Derived.Test.YtlgdhnjmmahgdaaGreatDoorTyB
import Derived.Test.YtlgdhnjmmahgdaaGreatDoorTyC
import Derived.Test.YtlgdhnjmmahgdaaGreatDoorAbD
import Derived.Lib.LaidU8T
import Derived.Deep.DeepHandedRow
/- The chapter's examples hold: a closed run. -/
namespace Go.Proofs.YtlgdhnjmmahgdaaGreatDoor.Ab
open Go
set_option maxRecDepth 200000
set_option maxHeartbeats 20000000
/-- A slice of strings, as its strings. -/
def strsOf (σ : AHeap) : AV → Option (List (List UInt8))
  | .one (.slice id 0 1 n _) => match σ.get id with
    | some ⟨cs, .own⟩ => match Nat.beq n cs.length && Nat.ble n 1000000, cs.mapM (fun | .str s => some s | _ => none) with
      | true, some l => some l
      | _, _ => none
    | _ => none
  | _ => none
theorem mapM_str : ∀ {cs : List SV} {l : List (List UInt8)}, cs.mapM (fun | .str s => some s | _ => none) = some l → cs = l.map SV.str
  | [], l, h => by
    rw [List.mapM_nil] at h
    cases h
    rfl
  | c :: cs, l, h => by
    rw [List.mapM_cons] at h
    split at h
    · simp only [Option.bind_eq_bind, Option.bind_some, Option.pure_def] at h
      cases h2 : cs.mapM (m := Option) (fun | .str s => some s | _ => none) with
      | none => rw [h2] at h; cases h
      | some l2 =>
        rw [h2] at h
        cases h
        rw [mapM_str h2]
        rfl
    · cases h
theorem strsOf_sl {σ : AHeap} {s : AV} {l : List (List UInt8)} (h : strsOf σ s = some l) : StrSl σ s l ∧ l.length ≤ maxElems := by
  unfold strsOf at h
  split at h
  · split at h
    · rename_i hg
      split at h
      · rename_i hb hm
        cases h
        rw [Bool.and_eq_true, Nat.beq_eq, Nat.ble_eq] at hb
        have := mapM_str hm
        subst this
        rw [List.length_map] at hb
        obtain ⟨rfl, h2⟩ := hb
        exact ⟨.inr ⟨_, _, rfl, hg⟩, by unfold maxElems; omega⟩
      · cases h
    · cases h
  · cases h
def pContS : Prim := fun args σ => match args with
  | [s, .one (.str x)] => match strsOf σ s with
    | some l => some (.one (.bool (decide (x ∈ l))), σ)
    | none => none
  | _ => none
theorem primOk_contS : PrimOk Tryz.prog 89 pContS := primOk_pure TyD_good fun args σ v σ' h => by
  unfold pContS at h
  split at h
  · rename_i s x
    split at h
    · rename_i l hl
      cases h
      obtain ⟨h1, h2⟩ := strsOf_sl hl
      obtain ⟨n, hn⟩ := (lim_iff).1 (eq_contS σ s l x h1 h2)
      exact ⟨rfl, rfl, n, _, _, hn, rfl, Keeps.refl _⟩
    · cases h
  · cases h
def pSName : Prim := fun args σ => match args with
  | [.one (.str s)] => match Nat.ble s.length 1000000 with
    | true => some (.one (.bool (nameB s)), σ)
    | false => none
  | _ => none
theorem primOk_sname : PrimOk Tryz.prog 145 pSName := primOk_pure TyD_good fun args σ v σ' h => by
  unfold pSName at h
  split at h
  · rename_i s
    split at h
    · rename_i hl
      cases h
      rw [Nat.ble_eq] at hl
      obtain ⟨n, hn⟩ := (lim_iff).1 (eq_sname σ s (by unfold maxElems; omega))
      exact ⟨rfl, rfl, n, _, _, hn, rfl, Keeps.refl _⟩
    · cases h
  · cases h
def awPrims : List (Nat × Prim) := [(184, pFields), (147, pLower), (89, pContS), (145, pSName)]
noncomputable def awC : Ctx := ⟨codeOf, primAt awPrims, fun _ => .no⟩
theorem awC_good : awC.Good Tryz.prog where
  code := fun f F h => codeOf_good h
  prim := fun f p h => primAt_ok (l := awPrims) (fun g p hm => by
    simp only [awPrims, List.mem_cons, Prod.mk.injEq, List.not_mem_nil, or_false] at hm
    rcases hm with ⟨rfl, rfl⟩ | ⟨rfl, rfl⟩ | ⟨rfl, rfl⟩ | ⟨rfl, rfl⟩
    · exact primOk_fields
    · exact primOk_lower
    · exact primOk_contS
    · exact primOk_sname) f p h
theorem awake_runs : saysTrue (evCall awC 600 10 [] emptyH) = true := by kernel_rfl
theorem okAw : PrimOk Tryz.prog 10 (pBool true) := primOk_closed awC_good awake_runs
end Go.Proofs.YtlgdhnjmmahgdaaGreatDoor.Ab

/- Arguments of the types' laws, as they were read; the tables that a row lists. -/
namespace Go.Proofs.YtlgdhnjmmahgdaaGreatDoor.Ab
open Go Go.RowKit
set_option maxRecDepth 100000
set_option maxHeartbeats 4000000
set_option linter.unusedSimpArgs false

section
variable {P : Program} {t : TypeId} {ss : List SV} {b : Nat}
theorem RdV.strI (ht : P.underlying t = some .string) (h : RdV P t ss b) : ∃ s, ss = [.str s] ∧ b = s.length + 1 := by
  cases h with
  | str h' s => exact ⟨s, rfl, rfl⟩
  | bool h' => rw [ht] at h'; cases h'
  | int h' => rw [ht] at h'; cases h'
  | slice h' => rw [ht] at h'; cases h'
  | struct h' => rw [ht] at h'; cases h'
  | array h' => rw [ht] at h'; cases h'
theorem RdV.intI {k : IntKind} (ht : P.underlying t = some (.int k)) (h : RdV P t ss b) : ∃ n, ss = [.int k n] ∧ (Lit.int k n).wf = true ∧ b = 1 := by
  cases h with
  | int h' n hw => rw [ht] at h'; cases h'; exact ⟨n, rfl, hw, rfl⟩
  | bool h' => rw [ht] at h'; cases h'
  | str h' => rw [ht] at h'; cases h'
  | slice h' => rw [ht] at h'; cases h'
  | struct h' => rw [ht] at h'; cases h'
  | array h' => rw [ht] at h'; cases h'
theorem RdV.boolI (ht : P.underlying t = some .bool) (h : RdV P t ss b) : ∃ x, ss = [.bool x] ∧ b = 1 := by
  cases h with
  | bool h' x => exact ⟨x, rfl, rfl⟩
  | int h' => rw [ht] at h'; cases h'
  | str h' => rw [ht] at h'; cases h'
  | slice h' => rw [ht] at h'; cases h'
  | struct h' => rw [ht] at h'; cases h'
  | array h' => rw [ht] at h'; cases h'
theorem RdV.sliceI {e : TypeId} (ht : P.underlying t = some (.slice e)) (h : RdV P t ss b) : ∃ elems c, ss = [.lst elems] ∧ b = c + 1 ∧ RdVE P e elems c := by
  cases h with
  | slice h' elems c hl => rw [ht] at h'; cases h'; exact ⟨elems, c, rfl, rfl, hl⟩
  | bool h' => rw [ht] at h'; cases h'
  | int h' => rw [ht] at h'; cases h'
  | str h' => rw [ht] at h'; cases h'
  | struct h' => rw [ht] at h'; cases h'
  | array h' => rw [ht] at h'; cases h'
theorem RdV.structI {fs : Array Field} (ht : P.underlying t = some (.struct fs)) (h : RdV P t ss b) : ∃ c, b = c + 1 ∧ RdVF P (fs.toList.map (·.type)) ss c := by
  cases h with
  | struct h' cells c hl => rw [ht] at h'; cases h'; exact ⟨c, rfl, hl⟩
  | bool h' => rw [ht] at h'; cases h'
  | int h' => rw [ht] at h'; cases h'
  | str h' => rw [ht] at h'; cases h'
  | slice h' => rw [ht] at h'; cases h'
  | array h' => rw [ht] at h'; cases h'
theorem RdVF.consI {e : TypeId} {es : List TypeId} (h : RdVF P (e :: es) ss b) : ∃ s1 s2 b1 b2, ss = s1 ++ s2 ∧ b = b1 + b2 ∧ RdV P e s1 b1 ∧ RdVF P es s2 b2 := by
  cases h with
  | cons h t => exact ⟨_, _, _, _, rfl, rfl, h, t⟩
theorem RdVA.aggI {ts : List TypeId} {avs : List AV} (ha : aggT P t = true) (h : RdVA P (t :: ts) avs b) : ∃ ss l b1 b2, avs = .agg ss :: l ∧ b = b1 + b2 ∧ RdV P t ss b1 ∧ RdVA P ts l b2 := by
  cases h with
  | one ha' => rw [ha] at ha'; cases ha'
  | agg _ h k => exact ⟨_, _, _, _, rfl, rfl, h, k⟩
theorem RdVA.oneI {ts : List TypeId} {avs : List AV} (ha : aggT P t = false) (h : RdVA P (t :: ts) avs b) : ∃ s l b1 b2, avs = .one s :: l ∧ b = b1 + b2 ∧ RdV P t [s] b1 ∧ RdVA P ts l b2 := by
  cases h with
  | agg ha' => rw [ha] at ha'; cases ha'
  | one _ h k => exact ⟨_, _, _, _, rfl, rfl, h, k⟩
theorem RdVA.nilI {avs : List AV} (h : RdVA P [] avs b) : avs = [] := by cases h; rfl
theorem RdVF.nilI (h : RdVF P [] ss b) : ss = [] := by cases h; rfl
end

theorem rd_fld {ss : List SV} {b : Nat} (h : RdV Tryz.prog 72 ss b) : ∃ f : Fld, ss = f.cells ∧ 1 ≤ b := by
  obtain ⟨c, rfl, hF⟩ := h.structI Tryz.underlying72
  obtain ⟨s1, s2, b1, b2, rfl, -, h1, hF⟩ := RdVF.consI hF
  obtain ⟨s3, s4, b3, b4, rfl, -, h2, hF⟩ := RdVF.consI hF
  obtain ⟨s5, s6, b5, b6, rfl, -, h3, hF⟩ := RdVF.consI hF
  obtain rfl := RdVF.nilI hF
  obtain ⟨x, rfl, -⟩ := h1.strI Tryz.underlying9
  obtain ⟨y, rfl, -⟩ := h2.strI Tryz.underlying9
  obtain ⟨z, rfl, -, -⟩ := h3.intI Tryz.underlying3
  exact ⟨⟨x, y, z⟩, rfl, by omega⟩
theorem rd_flds : ∀ {l : List (List SV)} {b : Nat}, RdVE Tryz.prog 72 l b → ∃ F : List Fld, l = F.map Fld.cells ∧ F.length ≤ b
  | [], _, _ => ⟨[], rfl, Nat.zero_le _⟩
  | _ :: _, _, h => by
    cases h with
    | cons h t =>
      obtain ⟨f, rfl, h1⟩ := rd_fld h
      obtain ⟨F, rfl, h2⟩ := rd_flds t
      exact ⟨f :: F, rfl, by simp only [List.length_cons]; omega⟩

/-! ### the tables -/
theorem glob_row {W : World} {g : Nat} {n : Nat} {f : Nat → Int} {cells : List SV} (e : globTab g = some ((List.range n).map fun c => SV.int .u8 (f c))) (h : globTab g = some cells)
    (hc : ∀ c, c < n → W.cell? ⟨g, c, none⟩ = some (.int .u8 (f c))) : ∃ vs, litVals cells = some vs ∧ ∀ j v, vs[j]? = some v → (allLoc W).fz g j = some v := by
  rw [h] at e
  cases e
  refine ⟨_, litVals_ints _ _ _, fun j v hv => ?_⟩
  rw [List.getElem?_map] at hv
  obtain ⟨c, h1, rfl⟩ := Option.map_eq_some_iff.1 hv
  obtain ⟨h2, rfl⟩ := List.getElem?_eq_some_iff.1 h1
  rw [List.getElem_range]
  rw [List.length_range] at h2
  exact hc j h2
theorem fldsG : Tryz.prog.globalNamed "strings.asciiSpace" = some (Tryz.laysFields_ren.g 0) := by kernel_rfl
theorem globOk_laid {W : World} (h0 : Lib.VarReads Tryz.prog W "strings.asciiSpace" (Lib.tabData .u8 Lib.asciiSpaceTab)) (h3 : Lib.VarReads Tryz.prog W "unicode/utf8.first" Lib.firstData) (h4 : Lib.VarReads Tryz.prog W "unicode/utf8.acceptRanges" Lib.acceptData) : GlobOk (allLoc W) := by
  have hu : Lib.Utf8Tabs (Tryz.laysValid_ren.g 3) (Tryz.laysValid_ren.g 4) W :=
    utf8Tabs_of_readsT (U8Types.of196 Tryz.laysValid) ⟨by kernel_rfl, by kernel_rfl, by kernel_rfl, by kernel_rfl, by kernel_rfl, by kernel_rfl, by kernel_rfl⟩ h3 h4
  have ht : Lib.TabIs Tryz.prog W "strings.asciiSpace" .u8 Lib.asciiSpaceTab := by
    obtain ⟨g, t, cs, fuel, p, hg, hty, hvar, hd⟩ := h0
    obtain rfl := Option.some.inj (fldsG.symm.trans hg)
    obtain rfl := Option.some.inj ((show (Tryz.prog.globals[Tryz.laysFields_ren.g 0]?).map (·.type) = some 160 by kernel_rfl).symm.trans hty)
    unfold Lib.TabIs
    rw [hvar, ← Lib.cells_of_tab Tryz.underlying160 Tryz.underlying5 (by kernel_rfl) (by kernel_rfl) hd]
  intro g cells h
  have hg : g = Tryz.laysFields_ren.g 0 ∨ g = Tryz.laysValid_ren.g 3 ∨ g = Tryz.laysValid_ren.g 4 := by
    unfold globTab at h
    split at h
    · first | exact .inl rfl | exact .inr (.inl rfl) | exact .inr (.inr rfl)
    · first | exact .inl rfl | exact .inr (.inl rfl) | exact .inr (.inr rfl)
    · first | exact .inl rfl | exact .inr (.inl rfl) | exact .inr (.inr rfl)
    · cases h
  rcases hg with rfl | rfl | rfl
  · exact glob_row ascTab h fun c hc => by rw [ht.cell fldsG c (by rw [Lib.asciiSpaceTab_length]; exact hc), Lib.asciiSpaceTab_at c hc]
  · exact glob_row (n := 256) firstTab h fun c hc => hu.1 c hc
  · refine glob_row (n := 32) acceptTab h fun c hc => ?_
    obtain ⟨h1, h2⟩ := hu.2 (c / 2) (by omega)
    by_cases hp : c % 2 = 0
    · rw [if_pos hp]
      rw [show 2 * (c / 2) = c by omega] at h1
      exact h1
    · rw [if_neg hp]
      rw [show 2 * (c / 2) + 1 = c by omega] at h2
      exact h2
end Go.Proofs.YtlgdhnjmmahgdaaGreatDoor.Ab
