/- The tables that the lexer's rows list (this seat's numbers). -/
import Derived.Test.YtepankcnleeakaaGreatDoorTyA
import Derived.Test.YtepankcnleeakaaGreatDoorRdI
import Derived.Lib.LaidU8T
import Derived.Deep.DeepHandedRow
import Derived.Shelf.Vars
import Derived.LaidLaws
import Derived.FnData
namespace Go.Proofs.YtepankcnleeakaaGreatDoor.Ab
open Go Go.RowKit
set_option maxRecDepth 100000
set_option maxHeartbeats 4000000
set_option linter.unusedSimpArgs false
theorem glob_row {W : World} {g : Nat} {n : Nat} {f : Nat → Int} {cells : List SV} (e : globTab g = some ((List.range n).map fun c => SV.int .u8 (f c))) (h : globTab g = some cells)
    (hc : ∀ c, c < n → W.cell? ⟨g, c, none⟩ = some (.int .u8 (f c))) : ∃ vs, litVals cells = some vs ∧ ∀ j v, vs[j]? = some v → (allLoc W).fz g j = some v := by
  rw [h] at e
  cases e
  refine ⟨_, litVals_ints _ _ _, fun j v hv => ?_⟩
  rw [List.getElem?_map] at hv
  obtain ⟨c, h1, rfl⟩ := Option.map_eq_some_iff.1 hv
  obtain ⟨h2, rfl⟩ := List.getElem?_eq_some_iff.1 h1
  rw [List.getElem_range]
  rw [List.length_range] at h2
  exact hc j h2
theorem fldsG : Tryz.prog.globalNamed "strings.asciiSpace" = some (Tryz.laysFields_ren.g 0) := by kernel_rfl
def numOf : SV → Int
  | .int _ n => n
  | _ => 0
theorem litVals_nums (k : IntKind) : ∀ l : List Int, litVals (l.map fun n => SV.int k n) = some (l.map fun n => Value.int k n)
  | [] => rfl
  | n :: l => by simp [litVals, litVal, litVals_nums k l]
theorem glob_tab {W : World} {name : String} {g t e n : Nat} {k : IntKind} {zs : List Int} {cells : List SV} (hr : Lib.VarReads Tryz.prog W name (Lib.tabData k zs)) (hg : Tryz.prog.globalNamed name = some g)
    (ht : (Tryz.prog.globals[g]?).map (·.type) = some t) (hu : Tryz.prog.underlying t = some (.array n e)) (he : Tryz.prog.underlying e = some (.int k)) (c1 : Tryz.prog.cellsOf e = 1) (c2 : Tryz.prog.cellsOf t = n)
    (hc : cells = zs.map fun n => SV.int k n) : ∃ vs, litVals cells = some vs ∧ ∀ j v, vs[j]? = some v → (allLoc W).fz g j = some v := by
  have hT : Lib.TabIs Tryz.prog W name k zs := by
    obtain ⟨g', t', cs, fuel, p, hg', hty, hvar, hd⟩ := hr
    obtain rfl := Option.some.inj (hg.symm.trans hg')
    obtain rfl := Option.some.inj (ht.symm.trans hty)
    unfold Lib.TabIs
    rw [hvar, ← Lib.cells_of_tab hu he c1 c2 hd]
  subst hc
  refine ⟨_, litVals_nums _ _, fun j v hv => ?_⟩
  rw [List.getElem?_map] at hv
  obtain ⟨z, h1, rfl⟩ := Option.map_eq_some_iff.1 hv
  obtain ⟨h2, rfl⟩ := List.getElem?_eq_some_iff.1 h1
  have := hT.cell hg j h2
  rw [List.getD_eq_getElem?_getD, List.getElem?_eq_getElem h2] at this
  exact this
theorem any_range {W : World} {nm : String} {d : DataW Unit} (h : Lib.VarReads Tryz.prog W "strconv.ErrRange" (.iface nm d)) : ∃ v, anyOk none v ∧ (allLoc W).fz 8 0 = some v := by
  obtain ⟨g, t, cs, fuel, p, hg, hty, hvar, hd⟩ := h
  obtain rfl := Option.some.inj ((show Tryz.prog.globalNamed "strconv.ErrRange" = some 8 by kernel_rfl).symm.trans hg)
  obtain rfl := Option.some.inj ((show (Tryz.prog.globals[8]?).map (·.type) = some 62 by kernel_rfl).symm.trans hty)
  obtain ⟨f1, u, v, hcs, _⟩ := iface_of_trod Tryz.underlying62 hd
  refine ⟨.iface u v, .inr ⟨u, v, rfl⟩, ?_⟩
  have h0 := World.var?_cell hg hvar 0
  show W.cell? ⟨8, 0, none⟩ = _
  rw [h0, ← Array.getElem?_toList, hcs]
  rfl
theorem any_max {W : World} (h : W.ShapedOpen Tryz.prog) : ∃ v, anyOk (some .i64) v ∧ (allLoc W).fz 2 0 = some v := by
  obtain ⟨m, hm⟩ := Go.Proofs.cell_of_shapedOpen_int (zero := #[.int .i64 0]) (t := 3) (g := 2) h (of_decide_eq_true (by kernel_rfl)) (by kernel_rfl) rfl (by kernel_rfl) (by kernel_rfl) Tryz.underlying3
  exact ⟨_, ⟨m, rfl⟩, hm⟩
theorem globOk_lex0 {W : World} {nm : String} {d : DataW Unit} (hsh : W.ShapedOpen Tryz.prog) (h8 : Lib.VarReads Tryz.prog W "strconv.ErrRange" (.iface nm d)) (h0 : Lib.VarReads Tryz.prog W "strings.asciiSpace" (Lib.tabData .u8 Lib.asciiSpaceTab)) (h3 : Lib.VarReads Tryz.prog W "unicode/utf8.first" Lib.firstData) (h4 : Lib.VarReads Tryz.prog W "unicode/utf8.acceptRanges" Lib.acceptData)
    (h5 : Lib.VarReads Tryz.prog W "internal/strconv.uint64pow10" (Lib.tabData .u64 (glob5.map numOf))) (h9 : Lib.VarReads Tryz.prog W "math/bits.deBruijn32tab" (Lib.tabData .u8 (glob9.map numOf))) (h10 : Lib.VarReads Tryz.prog W "math/bits.deBruijn64tab" (Lib.tabData .u8 (glob10.map numOf))) : GlobOk (allLoc W) := by
  have hu : Lib.Utf8Tabs (Tryz.laysValid_ren.g 3) (Tryz.laysValid_ren.g 4) W :=
    utf8Tabs_of_readsT (U8Types.of196 Tryz.laysValid) ⟨by kernel_rfl, by kernel_rfl, by kernel_rfl, by kernel_rfl, by kernel_rfl, by kernel_rfl, by kernel_rfl⟩ h3 h4
  have ht : Lib.TabIs Tryz.prog W "strings.asciiSpace" .u8 Lib.asciiSpaceTab := by
    obtain ⟨g, t, cs, fuel, p, hg, hty, hvar, hd⟩ := h0
    obtain rfl := Option.some.inj (fldsG.symm.trans hg)
    obtain rfl := Option.some.inj ((show (Tryz.prog.globals[Tryz.laysFields_ren.g 0]?).map (·.type) = some 50 by kernel_rfl).symm.trans hty)
    unfold Lib.TabIs
    rw [hvar, ← Lib.cells_of_tab Tryz.underlying50 Tryz.underlying5 (by kernel_rfl) (by kernel_rfl) hd]
  refine ⟨fun g cells h => ?_, fun g k h => ?_⟩
  rotate_left
  · have hg : (g = 2 ∧ k = some .i64) ∨ (g = 8 ∧ k = none) := by
      unfold globAny at h
      split at h
      · cases h; exact .inl ⟨rfl, rfl⟩
      · cases h; exact .inr ⟨rfl, rfl⟩
      · cases h
    rcases hg with ⟨rfl, rfl⟩ | ⟨rfl, rfl⟩
    · exact any_max hsh
    · exact any_range h8
  have hg : g = 5 ∨ g = 9 ∨ g = 10 ∨ g = Tryz.laysFields_ren.g 0 ∨ g = Tryz.laysValid_ren.g 4 ∨ g = Tryz.laysValid_ren.g 3 := by
    unfold globTab at h
    split at h
    · exact .inl rfl
    · exact .inr (.inl rfl)
    · exact .inr (.inr (.inl rfl))
    · exact .inr (.inr (.inr (.inl rfl)))
    · exact .inr (.inr (.inr (.inr (.inl rfl))))
    · exact .inr (.inr (.inr (.inr (.inr rfl))))
    · cases h
  rcases hg with rfl | rfl | rfl | rfl | rfl | rfl
  · cases h
    exact glob_tab (t := 165) (e := 85) (n := 20) h5 (by kernel_rfl) (by kernel_rfl) Tryz.underlying165 Tryz.underlying85 (by kernel_rfl) (by kernel_rfl) (by rfl)
  · cases h
    exact glob_tab (t := 187) (e := 5) (n := 32) h9 (by kernel_rfl) (by kernel_rfl) Tryz.underlying187 Tryz.underlying5 (by kernel_rfl) (by kernel_rfl) (by rfl)
  · cases h
    exact glob_tab (t := 188) (e := 5) (n := 64) h10 (by kernel_rfl) (by kernel_rfl) Tryz.underlying188 Tryz.underlying5 (by kernel_rfl) (by kernel_rfl) (by rfl)
  · exact glob_row ascTab h fun c hc => by rw [ht.cell fldsG c (by rw [Lib.asciiSpaceTab_length]; exact hc), Lib.asciiSpaceTab_at c hc]
  · refine glob_row (n := 32) acceptTab h fun c hc => ?_
    obtain ⟨h1, h2⟩ := hu.2 (c / 2) (by omega)
    by_cases hp : c % 2 = 0
    · rw [if_pos hp]
      rw [show 2 * (c / 2) = c by omega] at h1
      exact h1
    · rw [if_neg hp]
      rw [show 2 * (c / 2) + 1 = c by omega] at h2
      exact h2
  · exact glob_row (n := 256) firstTab h fun c hc => hu.1 c hc
theorem row_shaped {W : World} (h : W.ShapedOpen Tryz.prog) {g n : Nat} {t : TypeId} {zero : Array Value} (hg : g < Tryz.prog.globals.size) (h0 : ((begin Tryz.prog (fun _ _ => 0) default).world.heap[g]?).bind Obj.row? = some (zero, t)) (hz : zero.size = n) :
    ∃ cur t fz, W.heap[g]? = some (.cells cur t fz) ∧ cur.size = n := by
  obtain ⟨cs, hh, hs, _⟩ := h.1 g zero t hg h0
  exact ⟨cs, t, (0, 0), hh, by rw [hs, hz]⟩
theorem rows_lex {W : World} (h : W.ShapedOpen Tryz.prog) : GlobRows W := by
  intro g c l hk
  have hg : g = 5 ∨ g = 9 ∨ g = 10 ∨ g = 0 ∨ g = 4 ∨ g = 3 := by
    unfold globTab at hk
    split at hk
    · exact .inl rfl
    · exact .inr (.inl rfl)
    · exact .inr (.inr (.inl rfl))
    · exact .inr (.inr (.inr (.inl rfl)))
    · exact .inr (.inr (.inr (.inr (.inl rfl))))
    · exact .inr (.inr (.inr (.inr (.inr rfl))))
    · cases hk
  rcases hg with rfl | rfl | rfl | rfl | rfl | rfl
  · have hl : (c :: l).length = 20 := by cases hk; rfl
    exact row_shaped h (zero := Array.replicate 20 (.int .u64 0)) (t := 165) (of_decide_eq_true (by kernel_rfl)) (by kernel_rfl) (by rw [← List.length_cons (a := c), hl]; rfl)
  · have hl : (c :: l).length = 32 := by cases hk; rfl
    exact row_shaped h (zero := Array.replicate 32 (.int .u8 0)) (t := 187) (of_decide_eq_true (by kernel_rfl)) (by kernel_rfl) (by rw [← List.length_cons (a := c), hl]; rfl)
  · have hl : (c :: l).length = 64 := by cases hk; rfl
    exact row_shaped h (zero := Array.replicate 64 (.int .u8 0)) (t := 188) (of_decide_eq_true (by kernel_rfl)) (by kernel_rfl) (by rw [← List.length_cons (a := c), hl]; rfl)
  · have hl : (c :: l).length = 256 := by cases hk; rfl
    exact row_shaped h (zero := Array.replicate 256 (.int .u8 0)) (t := 50) (of_decide_eq_true (by kernel_rfl)) (by kernel_rfl) (by rw [← List.length_cons (a := c), hl]; rfl)
  · have hl : (c :: l).length = 32 := by cases hk; rfl
    exact row_shaped h (zero := Array.replicate 32 (.int .u8 0)) (t := 129) (of_decide_eq_true (by kernel_rfl)) (by kernel_rfl) (by rw [← List.length_cons (a := c), hl]; rfl)
  · have hl : (c :: l).length = 256 := by cases hk; rfl
    exact row_shaped h (zero := Array.replicate 256 (.int .u8 0)) (t := 50) (of_decide_eq_true (by kernel_rfl)) (by kernel_rfl) (by rw [← List.length_cons (a := c), hl]; rfl)
theorem globOk_lex {W : World} {nm : String} {d : DataW Unit} (hsh : W.ShapedOpen Tryz.prog) (h8 : Lib.VarReads Tryz.prog W "strconv.ErrRange" (.iface nm d)) (h0 : Lib.VarReads Tryz.prog W "strings.asciiSpace" (Lib.tabData .u8 Lib.asciiSpaceTab)) (h3 : Lib.VarReads Tryz.prog W "unicode/utf8.first" Lib.firstData) (h4 : Lib.VarReads Tryz.prog W "unicode/utf8.acceptRanges" Lib.acceptData)
    (h5 : Lib.VarReads Tryz.prog W "internal/strconv.uint64pow10" (Lib.tabData .u64 (glob5.map numOf))) (h9 : Lib.VarReads Tryz.prog W "math/bits.deBruijn32tab" (Lib.tabData .u8 (glob9.map numOf))) (h10 : Lib.VarReads Tryz.prog W "math/bits.deBruijn64tab" (Lib.tabData .u8 (glob10.map numOf))) : GlobAt W :=
  ⟨globOk_lex0 hsh h8 h0 h3 h4 h5 h9 h10, rows_lex hsh⟩
end Go.Proofs.YtepankcnleeakaaGreatDoor.Ab
