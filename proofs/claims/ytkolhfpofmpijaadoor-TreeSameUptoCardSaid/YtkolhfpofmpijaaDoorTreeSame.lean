/- TreeSame: which two trees are the same, of arguments of bulk at most 1048576; the listed tables as the program's text lays them. -/
import Derived.Test.YtkolhfpofmpijaaDoorCards
import Derived.Test.YtkolhfpofmpijaaDoorTie
import Derived.Test.YtkolhfpofmpijaaDoorTrA
import Derived.Deep.DeepWitnessRowRef
import Derived.Lay
namespace Go.Proofs.YtkolhfpofmpijaaDoor.TreeSame
open Go Go.RowKit Go.ChangeShapes Go.WideShapes Go.ChangeAt Ab
set_option maxRecDepth 100000
set_option maxHeartbeats 4000000

theorem ownKn : ownKnob Tryd.prog.godebug = none := by kernel_rfl
theorem laidOut : laidOutB Tryd.prog = true := by kernel_rfl
theorem globs {W : World} (hsh : W.ShapedOpen Tryd.prog) (h : laidMetH Tryd.prog Rows.treeSameUptoRow.laid W) : GlobAt W := by
  rw [MakeChecks.laidMetH_plain _ _ _ (by kernel_rfl)] at h
  refine ⟨globOk_laid ?_ ?_ ?_, rows_tr hsh⟩
  · exact Lib.laidMet.reads h (.tail _ (.tail _ (.head _)))
  · exact Lib.laidMet.reads h (.tail _ (.tail _ (.tail _ (.tail _ (.head _)))))
  · exact Lib.laidMet.reads h (.head _)

theorem run (avs : List AV) (b : Nat) (h : RdVA Tryd.prog Tryd.f3.params.toList avs b) (hb : b ≤ 1048576) : ∃ σ', lim TrC 3 avs emptyH = some (.one (.bool true), σ') := by
  have hp : Tryd.f3.params.toList = [24, 24, 3] := by kernel_rfl
  rw [hp] at h
  obtain ⟨ss, l, b1, b2, rfl, rfl, h1, h⟩ := RdVA.aggI (by kernel_rfl) h
  obtain ⟨s2, l, b3, b4, rfl, rfl, h2, h⟩ := RdVA.aggI (by kernel_rfl) h
  obtain ⟨s3, l, b5, b6, rfl, rfl, h3, h⟩ := RdVA.oneI (by kernel_rfl) h
  obtain rfl := RdVA.nilI h
  obtain ⟨t, rfl, ht⟩ := rd_node b1 ss b1 (Nat.le_refl _) h1
  obtain ⟨u, rfl, hu⟩ := rd_node b3 s2 b3 (Nat.le_refl _) h2
  obtain ⟨x, e, -, -⟩ := h3.intI Tryd.underlying3
  cases e
  exact law_same t u x (by unfold maxElems; omega) (by unfold maxElems; omega)

theorem reads (os : Os) {H : Type} (enc : TypeId × Value → H) : ∃ places, DataW.whole enc Tryd.prog ((World.laidAll Tryd.prog os Rows.treeSameUptoRow.laid).forCall (fun _ _ => 0) ⟨#[], #[.agg #[.int .i64 0, .string ⟨#[]⟩, .int .i64 0, .int .i64 0, .slice none 0 0], .agg #[.int .i64 0, .string ⟨#[]⟩, .int .i64 0, .int .i64 0, .slice none 0 0], .int .i64 0], []⟩).memory Tryd.f3.params.toList Rows.treeSameSpec.vars false #[.agg #[.int .i64 0, .string ⟨#[]⟩, .int .i64 0, .int .i64 0, .slice none 0 0], .agg #[.int .i64 0, .string ⟨#[]⟩, .int .i64 0, .int .i64 0, .slice none 0 0], .int .i64 0].toList 8 = some ([.agg [.lit (.int .i64 0), .lit (.string []), .lit (.int .i64 0), .lit (.int .i64 0), .nil], .agg [.lit (.int .i64 0), .lit (.string []), .lit (.int .i64 0), .lit (.int .i64 0), .nil], .lit (.int .i64 0)], [], places) :=
  ⟨[], by kernel_rfl⟩
theorem laid_met (os : Os) (args : Array Value) : laidMet Tryd.prog Rows.treeSameUptoRow.laid ((World.laidAll Tryd.prog os Rows.treeSameUptoRow.laid).forCall (fun _ _ => 0) ⟨#[], args, []⟩).memory :=
  laidMet_laidAll _ (by kernel_rfl) (by kernel_rfl)

theorem lifted (os : Os) (started : os.Started) (H : Type) (enc : TypeId × Value → H) (F : Stop.Interp) :
    ReturnsInHanded {} Tryd.checked os 3 .any ((Rows.OpenSpec.upto Rows.treeSameSpec).preRow enc Tryd.prog Tryd.f3 Rows.treeSameUptoRow.domain false Rows.treeSameUptoRow.laid) (((Rows.OpenSpec.upto Rows.treeSameSpec).at F).post enc Tryd.prog Tryd.f3 false true false false) := by
  obtain ⟨places, hx⟩ := reads os enc
  refine returnsInHanded_of_row (C := Tryd.checked) (s := Rows.OpenSpec.upto Rows.treeSameSpec) ownKn started (by kernel_rfl) Tryd.func3
    (witness_row_atRef (enc := enc) (C := Tryd.checked) false (World.laidAll Tryd.prog os Rows.treeSameUptoRow.laid) #[.agg #[.int .i64 0, .string ⟨#[]⟩, .int .i64 0, .int .i64 0, .slice none 0 0], .agg #[.int .i64 0, .string ⟨#[]⟩, .int .i64 0, .int .i64 0, .slice none 0 0], .int .i64 0] (World.laidAll_os _ _ _) (by kernel_rfl) (by kernel_rfl) (by kernel_rfl)
      (OpenSpec.preRow_of_cond 8 hx (by kernel_rfl) (fun k hk => by cases hk; kernel_rfl) (by kernel_rfl) (laid_met os _))) ?_
  intro W base args ds gs before hval hW _ hk _ hL hSh _
  have hk' : Rows.uptoBulkAll (ds ++ gs) ≤ 1048576 := of_decide_eq_true (hk _ rfl)
  exact law_contractV TrC_good (T := [24, 9, 22, 3]) (tb := 4) (by kernel_rfl) (by kernel_rfl) laidOut (by kernel_rfl) Tryd.underlying4 rfl
    (fun H ds hds => by
      have hds : ds.length = 3 := hds
      match ds, hds with
      | [d0, d1, d2], _ => rfl)
    run H enc W base args ds gs before hval hW hk' (globs hSh hL)

theorem saidUpto : Rows.TreeSameUptoSaid :=
  OpenClaim.holds_of_cond 3 Tryd.f3 rfl rfl rfl rfl rfl rfl rfl ⟨rfl, rfl, rfl, rfl, rfl⟩ rfl rfl rfl rfl rfl (by kernel_rfl) Tryd.func3 (by kernel_rfl)
    (of_decide_eq_true (by kernel_rfl)) (by unfold Func.isWrapper; first | (rw [if_pos (by decide +kernel)]; kernel_rfl) | (rw [if_neg (by decide +kernel)]; exact ⟨rfl, rfl⟩))
    (fun os started H enc _ F => by rw [OpenClaim.pre_eq_preRow]; exact lifted os started H enc F)

theorem plain (f : FuncId) (fn : Func) (hf : Tryd.pinned.checked.prog.funcNamed "marquee/marqueelaw06.TreeSame" = some f) (hfn : Tryd.pinned.checked.prog.funcs[f]? = some fn) :
    false = Tryd.pinned.checked.prog.looks [] ∧ ∀ (j : Nat) t, fn.params[j]? = some t → Tryd.pinned.checked.prog.wantsStandIn t = false := by
  obtain rfl : f = 3 := Option.some.inj ((show Tryd.prog.funcNamed "marquee/marqueelaw06.TreeSame" = some 3 by kernel_rfl).symm.trans hf) |>.symm
  obtain rfl : fn = Tryd.f3 := (Option.some.inj (Tryd.func3.symm.trans hfn)).symm
  refine ⟨by kernel_rfl, fun j t ht => ?_⟩
  have h : (Tryd.f3.params.toList.all fun t => !Tryd.prog.wantsStandIn t) = true := by kernel_rfl
  have h2 := List.all_eq_true.1 h t (by
    rw [Array.mem_toList_iff]
    exact Array.mem_of_getElem? ht)
  rw [Bool.not_eq_true'] at h2
  exact h2

theorem proved : Rows.TreeSameUptoCardSaid :=
  Claim7.holds_tied_plain_at .later [] _ _ _ _ saidUpto (fun _ h => by cases h) (by kernel_rfl) (fun _ h => by cases h) treeSameUpto_row_tie rfl ⟨rfl, rfl⟩ (by kernel_rfl) rfl plain (by kernel_rfl)
#print axioms proved
end Go.Proofs.YtkolhfpofmpijaaDoor.TreeSame
