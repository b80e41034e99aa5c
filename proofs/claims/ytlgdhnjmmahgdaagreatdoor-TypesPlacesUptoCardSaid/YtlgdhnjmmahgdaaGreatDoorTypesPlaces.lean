/- TypesPlaces: an aggregate is refused where none may stand, an expression without one has its type in either case, of arguments of bulk at most 1048576; the listed tables as the program's text lays them. -/
import Derived.Test.YtlgdhnjmmahgdaaGreatDoorCards
import Derived.Test.YtlgdhnjmmahgdaaGreatDoorTie
import Derived.Test.YtlgdhnjmmahgdaaGreatDoorTyK
import Derived.Test.YtlgdhnjmmahgdaaGreatDoorTyJ
import Derived.Deep.DeepWitnessRowRef
import Derived.Lay
namespace Go.Proofs.YtlgdhnjmmahgdaaGreatDoor.TypesPlaces
open Go Go.RowKit Go.ChangeShapes Go.WideShapes Go.ChangeAt Ab
set_option maxRecDepth 100000
set_option maxHeartbeats 4000000

theorem ownKn : ownKnob Tryz.prog.godebug = none := by kernel_rfl
theorem laidOut : laidOutB Tryz.prog = true := by kernel_rfl
theorem globs {W : World} (h : laidMetH Tryz.prog Rows.typesPlacesUptoRow.laid W) : GlobOk (allLoc W) := by
  rw [MakeChecks.laidMetH_plain _ _ _ (by kernel_rfl)] at h
  refine globOk_laid ?_ ?_ ?_
  · exact Lib.laidMet.reads h (.tail _ (.tail _ (.head _)))
  · exact Lib.laidMet.reads h (.tail _ (.tail _ (.tail _ (.tail _ (.head _)))))
  · exact Lib.laidMet.reads h (.head _)

theorem run (avs : List AV) (b : Nat) (h : RdVA Tryz.prog Tryz.f3.params.toList avs b) (hb : b ≤ 1048576) : ∃ σ', lim TpC 3 avs emptyH = some (.one (.bool true), σ') := by
  have hp : Tryz.f3.params.toList = [24, 25] := by kernel_rfl
  rw [hp] at h
  obtain ⟨ss, l, b1, b2, rfl, rfl, h1, h⟩ := RdVA.aggI (by kernel_rfl) h
  obtain ⟨s2, l, b3, b4, rfl, rfl, h2, h⟩ := RdVA.oneI (by kernel_rfl) h
  obtain rfl := RdVA.nilI h
  obtain ⟨t, rfl, ht⟩ := rd_node b1 ss b1 (Nat.le_refl _) h1
  obtain ⟨l2, c2, e2, rfl, h6⟩ := h2.sliceI Tryz.underlying25
  cases e2
  obtain ⟨F, rfl, hF⟩ := rd_flds h6
  exact law_places t F (by unfold maxElems; omega) (by unfold maxElems; omega)

theorem reads (os : Os) {H : Type} (enc : TypeId × Value → H) : ∃ places, DataW.whole enc Tryz.prog ((World.laidAll Tryz.prog os Rows.typesPlacesUptoRow.laid).forCall (fun _ _ => 0) ⟨#[], #[.agg #[.int .i64 0, .string ⟨#[]⟩, .int .i64 0, .int .i64 0, .slice none 0 0], .slice none 0 0], []⟩).memory Tryz.f3.params.toList Rows.typesPlacesSpec.vars false #[.agg #[.int .i64 0, .string ⟨#[]⟩, .int .i64 0, .int .i64 0, .slice none 0 0], .slice none 0 0].toList 8 = some ([.agg [.lit (.int .i64 0), .lit (.string []), .lit (.int .i64 0), .lit (.int .i64 0), .nil], .nil], [], places) :=
  ⟨[], by kernel_rfl⟩
theorem laid_met (os : Os) (args : Array Value) : laidMet Tryz.prog Rows.typesPlacesUptoRow.laid ((World.laidAll Tryz.prog os Rows.typesPlacesUptoRow.laid).forCall (fun _ _ => 0) ⟨#[], args, []⟩).memory :=
  laidMet_laidAll _ (by kernel_rfl) (by kernel_rfl)

theorem lifted (os : Os) (started : os.Started) (H : Type) (enc : TypeId × Value → H) (F : Stop.Interp) :
    ReturnsInHanded {} Tryz.checked os 3 .any ((Rows.OpenSpec.upto Rows.typesPlacesSpec).preRow enc Tryz.prog Tryz.f3 Rows.typesPlacesUptoRow.domain false Rows.typesPlacesUptoRow.laid) (((Rows.OpenSpec.upto Rows.typesPlacesSpec).at F).post enc Tryz.prog Tryz.f3 false true false false) := by
  obtain ⟨places, hx⟩ := reads os enc
  refine returnsInHanded_of_row (C := Tryz.checked) (s := Rows.OpenSpec.upto Rows.typesPlacesSpec) ownKn started (by kernel_rfl) Tryz.func3
    (witness_row_atRef (enc := enc) (C := Tryz.checked) false (World.laidAll Tryz.prog os Rows.typesPlacesUptoRow.laid) #[.agg #[.int .i64 0, .string ⟨#[]⟩, .int .i64 0, .int .i64 0, .slice none 0 0], .slice none 0 0] (World.laidAll_os _ _ _) (by kernel_rfl) (by kernel_rfl) (by kernel_rfl)
      (OpenSpec.preRow_of_cond 8 hx (by kernel_rfl) (fun k hk => by cases hk; kernel_rfl) (by kernel_rfl) (laid_met os _))) ?_
  intro W base args ds gs before hval hW _ hk _ hL _ _
  have hk' : Rows.uptoBulkAll (ds ++ gs) ≤ 1048576 := of_decide_eq_true (hk _ rfl)
  exact law_contractV TpC_good (T := [24, 9, 22, 25, 72, 3]) (tb := 4) (by kernel_rfl) (by kernel_rfl) laidOut (by kernel_rfl) Tryz.underlying4 rfl
    (fun H ds hds => by
      have hds : ds.length = 2 := hds
      match ds, hds with
      | [d0, d1], _ => rfl)
    run H enc W base args ds gs before hval hW hk' (globs hL)

theorem saidUpto : Rows.TypesPlacesUptoSaid :=
  OpenClaim.holds_of_cond 3 Tryz.f3 rfl rfl rfl rfl rfl rfl rfl ⟨rfl, rfl, rfl, rfl, rfl⟩ rfl rfl rfl rfl rfl (by kernel_rfl) Tryz.func3 (by kernel_rfl)
    (of_decide_eq_true (by kernel_rfl)) (by unfold Func.isWrapper; first | (rw [if_pos (by decide +kernel)]; kernel_rfl) | (rw [if_neg (by decide +kernel)]; exact ⟨rfl, rfl⟩))
    (fun os started H enc _ F => by rw [OpenClaim.pre_eq_preRow]; exact lifted os started H enc F)

theorem plain (f : FuncId) (fn : Func) (hf : Tryz.pinned.checked.prog.funcNamed "marquee/marqueelaw11.TypesPlaces" = some f) (hfn : Tryz.pinned.checked.prog.funcs[f]? = some fn) :
    false = Tryz.pinned.checked.prog.looks [] ∧ ∀ (j : Nat) t, fn.params[j]? = some t → Tryz.pinned.checked.prog.wantsStandIn t = false := by
  obtain rfl : f = 3 := Option.some.inj ((show Tryz.prog.funcNamed "marquee/marqueelaw11.TypesPlaces" = some 3 by kernel_rfl).symm.trans hf) |>.symm
  obtain rfl : fn = Tryz.f3 := (Option.some.inj (Tryz.func3.symm.trans hfn)).symm
  refine ⟨by kernel_rfl, fun j t ht => ?_⟩
  have h : (Tryz.f3.params.toList.all fun t => !Tryz.prog.wantsStandIn t) = true := by kernel_rfl
  have h2 := List.all_eq_true.1 h t (by
    rw [Array.mem_toList_iff]
    exact Array.mem_of_getElem? ht)
  rw [Bool.not_eq_true'] at h2
  exact h2

theorem proved : Rows.TypesPlacesUptoCardSaid :=
  Claim7.holds_tied_plain_at .later [] _ _ _ _ saidUpto (fun _ h => by cases h) (by kernel_rfl) (fun _ h => by cases h) typesPlacesUpto_row_tie rfl ⟨rfl, rfl⟩ (by kernel_rfl) rfl plain (by kernel_rfl)
#print axioms proved
end Go.Proofs.YtlgdhnjmmahgdaaGreatDoor.TypesPlaces
