/- LexSmall: words are words in great letters, too: at any whole number; the listed tables as the program's text lays them. -/
import Derived.Test.YtepankcnleeakaaGreatDoorCards
import Derived.Test.YtepankcnleeakaaGreatDoorTie
import Derived.Test.YtepankcnleeakaaGreatDoorLxK
import Derived.Test.YtepankcnleeakaaGreatDoorLxIn
import Derived.Deep.DeepWitnessRowRef
import Derived.Lay
namespace Go.Proofs.YtepankcnleeakaaGreatDoor.LexSmall
open Go Go.RowKit Go.ChangeShapes Go.WideShapes Go.ChangeAt Ab
set_option maxRecDepth 100000
set_option maxHeartbeats 4000000

theorem ownKn : ownKnob Tryz.prog.godebug = none := by kernel_rfl
theorem laidOut : laidOutB Tryz.prog = true := by kernel_rfl
theorem globs {W : World} (h : laidMetH Tryz.prog Rows.lexSmallUptoRow.laid W) : GlobOk (allLoc W) := by
  rw [MakeChecks.laidMetH_plain _ _ _ (by kernel_rfl)] at h
  refine globOk_lex ?_ ?_ ?_ ?_ ?_ ?_
  · exact Lib.laidMet.reads h (.tail _ (.tail _ (.tail _ (.tail _ (.tail _ (.tail _ (.tail _ (.head _))))))))
  · exact Lib.laidMet.reads h (.tail _ (.tail _ (.tail _ (.tail _ (.tail _ (.tail _ (.tail _ (.tail _ (.tail _ (.head _))))))))))
  · exact Lib.laidMet.reads h (.tail _ (.tail _ (.tail _ (.head _))))
  · exact Lib.laidMet.reads h (.tail _ (.tail _ (.head _)))
  · exact Lib.laidMet.reads h (.head _)
  · exact Lib.laidMet.reads h (.tail _ (.head _))

theorem wf_int {n : Int} (h : (Lit.int .i64 n).wf = true) : -9223372036854775808 ≤ n ∧ n ≤ 9223372036854775807 := by
  simp [Lit.wf] at h
  exact ⟨h.1, h.2⟩
theorem run (avs : List AV) (b : Nat) (h : RdVA Tryz.prog Tryz.f7.params.toList avs b) (hb : b ≤ 1048576) : ∃ σ', lim LxW 7 avs emptyH = some (.one (.bool true), σ') := by
  have hp : Tryz.f7.params.toList = [3] := by kernel_rfl
  rw [hp] at h
  obtain ⟨s2, l, b3, b4, rfl, rfl, h2, h⟩ := RdVA.oneI (by kernel_rfl) h
  obtain rfl := RdVA.nilI h
  obtain ⟨n, e2, w2, -⟩ := h2.intI Tryz.underlying3
  cases e2
  exact law_small n (wf_int w2).1 (wf_int w2).2

theorem reads (os : Os) {H : Type} (enc : TypeId × Value → H) : ∃ places, DataW.whole enc Tryz.prog ((World.laidAll Tryz.prog os Rows.lexSmallUptoRow.laid).forCall (fun _ _ => 0) ⟨#[], #[.int .i64 0], []⟩).memory Tryz.f7.params.toList Rows.lexSmallSpec.vars false #[.int .i64 0].toList 8 = some ([.lit (.int .i64 0)], [], places) :=
  ⟨[], by kernel_rfl⟩
theorem laid_met (os : Os) (args : Array Value) : laidMet Tryz.prog Rows.lexSmallUptoRow.laid ((World.laidAll Tryz.prog os Rows.lexSmallUptoRow.laid).forCall (fun _ _ => 0) ⟨#[], args, []⟩).memory :=
  laidMet_laidAll _ (by kernel_rfl) (by kernel_rfl)

theorem lifted (os : Os) (started : os.Started) (H : Type) (enc : TypeId × Value → H) (F : Stop.Interp) :
    ReturnsInHanded {} Tryz.checked os 7 .any ((Rows.OpenSpec.upto Rows.lexSmallSpec).preRow enc Tryz.prog Tryz.f7 Rows.lexSmallUptoRow.domain false Rows.lexSmallUptoRow.laid) (((Rows.OpenSpec.upto Rows.lexSmallSpec).at F).post enc Tryz.prog Tryz.f7 false true false false) := by
  obtain ⟨places, hx⟩ := reads os enc
  refine returnsInHanded_of_row (C := Tryz.checked) (s := Rows.OpenSpec.upto Rows.lexSmallSpec) ownKn started (by kernel_rfl) Tryz.func7
    (witness_row_atRef (enc := enc) (C := Tryz.checked) false (World.laidAll Tryz.prog os Rows.lexSmallUptoRow.laid) #[.int .i64 0] (World.laidAll_os _ _ _) (by kernel_rfl) (by kernel_rfl) (by kernel_rfl)
      (OpenSpec.preRow_of_cond 8 hx (by kernel_rfl) (fun k hk => by cases hk; kernel_rfl) (by kernel_rfl) (laid_met os _))) ?_
  intro W base args ds gs before hval hW _ hk _ hL _ _
  have hk' : Rows.uptoBulkAll (ds ++ gs) ≤ 1048576 := of_decide_eq_true (hk _ rfl)
  exact law_contractV LxW_good (T := [3]) (tb := 4) (by kernel_rfl) (by kernel_rfl) laidOut (by kernel_rfl) Tryz.underlying4 rfl
    (fun H ds hds => by
      have hds : ds.length = 1 := hds
      match ds, hds with
      | [d0], _ => rfl)
    run H enc W base args ds gs before hval hW hk' (globs hL)

theorem saidUpto : Rows.LexSmallUptoSaid :=
  OpenClaim.holds_of_cond 7 Tryz.f7 rfl rfl rfl rfl rfl rfl rfl ⟨rfl, rfl, rfl, rfl, rfl⟩ rfl rfl rfl rfl rfl (by kernel_rfl) Tryz.func7 (by kernel_rfl)
    (of_decide_eq_true (by kernel_rfl)) (by unfold Func.isWrapper; first | (rw [if_pos (by decide +kernel)]; kernel_rfl) | (rw [if_neg (by decide +kernel)]; exact ⟨rfl, rfl⟩))
    (fun os started H enc _ F => by rw [OpenClaim.pre_eq_preRow]; exact lifted os started H enc F)

theorem plain (f : FuncId) (fn : Func) (hf : Tryz.pinned.checked.prog.funcNamed "marquee/marqueelaw05.LexSmall" = some f) (hfn : Tryz.pinned.checked.prog.funcs[f]? = some fn) :
    true = Tryz.pinned.checked.prog.looks [] ∧ ∀ (j : Nat) t, fn.params[j]? = some t → Tryz.pinned.checked.prog.wantsStandIn t = false := by
  obtain rfl : f = 7 := Option.some.inj ((show Tryz.prog.funcNamed "marquee/marqueelaw05.LexSmall" = some 7 by kernel_rfl).symm.trans hf) |>.symm
  obtain rfl : fn = Tryz.f7 := (Option.some.inj (Tryz.func7.symm.trans hfn)).symm
  refine ⟨by kernel_rfl, fun j t ht => ?_⟩
  have h : (Tryz.f7.params.toList.all fun t => !Tryz.prog.wantsStandIn t) = true := by kernel_rfl
  have h2 := List.all_eq_true.1 h t (by
    rw [Array.mem_toList_iff]
    exact Array.mem_of_getElem? ht)
  rw [Bool.not_eq_true'] at h2
  exact h2

theorem proved : Rows.LexSmallUptoCardSaid :=
  Claim7.holds_tied_plain_at .later [] _ _ _ _ saidUpto (fun _ h => by cases h) (by kernel_rfl) (fun _ h => by cases h) lexSmallUpto_row_tie rfl ⟨rfl, rfl⟩ (by kernel_rfl) rfl plain (by kernel_rfl)
#print axioms proved
end Go.Proofs.YtepankcnleeakaaGreatDoor.LexSmall
