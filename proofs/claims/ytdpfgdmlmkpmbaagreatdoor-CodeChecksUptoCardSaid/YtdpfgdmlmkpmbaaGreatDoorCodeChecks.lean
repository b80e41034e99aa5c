/- CodeChecks: Check and Depth are the document's, and change nothing: any program of bulk at most 1048576, any numbers; the listed tables as the program's text lays them. -/
import Derived.Test.YtdpfgdmlmkpmbaaGreatDoorCards
import Derived.Test.YtdpfgdmlmkpmbaaGreatDoorTie
import Derived.Test.YtdpfgdmlmkpmbaaGreatDoorCdC
import Derived.Test.YtdpfgdmlmkpmbaaGreatDoorTyF
import Derived.Deep.DeepWitnessRowRef
import Derived.Lay
namespace Go.Proofs.YtdpfgdmlmkpmbaaGreatDoor.CodeChecks
open Go Go.RowKit Go.ChangeShapes Go.WideShapes Go.ChangeAt Ab
set_option maxRecDepth 100000
set_option maxHeartbeats 4000000

theorem ownKn : ownKnob Tryz.prog.godebug = none := by kernel_rfl
theorem laidOut : laidOutB Tryz.prog = true := by kernel_rfl
theorem globs {W : World} (h : laidMetH Tryz.prog Rows.codeChecksUptoRow.laid W) : GlobOk (allLoc W) := by
  rw [MakeChecks.laidMetH_plain _ _ _ (by kernel_rfl)] at h
  refine globOk_laid ?_ ?_ ?_
  · exact Lib.laidMet.reads h (.tail _ (.tail _ (.head _)))
  · exact Lib.laidMet.reads h (.tail _ (.tail _ (.tail _ (.tail _ (.head _)))))
  · exact Lib.laidMet.reads h (.head _)

theorem wf_le {n : Int} (h : (Lit.int .i64 n).wf = true) : n ≤ 9223372036854775807 := by
  simp [Lit.wf] at h
  exact h.2
theorem rd_ins {ss : List SV} {b : Nat} (h : RdV Tryz.prog 48 ss b) : ∃ o : Ins, ss = o.cells ∧ 1 ≤ b := by
  obtain ⟨c, rfl, hF⟩ := h.structI Tryz.underlying48
  obtain ⟨s1, s2, b1, b2, rfl, -, h1, hF⟩ := RdVF.consI hF
  obtain ⟨s3, s4, b3, b4, rfl, -, h2, hF⟩ := RdVF.consI hF
  obtain ⟨s5, s6, b5, b6, rfl, -, h3, hF⟩ := RdVF.consI hF
  obtain ⟨s7, s8, b7, b8, rfl, -, h4, hF⟩ := RdVF.consI hF
  obtain rfl := RdVF.nilI hF
  obtain ⟨k, rfl, -⟩ := h1.intI Tryz.underlying3
  obtain ⟨n, rfl, -⟩ := h2.intI Tryz.underlying3
  obtain ⟨x, rfl, -⟩ := h3.strI Tryz.underlying9
  obtain ⟨c, rfl, hG⟩ := h4.structI Tryz.underlying46
  obtain ⟨t1, t2, b1, b2, rfl, -, h1, hG⟩ := RdVF.consI hG
  obtain ⟨t3, t4, b3, b4, rfl, -, h2, hG⟩ := RdVF.consI hG
  obtain ⟨t5, t6, b5, b6, rfl, -, h3, hG⟩ := RdVF.consI hG
  obtain rfl := RdVF.nilI hG
  obtain ⟨y, rfl, -⟩ := h1.intI Tryz.underlying3
  obtain ⟨z, rfl, -⟩ := h2.intI Tryz.underlying3
  obtain ⟨u, rfl, -⟩ := h3.strI Tryz.underlying9
  exact ⟨⟨k, n, x, y, z, u⟩, rfl, by omega⟩
theorem rd_inss : ∀ {l : List (List SV)} {b : Nat}, RdVE Tryz.prog 48 l b → ∃ L : List Ins, l = L.map Ins.cells ∧ L.length ≤ b
  | [], _, _ => ⟨[], rfl, Nat.zero_le _⟩
  | _ :: _, _, h => by
    cases h with
    | cons h t =>
      obtain ⟨f, rfl, h1⟩ := rd_ins h
      obtain ⟨F, rfl, h2⟩ := rd_inss t
      exact ⟨f :: F, rfl, by simp only [List.length_cons]; omega⟩

theorem run (avs : List AV) (b : Nat) (h : RdVA Tryz.prog Tryz.f4.params.toList avs b) (hb : b ≤ 1048576) : ∃ σ', lim CkC 4 avs emptyH = some (.one (.bool true), σ') := by
  have hp : Tryz.f4.params.toList = [27, 3, 3] := by kernel_rfl
  rw [hp] at h
  obtain ⟨s1, l, b1, b2, rfl, rfl, h1, h⟩ := RdVA.oneI (by kernel_rfl) h
  obtain ⟨s2, l, b3, b4, rfl, rfl, h2, h⟩ := RdVA.oneI (by kernel_rfl) h
  obtain ⟨s3, l, b5, b6, rfl, rfl, h3, h⟩ := RdVA.oneI (by kernel_rfl) h
  obtain rfl := RdVA.nilI h
  obtain ⟨l1, c1, e1, rfl, h7⟩ := h1.sliceI Tryz.underlying27
  cases e1
  obtain ⟨f, e2, w2, -⟩ := h2.intI Tryz.underlying3
  cases e2
  obtain ⟨a, e3, w3, -⟩ := h3.intI Tryz.underlying3
  cases e3
  obtain ⟨ops, rfl, hL⟩ := rd_inss h7
  exact law_checks ops f a (by unfold maxElems; omega) (wf_le w2) (wf_le w3)

theorem reads (os : Os) {H : Type} (enc : TypeId × Value → H) : ∃ places, DataW.whole enc Tryz.prog ((World.laidAll Tryz.prog os Rows.codeChecksUptoRow.laid).forCall (fun _ _ => 0) ⟨#[], #[.slice none 0 0, .int .i64 0, .int .i64 0], []⟩).memory Tryz.f4.params.toList Rows.codeChecksSpec.vars false #[.slice none 0 0, .int .i64 0, .int .i64 0].toList 8 = some ([.nil, .lit (.int .i64 0), .lit (.int .i64 0)], [], places) :=
  ⟨[], by kernel_rfl⟩
theorem laid_met (os : Os) (args : Array Value) : laidMet Tryz.prog Rows.codeChecksUptoRow.laid ((World.laidAll Tryz.prog os Rows.codeChecksUptoRow.laid).forCall (fun _ _ => 0) ⟨#[], args, []⟩).memory :=
  laidMet_laidAll _ (by kernel_rfl) (by kernel_rfl)

theorem lifted (os : Os) (started : os.Started) (H : Type) (enc : TypeId × Value → H) (F : Stop.Interp) :
    ReturnsInHanded {} Tryz.checked os 4 .any ((Rows.OpenSpec.upto Rows.codeChecksSpec).preRow enc Tryz.prog Tryz.f4 Rows.codeChecksUptoRow.domain false Rows.codeChecksUptoRow.laid) (((Rows.OpenSpec.upto Rows.codeChecksSpec).at F).post enc Tryz.prog Tryz.f4 false true false false) := by
  obtain ⟨places, hx⟩ := reads os enc
  refine returnsInHanded_of_row (C := Tryz.checked) (s := Rows.OpenSpec.upto Rows.codeChecksSpec) ownKn started (by kernel_rfl) Tryz.func4
    (witness_row_atRef (enc := enc) (C := Tryz.checked) false (World.laidAll Tryz.prog os Rows.codeChecksUptoRow.laid) #[.slice none 0 0, .int .i64 0, .int .i64 0] (World.laidAll_os _ _ _) (by kernel_rfl) (by kernel_rfl) (by kernel_rfl)
      (OpenSpec.preRow_of_cond 8 hx (by kernel_rfl) (fun k hk => by cases hk; kernel_rfl) (by kernel_rfl) (laid_met os _))) ?_
  intro W base args ds gs before hval hW _ hk _ hL _ _
  have hk' : Rows.uptoBulkAll (ds ++ gs) ≤ 1048576 := of_decide_eq_true (hk _ rfl)
  exact law_contractV CkC_good (T := [27, 48, 46, 9, 3]) (tb := 4) (by kernel_rfl) (by kernel_rfl) laidOut (by kernel_rfl) Tryz.underlying4 rfl
    (fun H ds hds => by
      have hds : ds.length = 3 := hds
      match ds, hds with
      | [d0, d1, d2], _ => rfl)
    run H enc W base args ds gs before hval hW hk' (globs hL)

theorem saidUpto : Rows.CodeChecksUptoSaid :=
  OpenClaim.holds_of_cond 4 Tryz.f4 rfl rfl rfl rfl rfl rfl rfl ⟨rfl, rfl, rfl, rfl, rfl⟩ rfl rfl rfl rfl rfl (by kernel_rfl) Tryz.func4 (by kernel_rfl)
    (of_decide_eq_true (by kernel_rfl)) (by unfold Func.isWrapper; first | (rw [if_pos (by decide +kernel)]; kernel_rfl) | (rw [if_neg (by decide +kernel)]; exact ⟨rfl, rfl⟩))
    (fun os started H enc _ F => by rw [OpenClaim.pre_eq_preRow]; exact lifted os started H enc F)

theorem plain (f : FuncId) (fn : Func) (hf : Tryz.pinned.checked.prog.funcNamed "marquee/marqueelaw12.CodeChecks" = some f) (hfn : Tryz.pinned.checked.prog.funcs[f]? = some fn) :
    false = Tryz.pinned.checked.prog.looks [] ∧ ∀ (j : Nat) t, fn.params[j]? = some t → Tryz.pinned.checked.prog.wantsStandIn t = false := by
  obtain rfl : f = 4 := Option.some.inj ((show Tryz.prog.funcNamed "marquee/marqueelaw12.CodeChecks" = some 4 by kernel_rfl).symm.trans hf) |>.symm
  obtain rfl : fn = Tryz.f4 := (Option.some.inj (Tryz.func4.symm.trans hfn)).symm
  refine ⟨by kernel_rfl, fun j t ht => ?_⟩
  have h : (Tryz.f4.params.toList.all fun t => !Tryz.prog.wantsStandIn t) = true := by kernel_rfl
  have h2 := List.all_eq_true.1 h t (by
    rw [Array.mem_toList_iff]
    exact Array.mem_of_getElem? ht)
  rw [Bool.not_eq_true'] at h2
  exact h2

theorem proved : Rows.CodeChecksUptoCardSaid :=
  Claim7.holds_tied_plain_at .later [] _ _ _ _ saidUpto (fun _ h => by cases h) (by kernel_rfl) (fun _ h => by cases h) codeChecksUpto_row_tie rfl ⟨rfl, rfl⟩ (by kernel_rfl) rfl plain (by kernel_rfl)
#print axioms proved
end Go.Proofs.YtdpfgdmlmkpmbaaGreatDoor.CodeChecks
