/- LexShows: any tokens as a source, and the words, are the document's: any tokens of bulk at most 1048576; the listed tables as the program's text lays them. -/
import Derived.Test.YtepankcnleeakaaGreatDoorCards
import Derived.Test.YtepankcnleeakaaGreatDoorTie
import Derived.Test.YtepankcnleeakaaGreatDoorLxRB
import Derived.Test.YtepankcnleeakaaGreatDoorLxIn
import Derived.Deep.DeepWitnessRowRef
import Derived.Lay
namespace Go.Proofs.YtepankcnleeakaaGreatDoor.LexShows
open Go Go.RowKit Go.ChangeShapes Go.WideShapes Go.ChangeAt Ab
set_option maxRecDepth 100000
set_option maxHeartbeats 4000000
theorem ownKn : ownKnob Tryz.prog.godebug = none := by kernel_rfl
theorem laidOut : laidOutB Tryz.prog = true := by kernel_rfl
theorem globs {W : World} (hsh : W.ShapedOpen Tryz.prog) (h : laidMetH Tryz.prog Rows.lexShowsUptoRow.laid W) : GlobAt W := by
  rw [MakeChecks.laidMetH_plain _ _ _ (by kernel_rfl)] at h
  refine globOk_lex hsh (Lib.laidMet.reads h (.tail _ (.tail _ (.tail _ (.tail _ (.head _)))))) ?_ ?_ ?_ ?_ ?_ ?_
  · exact Lib.laidMet.reads h (.tail _ (.tail _ (.tail _ (.tail _ (.tail _ (.tail _ (.tail _ (.head _))))))))
  · exact Lib.laidMet.reads h (.tail _ (.tail _ (.tail _ (.tail _ (.tail _ (.tail _ (.tail _ (.tail _ (.tail _ (.head _))))))))))
  · exact Lib.laidMet.reads h (.tail _ (.tail _ (.tail _ (.head _))))
  · exact Lib.laidMet.reads h (.tail _ (.tail _ (.head _)))
  · exact Lib.laidMet.reads h (.head _)
  · exact Lib.laidMet.reads h (.tail _ (.head _))
theorem rd_tok {ss : List SV} {b : Nat} (h : RdV Tryz.prog 35 ss b) : ∃ t : LTok, ss = t.cells ∧ (-9223372036854775808 ≤ t.n ∧ t.n ≤ 9223372036854775807) ∧ t.s.length + 2 ≤ b := by
  obtain ⟨c, rfl, hF⟩ := h.structI Tryz.underlying35
  obtain ⟨s1, s2, b1, b2, rfl, q1, h1, hF⟩ := RdVF.consI hF
  obtain ⟨s3, s4, b3, b4, rfl, q2, h2, hF⟩ := RdVF.consI hF
  obtain ⟨s5, s6, b5, b6, rfl, -, h3, hF⟩ := RdVF.consI hF
  obtain ⟨s7, s8, b7, b8, rfl, -, h4, hF⟩ := RdVF.consI hF
  obtain rfl := RdVF.nilI hF
  obtain ⟨k, rfl, -, q3⟩ := h1.intI Tryz.underlying3
  obtain ⟨x, rfl, hx⟩ := h2.strI Tryz.underlying9
  obtain ⟨n, rfl, hn, -⟩ := h3.intI Tryz.underlying3
  obtain ⟨p, rfl, -, -⟩ := h4.intI Tryz.underlying3
  refine ⟨⟨k, x, n, p⟩, rfl, ?_, ?_⟩
  · simp [Lit.wf] at hn
    exact hn
  · show x.length + 2 ≤ _
    omega
theorem shown_small {t : LTok} (h : t.fine) : (shownF t).length + 1 ≤ 2 * t.s.length + 40 := by
  obtain ⟨⟨h0, h1⟩, h2⟩ := h
  have a := itoa_len h0 h1
  have b := dec_len h0 h1
  have c := quote_len t.s
  unfold shownF textQ
  split
  · omega
  · split
    · omega
    · split
      · omega
      · split
        · split
          · simp only [List.length_append, List.length_cons, List.length_nil]; omega
          · simp
        · split
          · simp only [List.length_append, List.length_cons, List.length_nil]; omega
          · simp
theorem rd_toks : ∀ {l : List (List SV)} {b : Nat}, b ≤ 1048576 → RdVE Tryz.prog 35 l b → ∃ L : List LTok, l = L.map LTok.cells ∧ (∀ t ∈ L, t.fine) ∧ L.length ≤ b ∧ sumS L ≤ 30 * b
  | [], _, _, _ => ⟨[], rfl, fun t h => by simp at h, Nat.zero_le _, Nat.zero_le _⟩
  | _ :: _, _, hb, h => by
    cases h with
    | cons h t =>
      obtain ⟨f, rfl, h1, h2⟩ := rd_tok h
      obtain ⟨F, rfl, h3, h4, h5⟩ := rd_toks (by omega) t
      have hf : f.fine := ⟨h1, by omega⟩
      have hs := shown_small hf
      refine ⟨f :: F, rfl, fun t ht => ?_, by simp only [List.length_cons]; omega, ?_⟩
      · rcases List.mem_cons.1 ht with rfl | ht
        · exact hf
        · exact h3 t ht
      · have : sumS (f :: F) = (shownF f).length + 1 + sumS F := by simp [sumS]
        omega
theorem run (avs : List AV) (b : Nat) (h : RdVA Tryz.prog Tryz.f3.params.toList avs b) (hb : b ≤ 1048576) : ∃ σ', lim LxH 3 avs emptyH = some (.one (.bool true), σ') := by
  have hp : Tryz.f3.params.toList = [22] := by kernel_rfl
  rw [hp] at h
  obtain ⟨s1, l, b1, b2, rfl, rfl, h1, h⟩ := RdVA.oneI (by kernel_rfl) h
  obtain rfl := RdVA.nilI h
  obtain ⟨l1, c1, e1, rfl, h7⟩ := h1.sliceI Tryz.underlying22
  cases e1
  obtain ⟨L, rfl, h2, h3, h4⟩ := rd_toks (by omega) h7
  exact law_shows L h2 (by omega) (by omega)
theorem reads (os : Os) {H : Type} (enc : TypeId × Value → H) : ∃ places, DataW.whole enc Tryz.prog ((World.laidAll Tryz.prog os Rows.lexShowsUptoRow.laid).forCall (fun _ _ => 0) ⟨#[], #[.slice none 0 0], []⟩).memory Tryz.f3.params.toList Rows.lexShowsSpec.vars false #[.slice none 0 0].toList 8 = some ([.nil], [], places) :=
  ⟨[], by kernel_rfl⟩
theorem laid_met (os : Os) (args : Array Value) : laidMet Tryz.prog Rows.lexShowsUptoRow.laid ((World.laidAll Tryz.prog os Rows.lexShowsUptoRow.laid).forCall (fun _ _ => 0) ⟨#[], args, []⟩).memory :=
  laidMet_laidAll _ (by kernel_rfl) (by kernel_rfl)
theorem lifted (os : Os) (started : os.Started) (H : Type) (enc : TypeId × Value → H) (F : Stop.Interp) :
    ReturnsInHanded {} Tryz.checked os 3 .any ((Rows.OpenSpec.upto Rows.lexShowsSpec).preRow enc Tryz.prog Tryz.f3 Rows.lexShowsUptoRow.domain false Rows.lexShowsUptoRow.laid) (((Rows.OpenSpec.upto Rows.lexShowsSpec).at F).post enc Tryz.prog Tryz.f3 false true false false) := by
  obtain ⟨places, hx⟩ := reads os enc
  refine returnsInHanded_of_row (C := Tryz.checked) (s := Rows.OpenSpec.upto Rows.lexShowsSpec) ownKn started (by kernel_rfl) Tryz.func3
    (witness_row_atRef (enc := enc) (C := Tryz.checked) false (World.laidAll Tryz.prog os Rows.lexShowsUptoRow.laid) #[.slice none 0 0] (World.laidAll_os _ _ _) (by kernel_rfl) (by kernel_rfl) (by kernel_rfl)
      (OpenSpec.preRow_of_cond 8 hx (by kernel_rfl) (fun k hk => by cases hk; kernel_rfl) (by kernel_rfl) (laid_met os _))) ?_
  intro W base args ds gs before hval hW _ hk _ hL hSh _
  have hk' : Rows.uptoBulkAll (ds ++ gs) ≤ 1048576 := of_decide_eq_true (hk _ rfl)
  exact law_contractV LxH_good (T := [22, 35, 9, 3]) (tb := 4) (by kernel_rfl) (by kernel_rfl) laidOut (by kernel_rfl) Tryz.underlying4 rfl
    (fun H ds hds => by
      have hds : ds.length = 1 := hds
      match ds, hds with
      | [d0], _ => rfl)
    run H enc W base args ds gs before hval hW hk' (globs hSh hL)
theorem saidUpto : Rows.LexShowsUptoSaid :=
  OpenClaim.holds_of_cond 3 Tryz.f3 rfl rfl rfl rfl rfl rfl rfl ⟨rfl, rfl, rfl, rfl, rfl⟩ rfl rfl rfl rfl rfl (by kernel_rfl) Tryz.func3 (by kernel_rfl)
    (of_decide_eq_true (by kernel_rfl)) (by unfold Func.isWrapper; first | (rw [if_pos (by decide +kernel)]; kernel_rfl) | (rw [if_neg (by decide +kernel)]; exact ⟨rfl, rfl⟩))
    (fun os started H enc _ F => by rw [OpenClaim.pre_eq_preRow]; exact lifted os started H enc F)
theorem plain (f : FuncId) (fn : Func) (hf : Tryz.pinned.checked.prog.funcNamed "marquee/marqueelaw05.LexShows" = some f) (hfn : Tryz.pinned.checked.prog.funcs[f]? = some fn) :
    true = Tryz.pinned.checked.prog.looks [] ∧ ∀ (j : Nat) t, fn.params[j]? = some t → Tryz.pinned.checked.prog.wantsStandIn t = false := by
  obtain rfl : f = 3 := Option.some.inj ((show Tryz.prog.funcNamed "marquee/marqueelaw05.LexShows" = some 3 by kernel_rfl).symm.trans hf) |>.symm
  obtain rfl : fn = Tryz.f3 := (Option.some.inj (Tryz.func3.symm.trans hfn)).symm
  refine ⟨by kernel_rfl, fun j t ht => ?_⟩
  have h : (Tryz.f3.params.toList.all fun t => !Tryz.prog.wantsStandIn t) = true := by kernel_rfl
  have h2 := List.all_eq_true.1 h t (by
    rw [Array.mem_toList_iff]
    exact Array.mem_of_getElem? ht)
  rw [Bool.not_eq_true'] at h2
  exact h2
theorem proved : Rows.LexShowsUptoCardSaid :=
  Claim7.holds_tied_plain_at .later [] _ _ _ _ saidUpto (fun _ h => by cases h) (by kernel_rfl) (fun _ h => by cases h) lexShowsUpto_row_tie rfl ⟨rfl, rfl⟩ (by kernel_rfl) rfl plain (by kernel_rfl)
#print axioms proved
end Go.Proofs.YtepankcnleeakaaGreatDoor.LexShows
