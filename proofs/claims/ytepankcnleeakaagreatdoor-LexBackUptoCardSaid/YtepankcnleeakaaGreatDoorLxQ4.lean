/- LexBack walked. -/
import Derived.Test.YtepankcnleeakaaGreatDoorLxL4
namespace Go.Proofs.YtepankcnleeakaaGreatDoor.Ab
open Go
set_option maxRecDepth 20000
set_option maxHeartbeats 8000000
set_option linter.unusedSimpArgs false
set_option linter.unusedVariables false

noncomputable def lwPrims : List (Nat × Prim) := [(12, pBool true), (13, fun args σ => lim LxX 13 args σ), (10, fun args σ => lim LxV 10 args σ), (15, fun args σ => lim LxQ 15 args σ), (14, fun args σ => lim LxQ 14 args σ)]
noncomputable def LxW : Ctx := ⟨codeOf, primAt lwPrims, fun _ => .no⟩
theorem LxW_good : LxW.Good Tryz.prog where
  code := fun f F h => codeOf_good h
  prim := fun f p h => primAt_ok (l := lwPrims) (fun g p hm => by
    simp only [lwPrims, List.mem_cons, Prod.mk.injEq, List.not_mem_nil, or_false] at hm
    rcases hm with ⟨rfl, rfl⟩ | ⟨rfl, rfl⟩ | ⟨rfl, rfl⟩ | ⟨rfl, rfl⟩ | ⟨rfl, rfl⟩
    · exact primOk_closed LxM_good awake05
    · exact primOk_limQ LxX_good _
    · exact primOk_limQ LxV_good _
    · exact primOk_limQ LxQ_good _
    · exact primOk_limQ LxQ_good _) f p h
theorem LxW_code (f : Nat) : LxW.code f = codeOf f := by kernel_rfl
theorem LxW_awake (σ : AHeap) : lim LxW 12 [] σ = some (.one (.bool true), σ) := (lim_prim (p := pBool true) rfl).trans rfl
theorem LxW_lex (σ : AHeap) (s : List UInt8) (hs : s.length ≤ 67108864) :
    lim LxW 13 [.one (.str s)] σ = some (.tup [.one (.lst ((lexA s).1.map LTok.cells)), .one (.int .i64 (lexA s).2.1), .one (.int .i64 (lexA s).2.2)], σ) :=
  (lim_prim (p := fun args σ => lim LxX 13 args σ) rfl).trans (eq_lex σ s hs)
theorem LxW_show (σ : AHeap) (l : List LTok) (hf : ∀ t ∈ l, t.fine) (hm : l.length ≤ 16777216) (hj : (Lib.join (l.map shownF) [32]).length ≤ 1000000000) : lim LxW 10 [.one (.lst (l.map LTok.cells))] σ = some (.one (.str (showF l)), σ) :=
  (lim_prim (p := fun args σ => lim LxV 10 args σ) rfl).trans (eq_show σ l hf hm hj)
theorem LxW_bare (σ : AHeap) (l : List LTok) (hm : l.length ≤ maxElems) : lim LxW 15 [.one (.lst (l.map LTok.cells))] σ = some (.one (.lst ((l.map bareT).map LTok.cells)), σ) :=
  (lim_prim (p := fun args σ => lim LxQ 15 args σ) rfl).trans (eq_bare σ l hm)
theorem LxW_same (σ : AHeap) (l : List LTok) (hm : l.length ≤ maxElems) : lim LxW 14 [.one (.lst (l.map LTok.cells)), .one (.lst (l.map LTok.cells))] σ = some (.one (.bool true), σ) :=
  (lim_prim (p := fun args σ => lim LxQ 14 args σ) rfl).trans (eq_same σ l hm)

theorem law_back (s : List UInt8) (hs : s.length ≤ 1048576) : ∃ σ', lim LxW 4 [.one (.str s)] emptyH = some (.one (.bool true), σ') := by
  have key : OptP (lim LxW 4 [.one (.str s)] emptyH) (fun _ v _ => v = .one (.bool true)) := by
    refine lim_code rfl ((LxW_code _).trans codeLBack) rfl ?_
    unfold BodyP
    have hlex := fun σ => LxW_lex σ s (by omega)
    by_cases he : (lexA s).2.2 = 0
    · obtain ⟨l, hlx, hl⟩ := lexA_lx he
      obtain ⟨hf, hc, hj, hlen, l', hl', hbb⟩ := back_ok hs hlx
      rw [hl] at hlex
      have hsh := fun σ => LxW_show σ l hf (by omega) (by rw [← hj]; omega)
      have hlex2 := fun σ => LxW_lex σ (showF l) hlen
      rw [hl'] at hlex2
      have hll : l'.length = l.length := by
        have := congrArg List.length hbb
        rwa [List.length_map, List.length_map] at this
      have hb1 := fun σ => LxW_bare σ l' (by unfold maxElems; omega)
      have hb2 := fun σ => LxW_bare σ l (by unfold maxElems; omega)
      rw [hbb] at hb1
      have hsm := fun σ => LxW_same σ (l.map bareT) (by rw [List.length_map]; unfold maxElems; omega)
      generalize l.map bareT = B at hb1 hb2 hsm
      generalize showF l = x at hsh hlex2
      simp (maxDischargeDepth := 99) [-List.map_map, cLBack, hlex, hsh, hlex2, hb1, hb2, hsm, LxW_awake]
    · have h1 : (lexA s).1 = [] := lx_err (s := s) (f := s.length + 1) (i := 0) (l0 := []) (by omega) he
      rw [h1] at hlex
      have heI : ¬ (lexA s).2.2 = 0 := he
      simp (maxDischargeDepth := 99) [cLBack, hlex, heI, LxW_awake]
  obtain ⟨v, σ', h1, rfl⟩ := key
  exact ⟨σ', h1⟩
end Go.Proofs.YtepankcnleeakaaGreatDoor.Ab
