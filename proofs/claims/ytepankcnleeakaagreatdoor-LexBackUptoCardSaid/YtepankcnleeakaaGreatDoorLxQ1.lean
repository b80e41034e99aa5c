/- The laws' context: the lexer as one step; bare and same. -/
import Derived.Test.YtepankcnleeakaaGreatDoorLxEC
import Derived.Test.YtepankcnleeakaaGreatDoorLitLx3
import Derived.Test.YtepankcnleeakaaGreatDoorLxA
namespace Go.Proofs.YtepankcnleeakaaGreatDoor.Ab
open Go
set_option maxRecDepth 20000
set_option maxHeartbeats 8000000
set_option linter.unusedSimpArgs false

theorem primOk_limQ {P : Program} [IsProg P] {C : Ctx} (hC : C.Good P) (f : Nat) : PrimOk P f (fun args σ => lim C f args σ) := fun args σ v σ' h => by
  obtain ⟨n, hn⟩ := lim_iff.1 h
  exact sound hC n f args σ v σ' hn
noncomputable def lqPrims : List (Nat × Prim) := [(12, pBool true), (13, fun args σ => lim LxX 13 args σ)]
def lqHint (f : Nat) : Hint := match Nat.beq f 15, Nat.beq f 14 with
  | true, _ => .mv
  | _, true => .rd
  | _, _ => .no
noncomputable def LxQ : Ctx := ⟨codeOf, primAt lqPrims, lqHint⟩
theorem LxQ_good : LxQ.Good Tryz.prog where
  code := fun f F h => codeOf_good h
  prim := fun f p h => primAt_ok (l := lqPrims) (fun g p hm => by
    simp only [lqPrims, List.mem_cons, Prod.mk.injEq, List.not_mem_nil, or_false] at hm
    rcases hm with ⟨rfl, rfl⟩ | ⟨rfl, rfl⟩
    · exact primOk_closed LxM_good awake05
    · exact primOk_limQ LxX_good _) f p h
theorem LxQ_awake (σ : AHeap) : lim LxQ 12 [] σ = some (.one (.bool true), σ) := (lim_prim (p := pBool true) rfl).trans rfl
theorem LxQ_lex (σ : AHeap) (s : List UInt8) (hs : s.length ≤ 67108864) :
    lim LxQ 13 [.one (.str s)] σ = some (.tup [.one (.lst ((lexA s).1.map LTok.cells)), .one (.int .i64 (lexA s).2.1), .one (.int .i64 (lexA s).2.2)], σ) :=
  (lim_prim (p := fun args σ => lim LxX 13 args σ) rfl).trans (eq_lex σ s hs)

theorem toks_lo : ∀ l : List LTok, loE 0 (l.map LTok.cells) = true
  | [] => rfl
  | t :: l => by
    have h := toks_lo l
    simp only [List.map_cons, loE, h, Bool.and_true]
    rfl
theorem toks_frz (σ : AHeap) (l : List LTok) : frzDA frzDepth σ (.one (.lst (l.map LTok.cells))) = some (.one (.lst (l.map LTok.cells)), []) := by
  have h := toks_lo l
  simp only [frzDA, frzDepth, frzD, SV.lo, h]
def bareT (t : LTok) : LTok := ⟨t.k, t.s, t.n, 0⟩
theorem eq_same (σ : AHeap) (l : List LTok) (hm : l.length ≤ maxElems) : lim LxQ 14 [.one (.lst (l.map LTok.cells)), .one (.lst (l.map LTok.cells))] σ = some (.one (.bool true), σ) := by
  refine lim_rd (args' := [.one (.lst (l.map LTok.cells)), .one (.lst (l.map LTok.cells))]) (ids := [] ++ ([] ++ [])) rfl (show codeOf 14 = _ from codeLSame) rfl (by simp only [frzDAs, toks_frz]) ?_ rfl
  unfold BodyP
  simp (maxDischargeDepth := 99) [cLSame]
  refine endsi_to 0 (fun fr τ => fr.length = 26) ?_ ?_
  · refine endsi_range l.length (fun i fr τ => fr.length = 26 ∧ getSlot fr 0 = .one (.lst (l.map LTok.cells)) ∧ getSlot fr 1 = .one (.lst (l.map LTok.cells)) ∧ getSlot fr 5 = .one (.int .i64 i)) ?_ ?_ ?_
    · simp
    · rintro i fr τ hlt ⟨hlen, f0, f1, f5⟩
      have hw := wr_next hlt hm
      obtain ⟨o, ho⟩ : ∃ o, l[i] = o := ⟨_, rfl⟩
      have hlti : (i : Int) < (l.length : Int) := by omega
      have h4 : o.cells.length = 4 := rfl
      simp (maxDischargeDepth := 99) [cLSame_0, hlen, f0, f1, f5, hlt, hlti, ho, LTok.cells, tokC, hw, beqL_refl]
    · rintro fr τ ⟨hlen, f0, f1, f5⟩
      simp (maxDischargeDepth := 99) [cLSame_0, hlen, f0, f5]
  · rintro fr τ hlen
    simp (maxDischargeDepth := 99) [hlen]

/-- Ahead of the i-th token. -/
def IBr (l : List LTok) (i : Nat) (fr : List AV) (τ : AHeap) : Prop := fr.length = 22 ∧ getSlot fr 0 = .one (.lst (l.map LTok.cells)) ∧ OutSl 0 τ 4 (getSlot fr 3) (tcells ((l.map bareT).take i)) i ∧ getSlot fr 4 = .one (.int .i64 i)
def FBr (l : List LTok) (fr : List AV) (τ : AHeap) : Prop := fr.length = 22 ∧ OutSl 0 τ 4 (getSlot fr 3) (tcells (l.map bareT)) l.length
theorem eq_bare (σ : AHeap) (l : List LTok) (hm : l.length ≤ maxElems) : lim LxQ 15 [.one (.lst (l.map LTok.cells))] σ = some (.one (.lst ((l.map bareT).map LTok.cells)), σ) := by
  have key := lim_mv (C := LxQ) (f := 15) (F := cLBare) (σ := σ) (args := [.one (.lst (l.map LTok.cells))]) rfl (show codeOf 15 = _ from codeLBare) rfl (args' := [.one (.lst (l.map LTok.cells))]) (ids := [] ++ []) (by simp only [frzDAs, toks_frz])
    (V := .one (.lst ((l.map bareT).map LTok.cells))) ?_
  · exact key
  · unfold BodyP
    simp (maxDischargeDepth := 99) [cLBare]
    refine endsi_to 0 (FBr l) ?_ ?_
    · refine endsi_range l.length (IBr l) ?_ ?_ ?_
      · exact ⟨by simp, by simp, OutSl.nil _ _ _, by simp⟩
      · rintro i fr τ hlt ⟨hlen, f0, f3, f4⟩
        have hw := wr_next hlt hm
        obtain ⟨o, ho⟩ : ∃ o, l[i] = o := ⟨_, rfl⟩
        have hlti : (i : Int) < (l.length : Int) := by omega
        obtain ⟨sl, hsl⟩ : ∃ sl, getSlot fr 3 = sl := ⟨_, rfl⟩
        rw [hsl] at f3
        -- the token's cell
        obtain ⟨τ1, hτ1⟩ : ∃ τ1, τ1 = τ.alloc ⟨[.int .i64 0, .str [], .int .i64 0, .int .i64 0], .own⟩ := ⟨_, rfl⟩
        have hg1 : τ1.get τ.size = some ⟨[.int .i64 0, .str [], .int .i64 0, .int .i64 0], .own⟩ := by rw [hτ1]; simp
        have hk1 : Keeps τ τ1 := by rw [hτ1]; exact (Keeps.refl τ).alloc
        obtain ⟨τ2, w2, g2, o2, z2⟩ := put_ok (vs := o.cells) (cs' := o.cells) 0 hg1 rfl (by simp [LTok.cells, tokC])
        obtain ⟨τ3, w3, g3, o3, z3⟩ := put_ok (vs := [.int .i64 0]) (cs' := (bareT o).cells) 3 g2 rfl (by simp [LTok.cells, tokC])
        obtain ⟨τ4, hτ4⟩ : ∃ τ4, τ4 = τ3.alloc ⟨(bareT o).cells, .own⟩ := ⟨_, rfl⟩
        have hg4 : τ4.get τ3.size = some ⟨(bareT o).cells, .own⟩ := by rw [hτ4]; simp
        have hk4 : Keeps τ3 τ4 := by rw [hτ4]; exact (Keeps.refl τ3).alloc
        have hz1 : τ1.size = τ.size + 1 := by rw [hτ1]; simp
        have hsl4 : OutSl 0 τ4 4 sl (tcells ((l.map bareT).take i)) i := f3.stay (fun id _ h => by rw [hk4.2 id (by omega), o3 id (by omega), o2 id (by omega), hk1.2 id h])
        have hap := append_out (bytes := 40) (vs := (bareT o).cells) hsl4 (Nat.zero_le _) (by omega) rfl (by omega) (by decide)
        have hcl : (bareT o).cells.length = 4 := rfl
        have hcl' : o.cells.length = 4 := rfl
        have htk : List.take 4 (bareT o).cells = (bareT o).cells := rfl
        have htk' : List.take 4 o.cells = o.cells := rfl
        simp (maxDischargeDepth := 99) [-writeAt, cLBare_0, hlen, f0, hsl, f4, hlti, hlt, ho, ← hτ1, hcl, hcl', htk, htk', w2, w3, g3, repeatCells, splice, ← hτ4, srcLen, srcCells, hg4]
        refine hap.mono ?_
        rintro v τ5 ⟨q1, q2, q3⟩
        have htc : tcells ((l.map bareT).take i) ++ (bareT o).cells = tcells ((l.map bareT).take (i + 1)) := by
          have hi : i < (l.map bareT).length := by rw [List.length_map]; exact hlt
          have e : (l.map bareT)[i] = bareT o := by rw [List.getElem_map, ho]
          rw [List.take_succ_eq_append_getElem hi, e]
          simp [tcells]
        rw [htc] at q1
        simp (maxDischargeDepth := 99) [-writeAt, -Int.natCast_add, hlen, f4, hw]
        exact ⟨by simp [hlen], by simp [hlen, f0], by simp only [getSlot_setSlot]; simpa [hlen] using q1, by simp [hlen]⟩
      · rintro fr τ ⟨hlen, f0, f3, f4⟩
        simp (maxDischargeDepth := 99) [cLBare_0, hlen, f0, f4]
        rw [List.take_of_length_le (by simp)] at f3
        refine ⟨by simp [hlen], ?_⟩
        have e : ∀ x, getSlot (setSlot (setSlot (setSlot (setSlot fr 6 x) 7 (.one (.lst (l.map LTok.cells)))) 8 x) 9 (.one (.bool false))) 3 = getSlot fr 3 := fun x => by simp [hlen]
        first | exact f3 | (simp [hlen]; exact f3)
    · rintro fr τ ⟨hlen, f3⟩
      obtain ⟨sv, hsv⟩ : ∃ sv, getSlot fr 3 = .one sv := by
        rcases f3.2 with ⟨h1, _⟩ | ⟨q, h1, _⟩
        · exact ⟨_, h1⟩
        · exact ⟨_, h1⟩
      rw [hsv] at f3
      have hl : l.length = (l.map bareT).length := by simp
      rw [hl] at f3
      obtain ⟨ids, hf⟩ := frz_tout f3
      simp (maxDischargeDepth := 99) [-List.map_map, hlen, hsv]
      exact ⟨ids, by simp only [frzDA, frzDepth, hf, List.map_map]⟩
end Go.Proofs.YtepankcnleeakaaGreatDoor.Ab
