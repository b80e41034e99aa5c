/- LexNotes walked. -/
import Derived.Test.YtepankcnleeakaaGreatDoorLxQ2
import Derived.Test.YtepankcnleeakaaGreatDoorLxLA
namespace Go.Proofs.YtepankcnleeakaaGreatDoor.Ab
open Go
set_option maxRecDepth 20000
set_option maxHeartbeats 8000000
set_option linter.unusedSimpArgs false
set_option linter.unusedVariables false

theorem tmod5 (N : Int) : -5 < N.tmod 5 ∧ N.tmod 5 < 5 := by
  have h := Int.natAbs_tmod N 5
  have h2 : N.natAbs % (5 : Int).natAbs < 5 := Nat.mod_lt _ (by decide)
  omega
theorem tmod5' (N : Int) : 0 ≤ (N.tmod 5 + 5).tmod 5 ∧ (N.tmod 5 + 5).tmod 5 < 5 := by
  have h := tmod5 N
  rw [Int.tmod_eq_emod_of_nonneg (by omega)]
  omega
theorem cat_big {a b : List UInt8} (h : a.length + b.length ≤ 1099511627776) : sbin .add a b = some (.str (a ++ b)) := by
  have : Nat.ble (a.length + b.length) maxStr = true := Nat.ble_eq_true_of_le (Nat.le_trans h (by decide))
  simp only [sbin, this]
theorem law_notes (s : List UInt8) (hs : s.length ≤ 1048576) (N : Int) (h1 : -9223372036854775808 ≤ N) (h2 : N ≤ 9223372036854775807) :
    ∃ σ', lim LxQ 6 [.one (.str s), .one (.int .i64 N)] emptyH = some (.one (.bool true), σ') := by
  have key : OptP (lim LxQ 6 [.one (.str s), .one (.int .i64 N)] emptyH) (fun _ v _ => v = .one (.bool true)) := by
    refine lim_code rfl ((LxQ_code _).trans codeLNotes) rfl ?_
    unfold BodyP
    have ht1 := tmod5 N
    have ht2 := tmod5' N
    have hw : wr .i64 (N.tmod 5 + 5) = N.tmod 5 + 5 := wr64 (by omega) (by omega)
    obtain ⟨k, hk, hk2⟩ : ∃ k : Nat, (N.tmod 5 + 5).tmod 5 = (k : Int) ∧ k < 5 := ⟨((N.tmod 5 + 5).tmod 5).toNat, by omega, by omega⟩
    have hkI : (k : Int) < 5 := by omega
    obtain ⟨b, hb⟩ : ∃ b, notesL[k]? = some b := ⟨notesL[k]'(by show k < 5; omega), List.getElem?_eq_getElem _⟩
    have hmem : b ∈ notesL := List.mem_of_getElem? hb
    have hbl : b.length ≤ 10 := by
      have : ∀ b ∈ notesL, b.length ≤ 10 := by decide
      exact this b hmem
    have hcell : (notesL.map SV.str)[k]? = some (.str b) := by rw [List.getElem?_map, hb]; rfl
    have hcs : [SV.str (bytes [32]), .str (bytes [10]), .str (bytes [47, 42, 32, 105, 116, 39, 115, 32, 42, 47]), .str (bytes [45, 45, 32, 115, 111, 10]), .str (bytes [9, 32, 13, 10])] = notesL.map SV.str := rfl
    obtain ⟨ws, hws⟩ : ∃ ws, notesL.map SV.str = ws := ⟨_, rfl⟩
    rw [hws] at hcell hcs
    have hlex := fun σ => LxQ_lex σ s (by omega)
    have hc1 : sbin .add b s = some (.str (b ++ s)) := cat_big (by omega)
    have hc2 : sbin .add (b ++ s) (bytes [10]) = some (.str (b ++ s ++ [10])) := cat_big (by rw [List.length_append]; show b.length + s.length + 1 ≤ _; omega)
    have hc3 : sbin .add (b ++ s ++ [10]) b = some (.str (b ++ (s ++ 10 :: b))) := by
      rw [cat_big (by simp only [List.length_append, List.length_cons, List.length_nil]; omega)]
      simp
    have hxl : (b ++ (s ++ 10 :: b)).length ≤ 16777216 := by simp only [List.length_append, List.length_cons]; omega
    have hlex2 := fun σ => LxQ_lex σ (b ++ (s ++ 10 :: b)) hxl
    have hrep : repeatCells [SV.str []] 5 = [.str [], .str [], .str [], .str [], .str []] := rfl
    by_cases he : (lexA s).2.2 = 0
    · obtain ⟨l, hlx, hl⟩ := lexA_lx he
      obtain ⟨l', hlx', hll⟩ := notes_ok hmem hlx
      rw [hl] at hlex
      rw [lexA_ok hlx'] at hlex2
      have hcnt := lx_count hlx (Nat.zero_le _)
      have hcnt' := lx_count hlx' (Nat.zero_le _)
      have hb1 := fun σ => eq_bare σ l' (by unfold maxElems; omega)
      have hb2 := fun σ => eq_bare σ l (by unfold maxElems; omega)
      have hbb : l.map bareT = l'.map bareT := by rw [hll, List.map_map]; rfl
      rw [hbb] at hb2
      have hsm := fun σ => eq_same σ (l'.map bareT) (by rw [List.length_map]; unfold maxElems; omega)
      generalize l'.map bareT = B at hb1 hb2 hsm
      generalize b ++ s ++ [10] = y at hc2 hc3
      generalize b ++ (s ++ 10 :: b) = x at hc3 hlex2
      simp (maxDischargeDepth := 99) [-List.map_map, cLNotes, hrep, splice, hcs, hw, hk, hkI, hk2, hcell, hlex, hlex2, hc1, hc2, hc3, hb1, hb2, hsm, LxQ_awake]
    · have heI : ¬ (lexA s).2.2 = 0 := he
      generalize b ++ s ++ [10] = y at hc2 hc3
      generalize b ++ (s ++ 10 :: b) = x at hc3 hlex2
      simp (maxDischargeDepth := 99) [-List.map_map, cLNotes, hrep, splice, hcs, hw, hk, hkI, hk2, hcell, hlex, hlex2, hc1, hc2, hc3, heI, LxQ_awake]
  obtain ⟨v, σ', h1, rfl⟩ := key
  exact ⟨σ', h1⟩
end Go.Proofs.YtepankcnleeakaaGreatDoor.Ab
