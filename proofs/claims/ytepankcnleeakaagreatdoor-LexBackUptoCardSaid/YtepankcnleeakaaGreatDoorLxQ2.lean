/- LexPlaces walked. -/
import Derived.Test.YtepankcnleeakaaGreatDoorLxQ1
import Derived.Test.YtepankcnleeakaaGreatDoorLxLA
namespace Go.Proofs.YtepankcnleeakaaGreatDoor.Ab
open Go
set_option maxRecDepth 20000
set_option maxHeartbeats 8000000
set_option linter.unusedSimpArgs false
set_option linter.unusedVariables false

theorem LxQ_code (f : Nat) : LxQ.code f = codeOf f := by kernel_rfl
theorem lexA_ok {s : List UInt8} {l : List LTok} (h : Lx s 0 l) : lexA s = (l, 0, 0) := by
  unfold lexA
  have := lx_run h (f := s.length + 1) (l0 := []) (by omega)
  simpa using this
theorem lexA_lx {s : List UInt8} (h : (lexA s).2.2 = 0) : ∃ l, Lx s 0 l ∧ lexA s = (l, 0, 0) := by
  obtain ⟨l, h1, h2⟩ := lx_of (s := s) (f := s.length + 1) (i := 0) (l0 := []) (by omega) h
  exact ⟨l, h1, by unfold lexA; simpa using h2⟩
theorem lx_count {s : List UInt8} {i : Nat} {l : List LTok} (h : Lx s i l) (hi : i ≤ s.length) : l.length + i ≤ s.length := by
  induction h with
  | done => simpa using hi
  | tok hs hj ht hl ih =>
    rename_i i j k t l
    have hg : i ≤ j := by have := skip_ge (s := s) (f := s.length + 1) (i := i); rw [hs] at this; exact this
    obtain ⟨hk1, hk2, _⟩ := tok_in hj ht
    have := ih hk2
    simp only [List.length_cons]
    omega
/-- The tokens of s, cut at the n-th one's byte. -/
theorem places_ok {s : List UInt8} {l : List LTok} (h : Lx s 0 l) {n : Nat} (hn : n < l.length) :
    ∃ a : Nat, l[n].p = (a : Int) ∧ a < s.length ∧ ∃ m, lexA (s.drop a) = (m, 0, 0) ∧ m.map bareT = (l.drop n).map bareT ∧ m.length ≤ s.length := by
  obtain ⟨a, h1, _, h3, h4⟩ := lx_at h n hn
  have h5 := lx_sh (a := a) (i := 0) (by rw [Nat.add_zero]; exact h4) (.inr trivial)
  refine ⟨a, h1, h3, _, lexA_ok h5, ?_, ?_⟩
  · rw [List.map_map]
    rfl
  · have := lx_count h4 (by omega)
    simp only [List.length_map]
    omega
theorem toks_wide : ∀ l : List LTok, lstW 4 (l.map LTok.cells) = true
  | [] => rfl
  | t :: l => by
    have h := toks_wide l
    simp only [List.map_cons, lstW, h, Bool.and_true]
    rfl
/-- Ahead of the i-th token. -/
def IPl (s : List UInt8) (l : List LTok) (i : Nat) (fr : List AV) (τ : AHeap) : Prop :=
  fr.length = 84 ∧ getSlot fr 0 = .one (.str s) ∧ getSlot fr 3 = .one (.lst (l.map LTok.cells)) ∧ getSlot fr 6 = .one (.int .i64 i)
theorem law_places (s : List UInt8) (hs : s.length ≤ 1048576) : ∃ σ', lim LxQ 5 [.one (.str s)] emptyH = some (.one (.bool true), σ') := by
  have key : OptP (lim LxQ 5 [.one (.str s)] emptyH) (fun _ v _ => v = .one (.bool true)) := by
    refine lim_code rfl ((LxQ_code _).trans codeLPlaces) rfl ?_
    unfold BodyP
    have hlex := fun σ => LxQ_lex σ s (by omega)
    by_cases he : (lexA s).2.2 = 0
    · obtain ⟨l, hlx, hl⟩ := lexA_lx he
      rw [hl] at hlex
      have hcount := lx_count hlx (Nat.zero_le _)
      have hm : l.length ≤ maxElems := by unfold maxElems; omega
      simp (maxDischargeDepth := 99) [cLPlaces, hlex, LxQ_awake]
      refine endsi_to 0 (fun fr τ => fr.length = 84) ?_ ?_
      · refine endsi_range l.length (IPl s l) ?_ ?_ ?_
        · exact ⟨by simp, by simp, by simp, by simp⟩
        · rintro i fr τ hlt ⟨hlen, f0, f3, f6⟩
          have hw := wr_next hlt hm
          obtain ⟨a, ha, has, m, hm1, hm2, hm3⟩ := places_ok hlx hlt
          have hlti : (i : Int) < (l.length : Int) := by omega
          have hrise : ∀ (h : 0 < i), l[i - 1].p < (a : Int) := fun h => by
            have := lx_rise hlx (i - 1) (by omega)
            have e : i - 1 + 1 = i := by omega
            simp only [e] at this
            rw [← ha]
            exact this
          have hlex2 := fun σ => LxQ_lex σ (s.drop a) (by rw [List.length_drop]; omega)
          rw [hm1] at hlex2
          have hmm : m.length ≤ maxElems := by unfold maxElems; omega
          have hb1 := fun σ => eq_bare σ m hmm
          have hb2 := fun σ => eq_bare σ (l.drop i) (by rw [List.length_drop]; omega)
          rw [hm2] at hb1
          have hsm := fun σ => eq_same σ ((l.drop i).map bareT) (by rw [List.length_map, List.length_drop]; omega)
          have hci : (l.map LTok.cells)[i]? = some (l[i]).cells := by rw [List.getElem?_map, List.getElem?_eq_getElem hlt]; rfl
          have hdr : ((l.map LTok.cells).drop i).take (l.length - i) = (l.drop i).map LTok.cells := by
            rw [← List.map_drop]
            exact List.take_of_length_le (by simp)
          have hdr2 : (s.drop a).take (s.length - a) = s.drop a := List.take_of_length_le (by simp)
          have haI : ¬ (s.length : Int) ≤ (a : Int) := by omega
          have haI2 : (a : Int) ≤ (s.length : Int) := by omega
          have haI3 : a ≤ s.length := by omega
          have ha0 : ¬ (a : Int) < 0 := by omega
          obtain ⟨B, hB⟩ : ∃ B, (l.drop i).map bareT = B := ⟨_, rfl⟩
          rw [hB] at hb1 hb2 hsm
          obtain ⟨D, hD⟩ : ∃ D, (l.drop i).map LTok.cells = D := ⟨_, rfl⟩
          rw [hD] at hdr hb2
          have hile : i ≤ l.length := Nat.le_of_lt hlt
          have hTD : D.take (l.length - i) = D := List.take_of_length_le (by rw [← hD]; simp)
          have hW := toks_wide l
          have hdr3 : (l.map LTok.cells).drop i = D := by rw [← hD, List.map_drop]
          obtain ⟨o, ho⟩ : ∃ o, l[i] = o := ⟨_, rfl⟩
          rw [ho] at hci ha
          by_cases h0 : 0 < i
          · have h0I : (0 : Int) < (i : Int) := by omega
            have hr := hrise h0
            have hw1 : wr .i64 ((i : Int) - 1) = ((i - 1 : Nat) : Int) := by unfold maxElems at hm; rw [wr64 (by omega) (by omega)]; omega
            obtain ⟨o', ho'⟩ : ∃ o', l[i - 1] = o' := ⟨_, rfl⟩
            rw [ho'] at hr
            have hci' : (l.map LTok.cells)[i - 1]? = some o'.cells := by rw [List.getElem?_map, List.getElem?_eq_getElem (by omega), ho']; rfl
            have hnle : ¬ (a : Int) ≤ o'.p := by omega
            have hlt' : i - 1 < l.length := by omega
            have hltI' : ((i - 1 : Nat) : Int) < (l.length : Int) := by omega
            obtain ⟨Q, hQ⟩ : ∃ Q, l.map LTok.cells = Q := ⟨_, rfl⟩
            have hQl : Q.length = l.length := by rw [← hQ]; simp
            have hQ' : IPl s l (i + 1) = fun fr τ => fr.length = 84 ∧ getSlot fr 0 = .one (.str s) ∧ getSlot fr 3 = .one (.lst Q) ∧ getSlot fr 6 = .one (.int .i64 ((i + 1 : Nat) : Int)) := by unfold IPl; rw [hQ]
            rw [hQ] at f3 hci hci' hdr hdr3 hW
            have hcg : Q[i]'(by omega) = o.cells := (List.getElem?_eq_some_iff.1 hci).2
            have hcg' : Q[i - 1]'(by omega) = o'.cells := (List.getElem?_eq_some_iff.1 hci').2
            simp (maxDischargeDepth := 99) [-List.map_map, -Int.natCast_add, cLPlaces_0, hlen, f0, f3, f6, hlt, hlti, hci, hcg, ha, LTok.cells, tokC, ha0, haI, h0, h0I, hw1, hci', hcg', hnle, hlt', hltI', haI2, haI3, hdr2, hlex2, hdr, hdr3, hile, hTD, hW, hb1, hb2, hsm, hw, hQl]
            rw [hQ']
            exact ⟨by simp [hlen], by simp [hlen, f0], by simp [hlen, f3], by simp [hlen]⟩
          · have h0I : ¬ (0 : Int) < (i : Int) := by omega
            obtain ⟨Q, hQ⟩ : ∃ Q, l.map LTok.cells = Q := ⟨_, rfl⟩
            have hQl : Q.length = l.length := by rw [← hQ]; simp
            have hQ' : IPl s l (i + 1) = fun fr τ => fr.length = 84 ∧ getSlot fr 0 = .one (.str s) ∧ getSlot fr 3 = .one (.lst Q) ∧ getSlot fr 6 = .one (.int .i64 ((i + 1 : Nat) : Int)) := by unfold IPl; rw [hQ]
            rw [hQ] at f3 hci hdr hdr3 hW
            have hcg : Q[i]'(by omega) = o.cells := (List.getElem?_eq_some_iff.1 hci).2
            simp (maxDischargeDepth := 99) [-List.map_map, -Int.natCast_add, cLPlaces_0, hlen, f0, f3, f6, hlt, hlti, hci, hcg, ha, LTok.cells, tokC, ha0, haI, h0, h0I, haI2, haI3, hdr2, hlex2, hdr, hdr3, hile, hTD, hW, hb1, hb2, hsm, hw, hQl]
            rw [hQ']
            exact ⟨by simp [hlen], by simp [hlen, f0], by simp [hlen, f3], by simp [hlen]⟩
        · rintro fr τ ⟨hlen, f0, f3, f6⟩
          simp (maxDischargeDepth := 99) [cLPlaces_0, hlen, f3, f6]
      · rintro fr τ hlen
        simp (maxDischargeDepth := 99) [hlen, LxQ_awake]
    · have heI : ¬ (lexA s).2.2 = 0 := he
      simp (maxDischargeDepth := 99) [cLPlaces, hlex, heI, LxQ_awake]
  obtain ⟨v, σ', h1, rfl⟩ := key
  exact ⟨σ', h1⟩
end Go.Proofs.YtepankcnleeakaaGreatDoor.Ab
