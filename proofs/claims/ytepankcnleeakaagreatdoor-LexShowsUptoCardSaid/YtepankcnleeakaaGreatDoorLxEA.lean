/- Several of my texts in one: LxE1, LxE2, LxE3, LxE4, LxE5. -/
import Derived.Test.YtepankcnleeakaaGreatDoorLxF
import Derived.Test.YtepankcnleeakaaGreatDoorLitLx2
import Derived.Test.YtepankcnleeakaaGreatDoorLxAt
import Derived.Test.YtepankcnleeakaaGreatDoorLxRp
import Derived.Test.YtepankcnleeakaaGreatDoorLxIx
import Derived.Test.YtepankcnleeakaaGreatDoorLxBA
namespace Go.Proofs.YtepankcnleeakaaGreatDoor.Ab
open Go
set_option maxRecDepth 20000
set_option maxHeartbeats 8000000
set_option linter.unusedSimpArgs false
def lxxPrims : List (Nat × Prim) := [(8, pWords), (59, pLower), (85, pIdxB), (60, pAtoi), (63, pRepeat), (35, pIndex), (66, pValid), (27, pWS), (65, pWB), (28, pBS)]
noncomputable def LxX : Ctx := ⟨codeOf, primAt lxxPrims, lxHint⟩
theorem LxX_good : LxX.Good Tryz.prog where
 code := fun f F h => codeOf_good h
 prim := fun f p h => primAt_ok (l := lxxPrims) (fun g p hm => by
  simp only [lxxPrims, List.mem_cons, Prod.mk.injEq, List.not_mem_nil, or_false] at hm
  rcases hm with ⟨rfl, rfl⟩ | ⟨rfl, rfl⟩ | ⟨rfl, rfl⟩ | ⟨rfl, rfl⟩ | ⟨rfl, rfl⟩ | ⟨rfl, rfl⟩ | ⟨rfl, rfl⟩ | ⟨rfl, rfl⟩ | ⟨rfl, rfl⟩ | ⟨rfl, rfl⟩
  ·exact primOk_words
  ·exact primOk_lower
  ·exact primOk_idxB
  ·exact primOk_atoi
  ·exact primOk_repeat
  ·exact primOk_index
  ·exact primOk_valid
  ·exact primOk_ws
  ·exact primOk_wb
  ·exact primOk_bs) f p h
theorem LxX_code (f : Nat) : LxX.code f = codeOf f := by kernel_rfl
theorem eqP {C : Ctx} {f : Nat} {args : List AV} {σ : AHeap} {v : AV} (h : OptP (lim C f args σ) (fun _ u τ => u = v ∧ τ = σ)) : lim C f args σ = some (v, σ) := by
 obtain ⟨u, τ, h1, rfl, rfl⟩ := h
 exact h1
theorem eq_letter (σ : AHeap) (c : UInt8) : lim LxX 37 [.one (.int .u8 c.toNat)] σ = some (.one (.bool (letB c)), σ) := by
 refine eqP (lim_code rfl ((LxX_code _).trans codeLLetter) rfl ?_)
 unfold BodyP letB
 by_cases h1 : 97 ≤ c.toNat
 ·have h1' : (97 : Int) ≤ (c.toNat : Int) := by omega
  by_cases h2 : c.toNat ≤ 122
  ·have h2' : (c.toNat : Int) ≤ 122 := by omega
   simp (maxDischargeDepth := 99) [cLLetter, h1, h1', h2, h2']
  ·have h2' : ¬ (c.toNat : Int) ≤ 122 := by omega
   have h3' : ¬ (c.toNat : Int) ≤ 90 := by omega
   have h3 : ¬ c.toNat ≤ 90 := by omega
   have h4 : (65 : Int) ≤ (c.toNat : Int) := by omega
   have h5 : ¬ (c.toNat : Int) = 95 := by omega
   have h6 : ¬ c.toNat = 95 := by omega
   simp (maxDischargeDepth := 99) [cLLetter, h1, h1', h2, h2', h3, h3', h4, h5, h6]
 ·have h1' : ¬ (97 : Int) ≤ (c.toNat : Int) := by omega
  have h5 : (c.toNat : Int) = 95 ↔ c.toNat = 95 := by omega
  by_cases h2 : 65 ≤ c.toNat
  ·have h2' : (65 : Int) ≤ (c.toNat : Int) := by omega
   by_cases h3 : c.toNat ≤ 90
   ·have h3' : (c.toNat : Int) ≤ 90 := by omega
    simp (maxDischargeDepth := 99) [cLLetter, h1, h1', h2, h2', h3, h3']
   ·have h3' : ¬ (c.toNat : Int) ≤ 90 := by omega
    simp (maxDischargeDepth := 99) [cLLetter, h1, h1', h2, h2', h3, h3', h5]
  ·have h2' : ¬ (65 : Int) ≤ (c.toNat : Int) := by omega
   simp (maxDischargeDepth := 99) [cLLetter, h1, h1', h2, h2', h5]
theorem eq_digit (σ : AHeap) (c : UInt8) : lim LxX 39 [.one (.int .u8 c.toNat)] σ = some (.one (.bool (digB c)), σ) := by
 refine eqP (lim_code rfl ((LxX_code _).trans codeLDigit) rfl ?_)
 unfold BodyP digB
 by_cases h1 : 48 ≤ c.toNat
 ·have h1' : (48 : Int) ≤ (c.toNat : Int) := by omega
  by_cases h2 : c.toNat ≤ 57
  ·have h2' : (c.toNat : Int) ≤ 57 := by omega
   simp (maxDischargeDepth := 99) [cLDigit, h1, h1', h2, h2']
  ·have h2' : ¬ (c.toNat : Int) ≤ 57 := by omega
   simp (maxDischargeDepth := 99) [cLDigit, h1, h1', h2, h2']
 ·have h1' : ¬ (48 : Int) ≤ (c.toNat : Int) := by omega
  simp (maxDischargeDepth := 99) [cLDigit, h1, h1']
theorem eq_name1 (σ : AHeap) (c : UInt8) : lim LxX 58 [.one (.int .u8 c.toNat)] σ = some (.one (.bool (ldB c)), σ) := by
 refine eqP (lim_code rfl ((LxX_code _).trans codeLName1) rfl ?_)
 unfold BodyP ldB
 have h1 := fun σ => eq_letter σ c
 have h2 := fun σ => eq_digit σ c
 cases h : letB c with
 | true =>
  rw [h] at h1
  simp (maxDischargeDepth := 99) [cLName1, h1]
 | false =>
  rw [h] at h1
  simp (maxDischargeDepth := 99) [cLName1, h1, h2]
theorem eq_next1 (σ : AHeap) (c : UInt8) : lim LxX 34 [.one (.int .u8 c.toNat)] σ = some (.one (.bool (c != 10)), σ) := by
 refine eqP (lim_code rfl ((LxX_code _).trans codeLNext1) rfl ?_)
 unfold BodyP
 have h : (c != 10) = !decide ((c.toNat : Int) = 10) := by
  by_cases h : c = 10
  ·subst h; rfl
  ·have : ¬ (c.toNat : Int) = 10 := by
    intro e
    exact h (UInt8.toNat_inj.1 (by show c.toNat = 10; omega))
   simp [h, this]
 rw [h]
 simp (maxDischargeDepth := 99) [cLNext1]
def rcells (s : List UInt8) (i : Nat) (m : SV) (e b : Int) : List SV := [.str s, .int .i64 i, m, .int .i64 e, .int .i64 b]
def Rdr (τ : AHeap) (p : Nat) (s : List UInt8) (i : Nat) (m : SV) (e b : Int) : Prop := τ.get p = some ⟨rcells s i m e b, .own⟩
theorem look_nat (s : List UInt8) (i k : Nat) : (∃ c, s[i + k]? = some c ∧ i + k < s.length) ∨ (s[i + k]? = none ∧ ¬ i + k < s.length) := by
 by_cases h : i + k < s.length
 ·exact .inl ⟨_, List.getElem?_eq_getElem h, h⟩
 ·exact .inr ⟨List.getElem?_eq_none (by omega), h⟩
theorem eq_look (τ : AHeap) (p : Nat) (s : List UInt8) (i k : Nat) (m : SV) (e b : Int) (h : Rdr τ p s i m e b) (hs : s.length ≤ maxElems) (hi : i ≤ s.length) (hk : k ≤ 10) :
  lim LxX 62 [.one (.ptr p 0), .one (.int .i64 k)] τ = some (.one (.int .u8 (lookF s i k).toNat), τ) := by
 refine eqP (lim_code rfl ((LxX_code _).trans codeLLook) rfl ?_)
 unfold BodyP lookF
 have hw : wr .i64 ((i : Int) + (k : Int)) = (i : Int) + k := by unfold maxElems at hs; exact wr64 (by omega) (by omega)
 unfold Rdr rcells at h
 rcases look_nat s i k with ⟨c, hc, hlt⟩ | ⟨hc, hlt⟩
 ·have hlt' : (i : Int) + (k : Int) < (s.length : Int) := by omega
  have hn : ((i : Int) + (k : Int)).toNat = i + k := by omega
  have h0 : (0 : Int) ≤ (i : Int) + (k : Int) := by omega
  have hc' : s[i + k] = c := (List.getElem?_eq_some_iff.1 hc).2
  rw [hc]
  simp (maxDischargeDepth := 99) [cLLook, h, hw, hlt', hn, hc, hc', h0, hlt]
 ·have hlt' : ¬ (i : Int) + (k : Int) < (s.length : Int) := by omega
  rw [hc]
  simp (maxDischargeDepth := 99) [cLLook, h, hw, hlt']
end Go.Proofs.YtepankcnleeakaaGreatDoor.Ab
namespace Go.Proofs.YtepankcnleeakaaGreatDoor.Ab
open Go
set_option maxRecDepth 20000
set_option maxHeartbeats 8000000
set_option linter.unusedSimpArgs false
def Oth (p : Nat) (τ τ' : AHeap) : Prop := τ.size ≤ τ'.size ∧ ∀ id, id < τ.size → id ≠ p → τ'.get id = τ.get id
theorem Oth.refl (p : Nat) (τ : AHeap) : Oth p τ τ := ⟨Nat.le_refl _, fun _ _ _ => rfl⟩
theorem Oth.trans {p : Nat} {a b c : AHeap} (h : Oth p a b) (k : Oth p b c) : Oth p a c := ⟨Nat.le_trans h.1 k.1, fun id h1 h2 => (k.2 id (Nat.lt_of_lt_of_le h1 h.1) h2).trans (h.2 id h1 h2)⟩
theorem Oth.put (p : Nat) (τ : AHeap) (o : AObj) : Oth p τ (τ.put p o) := ⟨by rw [AHeap.size_put]; exact Nat.le_refl _, fun id _ h2 => by rw [AHeap.get_put', if_neg (fun e => h2 e.1)]⟩
theorem Oth.alloc {p : Nat} {τ τ' : AHeap} (h : Oth p τ τ') (o : AObj) : Oth p τ (τ'.alloc o) := h.trans ⟨by simp, fun id h1 _ => by simp [h1]; omega⟩
theorem eq_prefix (σ : AHeap) (s x : List UInt8) : lim LxX 32 [.one (.str s), .one (.str x)] σ = some (.one (.bool (x.isPrefixOf s)), σ) := by
 have h2 : ∀ σ, lim LxX 56 [.one (.str s), .one (.str x)] σ = some (.one (.bool (x.isPrefixOf s)), σ) := by
  intro σ
  refine eqP (lim_code rfl ((LxX_code _).trans codeLPrefix2) rfl ?_)
  unfold BodyP
  have hp : x.isPrefixOf s = (decide (x.length ≤ s.length) && decide (s.take x.length = x)) := by
   rw [Bool.eq_iff_iff, List.isPrefixOf_iff_prefix, List.prefix_iff_eq_take]
   simp only [Bool.and_eq_true, decide_eq_true_eq]
   constructor
   ·intro h
    refine ⟨?_, h.symm⟩
    have := congrArg List.length h
    simp at this
    omega
   ·intro h; exact h.2.symm
  rw [hp]
  by_cases h : x.length ≤ s.length
  ·have h' : (x.length : Int) ≤ (s.length : Int) := by omega
   simp (maxDischargeDepth := 99) [cLPrefix2, h, h', sbin, beqL_iff]
  ·have h' : ¬ (x.length : Int) ≤ (s.length : Int) := by omega
   simp (maxDischargeDepth := 99) [cLPrefix2, h, h']
 refine eqP (lim_code rfl ((LxX_code _).trans codeLPrefix) rfl ?_)
 unfold BodyP
 simp (maxDischargeDepth := 99) [cLPrefix, h2]
theorem Rdr.wAt {τ : AHeap} {p : Nat} {s : List UInt8} {i : Nat} {m : SV} {e b : Int} (h : Rdr τ p s i m e b) (x : Nat) : ∃ τ', writeAt τ p 1 [.int .i64 x] = some τ' ∧ Rdr τ' p s x m e b ∧ Oth p τ τ' := by
 unfold Rdr at h
 refine ⟨τ.put p ⟨rcells s x m e b, .own⟩, ?_, ?_, Oth.put _ _ _⟩
 ·simp [writeAt, splice, h, rcells]
 ·simp [Rdr, AHeap.get_lt h]
theorem Rdr.wErr {τ : AHeap} {p : Nat} {s : List UInt8} {i : Nat} {m : SV} {e b : Int} (h : Rdr τ p s i m e b) (x : Int) : ∃ τ', writeAt τ p 3 [.int .i64 x] = some τ' ∧ Rdr τ' p s i m x b ∧ Oth p τ τ' := by
 unfold Rdr at h
 refine ⟨τ.put p ⟨rcells s i m x b, .own⟩, ?_, ?_, Oth.put _ _ _⟩
 ·simp [writeAt, splice, h, rcells]
 ·simp [Rdr, AHeap.get_lt h]
theorem Rdr.wBad {τ : AHeap} {p : Nat} {s : List UInt8} {i : Nat} {m : SV} {e b : Int} (h : Rdr τ p s i m e b) (x : Int) : ∃ τ', writeAt τ p 4 [.int .i64 x] = some τ' ∧ Rdr τ' p s i m e x ∧ Oth p τ τ' := by
 unfold Rdr at h
 refine ⟨τ.put p ⟨rcells s i m e x, .own⟩, ?_, ?_, Oth.put _ _ _⟩
 ·simp [writeAt, splice, h, rcells]
 ·simp [Rdr, AHeap.get_lt h]
theorem run_fail {τ : AHeap} {p : Nat} {s : List UInt8} {i : Nat} {m : SV} {e b : Int} (h : Rdr τ p s i m e b) (x at_ : Int) :
  OptP (lim LxX 36 [.one (.ptr p 0), .one (.int .i64 x), .one (.int .i64 at_)] τ) (fun _ v τ' => v = .tup [] ∧ Rdr τ' p s i m (if e = 0 then x else e) (if e = 0 then at_ else b) ∧ Oth p τ τ') := by
 refine lim_code rfl ((LxX_code _).trans codeLFail) rfl ?_
 unfold BodyP
 have h' := h
 unfold Rdr rcells at h
 by_cases he : e = 0
 ·subst he
  obtain ⟨τ1, hw1, h1, o1⟩ := h'.wErr x
  obtain ⟨τ2, hw2, h2, o2⟩ := h1.wBad at_
  simp (maxDischargeDepth := 99) [-writeAt, cLFail, h, hw1, hw2]
  exact ⟨h2, o1.trans o2⟩
 ·simp (maxDischargeDepth := 99) [-writeAt, cLFail, h, he]
  exact ⟨h', Oth.refl _ _⟩
def IWh (p : Nat) (s : List UInt8) (i : Nat) (m : SV) (e b : Int) (g : Nat) (τ0 : AHeap) (j : Nat) (fr : List AV) (τ : AHeap) : Prop :=
 fr.length = 50 ∧ getSlot fr 0 = .one (.ptr p 0) ∧ getSlot fr 1 = .one (.func g []) ∧ getSlot fr 5 = .one (.int .i64 i) ∧ Rdr τ p s (i + j) m e b ∧ Oth p τ0 τ
theorem run_get {pb : UInt8 → Bool} {s : List UInt8} {i j : Nat} (h : j < (runF pb s i).length) : ∃ c, s[i + j]? = some c ∧ pb c = true ∧ i + j < s.length := by
 unfold runF at h
 have h1 : (s.drop i).takeWhile pb <+: s.drop i := List.takeWhile_prefix _
 have h2 : ((s.drop i).takeWhile pb)[j]? = some ((s.drop i).takeWhile pb)[j] := List.getElem?_eq_getElem h
 have h3 : (s.drop i)[j]? = some ((s.drop i).takeWhile pb)[j] := by
  obtain ⟨t, ht⟩ := h1
  rw [← h2]
  conv => lhs; rw [← ht]
  rw [List.getElem?_append_left h]
 rw [List.getElem?_drop] at h3
 refine ⟨_, h3, ?_, (List.getElem?_eq_some_iff.1 h3).1⟩
 exact List.all_eq_true.1 List.all_takeWhile _ (List.getElem_mem h)
theorem run_stop {pb : UInt8 → Bool} {s : List UInt8} {i : Nat} : (s.length ≤ i + (runF pb s i).length) ∨ ∃ c, s[i + (runF pb s i).length]? = some c ∧ pb c = false := by
 unfold runF
 by_cases h : s.length ≤ i + ((s.drop i).takeWhile pb).length
 ·exact .inl h
 ·right
  have hlt : i + ((s.drop i).takeWhile pb).length < s.length := by omega
  refine ⟨s[i + ((s.drop i).takeWhile pb).length], List.getElem?_eq_getElem hlt, ?_⟩
  have h1 : s.drop i = (s.drop i).takeWhile pb ++ (s.drop i).dropWhile pb := List.takeWhile_append_dropWhile.symm
  have h2 : (s.drop i).dropWhile pb ≠ [] := by
   intro e
   rw [e, List.append_nil] at h1
   have := congrArg List.length h1
   simp at this
   omega
  have h3 := List.head_dropWhile_not (p := pb) (l := s.drop i) h2
  have h4 : (s.drop i)[((s.drop i).takeWhile pb).length]? = ((s.drop i).dropWhile pb).head? := by
   conv => lhs; rw [h1]
   rw [List.getElem?_append_right (by simp)]
   simp
   rw [List.head?_eq_getElem?]
  rw [List.getElem?_drop, List.getElem?_eq_getElem hlt, List.head?_eq_some_head h2] at h4
  rw [Option.some.inj h4]
  simpa using h3
theorem run_while {τ : AHeap} {p g : Nat} {s : List UInt8} {i : Nat} {m : SV} {e b : Int} {pb : UInt8 → Bool} (h : Rdr τ p s i m e b) (hs : s.length ≤ maxElems) (hi : i ≤ s.length)
  (hg : ∀ σ c, lim LxX g [.one (.int .u8 (UInt8.toNat c))] σ = some (.one (.bool (pb c)), σ)) :
  OptP (lim LxX 33 [.one (.ptr p 0), .one (.func g [])] τ) (fun _ v τ' => v = .one (.str (runF pb s i)) ∧ Rdr τ' p s (i + (runF pb s i).length) m e b ∧ Oth p τ τ') := by
 refine lim_code rfl ((LxX_code _).trans codeLWhile) rfl ?_
 unfold BodyP
 have h' := h
 unfold Rdr rcells at h
 have hrl : i + (runF pb s i).length ≤ s.length := by
  have := List.IsPrefix.length_le (List.takeWhile_prefix (p := pb) (l := s.drop i))
  unfold runF
  rw [List.length_drop] at this
  omega
 simp (maxDischargeDepth := 99) [-writeAt, cLWhile, h]
 refine endsi_to 0 (IWh p s i m e b g τ (runF pb s i).length) ?_ ?_
 ·refine endsi_range (runF pb s i).length (IWh p s i m e b g τ) ?_ ?_ ?_
  ·exact ⟨by simp, by simp, by simp, by simp, h', Oth.refl _ _⟩
  ·rintro j fr σ hlt ⟨hlen, f0, f1, f5, hr, ho⟩
   obtain ⟨c, hc, hpc, hjl⟩ := run_get hlt
   have hgc := fun σ => hg σ c
   rw [hpc] at hgc
   have hlti : ((i + j : Nat) : Int) < (s.length : Int) := Int.ofNat_lt.2 hjl
   have hw := wr_next hjl hs
   obtain ⟨σ1, hw1, hr1, ho1⟩ := hr.wAt (i + j + 1)
   unfold Rdr rcells at hr
   have hc' : s[i + j] = c := (List.getElem?_eq_some_iff.1 hc).2
   simp (maxDischargeDepth := 99) [-writeAt, -Int.natCast_add, cLWhile_0, hlen, f0, f1, hr, hlti, hjl, hc, hc', hgc, hw, hw1]
   exact ⟨by simp [hlen], by simp [hlen, f0], by simp [hlen, f1], by simp [hlen, f5], hr1, ho.trans ho1⟩
  ·rintro fr σ ⟨hlen, f0, f1, f5, hr, ho⟩
   have hI : ∀ fr', fr'.length = 50 → getSlot fr' 0 = .one (.ptr p 0) → getSlot fr' 1 = .one (.func g []) → getSlot fr' 5 = .one (.int .i64 i) → IWh p s i m e b g τ (runF pb s i).length fr' σ := fun fr' q1 q2 q3 q4 => ⟨q1, q2, q3, q4, hr, ho⟩
   unfold Rdr rcells at hr
   rcases run_stop (pb := pb) (s := s) (i := i) with hge | ⟨c, hc, hpc⟩
   ·have hn : ¬ ((i + (runF pb s i).length : Nat) : Int) < (s.length : Int) := by omega
    simp (maxDischargeDepth := 99) [-writeAt, -Int.natCast_add, cLWhile_0, hlen, f0, f1, hr, hn]
    exact hI _ (by simp [hlen]) (by simp [hlen, f0]) (by simp [hlen, f1]) (by simp [hlen, f5])
   ·have hgc := fun σ => hg σ c
    rw [hpc] at hgc
    have hjl := (List.getElem?_eq_some_iff.1 hc).1
    have hc' : s[i + (runF pb s i).length] = c := (List.getElem?_eq_some_iff.1 hc).2
    have hlti : ((i + (runF pb s i).length : Nat) : Int) < (s.length : Int) := Int.ofNat_lt.2 hjl
    simp (maxDischargeDepth := 99) [-writeAt, -Int.natCast_add, cLWhile_0, hlen, f0, f1, hr, hlti, hjl, hc, hc', hgc]
    exact hI _ (by simp [hlen]) (by simp [hlen, f0]) (by simp [hlen, f1]) (by simp [hlen, f5])
 ·rintro fr σ ⟨hlen, f0, f1, f5, hr, ho⟩
  have hr' := hr
  unfold Rdr rcells at hr
  have hsl : (s.drop i).take (runF pb s i).length = runF pb s i := by
   have := List.takeWhile_prefix (p := pb) (l := s.drop i)
   exact (List.prefix_iff_eq_take.1 this).symm
  generalize hL : (runF pb s i).length = L at hr hr' hsl hrl ⊢
  have n0 : (0 : Int) ≤ (i : Int) + (L : Int) := by omega
  have nt : ((i : Int) + (L : Int)).toNat = i + L := by omega
  have nle : i ≤ i + L := by omega
  have nsub : i + L - i = L := by omega
  simp (maxDischargeDepth := 99) [-writeAt, hlen, f0, f5, hr, n0, nt, nle, nsub, hrl, hsl]
  exact ⟨hr', ho⟩
end Go.Proofs.YtepankcnleeakaaGreatDoor.Ab
namespace Go.Proofs.YtepankcnleeakaaGreatDoor.Ab
open Go
set_option maxRecDepth 20000
set_option maxHeartbeats 8000000
set_option linter.unusedSimpArgs false
theorem LxX_lower (σ : AHeap) (s : List UInt8) (h : asciiB s = true) (hl : s.length ≤ 1099511627776) : lim LxX 59 [.one (.str s)] σ = some (.one (.str (low s)), σ) := by
 refine (lim_prim (p := pLower) rfl).trans ?_
 have : Nat.ble s.length 1099511627776 = true := Nat.ble_eq_true_of_le hl
 simp only [pLower, h, this, Bool.and_self]
theorem put_ok {τ : AHeap} {id : Nat} {cs cs' vs : List SV} (off : Nat) (h : τ.get id = some ⟨cs, .own⟩) (hs : splice cs off vs = cs') (hl : off + vs.length ≤ cs.length) :
  ∃ τ', writeAt τ id off vs = some τ' ∧ τ'.get id = some ⟨cs', .own⟩ ∧ (∀ j, j ≠ id → τ'.get j = τ.get j) ∧ τ'.size = τ.size := by
 refine ⟨τ.put id ⟨cs', .own⟩, ?_, by simp [AHeap.get_lt h], fun j hj => by rw [AHeap.get_put', if_neg (fun e => hj e.1)], by simp⟩
 unfold writeAt
 rw [h]
 have : Nat.ble (off + vs.length) cs.length = true := Nat.ble_eq_true_of_le hl
 simp only [this, hs]
def WMap (τ : AHeap) (q : Nat) : Prop := ∃ cs c es, τ.get q = some ⟨cs, .map c es⟩ ∧ ∀ x : List UInt8, (x ∈ wordsL ∧ ∃ n e, findE (.str x) es 0 = some (some (n, e)) ∧ e.val = .one (.bool true)) ∨ (x ∉ wordsL ∧ findE (.str x) es 0 = some none)
theorem WMap.stay {τ τ' : AHeap} {q p : Nat} (h : WMap τ q) (ho : Oth p τ τ') (hq : q ≠ p) : WMap τ' q := by
 obtain ⟨cs, c, es, h1, h2⟩ := h
 exact ⟨cs, c, es, by rw [ho.2 q (AHeap.get_lt h1) hq]; exact h1, h2⟩
theorem ld_ascii {s : List UInt8} {i : Nat} : asciiB (runF ldB s i) = true := by
 unfold asciiB
 rw [List.all_eq_true]
 intro b hb
 have := List.all_eq_true.1 (List.all_takeWhile (p := ldB) (l := s.drop i)) b hb
 simp only [ldB, letB, digB, Bool.or_eq_true, Bool.and_eq_true, decide_eq_true_eq] at this
 rw [Nat.blt_eq]
 omega
def nameF (s : List UInt8) (i : Nat) : LTok := if low (runF ldB s i) ∈ wordsL then ⟨2, low (runF ldB s i), 0, i⟩ else ⟨1, runF ldB s i, 0, i⟩
theorem run_len {pb : UInt8 → Bool} (s : List UInt8) (i : Nat) : (runF pb s i).length ≤ s.length := by
 have := List.IsPrefix.length_le (List.takeWhile_prefix (p := pb) (l := s.drop i))
 unfold runF
 rw [List.length_drop] at this
 omega
theorem run_name {τ : AHeap} {p q : Nat} {s : List UInt8} {i : Nat} {e b : Int} (h : Rdr τ p s i (.map q) e b) (hw : WMap τ q) (hqp : q ≠ p) (hs : s.length ≤ maxElems) (hi : i ≤ s.length) :
  OptP (lim LxX 38 [.one (.ptr p 0)] τ) (fun _ v τ' => v = .agg (nameF s i).cells ∧ Rdr τ' p s (i + (runF ldB s i).length) (.map q) e b ∧ Oth p τ τ') := by
 refine lim_code rfl ((LxX_code _).trans codeLName) rfl ?_
 unfold BodyP
 have h' := h
 unfold Rdr rcells at h
 have hpl := AHeap.get_lt h
 have hp0 : ¬ p = τ.size := by omega
 have hp1 : ¬ p = τ.size + 1 := by omega
 obtain ⟨τ1, hτ1⟩ : ∃ τ1, τ1 = ((τ.alloc ⟨[.int .i64 0, .str [], .int .i64 0, .int .i64 0], .own⟩).alloc ⟨[.int .i64 0, .str [], .int .i64 0, .int .i64 0], .own⟩).put (τ.size + 1) ⟨[.int .i64 1, .str [], .int .i64 0, .int .i64 i], .own⟩ := ⟨_, rfl⟩
 have hk1 : Keeps τ τ1 := by rw [hτ1]; exact ((Keeps.refl τ).alloc.alloc).put (by omega)
 have hz1 : τ1.size = τ.size + 2 := by rw [hτ1]; simp
 have hg1 : τ1.get (τ.size + 1) = some ⟨[.int .i64 1, .str [], .int .i64 0, .int .i64 i], .own⟩ := by rw [hτ1]; simp
 have hg0 : τ1.get τ.size = some ⟨[.int .i64 0, .str [], .int .i64 0, .int .i64 0], .own⟩ := by rw [hτ1]; simp
 have hr1 : Rdr τ1 p s i (.map q) e b := by unfold Rdr; rw [hk1.2 p hpl]; exact h'
 have ho1 : Oth p τ τ1 := ⟨hk1.1, fun id h1 _ => hk1.2 id h1⟩
 have hwz : writeAt ((τ.alloc ⟨[.int .i64 0, .str [], .int .i64 0, .int .i64 0], .own⟩).alloc ⟨[.int .i64 0, .str [], .int .i64 0, .int .i64 0], .own⟩) (τ.size + 1) 0 [.int .i64 1, .str [], .int .i64 0, .int .i64 i] = some τ1 := by
  rw [hτ1]
  simp [writeAt, splice]
 have hwh := run_while (g := 58) (pb := ldB) hr1 hs hi eq_name1
 simp (maxDischargeDepth := 99) [-writeAt, cLName, h, hp0, hp1, hwz]
 refine hwh.mono ?_
 rintro v τ2 ⟨rfl, hr2, ho2⟩
 have hg2 : τ2.get (τ.size + 1) = some ⟨[.int .i64 1, .str [], .int .i64 0, .int .i64 i], .own⟩ := by rw [ho2.2 _ (by omega) (fun e => by omega)]; exact hg1
 have hg20 : τ2.get τ.size = some ⟨[.int .i64 0, .str [], .int .i64 0, .int .i64 0], .own⟩ := by rw [ho2.2 _ (by omega) (fun e => by omega)]; exact hg0
 have hlow := fun σ => LxX_lower σ (runF ldB s i) ld_ascii (Nat.le_trans (run_len s i) (Nat.le_trans hs (by decide)))
 obtain ⟨cs, c, es, hm, hfind⟩ := (hw.stay ho1 hqp).stay ho2 hqp
 have hqs : q < τ.size := by obtain ⟨_, _, _, hq, _⟩ := hw; exact AHeap.get_lt hq
 have hz2 := ho2.1
 unfold nameF
 generalize runF ldB s i = x at hr2 hlow ⊢
 obtain ⟨τ3, hτ3⟩ : ∃ τ3, τ3 = τ2.put (τ.size + 1) ⟨[.int .i64 1, .str x, .int .i64 0, .int .i64 i], .own⟩ := ⟨_, rfl⟩
 have hw3 : writeAt τ2 (τ.size + 1) 1 [.str x] = some τ3 := by rw [hτ3]; simp [writeAt, splice, hg2]
 have hl2 := AHeap.get_lt hg2
 have hg3 : τ3.get (τ.size + 1) = some ⟨[.int .i64 1, .str x, .int .i64 0, .int .i64 i], .own⟩ := by rw [hτ3]; simp [hl2]
 have hoth : ∀ id, id ≠ τ.size + 1 → τ3.get id = τ2.get id := fun id hid => by rw [hτ3, AHeap.get_put', if_neg (fun e => hid e.1)]
 have hm3 : τ3.get q = some ⟨cs, .map c es⟩ := by rw [hoth q (by omega)]; exact hm
 have hr3 : Rdr τ3 p s (i + x.length) (.map q) e b := by unfold Rdr; rw [hoth p hp1]; exact hr2
 have hg30 : τ3.get τ.size = some ⟨[.int .i64 0, .str [], .int .i64 0, .int .i64 0], .own⟩ := by rw [hoth _ (by omega)]; exact hg20
 have hz3 : τ3.size = τ2.size := by rw [hτ3]; simp
 have hr3' := hr3
 unfold Rdr rcells at hr3'
 have hsp : ∀ a b c d a' b' c' d' : SV, splice [a, b, c, d] 0 [a', b', c', d'] = [a', b', c', d'] := fun _ _ _ _ _ _ _ _ => rfl
 rcases hfind (low x) with ⟨hin, n, en, hf, hv⟩ | ⟨hin, hf⟩
 ·rw [if_pos hin]
  obtain ⟨τ4, w4, g4, o4, z4⟩ := put_ok (vs := [.int .i64 2]) (cs' := [.int .i64 2, .str x, .int .i64 0, .int .i64 i]) 0 hg3 rfl (by simp)
  obtain ⟨τ5, w5, g5, o5, z5⟩ := put_ok (vs := [.str (low x)]) (cs' := [.int .i64 2, .str (low x), .int .i64 0, .int .i64 i]) 1 g4 rfl (by simp)
  have g50 : τ5.get τ.size = some ⟨[.int .i64 0, .str [], .int .i64 0, .int .i64 0], .own⟩ := by rw [o5 _ (by omega), o4 _ (by omega)]; exact hg30
  obtain ⟨τ6, w6, g6, o6, z6⟩ := put_ok (vs := [.int .i64 2, .str (low x), .int .i64 0, .int .i64 i]) (cs' := [.int .i64 2, .str (low x), .int .i64 0, .int .i64 i]) 0 g50 rfl (by simp)
  have hr6 : Rdr τ6 p s (i + x.length) (.map q) e b := by unfold Rdr; rw [o6 p hp0, o5 p hp1, o4 p hp1]; exact hr3
  have ho6 : Oth p τ τ6 := ⟨by omega, fun id h1 h2 => by rw [o6 id (by omega), o5 id (by omega), o4 id (by omega), hoth id (by omega), ho2.2 id (by omega) h2, hk1.2 id h1]⟩
  simp (maxDischargeDepth := 99) [-writeAt, hw3, hg3, hlow, hr3', hm3, hf, hv, keyIs, okRes, w4, w5, g5, w6, g6, LTok.cells, tokC]
  exact ⟨hr6, ho6⟩
 ·rw [if_neg hin]
  obtain ⟨τ6, w6, g6, o6, z6⟩ := put_ok (vs := [.int .i64 1, .str x, .int .i64 0, .int .i64 i]) (cs' := [.int .i64 1, .str x, .int .i64 0, .int .i64 i]) 0 hg30 rfl (by simp)
  have hr6 : Rdr τ6 p s (i + x.length) (.map q) e b := by unfold Rdr; rw [o6 p hp0]; exact hr3
  have ho6 : Oth p τ τ6 := ⟨by omega, fun id h1 h2 => by rw [o6 id (by omega), hoth id (by omega), ho2.2 id (by omega) h2, hk1.2 id h1]⟩
  simp (maxDischargeDepth := 99) [-writeAt, hw3, hg3, hlow, hr3', hm3, hf, keyIs, okRes, w6, g6, LTok.cells, tokC]
  exact ⟨hr6, ho6⟩
end Go.Proofs.YtepankcnleeakaaGreatDoor.Ab
namespace Go.Proofs.YtepankcnleeakaaGreatDoor.Ab
open Go
set_option maxRecDepth 20000
set_option maxHeartbeats 8000000
set_option linter.unusedSimpArgs false
def ISg (p : Nat) (s : List UInt8) (i : Nat) (m : SV) (q r : Nat) (τ0 : AHeap) (j : Nat) (fr : List AV) (τ : AHeap) : Prop :=
 fr.length = 48 ∧ getSlot fr 0 = .one (.ptr p 0) ∧ getSlot fr 2 = .one (.ptr r 0) ∧ getSlot fr 5 = .one (.slice q 0 1 20 (some 20)) ∧ getSlot fr 6 = .one (.int .i64 20) ∧ getSlot fr 7 = .one (.int .i64 j) ∧
  Rdr τ p s i m 0 0 ∧ τ.get q = some ⟨signsL.map SV.str, .own⟩ ∧ τ.get r = some ⟨[.int .i64 0, .str [], .int .i64 0, .int .i64 0], .own⟩ ∧ Oth p τ0 τ ∧
  signF s i = (signsL.drop j).find? (fun x => x.isPrefixOf (s.drop i))
def PSg (p : Nat) (s : List UInt8) (i : Nat) (m : SV) (τ0 : AHeap) (v : AV) (τ : AHeap) : Prop :=
 Oth p τ0 τ ∧ match signF s i with
  | some x => v = .agg (tokC 6 x 0 i) ∧ Rdr τ p s (i + x.length) m 0 0
  | none => v = .agg (tokC 0 [] 0 0) ∧ Rdr τ p s i m 50 i
theorem signs_len : ∀ x ∈ signsL, x.length ≤ 2 := by decide
theorem run_sign {τ : AHeap} {p : Nat} {s : List UInt8} {i : Nat} {m : SV} (h : Rdr τ p s i m 0 0) (hs : s.length ≤ maxElems) (hi : i ≤ s.length) :
  OptP (lim LxX 42 [.one (.ptr p 0)] τ) (fun _ v τ' => PSg p s i m τ v τ') := by
 refine lim_code rfl ((LxX_code _).trans codeLSign) rfl ?_
 unfold BodyP
 have hpl := AHeap.get_lt h
 have hp0 : ¬ p = τ.size := by omega
 have hp1 : ¬ p = τ.size + 1 := by omega
 obtain ⟨τ1, hτ1⟩ : ∃ τ1, τ1 = (τ.alloc ⟨[.int .i64 0, .str [], .int .i64 0, .int .i64 0], .own⟩).alloc ⟨signsL.map SV.str, .own⟩ := ⟨_, rfl⟩
 have hk1 : Keeps τ τ1 := by rw [hτ1]; exact (Keeps.refl τ).alloc.alloc
 have hg1 : τ1.get (τ.size + 1) = some ⟨signsL.map SV.str, .own⟩ := by rw [hτ1]; simp
 have hg0 : τ1.get τ.size = some ⟨[.int .i64 0, .str [], .int .i64 0, .int .i64 0], .own⟩ := by rw [hτ1]; simp
 have hr1 : Rdr τ1 p s i m 0 0 := by unfold Rdr; rw [hk1.2 p hpl]; exact h
 have ho1 : Oth p τ τ1 := ⟨hk1.1, fun id h1 _ => hk1.2 id h1⟩
 have hcs : [SV.str (bytes [60, 61]), .str (bytes [62, 61]), .str (bytes [33, 61]), .str (bytes [45, 62]), .str (bytes [60]), .str (bytes [62]), .str (bytes [61]), .str (bytes [43]), .str (bytes [45]), .str (bytes [42]), .str (bytes [47]), .str (bytes [37]), .str (bytes [40]), .str (bytes [41]), .str (bytes [44]), .str (bytes [46]), .str (bytes [59]), .str (bytes [91]), .str (bytes [93]), .str (bytes [35])] = signsL.map SV.str := rfl
 simp (maxDischargeDepth := 99) [-writeAt, cLSign, repeatCells, splice, hcs, ← hτ1]
 refine endsi_to 0 (ISg p s i m (τ.size + 1) τ.size τ 20) ?_ ?_
 ·refine endsi_range 20 (ISg p s i m (τ.size + 1) τ.size τ) ?_ ?_ ?_
  ·exact ⟨by simp, by simp, by simp, by simp, by simp, by simp, hr1, hg1, hg0, ho1, rfl⟩
  ·rintro j fr σ hlt ⟨hlen, f0, f2, f5, f6, f7, hr, hq, hz, ho, hF⟩
   have hjl : j < signsL.length := hlt
   obtain ⟨x, hx⟩ : ∃ x, signsL[j] = x := ⟨_, rfl⟩
   rw [List.drop_eq_getElem_cons hjl, hx, List.find?_cons] at hF
   have hxl := signs_len x (by rw [← hx]; exact List.getElem_mem hjl)
   have hcell : (signsL.map SV.str)[j]? = some (.str x) := by rw [List.getElem?_map, List.getElem?_eq_getElem hjl, hx]; rfl
   have hlti : (j : Int) < 20 := by omega
   have hpre := fun σ => eq_prefix σ (s.drop i) x
   have hr' := hr
   unfold Rdr rcells at hr
   have hwj := wr_next hlt (by decide)
   have hq' := hq
   generalize signsL.map SV.str = cs at hq hcell
   have hle : (i : Int) ≤ (s.length : Int) := by omega
   have hsub : (s.drop i).take (s.length - i) = s.drop i := List.take_of_length_le (by simp)
   cases hb : x.isPrefixOf (s.drop i) with
   | true =>
    rw [hb] at hF hpre
    simp only at hF
    have hil : i + x.length ≤ s.length := by
     have := List.IsPrefix.length_le (List.isPrefixOf_iff_prefix.1 hb)
     rw [List.length_drop] at this
     omega
    obtain ⟨σ2, w2, hr2, ho2⟩ := hr'.wAt (i + x.length)
    have hz2 : σ2.get τ.size = some ⟨[.int .i64 0, .str [], .int .i64 0, .int .i64 0], .own⟩ := by rw [ho2.2 _ (AHeap.get_lt hz) (fun e => hp0 e.symm)]; exact hz
    obtain ⟨σ3, w3, g3, o3, z3⟩ := put_ok (vs := [.int .i64 6, .str x, .int .i64 0, .int .i64 i]) (cs' := [.int .i64 6, .str x, .int .i64 0, .int .i64 i]) 0 hz2 rfl (by simp)
    have hr3 : Rdr σ3 p s (i + x.length) m 0 0 := by unfold Rdr; rw [o3 p hp0]; exact hr2
    have ho3 : Oth p τ σ3 := ⟨by have := (ho.trans ho2).1; omega, fun id h1 h2 => (o3 id (by omega)).trans ((ho.trans ho2).2 id h1 h2)⟩
    have hwi : wr .i64 ((i : Int) + (x.length : Int)) = ((i + x.length : Nat) : Int) := by unfold maxElems at hs; rw [wr64 (by omega) (by omega)]; omega
    have hwk : wr .i64 (((i + x.length : Nat) : Int) - (x.length : Int)) = (i : Int) := by unfold maxElems at hs; rw [wr64 (by omega) (by omega)]; omega
    unfold Rdr rcells at hr2
    simp (maxDischargeDepth := 99) [-writeAt, -Int.natCast_add, cLSign_0, hlen, f0, f2, f5, f6, f7, hr, hq, hcell, hlt, hlti, hle, hi, hsub, hpre, hwi, w2, hr2, hwk, w3, g3]
    exact ⟨ho3, by rw [hF]; exact ⟨rfl, hr3⟩⟩
   | false =>
    rw [hb] at hF hpre
    simp only at hF
    simp (maxDischargeDepth := 99) [-writeAt, -Int.natCast_add, cLSign_0, hlen, f0, f2, f5, f6, f7, hr, hq, hcell, hlt, hlti, hle, hi, hsub, hpre, hwj]
    exact ⟨by simp [hlen], by simp [hlen, f0], by simp [hlen, f2], by simp [hlen, f5], by simp [hlen, f6], by simp [hlen], hr', hq', hz, ho, hF⟩
  ·rintro fr σ ⟨hlen, f0, f2, f5, f6, f7, hr, hq, hz, ho, hF⟩
   simp (maxDischargeDepth := 99) [-writeAt, cLSign_0, hlen, f0, f6, f7]
   exact ⟨by simp [hlen], by simp [hlen, f0], by simp [hlen, f2], by simp [hlen, f5], by simp [hlen, f6], by simp [hlen, f7], hr, hq, hz, ho, hF⟩
 ·rintro fr σ ⟨hlen, f0, f2, f5, f6, f7, hr, hq, hz, ho, hF⟩
  have hF : signF s i = none := hF
  have hfl := run_fail hr 50 i
  unfold Rdr rcells at hr
  simp (maxDischargeDepth := 99) [-writeAt, hlen, f0, f2, hr]
  refine hfl.mono ?_
  rintro v σ2 ⟨rfl, hr2, ho2⟩
  have hz2 : σ2.get τ.size = some ⟨[.int .i64 0, .str [], .int .i64 0, .int .i64 0], .own⟩ := by rw [ho2.2 _ (AHeap.get_lt hz) (fun e => hp0 e.symm)]; exact hz
  obtain ⟨σ3, w3, g3, o3, z3⟩ := put_ok (vs := [.int .i64 0, .str [], .int .i64 0, .int .i64 0]) (cs' := [.int .i64 0, .str [], .int .i64 0, .int .i64 0]) 0 hz2 rfl (by simp)
  rw [if_pos rfl, if_pos rfl] at hr2
  have hr3 : Rdr σ3 p s i m 50 i := by unfold Rdr; rw [o3 p hp0]; exact hr2
  have ho3 : Oth p τ σ3 := ⟨by have := (ho.trans ho2).1; omega, fun id h1 h2 => (o3 id (by omega)).trans ((ho.trans ho2).2 id h1 h2)⟩
  simp (maxDischargeDepth := 99) [-writeAt, hlen, f0, f2, w3, g3]
  exact ⟨ho3, by rw [hF]; exact ⟨rfl, hr3⟩⟩
def ucells : List SV := (unitsL.map fun u => [SV.str u.1, SV.int .i64 (u.2 : Nat)]).flatten
def IUn (p : Nat) (s : List UInt8) (i : Nat) (m : SV) (e b : Int) (q : Nat) (τ0 : AHeap) (j : Nat) (fr : List AV) (τ : AHeap) : Prop :=
 fr.length = 53 ∧ getSlot fr 0 = .one (.ptr p 0) ∧ getSlot fr 11 = .one (.slice q 0 2 5 (some 5)) ∧ getSlot fr 12 = .one (.int .i64 5) ∧ getSlot fr 13 = .one (.int .i64 j) ∧
  Rdr τ p s i m e b ∧ τ.get q = some ⟨ucells, .own⟩ ∧ Oth p τ0 τ ∧ τ0.size ≤ q ∧ unitF s i = unitOf s i (unitsL.drop j)
theorem units_len : ∀ u ∈ unitsL, u.1.length ≤ 2 := by decide
theorem unit_cell {j : Nat} (hjl : j < unitsL.length) {x : List UInt8} {n : Nat} (hx : unitsL[j] = (x, n)) : (ucells.drop (j * 2)).take 2 = [.str x, .int .i64 (n : Nat)] := by
 have h : j = 0 ∨ j = 1 ∨ j = 2 ∨ j = 3 ∨ j = 4 := by
  have : unitsL.length = 5 := rfl
  omega
 rcases h with rfl | rfl | rfl | rfl | rfl <;> (cases hx; rfl)
theorem uc_len {j : Nat} (h : j < 5) : j * 2 + 2 ≤ ucells.length := by
 have : ucells.length = 10 := rfl
 omega
theorem run_unit {τ : AHeap} {p : Nat} {s : List UInt8} {i : Nat} {m : SV} {e b : Int} (h : Rdr τ p s i m e b) (hs : s.length ≤ maxElems) (hi : i ≤ s.length) :
  OptP (lim LxX 61 [.one (.ptr p 0)] τ) (fun _ v τ' => v = .tup [.one (.int .i64 ((unitF s i).1 : Nat)), .one (.int .i64 ((unitF s i).2 : Nat))] ∧ Rdr τ' p s i m e b ∧ Oth p τ τ') := by
 refine lim_code rfl ((LxX_code _).trans codeLUnit) rfl ?_
 unfold BodyP
 have hpl := AHeap.get_lt h
 have hp0 : ¬ p = τ.size := by omega
 obtain ⟨τ1, hτ1⟩ : ∃ τ1, τ1 = τ.alloc ⟨ucells, .own⟩ := ⟨_, rfl⟩
 have hk1 : Keeps τ τ1 := by rw [hτ1]; exact (Keeps.refl τ).alloc
 have hg1 : τ1.get τ.size = some ⟨ucells, .own⟩ := by rw [hτ1]; simp
 have hr1 : Rdr τ1 p s i m e b := by unfold Rdr; rw [hk1.2 p hpl]; exact h
 have ho1 : Oth p τ τ1 := ⟨hk1.1, fun id h1 _ => hk1.2 id h1⟩
 have hcs : [SV.str (bytes [109, 115]), .int .i64 1, .str (bytes [115]), .int .i64 1000, .str (bytes [109]), .int .i64 60000, .str (bytes [104]), .int .i64 3600000, .str (bytes [100]), .int .i64 86400000] = ucells := rfl
 simp (maxDischargeDepth := 99) [-writeAt, cLUnit, repeatCells, splice, hcs, ← hτ1]
 refine endsi_to 0 (IUn p s i m e b τ.size τ 5) ?_ ?_
 ·refine endsi_range 5 (IUn p s i m e b τ.size τ) ?_ ?_ ?_
  ·exact ⟨by simp, by simp, by simp, by simp, by simp, hr1, hg1, ho1, Nat.le_refl _, rfl⟩
  ·rintro j fr σ hlt ⟨hlen, f0, f11, f12, f13, hr, hq, ho, hqz, hF⟩
   have hjl : j < unitsL.length := hlt
   obtain ⟨⟨x, n⟩, hx⟩ : ∃ x, unitsL[j] = x := ⟨_, rfl⟩
   rw [List.drop_eq_getElem_cons hjl, hx, unitOf] at hF
   have hxl := units_len (x, n) (by rw [← hx]; exact List.getElem_mem hjl)
   have hxl : x.length ≤ 2 := hxl
   have hcell := unit_cell hjl hx
   have hlti : (j : Int) < 5 := Int.ofNat_lt.2 hlt
   have hpre := fun σ => eq_prefix σ (s.drop i) x
   have hle : (i : Int) ≤ (s.length : Int) := Int.ofNat_le.2 hi
   have hsub : (s.drop i).take (s.length - i) = s.drop i := List.take_of_length_le (by simp)
   have hwj := wr_next hlt (by decide)
   have hps := AHeap.get_lt hr
   have hps1 : ¬ p = σ.size := Nat.ne_of_lt hps
   have hjj := uc_len hlt
   obtain ⟨σ1, hσ1⟩ : ∃ σ1, σ1 = (σ.alloc ⟨[.str [], .int .i64 0], .own⟩).put σ.size ⟨[.str x, .int .i64 (n : Nat)], .own⟩ := ⟨_, rfl⟩
   have hks : Keeps σ σ1 := by rw [hσ1]; exact (Keeps.refl σ).alloc.put (Nat.le_refl _)
   have hgs : σ1.get σ.size = some ⟨[.str x, .int .i64 (n : Nat)], .own⟩ := by rw [hσ1]; simp
   have hws : writeAt (σ.alloc ⟨[.str [], .int .i64 0], .own⟩) σ.size 0 [.str x, .int .i64 (n : Nat)] = some σ1 := by rw [hσ1]; simp [writeAt, splice]
   have hrs : Rdr σ1 p s i m e b := by unfold Rdr; rw [hks.2 p hps]; exact hr
   have hos : Oth p τ σ1 := ho.trans ⟨hks.1, fun id h1 _ => hks.2 id h1⟩
   have hqs : σ1.get τ.size = some ⟨ucells, .own⟩ := by rw [hks.2 τ.size (AHeap.get_lt hq)]; exact hq
   have hlook := eq_look σ1 p s i x.length m e b hrs hs hi (Nat.le_trans hxl (by decide))
   have hlet := fun σ => eq_letter σ (lookF s i x.length)
   have hdig := fun σ => eq_digit σ (lookF s i x.length)
   have hrs' := hrs
   unfold Rdr rcells at hrs'
   have hI : ∀ fr', fr'.length = 53 → getSlot fr' 0 = .one (.ptr p 0) → getSlot fr' 11 = .one (.slice τ.size 0 2 5 (some 5)) → getSlot fr' 12 = .one (.int .i64 5) → getSlot fr' 13 = .one (.int .i64 ((j + 1 : Nat) : Int)) →
     unitF s i = unitOf s i (unitsL.drop (j + 1)) → IUn p s i m e b τ.size τ (j + 1) fr' σ1 := fun fr' a1 a2 a3 a4 a5 a6 => ⟨a1, a2, a3, a4, a5, hrs, hqs, hos, hqz, a6⟩
   generalize hc : lookF s i x.length = c at hlook hlet hdig hF
   generalize ucells = cs at hq hcell hjj
   cases hb : x.isPrefixOf (s.drop i) with
   | false =>
    rw [hb] at hF hpre
    simp (maxDischargeDepth := 99) [-writeAt, -Int.natCast_add, cLUnit_0, hlen, f0, f11, f12, f13, hq, hcell, hjj, hlt, hlti, hws, hgs, hrs', hle, hi, hsub, hpre, hwj]
    exact hI _ (by simp [hlen]) (by simp [hlen, f0]) (by simp [hlen, f11]) (by simp [hlen, f12]) (by simp [hlen]) (by simpa using hF)
   | true =>
    rw [hb] at hF hpre
    cases hb1 : letB c with
    | true =>
     rw [hb1] at hF hlet
     simp (maxDischargeDepth := 99) [-writeAt, -Int.natCast_add, cLUnit_0, hlen, f0, f11, f12, f13, hq, hcell, hjj, hlt, hlti, hws, hgs, hrs', hle, hi, hsub, hpre, hwj, hlook, hlet]
     exact hI _ (by simp [hlen]) (by simp [hlen, f0]) (by simp [hlen, f11]) (by simp [hlen, f12]) (by simp [hlen]) (by simpa using hF)
    | false =>
     rw [hb1] at hF hlet
     cases hb2 : digB c with
     | true =>
      rw [hb2] at hF hdig
      simp (maxDischargeDepth := 99) [-writeAt, -Int.natCast_add, cLUnit_0, hlen, f0, f11, f12, f13, hq, hcell, hjj, hlt, hlti, hws, hgs, hrs', hle, hi, hsub, hpre, hwj, hlook, hlet, hdig]
      exact hI _ (by simp [hlen]) (by simp [hlen, f0]) (by simp [hlen, f11]) (by simp [hlen, f12]) (by simp [hlen]) (by simpa using hF)
     | false =>
      rw [hb2] at hF hdig
      have hF : unitF s i = (n, x.length) := by simpa using hF
      rw [hF]
      simp (maxDischargeDepth := 99) [-writeAt, -Int.natCast_add, cLUnit_0, hlen, f0, f11, f12, f13, hq, hcell, hjj, hlt, hlti, hws, hgs, hrs', hle, hi, hsub, hpre, hwj, hlook, hlet, hdig]
      exact ⟨hrs, hos⟩
  ·rintro fr σ ⟨hlen, f0, f11, f12, f13, hr, hq, ho, hqz, hF⟩
   simp (maxDischargeDepth := 99) [-writeAt, cLUnit_0, hlen, f0, f12, f13]
   exact ⟨by simp [hlen], by simp [hlen, f0], by simp [hlen, f11], by simp [hlen, f12], by simp [hlen, f13], hr, hq, ho, hqz, hF⟩
 ·rintro fr σ ⟨hlen, f0, f11, f12, f13, hr, hq, ho, hqz, hF⟩
  have hF : unitF s i = (0, 0) := hF
  rw [hF]
  simp (maxDischargeDepth := 99) [-writeAt, hlen]
  exact ⟨hr, ho⟩
end Go.Proofs.YtepankcnleeakaaGreatDoor.Ab
namespace Go.Proofs.YtepankcnleeakaaGreatDoor.Ab
open Go
set_option maxRecDepth 20000
set_option maxHeartbeats 8000000
set_option linter.unusedSimpArgs false
def ents : List (List UInt8) → Nat → List Ent
 | [], _ => []
 | w :: l, n => ⟨n, .str w, .one (.bool true)⟩ :: ents l (n + 1)
theorem ents_snoc (w : List UInt8) : ∀ (l : List (List UInt8)) (n : Nat), ents (l ++ [w]) n = ents l n ++ [⟨n + l.length, .str w, .one (.bool true)⟩]
 | [], n => rfl
 | x :: l, n => by
  simp only [List.cons_append, ents, ents_snoc w l (n + 1), List.length_cons]
  rw [show n + 1 + l.length = n + (l.length + 1) by omega]
theorem find_ents (x : List UInt8) : ∀ (l : List (List UInt8)) (n i : Nat), (x ∈ l ∧ ∃ k e, findE (.str x) (ents l n) i = some (some (k, e)) ∧ e.val = .one (.bool true)) ∨ (x ∉ l ∧ findE (.str x) (ents l n) i = some none)
 | [], n, i => .inr ⟨by simp, rfl⟩
 | w :: l, n, i => by
  by_cases h : x = w
  ·subst h
   left
   refine ⟨by simp, i, ⟨n, .str x, .one (.bool true)⟩, ?_, rfl⟩
   simp only [ents, findE, keyEq, beqL_refl]
  ·have hb : beqL x w = false := by rw [beqL_iff]; exact decide_eq_false h
   have hf : findE (.str x) (ents (w :: l) n) i = findE (.str x) (ents l (n + 1)) (i + 1) := by simp only [ents, findE, keyEq, hb]
   rw [hf]
   rcases find_ents x l (n + 1) (i + 1) with ⟨h1, h2⟩ | ⟨h1, h2⟩
   ·exact .inl ⟨List.mem_cons_of_mem _ h1, h2⟩
   ·exact .inr ⟨by simp [h, h1], h2⟩
theorem wmap_ents {τ : AHeap} {q c : Nat} {cs : List SV} (h : τ.get q = some ⟨cs, .map c (ents wordsL 0)⟩) : WMap τ q := ⟨cs, c, _, h, fun x => find_ents x wordsL 0 0⟩
theorem words_nodup : wordsL.Nodup := by decide +kernel
theorem word_new {j : Nat} (h : j < wordsL.length) : wordsL[j] ∉ wordsL.take j := by
 intro hm
 obtain ⟨k, hk, he⟩ := List.getElem_of_mem hm
 rw [List.length_take] at hk
 rw [List.getElem_take] at he
 exact List.pairwise_iff_getElem.1 words_nodup k j (by omega) h (by omega) he
def IMp (p q r : Nat) (s : List UInt8) (j : Nat) (fr : List AV) (τ : AHeap) : Prop :=
 fr.length = 52 ∧ getSlot fr 5 = .one (.ptr p 0) ∧ getSlot fr 15 = .one (.slice r 0 1 58 none) ∧ getSlot fr 16 = .one (.int .i64 58) ∧ getSlot fr 17 = .one (.int .i64 j) ∧
  Rdr τ p s 0 (.map q) 0 0 ∧ τ.get r = some ⟨wordsL.map SV.str, .own⟩ ∧ τ.get q = some ⟨[], .map j (ents (wordsL.take j) 0)⟩ ∧ p ≠ q ∧ r ≠ q
theorem LxX_words (σ : AHeap) : lim LxX 8 [] σ = some (.one (.slice σ.size 0 1 58 none), σ.alloc ⟨wordsL.map SV.str, .own⟩) := (lim_prim (p := pWords) rfl).trans rfl
theorem step_map {p q r : Nat} {s : List UInt8} {j : Nat} {fr : List AV} {τ : AHeap} (hlt : j < 58) (hI : IMp p q r s j fr τ) (E : KE) (R : KN) :
  EndsI .go (lim LxX) cLLex_0 fr τ (fun _ fr τ => IMp p q r s (j + 1) fr τ) E R := by
 obtain ⟨hlen, f5, f15, f16, f17, hr, hw, hq, hpq, hrq⟩ := hI
 have hjl : j < wordsL.length := hlt
 obtain ⟨x, hx⟩ : ∃ x, wordsL[j] = x := ⟨_, rfl⟩
 have hcell : (wordsL.map SV.str)[j]? = some (.str x) := by rw [List.getElem?_map, List.getElem?_eq_getElem hjl, hx]; rfl
 have hnew : x ∉ wordsL.take j := by rw [← hx]; exact word_new hjl
 have hf : findE (.str x) (ents (wordsL.take j) 0) 0 = some none := by
  rcases find_ents x (wordsL.take j) 0 0 with ⟨h1, _⟩ | ⟨_, h2⟩
  ·exact absurd h1 hnew
  ·exact h2
 have hsn : ents (wordsL.take j) 0 ++ [⟨j, .str x, .one (.bool true)⟩] = ents (wordsL.take (j + 1)) 0 := by
  rw [List.take_succ_eq_append_getElem hjl, hx, ents_snoc, List.length_take, Nat.min_eq_left (by omega), Nat.zero_add]
 have hql := AHeap.get_lt hq
 have hwj := wr_next hlt (by decide)
 have hlti : (j : Int) < 58 := Int.ofNat_lt.2 hlt
 have hr' := hr
 unfold Rdr rcells at hr
 have hput : (τ.put q ⟨[], .map (j + 1) (ents (wordsL.take (j + 1)) 0)⟩).get q = some ⟨[], .map (j + 1) (ents (wordsL.take (j + 1)) 0)⟩ := by simp [hql]
 have hp2 : (τ.put q ⟨[], .map (j + 1) (ents (wordsL.take (j + 1)) 0)⟩).get p = τ.get p := by rw [AHeap.get_put', if_neg (fun e => hpq e.1)]
 have hr2 : (τ.put q ⟨[], .map (j + 1) (ents (wordsL.take (j + 1)) 0)⟩).get r = τ.get r := by rw [AHeap.get_put', if_neg (fun e => hrq e.1)]
 have hw' := hw
 generalize wordsL.map SV.str = ws at hw hcell
 generalize hes : ents (wordsL.take (j + 1)) 0 = es2 at hsn hput hp2 hr2
 generalize ents (wordsL.take j) 0 = es1 at hf hsn hq
 simp (maxDischargeDepth := 99) [-writeAt, cLLex_0, hlen, f5, f15, f16, f17, hlt, hlti, hw, hcell, hr, hq, keyIs, AV.plain, hf, hwj, hsn]
 exact ⟨by simp [hlen], by simp [hlen, f5], by simp [hlen, f15], by simp [hlen, f16], by simp [hlen], by unfold Rdr; rw [hp2]; exact hr', by rw [hr2]; exact hw', by rw [hes]; exact hput, hpq, hrq⟩
end Go.Proofs.YtepankcnleeakaaGreatDoor.Ab
