/- Several of my texts in one: LxR1, LxR2, LxR3, LxR4, LxR5, LxR6, LxR7, LxR8, LxR9. -/
import Derived.Test.YtepankcnleeakaaGreatDoorLitLx5
import Derived.Test.YtepankcnleeakaaGreatDoorLxVA
import Derived.Test.YtepankcnleeakaaGreatDoorLxLA
namespace Go.Proofs.YtepankcnleeakaaGreatDoor.Ab
open Go
set_option maxRecDepth 20000
set_option maxHeartbeats 8000000
set_option linter.unusedSimpArgs false
set_option linter.unusedVariables false
def ltRd : List Nat := [79, 80, 77, 78, 81, 82, 108, 107, 83, 84, 55, 54, 20, 11, 29, 30, 53, 52, 51, 76]
def ltHint (f : Nat) : Hint := match ltRd.any (Nat.beq f), Nat.beq f 31 with
 | true, _ => .rd
 | _, true => .mv
 | _, _ => .no
noncomputable def LxT : Ctx := ⟨codeOf, primAt [], ltHint⟩
theorem LxT_good : LxT.Good Tryz.prog where
 code := fun f F h => codeOf_good h
 prim := fun f p h => primAt_ok (l := []) (fun g p hm => by simp at hm) f p h
theorem LxT_code (f : Nat) : LxT.code f = codeOf f := by kernel_rfl
theorem eq_rletter (σ : AHeap) (c : UInt8) : lim LxT 79 [.one (.int .u8 c.toNat)] σ = some (.one (.bool (letB c)), σ) := by
 refine lim_rd (args' := [.one (.int .u8 c.toNat)]) (ids := [] ++ []) rfl ((LxT_code _).trans codeRLetter) rfl rfl ?_ rfl
 unfold BodyP letB
 by_cases h1 : 97 ≤ c.toNat
 ·have h1' : (97 : Int) ≤ (c.toNat : Int) := by omega
  by_cases h2 : c.toNat ≤ 122
  ·have h2' : (c.toNat : Int) ≤ 122 := by omega
   simp (maxDischargeDepth := 99) [cRLetter, h1, h1', h2, h2']
  ·have h2' : ¬ (c.toNat : Int) ≤ 122 := by omega
   have h3' : ¬ (c.toNat : Int) ≤ 90 := by omega
   have h3 : ¬ c.toNat ≤ 90 := by omega
   have h4 : (65 : Int) ≤ (c.toNat : Int) := by omega
   have h5 : ¬ (c.toNat : Int) = 95 := by omega
   have h6 : ¬ c.toNat = 95 := by omega
   simp (maxDischargeDepth := 99) [cRLetter, h1, h1', h2, h2', h3, h3', h4, h5, h6]
 ·have h1' : ¬ (97 : Int) ≤ (c.toNat : Int) := by omega
  have h5 : (c.toNat : Int) = 95 ↔ c.toNat = 95 := by omega
  by_cases h2 : 65 ≤ c.toNat
  ·have h2' : (65 : Int) ≤ (c.toNat : Int) := by omega
   by_cases h3 : c.toNat ≤ 90
   ·have h3' : (c.toNat : Int) ≤ 90 := by omega
    simp (maxDischargeDepth := 99) [cRLetter, h1, h1', h2, h2', h3, h3']
   ·have h3' : ¬ (c.toNat : Int) ≤ 90 := by omega
    simp (maxDischargeDepth := 99) [cRLetter, h1, h1', h2, h2', h3, h3', h5]
  ·have h2' : ¬ (65 : Int) ≤ (c.toNat : Int) := by omega
   simp (maxDischargeDepth := 99) [cRLetter, h1, h1', h2, h2', h5]
theorem eq_rdigit (σ : AHeap) (c : UInt8) : lim LxT 80 [.one (.int .u8 c.toNat)] σ = some (.one (.bool (digB c)), σ) := by
 refine lim_rd (args' := [.one (.int .u8 c.toNat)]) (ids := [] ++ []) rfl ((LxT_code _).trans codeRDigit) rfl rfl ?_ rfl
 unfold BodyP digB
 by_cases h1 : 48 ≤ c.toNat
 ·have h1' : (48 : Int) ≤ (c.toNat : Int) := by omega
  by_cases h2 : c.toNat ≤ 57
  ·have h2' : (c.toNat : Int) ≤ 57 := by omega
   simp (maxDischargeDepth := 99) [cRDigit, h1, h1', h2, h2']
  ·have h2' : ¬ (c.toNat : Int) ≤ 57 := by omega
   simp (maxDischargeDepth := 99) [cRDigit, h1, h1', h2, h2']
 ·have h1' : ¬ (48 : Int) ≤ (c.toNat : Int) := by omega
  simp (maxDischargeDepth := 99) [cRDigit, h1, h1']
theorem pre_take (s x : List UInt8) : x.isPrefixOf s = (decide (x.length ≤ s.length) && decide (s.take x.length = x)) := by
 rw [Bool.eq_iff_iff, List.isPrefixOf_iff_prefix, List.prefix_iff_eq_take]
 simp only [Bool.and_eq_true, decide_eq_true_eq]
 constructor
 ·intro h
  refine ⟨?_, h.symm⟩
  have := congrArg List.length h
  simp at this
  omega
 ·intro h; exact h.2.symm
theorem eq_begins (σ : AHeap) (s x : List UInt8) : lim LxT 77 [.one (.str s), .one (.str x)] σ = some (.one (.bool (x.isPrefixOf s)), σ) := by
 refine lim_rd (args' := [.one (.str s), .one (.str x)]) (ids := [] ++ ([] ++ [])) rfl ((LxT_code _).trans codeRBegins) rfl rfl ?_ rfl
 unfold BodyP
 rw [pre_take s x]
 by_cases h : x.length ≤ s.length
 ·have h' : (x.length : Int) ≤ (s.length : Int) := by omega
  simp (maxDischargeDepth := 99) [cRBegins, h, h', sbin, beqL_iff]
 ·have h' : ¬ (x.length : Int) ≤ (s.length : Int) := by omega
  simp (maxDischargeDepth := 99) [cRBegins, h, h']
def foundI : Option Nat → Int
 | some k => k
 | none => -1
def IFd (s t : List UInt8) (i : Nat) (fr : List AV) (τ : AHeap) : Prop :=
 fr.length = 25 ∧ getSlot fr 0 = .one (.str s) ∧ getSlot fr 1 = .one (.str t) ∧ getSlot fr 5 = .one (.int .i64 i) ∧ findF t s (s.length + 1) 0 = findF t s (s.length + 1 - i) i
theorem eq_find (σ : AHeap) (s t : List UInt8) (ht : t ≠ []) (hs : s.length ≤ 1099511627776) (htl : t.length ≤ 1000) : lim LxT 78 [.one (.str s), .one (.str t)] σ = some (.one (.int .i64 (foundI (findF t s (s.length + 1) 0))), σ) := by
 refine lim_rd (args' := [.one (.str s), .one (.str t)]) (ids := [] ++ ([] ++ [])) rfl ((LxT_code _).trans codeRFind) rfl rfl ?_ rfl
 unfold BodyP
 obtain ⟨Z, hZ⟩ : ∃ Z, foundI (findF t s (s.length + 1) 0) = Z := ⟨_, rfl⟩
 rw [hZ]
 have htp : 0 < t.length := List.length_pos_iff.2 ht
 simp (maxDischargeDepth := 99) [cRFind]
 refine endsi_to 0 (fun fr τ => fr.length = 25 ∧ Z = -1) ?_ ?_
 ·refine endsi_range (s.length + 1 - t.length) (IFd s t) ?_ ?_ ?_
  ·exact ⟨by simp, by simp, by simp, by simp, rfl⟩
  ·rintro i fr τ hlt ⟨hlen, f0, f1, f5, hf⟩
   have e1 : wr .i64 ((i : Int) + t.length) = ((i + t.length : Nat) : Int) := by rw [wr64 (by omega) (by omega)]; omega
   have e2 : wr .i64 ((i : Int) + 1) = ((i + 1 : Nat) : Int) := by rw [wr64 (by omega) (by omega)]; omega
   have h1 : ((i + t.length : Nat) : Int) ≤ (s.length : Int) := by omega
   have h1n : i + t.length ≤ s.length := by omega
   have h2 : (i : Int) ≤ ((i + t.length : Nat) : Int) := by omega
   have h2n : i ≤ i + t.length := by omega
   have h3 : i + t.length - i = t.length := by omega
   have hp := pre_take (s.drop i) t
   have hlen2 : t.length ≤ (s.drop i).length := by rw [List.length_drop]; omega
   rw [decide_eq_true hlen2, Bool.true_and] at hp
   have hstep : findF t s (s.length + 1 - i) i = if t.isPrefixOf (s.drop i) then some i else findF t s (s.length + 1 - (i + 1)) (i + 1) := by
    rw [show s.length + 1 - i = (s.length + 1 - (i + 1)) + 1 by omega, findF]
   by_cases hb : (s.drop i).take t.length = t
   ·rw [decide_eq_true hb] at hp
    rw [hp, if_pos rfl] at hstep
    have hZi : Z = i := by rw [← hZ, hf, hstep]; rfl
    simp (maxDischargeDepth := 99) [-Int.natCast_add, cRFind_0, hlen, f0, f1, f5, e1, h1, h1n, h2, h2n, h3, sbin, hb, beqL_refl, hZi]
   ·have hbb : beqL ((s.drop i).take t.length) t = false := by
     cases h : beqL ((s.drop i).take t.length) t with
     | false => rfl
     | true => rw [beqL_iff] at h; exact absurd (by simpa using h) hb
    rw [decide_eq_false hb] at hp
    rw [hp] at hstep
    simp only [Bool.false_eq_true, if_false] at hstep
    rw [hstep] at hf
    simp (maxDischargeDepth := 99) [-Int.natCast_add, cRFind_0, hlen, f0, f1, f5, e1, e2, h1, h1n, h2, h2n, h3, sbin, hbb]
    exact ⟨by simp [hlen], by simp [hlen, f0], by simp [hlen, f1], by simp [hlen], hf⟩
  ·rintro fr τ ⟨hlen, f0, f1, f5, hf⟩
   have e1 : wr .i64 (((s.length + 1 - t.length : Nat) : Int) + t.length) = ((s.length + 1 - t.length + t.length : Nat) : Int) := by rw [wr64 (by omega) (by omega)]; omega
   have h1 : ¬ ((s.length + 1 - t.length + t.length : Nat) : Int) ≤ (s.length : Int) := by omega
   have hn : ∀ f i, s.length + 1 ≤ i + t.length → findF t s f i = none := by
    intro f
    induction f with
    | zero => intro i _; rfl
    | succ f ih =>
     intro i hi
     rw [findF, ih (i + 1) (by omega)]
     have hp := pre_take (s.drop i) t
     rw [decide_eq_false (by rw [List.length_drop]; omega), Bool.false_and] at hp
     rw [hp]
     rfl
   have hx := hn (s.length + 1 - (s.length + 1 - t.length)) (s.length + 1 - t.length) (by omega)
   rw [hx] at hf
   rw [hf] at hZ
   simp (maxDischargeDepth := 99) [-Int.natCast_add, cRFind_0, hlen, f0, f1, f5, e1, h1]
   exact hZ.symm
 ·rintro fr τ ⟨hlen, rfl⟩
  simp (maxDischargeDepth := 99) [hlen]
end Go.Proofs.YtepankcnleeakaaGreatDoor.Ab
namespace Go.Proofs.YtepankcnleeakaaGreatDoor.Ab
open Go
set_option maxRecDepth 20000
set_option maxHeartbeats 8000000
set_option linter.unusedSimpArgs false
set_option linter.unusedVariables false
theorem unbytes_cells : ∀ l : List UInt8, unbytes (l.map byteCell) = some l
 | [] => rfl
 | c :: l => by
  rw [List.map_cons]
  unfold byteCell unbytes
  rw [show (l.map fun b => SV.int .u8 b.toNat) = l.map byteCell from rfl, unbytes_cells l]
  simp
theorem out_bytes {b : Nat} {τ : AHeap} {sl : AV} {l : List UInt8} {n : Nat} (h : OutSl b τ 1 sl (l.map byteCell) n) : isStr sl = false ∧ srcLen sl = some n ∧ srcCells τ 1 n sl = some (l.map byteCell) := by
 have hl := h.1
 rw [List.length_map, Nat.mul_one] at hl
 rcases h.2 with ⟨rfl, rfl⟩ | ⟨q, rfl, h0, _, hg⟩
 ·rw [List.length_eq_zero_iff.1 hl]
  exact ⟨rfl, rfl, rfl⟩
 ·refine ⟨rfl, rfl, ?_⟩
  have e1 : (Nat.beq 1 1 && Nat.ble n n) = true := by rw [Nat.ble_eq_true_of_le (Nat.le_refl n)]; rfl
  have e2 : Nat.ble (0 + n * 1) (l.map byteCell).length = true := Nat.ble_eq_true_of_le (by rw [List.length_map]; omega)
  simp only [srcCells, hg, e1, e2]
  rw [List.drop_zero, List.take_of_length_le (by rw [List.length_map]; omega)]
def ISm (s : List UInt8) (i : Nat) (fr : List AV) (τ : AHeap) : Prop :=
 fr.length = 29 ∧ getSlot fr 0 = .one (.str s) ∧ getSlot fr 4 = .one (.int .i64 i) ∧ OutSl 0 τ 1 (getSlot fr 3) ((low (s.take i)).map byteCell) i
theorem low_app (a b : List UInt8) : low (a ++ b) = low a ++ low b := List.map_append
theorem eq_rsmall (σ : AHeap) (s : List UInt8) (hs : s.length ≤ maxElems) : lim LxT 81 [.one (.str s)] σ = some (.one (.str (low s)), σ) := by
 refine lim_rd (args' := [.one (.str s)]) (ids := [] ++ []) rfl ((LxT_code _).trans codeRSmall) rfl rfl ?_ rfl
 unfold BodyP
 simp (maxDischargeDepth := 99) [cRSmall]
 refine endsi_to 0 (fun fr τ => fr.length = 29 ∧ OutSl 0 τ 1 (getSlot fr 3) ((low s).map byteCell) s.length) ?_ ?_
 ·refine endsi_range s.length (ISm s) ?_ ?_ ?_
  ·exact ⟨by simp, by simp, by simp, OutSl.nil _ _ _⟩
  ·rintro i fr τ hlt ⟨hlen, f0, f4, f3⟩
   have hw := wr_next hlt hs
   have hlti : (i : Int) < (s.length : Int) := by omega
   obtain ⟨c, hc⟩ : ∃ c, s[i] = c := ⟨_, rfl⟩
   have hcg : s[i]? = some c := by rw [List.getElem?_eq_getElem hlt, hc]
   obtain ⟨sl, hsl⟩ : ∃ sl, getSlot fr 3 = sl := ⟨_, rfl⟩
   rw [hsl] at f3
   have hb := c.toNat_lt
   have htl : (low (s.take i)).map byteCell ++ [byteCell (lowB c)] = (low (s.take (i + 1))).map byteCell := by
    rw [List.take_succ_eq_append_getElem hlt, hc, low_app, List.map_append]
    rfl
   have hm1 : i + 1 ≤ maxElems := by omega
   obtain ⟨τ1, hτ1⟩ : ∃ τ1, τ1 = τ.alloc ⟨[byteCell (lowB c)], .own⟩ := ⟨_, rfl⟩
   have hg1 : τ1.get τ.size = some ⟨[byteCell (lowB c)], .own⟩ := by rw [hτ1]; simp
   have hk1 : Keeps τ τ1 := by rw [hτ1]; exact (Keeps.refl τ).alloc
   have hsl1 : OutSl 0 τ1 1 sl ((low (s.take i)).map byteCell) i := f3.stay (fun id _ h => hk1.2 id h)
   have hap := append_out (bytes := 1) (vs := [byteCell (lowB c)]) hsl1 (Nat.zero_le _) (by omega) rfl hm1 (by decide)
   have hfin : OptP (appendA τ1 1 1 sl 1 [byteCell (lowB c)]) (fun _ s' τ' => OutSl 0 τ' 1 s' ((low (s.take (i + 1))).map byteCell) (i + 1)) := by
    refine hap.mono ?_
    rintro v τ2 ⟨q1, q2, q3⟩
    rw [htl] at q1
    exact q1
   have hst : ∀ fr' : List AV, fr'.length = 29 → getSlot fr' 0 = .one (.str s) → getSlot fr' 4 = .one (.int .i64 i) → True := fun _ _ _ _ => trivial
   by_cases h1 : 65 ≤ c.toNat
   ·have h1' : (65 : Int) ≤ (c.toNat : Int) := by omega
    by_cases h2 : c.toNat ≤ 90
    ·have h2' : (c.toNat : Int) ≤ 90 := by omega
     have hlb : byteCell (lowB c) = .int .u8 ((c.toNat : Int) + 32) := by
      unfold byteCell lowB
      rw [if_pos ⟨h1, h2⟩, UInt8.toNat_add, show (32 : UInt8).toNat = 32 from rfl, Nat.mod_eq_of_lt (by omega)]
      rfl
     have hwu : wr .u8 ((c.toNat : Int) + 32) = (c.toNat : Int) + 32 := by
      unfold wr
      simp only
      rw [if_pos (by omega)]
     rw [hlb] at hτ1 hg1 hfin
     simp (maxDischargeDepth := 99) [-Int.natCast_add, cRSmall_0, hlen, f0, f4, hsl, hlt, hlti, hc, hcg, h1', h2', hwu, repeatCells, splice, ← hτ1, srcLen, srcCells, hg1]
     refine hfin.mono ?_
     intro v τ2 q
     simp (maxDischargeDepth := 99) [-Int.natCast_add, hlen, f4, hw]
     exact ⟨by simp [hlen], by simp [hlen, f0], by simp [hlen], by simp only [getSlot_setSlot]; simpa [hlen] using q⟩
    ·have h2' : ¬ (c.toNat : Int) ≤ 90 := by omega
     have hlb : byteCell (lowB c) = .int .u8 (c.toNat : Int) := by
      unfold byteCell lowB
      rw [if_neg (fun h => h2 h.2)]
     rw [hlb] at hτ1 hg1 hfin
     simp (maxDischargeDepth := 99) [-Int.natCast_add, cRSmall_0, hlen, f0, f4, hsl, hlt, hlti, hc, hcg, h1', h2', repeatCells, splice, ← hτ1, srcLen, srcCells, hg1]
     refine hfin.mono ?_
     intro v τ2 q
     simp (maxDischargeDepth := 99) [-Int.natCast_add, hlen, f4, hw]
     exact ⟨by simp [hlen], by simp [hlen, f0], by simp [hlen], by simp only [getSlot_setSlot]; simpa [hlen] using q⟩
   ·have h1' : ¬ (65 : Int) ≤ (c.toNat : Int) := by omega
    have hlb : byteCell (lowB c) = .int .u8 (c.toNat : Int) := by
     unfold byteCell lowB
     rw [if_neg (fun h => h1 h.1)]
    rw [hlb] at hτ1 hg1 hfin
    simp (maxDischargeDepth := 99) [-Int.natCast_add, cRSmall_0, hlen, f0, f4, hsl, hlt, hlti, hc, hcg, h1', repeatCells, splice, ← hτ1, srcLen, srcCells, hg1]
    refine hfin.mono ?_
    intro v τ2 q
    simp (maxDischargeDepth := 99) [-Int.natCast_add, hlen, f4, hw]
    exact ⟨by simp [hlen], by simp [hlen, f0], by simp [hlen], by simp only [getSlot_setSlot]; simpa [hlen] using q⟩
  ·rintro fr τ ⟨hlen, f0, f4, f3⟩
   rw [List.take_of_length_le (Nat.le_refl _)] at f3
   simp (maxDischargeDepth := 99) [cRSmall_0, hlen, f0, f4]
   exact f3
 ·rintro fr τ ⟨hlen, f3⟩
  obtain ⟨sl, hsl⟩ : ∃ sl, getSlot fr 3 = sl := ⟨_, rfl⟩
  rw [hsl] at f3
  obtain ⟨g1, g2, g3⟩ := out_bytes f3
  have hu := unbytes_cells (low s)
  simp (maxDischargeDepth := 99) [hlen, hsl, g1, g2, g3, hu]
def wholeF (s : List UInt8) : List AV := if valF s ≤ mostN then [.one (.int .i64 (valF s)), .one (.bool true)] else [.one (.int .i64 0), .one (.bool false)]
def IWl (s : List UInt8) (i : Nat) (fr : List AV) (τ : AHeap) : Prop :=
 fr.length = 28 ∧ getSlot fr 0 = .one (.str s) ∧ getSlot fr 5 = .one (.int .i64 i) ∧ getSlot fr 4 = .one (.int .i64 (valF (s.take i))) ∧ valF (s.take i) ≤ mostN
theorem val_ge (a b : List UInt8) : valF a ≤ valF (a ++ b) := by
 rw [val_app]
 have : valF a * 1 ≤ valF a * 10 ^ b.length := Nat.mul_le_mul_left _ (Nat.one_le_pow _ _ (by decide))
 omega
theorem whole_step {n d : Nat} (hd : d < 10) (hn : n ≤ 9223372036854775807) : ((n : Int) > ((9223372036854775807 : Int) - d).tdiv 10 ↔ 9223372036854775807 < n * 10 + d) := by
 rw [Int.tdiv_eq_ediv_of_nonneg (by omega)]
 omega
theorem eq_whole (σ : AHeap) (s : List UInt8) (hs : s.length ≤ maxElems) (hd : ∀ c ∈ s, digB c = true) : lim LxT 108 [.one (.str s)] σ = some (.tup (wholeF s), σ) := by
 refine lim_rd (args' := [.one (.str s)]) (ids := [] ++ []) rfl ((LxT_code _).trans codeRWhole) rfl rfl ?_ (by unfold wholeF; split <;> rfl)
 unfold BodyP
 obtain ⟨Z, hZ⟩ : ∃ Z, wholeF s = Z := ⟨_, rfl⟩
 rw [hZ]
 simp (maxDischargeDepth := 99) [cRWhole]
 refine endsi_to 0 (fun fr τ => fr.length = 28 ∧ getSlot fr 4 = .one (.int .i64 (valF s)) ∧ Z = [.one (.int .i64 (valF s)), .one (.bool true)]) ?_ ?_
 ·refine endsi_range s.length (IWl s) ?_ ?_ ?_
  ·exact ⟨by simp, by simp, by simp, by simp [valF], by simp [valF]⟩
  ·rintro i fr τ hlt ⟨hlen, f0, f5, f4, hv⟩
   have hw := wr_next hlt hs
   have hlti : (i : Int) < (s.length : Int) := by omega
   obtain ⟨c, hc⟩ : ∃ c, s[i] = c := ⟨_, rfl⟩
   have hcg : s[i]? = some c := by rw [List.getElem?_eq_getElem hlt, hc]
   have hdc := hd c (by rw [← hc]; exact List.getElem_mem hlt)
   unfold digB at hdc
   simp at hdc
   obtain ⟨d, hdd⟩ : ∃ d, c.toNat = 48 + d := ⟨c.toNat - 48, by omega⟩
   have hd10 : d < 10 := by omega
   have hwu : wr .u8 ((c.toNat : Int) - 48) = (d : Int) := by
    unfold wr
    simp only
    rw [if_pos (by omega)]
    omega
   have htk : valF (s.take (i + 1)) = valF (s.take i) * 10 + d := by
    rw [List.take_succ_eq_append_getElem hlt, hc, val_app]
    show valF (s.take i) * 10 ^ 1 + (0 * 10 + (c.toNat - 48)) = _
    omega
   have hge : valF (s.take (i + 1)) ≤ valF s := by
    have := val_ge (s.take (i + 1)) (s.drop (i + 1))
    rwa [List.take_append_drop] at this
   obtain ⟨n, hn⟩ : ∃ n, valF (s.take i) = n := ⟨_, rfl⟩
   rw [hn] at hv f4 htk
   unfold mostN at hv
   have hst := whole_step hd10 hv
   have hw1 : wr .i64 ((9223372036854775807 : Int) - d) = (9223372036854775807 : Int) - d := wr64 (by omega) (by omega)
   have hwc : wr .i64 (d : Int) = (d : Int) := wr64 (by omega) (by omega)
   by_cases ho : 9223372036854775807 < n * 10 + d
   ·have hb : (((9223372036854775807 : Int) - d).tdiv 10 < (n : Int)) := hst.2 ho
    have hZ0 : Z = [.one (.int .i64 0), .one (.bool false)] := by
     rw [← hZ]
     unfold wholeF mostN
     rw [if_neg (by omega)]
    have hw2 : wr .i64 (((9223372036854775807 : Int) - d).tdiv 10) = ((9223372036854775807 : Int) - d).tdiv 10 := by
     rw [Int.tdiv_eq_ediv_of_nonneg (by omega)]
     exact wr64 (by omega) (by omega)
    simp (maxDischargeDepth := 99) [-Int.natCast_add, cRWhole_0, hlen, f0, f5, f4, hlt, hlti, hc, hcg, hwu, hwc, hw1, hw2, hb, hZ0]
   ·have hb : ¬ (((9223372036854775807 : Int) - d).tdiv 10 < (n : Int)) := fun h => ho (hst.1 h)
    have hw2 : wr .i64 (((9223372036854775807 : Int) - d).tdiv 10) = ((9223372036854775807 : Int) - d).tdiv 10 := by
     rw [Int.tdiv_eq_ediv_of_nonneg (by omega)]
     exact wr64 (by omega) (by omega)
    have hw3 : wr .i64 ((n : Int) * 10) = (n : Int) * 10 := wr64 (by omega) (by omega)
    have hw4 : wr .i64 ((n : Int) * 10 + d) = ((n * 10 + d : Nat) : Int) := by rw [wr64 (by omega) (by omega)]; omega
    simp (maxDischargeDepth := 99) [-Int.natCast_add, cRWhole_0, hlen, f0, f5, f4, hlt, hlti, hc, hcg, hwu, hwc, hw1, hw2, hb, hw3, hw4, hw]
    exact ⟨by simp [hlen], by simp [hlen, f0], by simp [hlen], by simp [hlen, htk], by rw [htk]; unfold mostN; omega⟩
  ·rintro fr τ ⟨hlen, f0, f5, f4, hv⟩
   rw [List.take_of_length_le (Nat.le_refl _)] at f4 hv
   simp (maxDischargeDepth := 99) [cRWhole_0, hlen, f0, f5]
   refine ⟨f4, ?_⟩
   rw [← hZ]
   unfold wholeF
   rw [if_pos hv]
 ·rintro fr τ ⟨hlen, f4, rfl⟩
  simp (maxDischargeDepth := 99) [hlen, f4]
theorem run_words (τ : AHeap) : OptP (lim LxT 9 [] τ) (fun _ v τ' => v = .one (.slice τ.size 0 1 58 (some 58)) ∧ τ' = τ.alloc ⟨wordsL.map SV.str, .own⟩) := by
 refine lim_code rfl ((LxT_code _).trans codeRWords) rfl ?_
 unfold BodyP
 simp (maxDischargeDepth := 99) [cRWords, splice, repeatCells]
 rfl
def IWd (x : List UInt8) (i : Nat) (fr : List AV) (τ : AHeap) : Prop :=
 fr.length = 18 ∧ getSlot fr 0 = .one (.str x) ∧ getSlot fr 3 = .one (.slice 0 0 1 58 (some 58)) ∧ getSlot fr 4 = .one (.int .i64 i) ∧ τ.get 0 = some ⟨wordsL.map SV.str, .own⟩ ∧ ∀ j (h : j < wordsL.length), j < i → wordsL[j] ≠ x
theorem eq_word5 (σ : AHeap) (x : List UInt8) : lim LxT 82 [.one (.str x)] σ = some (.one (.bool (decide (x ∈ wordsL))), σ) := by
 refine lim_rd (args' := [.one (.str x)]) (ids := [] ++ []) rfl ((LxT_code _).trans codeRWord) rfl rfl ?_ rfl
 unfold BodyP
 obtain ⟨Z, hZ⟩ : ∃ Z, decide (x ∈ wordsL) = Z := ⟨_, rfl⟩
 rw [hZ]
 have h58 : wordsL.length = 58 := by decide
 obtain ⟨v, τ', hw, rfl, rfl⟩ := run_words emptyH
 have he : emptyH.size = 0 := rfl
 rw [he] at hw
 obtain ⟨τ1, hτ1⟩ : ∃ τ1, τ1 = emptyH.alloc ⟨wordsL.map SV.str, .own⟩ := ⟨_, rfl⟩
 have hg : τ1.get 0 = some ⟨wordsL.map SV.str, .own⟩ := by rw [hτ1]; rfl
 rw [← hτ1] at hw
 simp (maxDischargeDepth := 99) [cRWord, hw]
 refine endsi_to 0 (fun fr τ => fr.length = 18 ∧ Z = false) ?_ ?_
 ·refine endsi_range 58 (IWd x) ?_ ?_ ?_
  ·exact ⟨by simp, by simp, by simp, by simp, hg, fun j _ h => by omega⟩
  ·rintro i fr τ hlt ⟨hlen, f0, f3, f4, hg, hn⟩
   have hlti : (i : Int) < 58 := by omega
   have hw1 : wr .i64 ((i : Int) + 1) = ((i + 1 : Nat) : Int) := by rw [wr64 (by omega) (by omega)]; omega
   have hlw : i < wordsL.length := by omega
   obtain ⟨u, hu⟩ : ∃ u, wordsL[i] = u := ⟨_, rfl⟩
   have hug : wordsL[i]? = some u := by rw [List.getElem?_eq_getElem hlw, hu]
   have hcell : (wordsL.map SV.str)[i]? = some (.str u) := by rw [List.getElem?_map, hug]; rfl
   obtain ⟨W, hW⟩ : ∃ W, wordsL.map SV.str = W := ⟨_, rfl⟩
   have hWl : W.length = 58 := by rw [← hW, List.length_map, h58]
   rw [hW] at hg hcell
   have hcg : W[i]'(by omega) = .str u := (List.getElem?_eq_some_iff.1 hcell).2
   have hwe : wordsL[i] = u := hu
   by_cases hb : u = x
   ·subst hb
    have hZ1 : Z = true := by
     rw [← hZ, decide_eq_true]
     rw [← hu]
     exact List.getElem_mem hlw
    simp (maxDischargeDepth := 99) [-Int.natCast_add, cRWord_0, hlen, f0, f3, f4, hlt, hlti, hg, hcell, hcg, hWl, sbin, beqL_refl, hZ1]
   ·have hbb : beqL u x = false := by
     cases h : beqL u x with
     | false => rfl
     | true => rw [beqL_iff] at h; exact absurd (by simpa using h) hb
    simp (maxDischargeDepth := 99) [-Int.natCast_add, cRWord_0, hlen, f0, f3, f4, hlt, hlti, hg, hcell, hcg, hWl, sbin, hbb, hw1]
    refine ⟨by simp [hlen], by simp [hlen, f0], by simp [hlen, f3], by simp [hlen], by rw [hW]; exact hg, ?_⟩
    intro j hj hji
    by_cases hji2 : j < i
    ·exact hn j hj hji2
    ·obtain rfl : j = i := by omega
     rw [hwe]
     exact hb
  ·rintro fr τ ⟨hlen, f0, f3, f4, hg, hn⟩
   have f4 : getSlot fr 4 = .one (.int .i64 58) := f4
   have hZ0 : Z = false := by
    rw [← hZ, decide_eq_false]
    intro hm
    obtain ⟨j, hj, he⟩ := List.getElem_of_mem hm
    exact hn j hj (by omega) he
   simp (maxDischargeDepth := 99) [cRWord_0, hlen, f0, f3, f4]
   exact hZ0
 ·rintro fr τ ⟨hlen, rfl⟩
  simp (maxDischargeDepth := 99) [hlen]
end Go.Proofs.YtepankcnleeakaaGreatDoor.Ab
namespace Go.Proofs.YtepankcnleeakaaGreatDoor.Ab
open Go
set_option maxRecDepth 20000
set_option maxHeartbeats 8000000
set_option linter.unusedSimpArgs false
set_option linter.unusedVariables false
def unitNames : List SV := unitsL.map fun x => .str x.1
def unitSizes : List SV := unitsL.map fun x => .int .i64 x.2
def IUn5 (s : List UInt8) (i : Nat) (fr : List AV) (τ : AHeap) : Prop :=
 fr.length = 52 ∧ getSlot fr 0 = .one (.str s) ∧ getSlot fr 4 = .one (.slice 0 0 1 5 (some 5)) ∧ getSlot fr 5 = .one (.slice 1 0 1 5 (some 5)) ∧ getSlot fr 6 = .one (.int .i64 i) ∧ τ.get 0 = some ⟨unitNames, .own⟩ ∧ τ.get 1 = some ⟨unitSizes, .own⟩ ∧
  unitF s 0 = unitOf s 0 (unitsL.drop i)
theorem eq_unit5 (σ : AHeap) (s : List UInt8) : lim LxT 107 [.one (.str s)] σ = some (.tup [.one (.int .i64 (unitF s 0).2), .one (.int .i64 (unitF s 0).1)], σ) := by
 refine lim_rd (args' := [.one (.str s)]) (ids := [] ++ []) rfl ((LxT_code _).trans codeRUnit) rfl rfl ?_ rfl
 unfold BodyP
 obtain ⟨Z, hZ⟩ : ∃ Z, unitF s 0 = Z := ⟨_, rfl⟩
 rw [hZ]
 have h5 : unitsL.length = 5 := rfl
 obtain ⟨N, hN⟩ : ∃ N, unitNames = N := ⟨_, rfl⟩
 obtain ⟨S, hS⟩ : ∃ S, unitSizes = S := ⟨_, rfl⟩
 have hN' : [SV.str (bytes [109, 115]), .str (bytes [115]), .str (bytes [109]), .str (bytes [104]), .str (bytes [100])] = N := hN
 have hS' : [SV.int .i64 1, .int .i64 1000, .int .i64 60000, .int .i64 3600000, .int .i64 86400000] = S := hS
 simp (maxDischargeDepth := 99) [cRUnit, splice, repeatCells, hN', hS']
 refine endsi_to 0 (fun fr τ => fr.length = 52 ∧ Z = (0, 0)) ?_ ?_
 ·refine endsi_range 5 (IUn5 s) ?_ ?_ ?_
  ·exact ⟨by simp, by simp, by simp; rfl, by simp; rfl, by simp, by rw [hN]; rfl, by rw [hS]; rfl, rfl⟩
  ·rintro i fr τ hlt ⟨hlen, f0, f4, f5, f6, g0, g1, hu⟩
   have hlti : (i : Int) < 5 := by omega
   have hw1 : wr .i64 ((i : Int) + 1) = ((i + 1 : Nat) : Int) := by rw [wr64 (by omega) (by omega)]; omega
   have hlw : i < unitsL.length := by omega
   obtain ⟨u, z, hx⟩ : ∃ u z, unitsL[i] = (u, z) := ⟨_, _, rfl⟩
   have hxg : unitsL[i]? = some (u, z) := by rw [List.getElem?_eq_getElem hlw, hx]
   have hc0 : N[i]? = some (.str u) := by rw [← hN]; unfold unitNames; rw [List.getElem?_map, hxg]; rfl
   have hc1 : S[i]? = some (.int .i64 z) := by rw [← hS]; unfold unitSizes; rw [List.getElem?_map, hxg]; rfl
   have hNl : N.length = 5 := by rw [← hN]; rfl
   have hSl : S.length = 5 := by rw [← hS]; rfl
   have hcg0 : N[i]'(by omega) = .str u := (List.getElem?_eq_some_iff.1 hc0).2
   have hcg1 : S[i]'(by omega) = .int .i64 z := (List.getElem?_eq_some_iff.1 hc1).2
   rw [hN] at g0
   rw [hS] at g1
   have hbg := fun σ => eq_begins σ s u
   have hdr : unitsL.drop i = (u, z) :: unitsL.drop (i + 1) := by rw [List.drop_eq_getElem_cons hlw, hx]
   rw [hdr, unitOf, List.drop_zero] at hu
   have hnext : ∀ fr' : List AV, fr'.length = 52 → getSlot fr' 0 = .one (.str s) → getSlot fr' 4 = .one (.slice 0 0 1 5 (some 5)) → getSlot fr' 5 = .one (.slice 1 0 1 5 (some 5)) → getSlot fr' 6 = .one (.int .i64 ((i + 1 : Nat) : Int)) →
     unitF s 0 = unitOf s 0 (unitsL.drop (i + 1)) → IUn5 s (i + 1) fr' τ := fun fr' a b c d e f => ⟨a, b, c, d, e, by rw [hN]; exact g0, by rw [hS]; exact g1, f⟩
   cases hp : u.isPrefixOf s with
   | false =>
    rw [hp] at hbg hu
    simp only [Bool.false_and, Bool.false_eq_true, if_false] at hu
    simp (maxDischargeDepth := 99) [-Int.natCast_add, cRUnit_0, hlen, f0, f4, f5, f6, hlt, hlti, g0, g1, hc0, hcg0, hNl, hbg, hw1]
    exact hnext _ (by simp [hlen]) (by simp [hlen, f0]) (by simp [hlen, f4]) (by simp [hlen, f5]) (by simp [hlen]) hu
   | true =>
    rw [hp] at hbg hu
    have hle := pre_len (i := 0) (by rw [List.drop_zero]; exact hp)
    by_cases he : s.length = u.length
    ·have heI : (s.length : Int) = (u.length : Int) := by omega
     have hlk : lookF s 0 u.length = 0 := by
      unfold lookF
      rw [List.getElem?_eq_none (by omega)]
      rfl
     rw [hlk, if_pos (by decide)] at hu
     rw [hu] at hZ
     subst hZ
     simp (maxDischargeDepth := 99) [-Int.natCast_add, cRUnit_0, hlen, f0, f4, f5, f6, hlt, hlti, g0, g1, hc0, hcg0, hNl, hc1, hcg1, hSl, hbg, he]
    ·have heI : ¬ (s.length : Int) = (u.length : Int) := by omega
     have hul : u.length < s.length := by omega
     have hulI : (u.length : Int) < (s.length : Int) := by omega
     obtain ⟨c, hc⟩ : ∃ c, s[u.length] = c := ⟨_, rfl⟩
     have hcg : s[u.length]? = some c := by rw [List.getElem?_eq_getElem hul, hc]
     have hlk : lookF s 0 u.length = c := by
      unfold lookF
      rw [Nat.zero_add, hcg]
      rfl
     rw [hlk] at hu
     have hl := fun σ => eq_rletter σ c
     have hd := fun σ => eq_rdigit σ c
     cases h1 : letB c with
     | true =>
      rw [h1] at hl hu
      simp only [Bool.not_true, Bool.and_false, Bool.false_and, Bool.false_eq_true, if_false] at hu
      simp (maxDischargeDepth := 99) [-Int.natCast_add, cRUnit_0, hlen, f0, f4, f5, f6, hlt, hlti, g0, g1, hc0, hcg0, hNl, hbg, he, heI, hul, hulI, hc, hcg, hl, hw1]
      exact hnext _ (by simp [hlen]) (by simp [hlen, f0]) (by simp [hlen, f4]) (by simp [hlen, f5]) (by simp [hlen]) hu
     | false =>
      rw [h1] at hl hu
      cases h2 : digB c with
      | true =>
       rw [h2] at hd hu
       simp only [Bool.not_true, Bool.and_false, Bool.false_eq_true, if_false] at hu
       simp (maxDischargeDepth := 99) [-Int.natCast_add, cRUnit_0, hlen, f0, f4, f5, f6, hlt, hlti, g0, g1, hc0, hcg0, hNl, hbg, he, heI, hul, hulI, hc, hcg, hl, hd, hw1]
       exact hnext _ (by simp [hlen]) (by simp [hlen, f0]) (by simp [hlen, f4]) (by simp [hlen, f5]) (by simp [hlen]) hu
      | false =>
       rw [h2] at hd hu
       rw [if_pos (by decide)] at hu
       rw [hu] at hZ
       subst hZ
       simp (maxDischargeDepth := 99) [-Int.natCast_add, cRUnit_0, hlen, f0, f4, f5, f6, hlt, hlti, g0, g1, hc0, hcg0, hNl, hc1, hcg1, hSl, hbg, he, heI, hul, hulI, hc, hcg, hl, hd]
  ·rintro fr τ ⟨hlen, f0, f4, f5, f6, g0, g1, hu⟩
   have f6 : getSlot fr 6 = .one (.int .i64 5) := f6
   simp (maxDischargeDepth := 99) [cRUnit_0, hlen, f0, f4, f5, f6]
   rw [← hZ, hu]
   rfl
 ·rintro fr τ ⟨hlen, rfl⟩
  simp (maxDischargeDepth := 99) [hlen]
end Go.Proofs.YtepankcnleeakaaGreatDoor.Ab
namespace Go.Proofs.YtepankcnleeakaaGreatDoor.Ab
open Go
set_option maxRecDepth 20000
set_option maxHeartbeats 8000000
set_option linter.unusedSimpArgs false
set_option linter.unusedVariables false
def tkOut : LTok × Nat × Option Int → List AV
 | (t, k, none) => [.agg t.cells, .one (.int .i64 k), .one (.int .i64 0)]
 | (_, _, some e) => [.agg (tokC 0 [] 0 0), .one (.int .i64 0), .one (.int .i64 e)]
theorem tkOut_scal (x : LTok × Nat × Option Int) : (AV.tup (tkOut x)).scal = true := by
 obtain ⟨t, k, e⟩ := x
 cases e <;> rfl
def RunesOk : Prop := ∀ (σ : AHeap) (x : List UInt8), x.length ≤ maxElems → lim LxT 76 [.one (.str x)] σ = some (.one (.bool (Lib.validD x)), σ)
def ITx5 (s : List UInt8) (B : Option (List UInt8 × Nat)) (k : Nat) (fr : List AV) (τ : AHeap) : Prop :=
 ∃ (i : Nat) (out : List UInt8), k = s.length + 2 - i ∧ 1 ≤ i ∧ out.length ≤ i ∧ i ≤ s.length + 1 ∧ fr.length = 54 ∧ getSlot fr 0 = .one (.str s) ∧ getSlot fr 2 = .one (.ptr 0 0) ∧ getSlot fr 5 = .one (.str out) ∧ getSlot fr 6 = .one (.int .i64 i) ∧
  τ.get 0 = some ⟨tokC 0 [] 0 0, .own⟩ ∧ B = bodyF s (s.length + 1) i out
def FTx5 (s : List UInt8) (Z : List AV) (fr : List AV) (τ : AHeap) : Prop := fr.length = 54 ∧ getSlot fr 2 = .one (.ptr 0 0) ∧ τ.get 0 = some ⟨tokC 0 [] 0 0, .own⟩ ∧ Z = tkOut (⟨0, [], 0, 0⟩, 0, some 52)
theorem eq_text5 (hR : RunesOk) (σ : AHeap) (s : List UInt8) (hs : s.length ≤ 67108864) (h0 : s ≠ []) : lim LxT 84 [.one (.str s)] σ = some (.tup (tkOut (textF s 0)), σ) := by
 refine lim_rd (args' := [.one (.str s)]) (ids := [] ++ []) rfl ((LxT_code _).trans codeRText) rfl rfl ?_ (tkOut_scal _)
 unfold BodyP
 obtain ⟨Z, hZ⟩ : ∃ Z, tkOut (textF s 0) = Z := ⟨_, rfl⟩
 rw [hZ]
 unfold textF at hZ
 rw [Nat.zero_add] at hZ
 obtain ⟨B, hB⟩ : ∃ B, bodyF s (s.length + 1) 1 [] = B := ⟨_, rfl⟩
 rw [hB] at hZ
 have hsp : 0 < s.length := List.length_pos_iff.2 h0
 have hme : s.length + 4 ≤ maxElems := by unfold maxElems; omega
 have hzt : repeatCells [SV.int .i64 0, .str [], .int .i64 0, .int .i64 0] 1 = tokC 0 [] 0 0 := rfl
 obtain ⟨τ0, hτ0⟩ : ∃ τ0, τ0 = emptyH.alloc ⟨tokC 0 [] 0 0, .own⟩ := ⟨_, rfl⟩
 have hg0 : τ0.get 0 = some ⟨tokC 0 [] 0 0, .own⟩ := by rw [hτ0]; rfl
 have htc : [SV.int .i64 0, .str [], .int .i64 0, .int .i64 0] = tokC 0 [] 0 0 := rfl
 have hes : emptyH.size = 0 := rfl
 have hbn : bytes [] = [] := rfl
 have hd5 : List.drop 2 (tokC 0 [] 0 0) = [.int .i64 0, .int .i64 0] := rfl
 simp (maxDischargeDepth := 99) [-writeAt, cRText, htc, ← hτ0, hes, hbn]
 refine endsi_to 0 (FTx5 s Z) ?_ ?_
 ·refine endsi_loop (I := ITx5 s B) ?_ (k := s.length + 2 - 1) ⟨1, [], rfl, Nat.le_refl _, by simp, by omega, by simp, by simp, by simp, by simp, by simp, hg0, hB.symm⟩
  rintro k fr τ ⟨i, out, rfl, hi1, hol, hil, hlen, f0, f2, f5, f6, hg, hb⟩
  by_cases hlt : i < s.length
  ·have hlti : (i : Int) < (s.length : Int) := by omega
   have hw1 : wr .i64 ((i : Int) + 1) = ((i + 1 : Nat) : Int) := by unfold maxElems at hme; rw [wr64 (by omega) (by omega)]; omega
   have hw2 : wr .i64 (((i + 1 : Nat) : Int) + 1) = ((i + 2 : Nat) : Int) := by unfold maxElems at hme; rw [wr64 (by omega) (by omega)]; omega
   obtain ⟨c, hc⟩ : ∃ c, s[i] = c := ⟨_, rfl⟩
   have hcg : s[i]? = some c := by rw [List.getElem?_eq_getElem hlt, hc]
   have hb' := hb
   rw [bodyF, hcg] at hb'
   simp only at hb'
   by_cases h39 : c = 39
   ·subst h39
    have h9 : (((39 : UInt8).toNat : Nat) : Int) = 39 := rfl
    rw [if_pos rfl] at hb'
    by_cases hn : s[i + 1]? = some 39
    ·rw [if_pos hn, body_fuel s.length (s.length + 1) (i + 2) _ (by omega) (by omega)] at hb'
     have hlt1 : i + 1 < s.length := (List.getElem?_eq_some_iff.1 hn).1
     have hlt1I : ((i + 1 : Nat) : Int) < (s.length : Int) := by omega
     have hcg1 : s[i + 1] = 39 := (List.getElem?_eq_some_iff.1 hn).2
     have hb39 : bytes [39] = [39] := rfl
     have hc1 : sbin .add out [39] = some (.str (out ++ [39])) := cat1 (by simp only [List.length_append, List.length_cons, List.length_nil]; omega)
     simp (maxDischargeDepth := 99) [-writeAt, -Int.natCast_add, cRText_0, hlen, f0, f2, f5, f6, hlt, hlti, hc, hcg, h9, hw1, hlt1, hlt1I, hn, hcg1, hb39, hc1, hw2]
     exact ⟨s.length + 2 - (i + 2), by omega, i + 2, out ++ [39], rfl, by omega, by simp only [List.length_append, List.length_cons, List.length_nil]; omega, by omega, by simp [hlen], by simp [hlen, f0], by simp [hlen, f2], by simp [hlen], by simp [hlen], hg, hb'⟩
    ·rw [if_neg hn] at hb'
     subst hb'
     simp only at hZ
     have hR1 := fun σ => hR σ out (by omega)
     have hstop : ((i + 1 : Nat) : Int) < (s.length : Int) → ∃ d, s[i + 1]? = some d ∧ d ≠ 39 ∧ i + 1 < s.length := fun h => by
      have h : i + 1 < s.length := by omega
      exact ⟨s[i + 1], List.getElem?_eq_getElem h, fun e => hn (by rw [List.getElem?_eq_getElem h, e]), h⟩
     obtain ⟨τ5, w5, g5, _, _⟩ := put_ok (vs := tokC 5 out 0 0) (cs' := tokC 5 out 0 0) 0 hg rfl (by simp [tokC])
     obtain ⟨τ6, w6, g6, _, _⟩ := put_ok (vs := tokC 0 [] 0 0) (cs' := tokC 0 [] 0 0) 0 hg rfl (by simp [tokC])
     have htk : ∀ k x n p, (tokC k x n p).length = 4 := fun _ _ _ _ => rfl
     have htk2 : ∀ k x n p, List.take 4 (tokC k x n p) = tokC k x n p := fun _ _ _ _ => rfl
     have hfold : ∀ k x n p, [SV.int .i64 k, .str x, .int .i64 n, .int .i64 p] = tokC k x n p := fun _ _ _ _ => rfl
     by_cases hlt1 : i + 1 < s.length
     ·obtain ⟨d, hd1, hd2, _⟩ := hstop (by omega)
      have hlt1I : ((i + 1 : Nat) : Int) < (s.length : Int) := by omega
      have hdg : s[i + 1] = d := (List.getElem?_eq_some_iff.1 hd1).2
      have hdI : ¬ (d.toNat : Int) = 39 := by
       intro e
       apply hd2
       have : d.toNat = (39 : UInt8).toNat := by show d.toNat = 39; omega
       exact UInt8.toNat_inj.1 this
      by_cases hbig : 1024 < out.length
      ·have hbI : (1024 : Int) < (out.length : Int) := by omega
       rw [if_pos (.inl hbig)] at hZ
       subst hZ
       simp (maxDischargeDepth := 99) [-writeAt, -Int.natCast_add, cRText_0, hlen, f0, f2, f5, f6, hlt, hlti, hc, hcg, h9, hw1, hlt1, hlt1I, hd1, hdg, hdI, hbI, splice, hbn, hd5, hfold, htk, htk2, w6, g6, tkOut, LTok.cells]
      ·have hbI : ¬ (1024 : Int) < (out.length : Int) := by omega
       cases hv : Lib.validD out with
       | false =>
        rw [hv] at hR1
        rw [if_pos (.inr hv)] at hZ
        subst hZ
        simp (maxDischargeDepth := 99) [-writeAt, -Int.natCast_add, cRText_0, hlen, f0, f2, f5, f6, hlt, hlti, hc, hcg, h9, hw1, hlt1, hlt1I, hd1, hdg, hdI, hbI, hR1, splice, hbn, hd5, hfold, htk, htk2, w6, g6, tkOut, LTok.cells]
       | true =>
        rw [hv] at hR1
        rw [if_neg (by rw [hv, not_or]; exact ⟨hbig, by decide⟩)] at hZ
        subst hZ
        simp (maxDischargeDepth := 99) [-writeAt, -Int.natCast_add, cRText_0, hlen, f0, f2, f5, f6, hlt, hlti, hc, hcg, h9, hw1, hlt1, hlt1I, hd1, hdg, hdI, hbI, hR1, splice, hbn, hd5, hfold, htk, htk2, w5, g5, tkOut, LTok.cells]
     ·have hlt1I : ¬ ((i + 1 : Nat) : Int) < (s.length : Int) := by omega
      by_cases hbig : 1024 < out.length
      ·have hbI : (1024 : Int) < (out.length : Int) := by omega
       rw [if_pos (.inl hbig)] at hZ
       subst hZ
       simp (maxDischargeDepth := 99) [-writeAt, -Int.natCast_add, cRText_0, hlen, f0, f2, f5, f6, hlt, hlti, hc, hcg, h9, hw1, hlt1, hlt1I, hbI, splice, hbn, hd5, hfold, htk, htk2, w6, g6, tkOut, LTok.cells]
      ·have hbI : ¬ (1024 : Int) < (out.length : Int) := by omega
       cases hv : Lib.validD out with
       | false =>
        rw [hv] at hR1
        rw [if_pos (.inr hv)] at hZ
        subst hZ
        simp (maxDischargeDepth := 99) [-writeAt, -Int.natCast_add, cRText_0, hlen, f0, f2, f5, f6, hlt, hlti, hc, hcg, h9, hw1, hlt1, hlt1I, hbI, hR1, splice, hbn, hd5, hfold, htk, htk2, w6, g6, tkOut, LTok.cells]
       | true =>
        rw [hv] at hR1
        rw [if_neg (by rw [hv, not_or]; exact ⟨hbig, by decide⟩)] at hZ
        subst hZ
        simp (maxDischargeDepth := 99) [-writeAt, -Int.natCast_add, cRText_0, hlen, f0, f2, f5, f6, hlt, hlti, hc, hcg, h9, hw1, hlt1, hlt1I, hbI, hR1, splice, hbn, hd5, hfold, htk, htk2, w5, g5, tkOut, LTok.cells]
   ·rw [if_neg h39, body_fuel s.length (s.length + 1) (i + 1) _ (by omega) (by omega)] at hb'
    have h9 : ¬ (c.toNat : Int) = 39 := by
     intro e
     apply h39
     have : c.toNat = (39 : UInt8).toNat := by show c.toNat = 39; omega
     exact UInt8.toNat_inj.1 this
    have hsub : (s.drop i).take (i + 1 - i) = [c] := by
     rw [show i + 1 - i = 1 by omega, List.drop_eq_getElem_cons hlt, hc]
     rfl
    have hsub1 : (s.drop i).take 1 = [c] := by rw [← hsub, show i + 1 - i = 1 by omega]
    have hii : i + 1 - i = 1 := by omega
    have h1I : (i : Int) ≤ ((i + 1 : Nat) : Int) := by omega
    have h2I : ((i + 1 : Nat) : Int) ≤ (s.length : Int) := by omega
    have h1n : i ≤ i + 1 := by omega
    have h2n : i + 1 ≤ s.length := by omega
    have hc1 : sbin .add out [c] = some (.str (out ++ [c])) := cat1 (by simp only [List.length_append, List.length_cons, List.length_nil]; omega)
    simp (maxDischargeDepth := 99) [-writeAt, -Int.natCast_add, cRText_0, hlen, f0, f2, f5, f6, hlt, hlti, hc, hcg, h9, hw1, h1I, h2I, h1n, h2n, hii, hsub1, hc1]
    exact ⟨s.length + 2 - (i + 1), by omega, i + 1, out ++ [c], rfl, by omega, by simp only [List.length_append, List.length_cons, List.length_nil]; omega, by omega, by simp [hlen], by simp [hlen, f0], by simp [hlen, f2], by simp [hlen], by simp [hlen], hg, hb'⟩
  ·have hlti : ¬ (i : Int) < (s.length : Int) := by omega
   have hbN : B = none := by
    rw [hb, bodyF, List.getElem?_eq_none (by omega)]
   subst hbN
   simp (maxDischargeDepth := 99) [-writeAt, cRText_0, hlen, f0, f2, f5, f6, hlti]
   exact ⟨by simp [hlen], by simp [hlen, f2], hg, hZ.symm⟩
 ·rintro fr τ ⟨hlen, f2, hg, rfl⟩
  obtain ⟨τ6, w6, g6, _, _⟩ := put_ok (vs := tokC 0 [] 0 0) (cs' := tokC 0 [] 0 0) 0 hg rfl (by simp [tokC])
  have htk : ∀ k x n p, (tokC k x n p).length = 4 := fun _ _ _ _ => rfl
  have htk2 : ∀ k x n p, List.take 4 (tokC k x n p) = tokC k x n p := fun _ _ _ _ => rfl
  have hfold : ∀ k x n p, [SV.int .i64 k, .str x, .int .i64 n, .int .i64 p] = tokC k x n p := fun _ _ _ _ => rfl
  simp (maxDischargeDepth := 99) [-writeAt, hlen, f2, splice, hbn, hd5, hfold, htk, htk2, w6, g6, tkOut, LTok.cells]
end Go.Proofs.YtepankcnleeakaaGreatDoor.Ab
namespace Go.Proofs.YtepankcnleeakaaGreatDoor.Ab
open Go
set_option maxRecDepth 20000
set_option maxHeartbeats 8000000
set_option linter.unusedSimpArgs false
set_option linter.unusedVariables false
theorem take_run (p : UInt8 → Bool) (s : List UInt8) : s.take (runF p s 0).length = runF p s 0 := by
 unfold runF
 rw [List.drop_zero]
 exact (List.prefix_iff_eq_take.1 (List.takeWhile_prefix p)).symm
theorem run_mem {p : UInt8 → Bool} {s : List UInt8} {i : Nat} : ∀ c ∈ runF p s i, p c = true := fun c hc => List.all_eq_true.1 (List.all_takeWhile (p := p) (l := s.drop i)) c hc
def INu (s : List UInt8) (i : Nat) (fr : List AV) (τ : AHeap) : Prop :=
 fr.length = 172 ∧ getSlot fr 0 = .one (.str s) ∧ getSlot fr 2 = .one (.ptr 0 0) ∧ getSlot fr 5 = .one (.int .i64 i) ∧ τ.get 0 = some ⟨tokC 0 [] 0 0, .own⟩
theorem whole_yes {d : List UInt8} (h : ¬ mostN < valF d) : wholeF d = [.one (.int .i64 (valF d)), .one (.bool true)] := by
 unfold wholeF
 rw [if_pos (by omega)]
theorem whole_no {d : List UInt8} (h : mostN < valF d) : wholeF d = [.one (.int .i64 0), .one (.bool false)] := by
 unfold wholeF
 rw [if_neg (by omega)]
theorem units_pos : ∀ x ∈ ([(0, 0), (1, 2), (1000, 1), (60000, 1), (3600000, 1), (86400000, 1)] : List (Nat × Nat)), 0 < x.2 → 0 < x.1 ∧ x.1 ≤ 86400000 ∧ x.2 ≤ 2 := by decide
def IDe (s D : List UInt8) (bb : Bool) (n i : Nat) (fr : List AV) (τ : AHeap) : Prop :=
 fr.length = 172 ∧ getSlot fr 0 = .one (.str s) ∧ getSlot fr 2 = .one (.ptr 0 0) ∧ getSlot fr 5 = .one (.int .i64 n) ∧ getSlot fr 6 = .one (.str D) ∧ getSlot fr 7 = .one (.bool bb) ∧ getSlot fr 12 = .one (.int .i64 ((n + 1 + i : Nat) : Int)) ∧ τ.get 0 = some ⟨tokC 0 [] 0 0, .own⟩
def IPd (D F : List UInt8) (bb : Bool) (m i : Nat) (fr : List AV) (τ : AHeap) : Prop :=
 fr.length = 172 ∧ getSlot fr 2 = .one (.ptr 0 0) ∧ getSlot fr 6 = .one (.str D) ∧ getSlot fr 7 = .one (.bool bb) ∧ getSlot fr 12 = .one (.int .i64 m) ∧ getSlot fr 13 = .one (.str (F ++ List.replicate i 48)) ∧ τ.get 0 = some ⟨tokC 0 [] 0 0, .own⟩
theorem eq_num5 (σ : AHeap) (s : List UInt8) (hs : s.length ≤ 67108864) (h0 : s ≠ []) : lim LxT 83 [.one (.str s)] σ = some (.tup (tkOut (numF s 0)), σ) := by
 refine lim_rd (args' := [.one (.str s)]) (ids := [] ++ []) rfl ((LxT_code _).trans codeRNumber) rfl rfl ?_ (tkOut_scal _)
 unfold BodyP
 obtain ⟨Z, hZ⟩ : ∃ Z, tkOut (numF s 0) = Z := ⟨_, rfl⟩
 rw [hZ]
 unfold numF at hZ
 simp only [Nat.zero_add] at hZ
 have hsp : 0 < s.length := List.length_pos_iff.2 h0
 have hme : s.length + 4 ≤ maxElems := by unfold maxElems; omega
 have hzt : repeatCells [SV.int .i64 0, .str [], .int .i64 0, .int .i64 0] 1 = tokC 0 [] 0 0 := rfl
 obtain ⟨τ0, hτ0⟩ : ∃ τ0, τ0 = emptyH.alloc ⟨tokC 0 [] 0 0, .own⟩ := ⟨_, rfl⟩
 have hg0 : τ0.get 0 = some ⟨tokC 0 [] 0 0, .own⟩ := by rw [hτ0]; rfl
 have htc : [SV.int .i64 0, .str [], .int .i64 0, .int .i64 0] = tokC 0 [] 0 0 := rfl
 have hes : emptyH.size = 0 := rfl
 have hbn : bytes [] = [] := rfl
 obtain ⟨D, hD⟩ : ∃ D, runF digB s 0 = D := ⟨_, rfl⟩
 have hDt : s.take D.length = D := by rw [← hD]; exact take_run digB s
 have hDd : ∀ c ∈ D, digB c = true := by rw [← hD]; exact run_mem
 have hDl : D.length ≤ s.length := by have := runs_le (p := digB) (s := s) (i := 0) (by omega); rw [hD] at this; omega
 rw [hD] at hZ
 simp (maxDischargeDepth := 99) [-writeAt, cRNumber, htc, ← hτ0, hes, hbn]
 refine endsi_to 0 (INu s D.length) ?_ ?_
 ·refine endsi_range D.length (INu s) ?_ ?_ ?_
  ·exact ⟨by simp, by simp, by simp, by simp, hg0⟩
  ·rintro i fr τ hlt ⟨hlen, f0, f2, f5, hg⟩
   obtain ⟨c, hc, hpc, hjl⟩ := run_get (pb := digB) (s := s) (i := 0) (j := i) (by rw [hD]; exact hlt)
   rw [Nat.zero_add] at hc hjl
   have hcg : s[i] = c := (List.getElem?_eq_some_iff.1 hc).2
   have hlti : (i : Int) < (s.length : Int) := by omega
   have hw := wr_next hjl (by omega)
   have hd := fun σ => eq_rdigit σ c
   rw [hpc] at hd
   simp (maxDischargeDepth := 99) [-writeAt, -Int.natCast_add, cRNumber_0, hlen, f0, f2, f5, hjl, hlti, hc, hcg, hd, hw]
   exact ⟨by simp [hlen], by simp [hlen, f0], by simp [hlen, f2], by simp [hlen], hg⟩
  ·rintro fr τ ⟨hlen, f0, f2, f5, hg⟩
   have hst := run_stop (pb := digB) (s := s) (i := 0)
   rw [hD, Nat.zero_add] at hst
   have hI : ∀ fr', fr'.length = 172 → getSlot fr' 0 = .one (.str s) → getSlot fr' 2 = .one (.ptr 0 0) → getSlot fr' 5 = .one (.int .i64 D.length) → INu s D.length fr' τ := fun fr' a b c d => ⟨a, b, c, d, hg⟩
   rcases hst with hge | ⟨c, hc, hpc⟩
   ·have hlti : ¬ (D.length : Int) < (s.length : Int) := by omega
    simp (maxDischargeDepth := 99) [-writeAt, cRNumber_0, hlen, f0, f2, f5, hlti]
    exact hI _ (by simp [hlen]) (by simp [hlen, f0]) (by simp [hlen, f2]) (by simp [hlen, f5])
   ·have hjl := (List.getElem?_eq_some_iff.1 hc).1
    have hcg : s[D.length] = c := (List.getElem?_eq_some_iff.1 hc).2
    have hlti : (D.length : Int) < (s.length : Int) := by omega
    have hd := fun σ => eq_rdigit σ c
    rw [hpc] at hd
    simp (maxDischargeDepth := 99) [-writeAt, cRNumber_0, hlen, f0, f2, f5, hjl, hlti, hc, hcg, hd]
    exact hI _ (by simp [hlen]) (by simp [hlen, f0]) (by simp [hlen, f2]) (by simp [hlen, f5])
 ·rintro fr τ ⟨hlen, f0, f2, f5, hg⟩
  obtain ⟨n, hn⟩ : ∃ n, D.length = n := ⟨_, rfl⟩
  rw [hn] at hDt hDl f5 hZ
  obtain ⟨c0, hc0⟩ : ∃ c0, s[0] = c0 := ⟨_, rfl⟩
  have hc0g : s[0]? = some c0 := by rw [List.getElem?_eq_getElem hsp, hc0]
  have hspI : (0 : Int) < (s.length : Int) := by omega
  have hnI : (n : Int) ≤ (s.length : Int) := by omega
  have hdt2 : (s.drop n).take (s.length - n) = s.drop n := List.take_of_length_le (by simp)
  have hu := fun σ => eq_unit5 σ (s.drop n)
  have hus := unit_sh s n 0
  rw [Nat.add_zero] at hus
  rw [hus] at hu
  have hum := unit_mem s n
  have hwh := fun σ => eq_whole σ D (by rw [hn]; omega) hDd
  have htk : ∀ k x n p, (tokC k x n p).length = 4 := fun _ _ _ _ => rfl
  have htk2 : ∀ k x n p, List.take 4 (tokC k x n p) = tokC k x n p := fun _ _ _ _ => rfl
  have hfold : ∀ k x n p, [SV.int .i64 k, .str x, .int .i64 n, .int .i64 p] = tokC k x n p := fun _ _ _ _ => rfl
  have hta : List.take 1 (tokC 0 [] 0 0).tail = [.str []] := rfl
  have hd3 : List.drop 3 (tokC 0 [] 0 0) = [.int .i64 0] := rfl
  obtain ⟨τ6, w6, g6, _, _⟩ := put_ok (vs := tokC 0 [] 0 0) (cs' := tokC 0 [] 0 0) 0 hg rfl (by simp [tokC])
  have hbad : (((1 : Int) < n ∧ (c0.toNat : Int) = 48) ∧ (1 < n ∧ s[0]? = some 48)) ∨ (((¬ (1 : Int) < n ∧ True) ∨ ((1 : Int) < n ∧ ¬ (c0.toNat : Int) = 48)) ∧ ¬ (1 < n ∧ s[0]? = some 48)) := by
   by_cases h1 : 1 < n
   ·by_cases h2 : c0 = 48
    ·left
     subst h2
     exact ⟨⟨by omega, rfl⟩, h1, hc0g⟩
    ·right
     refine ⟨.inr ⟨by omega, ?_⟩, fun h => ?_⟩
     ·intro e
      apply h2
      have : c0.toNat = (48 : UInt8).toNat := by show c0.toNat = 48; omega
      exact UInt8.toNat_inj.1 this
     ·rw [hc0g] at h
      exact h2 (Option.some.inj h.2)
   ·right
    exact ⟨.inl ⟨by omega, trivial⟩, fun h => h1 h.1⟩
  obtain ⟨u, hun⟩ : ∃ u, unitF s n = u := ⟨_, rfl⟩
  rw [hun] at hu hZ hum
  obtain ⟨sz, k⟩ := u
  simp only at hu hZ
  by_cases hk : 0 < k
  ·-- a period
   have hkI : (0 : Int) < (k : Int) := by omega
   obtain ⟨hz1, hz2, hz3⟩ := units_pos _ hum hk
   simp only at hz1 hz2 hz3
   rw [if_pos hk] at hZ
   have hw1 : wr .i64 ((n : Int) + k) = ((n + k : Nat) : Int) := by unfold maxElems at hme; rw [wr64 (by omega) (by omega)]; omega
   have hq : (1099511627776 : Int).tdiv sz = ((1099511627776 / sz : Nat) : Int) := by
    rw [Int.tdiv_eq_ediv_of_nonneg (by omega)]
    exact (Int.natCast_ediv 1099511627776 sz).symm
   have hszI : ¬ (sz : Int) = 0 := by omega
   have hsz0 : ¬ sz = 0 := by omega
   have hql : 1099511627776 / sz ≤ 1099511627776 := Nat.div_le_self _ _
   obtain ⟨y, hy⟩ : ∃ y, 1099511627776 / sz = y := ⟨_, rfl⟩
   rw [hy] at hq hql hZ
   have hwq : wr .i64 (y : Int) = (y : Int) := wr64 (by omega) (by omega)
   rcases hbad with ⟨⟨hb1, hb2⟩, hb3⟩ | ⟨hb12, hb3⟩
   ·rw [if_pos hb3] at hZ
    subst hZ
    by_cases ho : mostN < valF D
    ·rw [whole_no ho] at hwh
     simp (maxDischargeDepth := 99) [-writeAt, -Int.natCast_add, hlen, f0, f2, f5, hc0, hc0g, hspI, hsp, hnI, hDl, hDt, hdt2, hu, hk, hkI, hwh, hb1, hb2, splice, hbn, hfold, htk, htk2, w6, g6, fst1, tkOut, LTok.cells]
    ·rw [whole_yes ho] at hwh
     simp (maxDischargeDepth := 99) [-writeAt, -Int.natCast_add, hlen, f0, f2, f5, hc0, hc0g, hspI, hsp, hnI, hDl, hDt, hdt2, hu, hk, hkI, hwh, hb1, hb2, splice, hbn, hfold, htk, htk2, w6, g6, fst1, tkOut, LTok.cells]
   ·rw [if_neg hb3] at hZ
    by_cases ho : mostN < valF D
    ·rw [whole_no ho] at hwh
     rw [if_pos (.inl ho)] at hZ
     subst hZ
     rcases hb12 with ⟨hb1, hb2⟩ | ⟨hb1, hb2⟩ <;>
      simp (maxDischargeDepth := 99) [-writeAt, -Int.natCast_add, hlen, f0, f2, f5, hc0, hc0g, hspI, hsp, hnI, hDl, hDt, hdt2, hu, hk, hkI, hwh, hb1, hb2, splice, hbn, hfold, htk, htk2, w6, g6, fst1, tkOut, LTok.cells]
    ·rw [whole_yes ho] at hwh
     by_cases hx : y < valF D
     ·have hxI : (y : Int) < (valF D : Int) := by omega
      rw [if_pos (.inr hx)] at hZ
      subst hZ
      rcases hb12 with ⟨hb1, hb2⟩ | ⟨hb1, hb2⟩ <;>
       simp (maxDischargeDepth := 99) [-writeAt, -Int.natCast_add, hlen, f0, f2, f5, hc0, hc0g, hspI, hsp, hnI, hDl, hDt, hdt2, hu, hk, hkI, hwh, hb1, hb2, hszI, hsz0, hq, hwq, hxI, splice, hbn, hfold, htk, htk2, w6, g6, fst1, tkOut, LTok.cells]
     ·have hxI : ¬ (y : Int) < (valF D : Int) := by omega
      have hmul := units_mul _ hum (valF D) hk (by simp only; rw [hy]; exact hx)
      simp only at hmul
      have hwm : wr .i64 ((valF D : Int) * sz) = (valF D : Int) * sz := by
       rw [← Int.natCast_mul]
       exact wr64 (by omega) (by omega)
      rw [if_neg (by rw [not_or]; exact ⟨ho, hx⟩)] at hZ
      subst hZ
      obtain ⟨τ5, w5, g5, _, _⟩ := put_ok (vs := tokC 7 [] ((valF D : Int) * sz) 0) (cs' := tokC 7 [] ((valF D : Int) * sz) 0) 0 hg rfl (by simp [tokC])
      rcases hb12 with ⟨hb1, hb2⟩ | ⟨hb1, hb2⟩ <;>
       simp (maxDischargeDepth := 99) [-writeAt, -Int.natCast_add, -Int.natCast_mul, hlen, f0, f2, f5, hc0, hc0g, hspI, hsp, hnI, hDl, hDt, hdt2, hu, hk, hkI, hwh, hb1, hb2, hszI, hsz0, hq, hwq, hxI, hwm, hw1, splice, hta, hd3, hbn, hfold, htk, htk2, w5, g5, fst1, tkOut, LTok.cells]
  ·-- a whole number, or a decimal
   have hkI : ¬ (0 : Int) < (k : Int) := by omega
   rw [if_neg hk] at hZ
   have hw1 : wr .i64 ((n : Int) + 1) = ((n + 1 : Nat) : Int) := by rw [wr64 (by omega) (by omega)]; omega
   by_cases hA : n + 1 < s.length
   ·have hAI : ((n + 1 : Nat) : Int) < (s.length : Int) := by omega
    have hB : n < s.length := by omega
    have hBI : (n : Int) < (s.length : Int) := by omega
    obtain ⟨c1, hc1⟩ : ∃ c1, s[n] = c1 := ⟨_, rfl⟩
    have hc1g : s[n]? = some c1 := by rw [List.getElem?_eq_getElem hB, hc1]
    obtain ⟨c2, hc2⟩ : ∃ c2, s[n + 1] = c2 := ⟨_, rfl⟩
    have hc2g : s[n + 1]? = some c2 := by rw [List.getElem?_eq_getElem hA, hc2]
    have hl1 : lookF s n 0 = c1 := by unfold lookF; rw [Nat.add_zero, hc1g]; rfl
    have hl2 : lookF s n 1 = c2 := by unfold lookF; rw [hc2g]; rfl
    have hl := fun σ => eq_rletter σ c1
    have hd := fun σ => eq_rdigit σ c2
    rw [hl1, hl2] at hZ
    by_cases h46 : c1 = 46
    ·subst h46
     have h46I : (((46 : UInt8).toNat : Nat) : Int) = 46 := rfl
     cases hdg : digB c2 with
     | true =>
      rw [hdg] at hd hZ
      rw [if_pos ⟨rfl, rfl⟩] at hZ
      obtain ⟨F, hF⟩ : ∃ F, runF digB s (n + 1) = F := ⟨_, rfl⟩
      rw [hF] at hZ
      obtain ⟨m, hm⟩ : ∃ m, n + 1 + F.length = m := ⟨_, rfl⟩
      rw [hm] at hZ
      have hml : m ≤ s.length := by have := runs_le (p := digB) (s := s) (i := n + 1) (by omega); rw [hF] at this; omega
      have hFt : (s.drop (n + 1)).take (m - (n + 1)) = F := by
       have := take_run digB (s.drop (n + 1))
       rw [run_sh, Nat.add_zero, hF] at this
       rw [show m - (n + 1) = F.length by omega]
       exact this
      have hFd : ∀ c ∈ F, digB c = true := by rw [← hF]; exact run_mem
      have hbadc : ∃ bb : Bool, (((1 : Int) < n ∧ (c0.toNat : Int) = 48) ∧ decide (1 < n ∧ s[0]? = some 48) = bb ∧ bb = true) ∨ ((¬ (1 : Int) < n ∧ True) ∧ decide (1 < n ∧ s[0]? = some 48) = bb ∧ bb = false) ∨ (((1 : Int) < n ∧ ¬ (c0.toNat : Int) = 48) ∧ decide (1 < n ∧ s[0]? = some 48) = bb ∧ bb = false) := by
       rcases hbad with ⟨h1, h2⟩ | ⟨h1 | h1, h2⟩
       ·exact ⟨true, .inl ⟨h1, decide_eq_true h2, rfl⟩⟩
       ·exact ⟨false, .inr (.inl ⟨h1, decide_eq_false h2, rfl⟩)⟩
       ·exact ⟨false, .inr (.inr ⟨h1, decide_eq_false h2, rfl⟩)⟩
      obtain ⟨bb, hbadc⟩ := hbadc
      have hmI : (m : Int) ≤ (s.length : Int) := by omega
      have hn1m : ((n + 1 : Nat) : Int) ≤ (m : Int) := by omega
      have hn1mn : n + 1 ≤ m := by omega
      have hb0 : bytes [48] = [48] := rfl
      have hxe : valF (D ++ F ++ List.replicate (4 - F.length) 48) = valF (D ++ (F ++ List.replicate (4 - F.length) 48)) := by rw [List.append_assoc]
      rcases hbadc with ⟨⟨hb1, hb2⟩, hdec, hbb⟩ | ⟨⟨hb1, hb2⟩, hdec, hbb⟩ | ⟨⟨hb1, hb2⟩, hdec, hbb⟩ <;>
       (simp (maxDischargeDepth := 99) [-writeAt, -Int.natCast_add, hlen, f0, f2, f5, hc0, hc0g, hspI, hsp, hnI, hDl, hDt, hdt2, hu, hk, hkI, hw1, hb1, hb2, hA, hAI, hB, hBI, hc1, hc1g, hc2, hc2g, h46I, hd]
        refine endsi_to 2 (IDe s D bb n F.length) ?_ ?_
        ·refine endsi_range F.length (IDe s D bb n) ?_ ?_ ?_
         ·exact ⟨by simp [hlen], by simp [hlen, f0], by simp [hlen, f2], by simp [hlen, f5], by simp [hlen], by simp [hlen, hbb], by simp [hlen], hg⟩
         ·rintro i fr2 τ2 hlt ⟨glen, g0, g2, g5, g6', g7, g12, gg⟩
          obtain ⟨c, hc, hpc, hjl⟩ := run_get (pb := digB) (s := s) (i := n + 1) (j := i) (by rw [hF]; exact hlt)
          have hcg : s[n + 1 + i] = c := (List.getElem?_eq_some_iff.1 hc).2
          have hlti : ((n + 1 + i : Nat) : Int) < (s.length : Int) := by omega
          have hw := wr_next hjl (by omega)
          have hdd := fun σ => eq_rdigit σ c
          rw [hpc] at hdd
          simp (maxDischargeDepth := 99) [-writeAt, -Int.natCast_add, cRNumber_1, glen, g0, g12, hjl, hlti, hc, hcg, hdd, hw]
          exact ⟨by simp [glen], by simp [glen, g0], by simp [glen, g2], by simp [glen, g5], by simp [glen, g6'], by simp [glen, g7], by simp [glen, Nat.add_assoc], gg⟩
         ·rintro fr2 τ2 ⟨glen, g0, g2, g5, g6', g7, g12, gg⟩
          have hst := run_stop (pb := digB) (s := s) (i := n + 1)
          rw [hF] at hst
          rcases hst with hge | ⟨c, hc, hpc⟩
          ·have hlti : ¬ ((n + 1 + F.length : Nat) : Int) < (s.length : Int) := by omega
           simp (maxDischargeDepth := 99) [-writeAt, -Int.natCast_add, cRNumber_1, glen, g0, g12, hlti]
           exact ⟨by simp [glen], by simp [glen, g0], by simp [glen, g2], by simp [glen, g5], by simp [glen, g6'], by simp [glen, g7], by simp [glen, g12], gg⟩
          ·have hjl := (List.getElem?_eq_some_iff.1 hc).1
           have hcg : s[n + 1 + F.length] = c := (List.getElem?_eq_some_iff.1 hc).2
           have hlti : ((n + 1 + F.length : Nat) : Int) < (s.length : Int) := by omega
           have hdd := fun σ => eq_rdigit σ c
           rw [hpc] at hdd
           simp (maxDischargeDepth := 99) [-writeAt, -Int.natCast_add, cRNumber_1, glen, g0, g12, hjl, hlti, hc, hcg, hdd]
           exact ⟨by simp [glen], by simp [glen, g0], by simp [glen, g2], by simp [glen, g5], by simp [glen, g6'], by simp [glen, g7], by simp [glen, g12], gg⟩
        ·rintro fr2 τ2 ⟨glen, g0, g2, g5, g6', g7, g12, gg⟩
         rw [hm] at g12
         cases bb with
         | true =>
          have hb3 : 1 < n ∧ s[0]? = some 48 := of_decide_eq_true hdec
          have hZ50 : tkOut (⟨0, [], 0, 0⟩, 0, some 50) = Z := by
           rw [← hZ, if_pos hb3]
           split <;> rfl
          simp (maxDischargeDepth := 99) [-writeAt, -Int.natCast_add, glen, g0, g2, g5, g6', g7, g12, hmI, hml, hn1m, hn1mn, hw1, hFt, ]
          refine endsi_to 4 (IPd D F true m (4 - F.length)) ?_ ?_
          ·refine endsi_range (4 - F.length) (IPd D F true m) ?_ ?_ ?_
           ·exact ⟨by simp [glen], by simp [glen, g2], by simp [glen, g6'], by simp [glen], by simp [glen, g12], by simp [glen], gg⟩
           ·rintro i fr3 τ3 hlt ⟨klen, k2, k6, k7, k12, k13, kg⟩
            have hL : (F ++ List.replicate i (48 : UInt8)).length = F.length + i := by simp
            have hLI : (((F ++ List.replicate i (48 : UInt8)).length : Nat) : Int) < 4 := by omega
            have hcat : sbin .add (F ++ List.replicate i 48) [48] = some (.str (F ++ List.replicate (i + 1) 48)) := by
             rw [cat1 (by rw [hL, List.length_singleton]; omega), List.append_assoc, ← List.replicate_succ']
            generalize F ++ List.replicate i 48 = G at k13 hL hLI hcat
            simp (maxDischargeDepth := 99) [-writeAt, -Int.natCast_add, cRNumber_2, klen, k13, hLI, hb0, hcat]
            exact ⟨by simp [klen], by simp [klen, k2], by simp [klen, k6], by simp [klen, k7], by simp [klen, k12], by simp [klen], kg⟩
           ·rintro fr3 τ3 ⟨klen, k2, k6, k7, k12, k13, kg⟩
            have hLI : ¬ (((F ++ List.replicate (4 - F.length) (48 : UInt8)).length : Nat) : Int) < 4 := by simp only [List.length_append, List.length_replicate]; omega
            have hI3 : ∀ fr', fr'.length = 172 → getSlot fr' 2 = .one (.ptr 0 0) → getSlot fr' 6 = .one (.str D) → getSlot fr' 7 = .one (.bool true) → getSlot fr' 12 = .one (.int .i64 m) → getSlot fr' 13 = getSlot fr3 13 → IPd D F true m (4 - F.length) fr' τ3 := fun fr' a b c d e f => ⟨a, b, c, d, e, f.trans k13, kg⟩
            have k13' := k13
            generalize F ++ List.replicate (4 - F.length) 48 = G at k13' hLI
            simp (maxDischargeDepth := 99) [-writeAt, -Int.natCast_add, cRNumber_2, klen, k13', hLI]
            exact hI3 _ (by simp [klen]) (by simp [klen, k2]) (by simp [klen, k6]) (by simp [klen, k7]) (by simp [klen, k12]) (by simp [klen])
          ·rintro fr3 τ3 ⟨klen, k2, k6, k7, k12, k13, kg⟩
           obtain ⟨τ7, w7, g7', _, _⟩ := put_ok (vs := tokC 0 [] 0 0) (cs' := tokC 0 [] 0 0) 0 kg rfl (by simp [tokC])
           subst hZ50
           simp (maxDischargeDepth := 99) [-writeAt, -Int.natCast_add, klen, k2, k7, splice, hbn, hta, hd3, hfold, htk, htk2, w7, g7', tkOut, LTok.cells]
         | false =>
          have hb3 : ¬ (1 < n ∧ s[0]? = some 48) := of_decide_eq_false hdec
          rw [if_neg hb3] at hZ
          by_cases hF4 : 4 < F.length
          ·have hF4I : (4 : Int) < (F.length : Int) := by omega
           have hZ50 : tkOut (⟨0, [], 0, 0⟩, 0, some 50) = Z := by
            rw [← hZ, if_pos (.inl hF4)]
            rfl
           simp (maxDischargeDepth := 99) [-writeAt, -Int.natCast_add, glen, g0, g2, g5, g6', g7, g12, hmI, hml, hn1m, hn1mn, hw1, hFt, hF4I]
           refine endsi_to 4 (IPd D F true m (4 - F.length)) ?_ ?_
           ·refine endsi_range (4 - F.length) (IPd D F true m) ?_ ?_ ?_
            ·exact ⟨by simp [glen], by simp [glen, g2], by simp [glen, g6'], by simp [glen], by simp [glen, g12], by simp [glen], gg⟩
            ·rintro i fr3 τ3 hlt ⟨klen, k2, k6, k7, k12, k13, kg⟩
             have hL : (F ++ List.replicate i (48 : UInt8)).length = F.length + i := by simp
             have hLI : (((F ++ List.replicate i (48 : UInt8)).length : Nat) : Int) < 4 := by omega
             have hcat : sbin .add (F ++ List.replicate i 48) [48] = some (.str (F ++ List.replicate (i + 1) 48)) := by
              rw [cat1 (by rw [hL, List.length_singleton]; omega), List.append_assoc, ← List.replicate_succ']
             generalize F ++ List.replicate i 48 = G at k13 hL hLI hcat
             simp (maxDischargeDepth := 99) [-writeAt, -Int.natCast_add, cRNumber_2, klen, k13, hLI, hb0, hcat]
             exact ⟨by simp [klen], by simp [klen, k2], by simp [klen, k6], by simp [klen, k7], by simp [klen, k12], by simp [klen], kg⟩
            ·rintro fr3 τ3 ⟨klen, k2, k6, k7, k12, k13, kg⟩
             have hLI : ¬ (((F ++ List.replicate (4 - F.length) (48 : UInt8)).length : Nat) : Int) < 4 := by simp only [List.length_append, List.length_replicate]; omega
             have hI3 : ∀ fr', fr'.length = 172 → getSlot fr' 2 = .one (.ptr 0 0) → getSlot fr' 6 = .one (.str D) → getSlot fr' 7 = .one (.bool true) → getSlot fr' 12 = .one (.int .i64 m) → getSlot fr' 13 = getSlot fr3 13 → IPd D F true m (4 - F.length) fr' τ3 := fun fr' a b c d e f => ⟨a, b, c, d, e, f.trans k13, kg⟩
             have k13' := k13
             generalize F ++ List.replicate (4 - F.length) 48 = G at k13' hLI
             simp (maxDischargeDepth := 99) [-writeAt, -Int.natCast_add, cRNumber_2, klen, k13', hLI]
             exact hI3 _ (by simp [klen]) (by simp [klen, k2]) (by simp [klen, k6]) (by simp [klen, k7]) (by simp [klen, k12]) (by simp [klen])
           ·rintro fr3 τ3 ⟨klen, k2, k6, k7, k12, k13, kg⟩
            obtain ⟨τ7, w7, g7', _, _⟩ := put_ok (vs := tokC 0 [] 0 0) (cs' := tokC 0 [] 0 0) 0 kg rfl (by simp [tokC])
            subst hZ50
            simp (maxDischargeDepth := 99) [-writeAt, -Int.natCast_add, klen, k2, k7, splice, hbn, hta, hd3, hfold, htk, htk2, w7, g7', tkOut, LTok.cells]
          ·have hF4I : ¬ (4 : Int) < (F.length : Int) := by omega
           by_cases hmlt : m < s.length
           ·have hmltI : (m : Int) < (s.length : Int) := by omega
            obtain ⟨c3, hc3⟩ : ∃ c3, s[m] = c3 := ⟨_, rfl⟩
            have hc3g : s[m]? = some c3 := by rw [List.getElem?_eq_getElem hmlt, hc3]
            have hl3 := fun σ => eq_rletter σ c3
            have hlm : lookF s m 0 = c3 := by unfold lookF; rw [Nat.add_zero, hc3g]; rfl
            rw [hlm] at hZ
            cases hlet : letB c3 with
            | true =>
             rw [hlet] at hl3
             have hZ50 : tkOut (⟨0, [], 0, 0⟩, 0, some 50) = Z := by
              rw [← hZ, if_pos (.inr hlet)]
              rfl
             simp (maxDischargeDepth := 99) [-writeAt, -Int.natCast_add, glen, g0, g2, g5, g6', g7, g12, hmI, hml, hn1m, hn1mn, hw1, hFt, hF4I, hmlt, hmltI, hc3, hc3g, hl3]
             refine endsi_to 4 (IPd D F true m (4 - F.length)) ?_ ?_
             ·refine endsi_range (4 - F.length) (IPd D F true m) ?_ ?_ ?_
              ·exact ⟨by simp [glen], by simp [glen, g2], by simp [glen, g6'], by simp [glen], by simp [glen, g12], by simp [glen], gg⟩
              ·rintro i fr3 τ3 hlt ⟨klen, k2, k6, k7, k12, k13, kg⟩
               have hL : (F ++ List.replicate i (48 : UInt8)).length = F.length + i := by simp
               have hLI : (((F ++ List.replicate i (48 : UInt8)).length : Nat) : Int) < 4 := by omega
               have hcat : sbin .add (F ++ List.replicate i 48) [48] = some (.str (F ++ List.replicate (i + 1) 48)) := by
                rw [cat1 (by rw [hL, List.length_singleton]; omega), List.append_assoc, ← List.replicate_succ']
               generalize F ++ List.replicate i 48 = G at k13 hL hLI hcat
               simp (maxDischargeDepth := 99) [-writeAt, -Int.natCast_add, cRNumber_2, klen, k13, hLI, hb0, hcat]
               exact ⟨by simp [klen], by simp [klen, k2], by simp [klen, k6], by simp [klen, k7], by simp [klen, k12], by simp [klen], kg⟩
              ·rintro fr3 τ3 ⟨klen, k2, k6, k7, k12, k13, kg⟩
               have hLI : ¬ (((F ++ List.replicate (4 - F.length) (48 : UInt8)).length : Nat) : Int) < 4 := by simp only [List.length_append, List.length_replicate]; omega
               have hI3 : ∀ fr', fr'.length = 172 → getSlot fr' 2 = .one (.ptr 0 0) → getSlot fr' 6 = .one (.str D) → getSlot fr' 7 = .one (.bool true) → getSlot fr' 12 = .one (.int .i64 m) → getSlot fr' 13 = getSlot fr3 13 → IPd D F true m (4 - F.length) fr' τ3 := fun fr' a b c d e f => ⟨a, b, c, d, e, f.trans k13, kg⟩
               have k13' := k13
               generalize F ++ List.replicate (4 - F.length) 48 = G at k13' hLI
               simp (maxDischargeDepth := 99) [-writeAt, -Int.natCast_add, cRNumber_2, klen, k13', hLI]
               exact hI3 _ (by simp [klen]) (by simp [klen, k2]) (by simp [klen, k6]) (by simp [klen, k7]) (by simp [klen, k12]) (by simp [klen])
             ·rintro fr3 τ3 ⟨klen, k2, k6, k7, k12, k13, kg⟩
              obtain ⟨τ7, w7, g7', _, _⟩ := put_ok (vs := tokC 0 [] 0 0) (cs' := tokC 0 [] 0 0) 0 kg rfl (by simp [tokC])
              subst hZ50
              simp (maxDischargeDepth := 99) [-writeAt, -Int.natCast_add, klen, k2, k7, splice, hbn, hta, hd3, hfold, htk, htk2, w7, g7', tkOut, LTok.cells]
            | false =>
             rw [hlet] at hl3
             have hZX := hZ
             rw [if_neg (show ¬ (4 < F.length ∨ letB c3 = true) from fun h => h.elim hF4 (fun h => by rw [hlet] at h; cases h)), hxe] at hZX
             simp only [fst1] at hZX
             clear hxe hZ
             simp (maxDischargeDepth := 99) [-writeAt, -Int.natCast_add, glen, g0, g2, g5, g6', g7, g12, hmI, hml, hn1m, hn1mn, hw1, hFt, hF4I, hmlt, hmltI, hc3, hc3g, hl3]
             refine endsi_to 4 (IPd D F false m (4 - F.length)) ?_ ?_
             ·refine endsi_range (4 - F.length) (IPd D F false m) ?_ ?_ ?_
              ·exact ⟨by simp [glen], by simp [glen, g2], by simp [glen, g6'], by simp [glen], by simp [glen, g12], by simp [glen], gg⟩
              ·rintro i fr3 τ3 hlt ⟨klen, k2, k6, k7, k12, k13, kg⟩
               have hL : (F ++ List.replicate i (48 : UInt8)).length = F.length + i := by simp
               have hLI : (((F ++ List.replicate i (48 : UInt8)).length : Nat) : Int) < 4 := by omega
               have hcat : sbin .add (F ++ List.replicate i 48) [48] = some (.str (F ++ List.replicate (i + 1) 48)) := by
                rw [cat1 (by rw [hL, List.length_singleton]; omega), List.append_assoc, ← List.replicate_succ']
               generalize F ++ List.replicate i 48 = G at k13 hL hLI hcat
               simp (maxDischargeDepth := 99) [-writeAt, -Int.natCast_add, cRNumber_2, klen, k13, hLI, hb0, hcat]
               exact ⟨by simp [klen], by simp [klen, k2], by simp [klen, k6], by simp [klen, k7], by simp [klen, k12], by simp [klen], kg⟩
              ·rintro fr3 τ3 ⟨klen, k2, k6, k7, k12, k13, kg⟩
               have hLI : ¬ (((F ++ List.replicate (4 - F.length) (48 : UInt8)).length : Nat) : Int) < 4 := by simp only [List.length_append, List.length_replicate]; omega
               have hI3 : ∀ fr', fr'.length = 172 → getSlot fr' 2 = .one (.ptr 0 0) → getSlot fr' 6 = .one (.str D) → getSlot fr' 7 = .one (.bool false) → getSlot fr' 12 = .one (.int .i64 m) → getSlot fr' 13 = getSlot fr3 13 → IPd D F false m (4 - F.length) fr' τ3 := fun fr' a b c d e f => ⟨a, b, c, d, e, f.trans k13, kg⟩
               have k13' := k13
               generalize F ++ List.replicate (4 - F.length) 48 = G at k13' hLI
               simp (maxDischargeDepth := 99) [-writeAt, -Int.natCast_add, cRNumber_2, klen, k13', hLI]
               exact hI3 _ (by simp [klen]) (by simp [klen, k2]) (by simp [klen, k6]) (by simp [klen, k7]) (by simp [klen, k12]) (by simp [klen])
             ·rintro fr3 τ3 ⟨klen, k2, k6, k7, k12, k13, kg⟩
              have hGl : (F ++ List.replicate (4 - F.length) (48 : UInt8)).length ≤ 4 := by simp only [List.length_append, List.length_replicate]; omega
              have hGd : ∀ c ∈ D ++ (F ++ List.replicate (4 - F.length) 48), digB c = true := by
               intro c hc
               rw [List.mem_append, List.mem_append] at hc
               rcases hc with hc | hc | hc
               ·exact hDd c hc
               ·exact hFd c hc
               ·rw [List.eq_of_mem_replicate hc]; decide
              generalize F ++ List.replicate (4 - F.length) 48 = G at k13 hGl hGd hZX
              have hcat : sbin .add D G = some (.str (D ++ G)) := cat1 (by omega)
              have hwg := fun σ => eq_whole σ (D ++ G) (by rw [List.length_append]; omega) hGd
              generalize D ++ G = H at *
              by_cases ho : mostN < valF H
              ·rw [whole_no ho] at hwg
               rw [if_pos ho] at hZX
               obtain ⟨τ7, w7, g7', _, _⟩ := put_ok (vs := tokC 0 [] 0 0) (cs' := tokC 0 [] 0 0) 0 kg rfl (by simp [tokC])
               subst hZX
               simp (maxDischargeDepth := 99) [-writeAt, -Int.natCast_add, klen, k2, k6, k7, k12, k13, hcat, hwg, splice, hbn, hta, hd3, hfold, htk, htk2, w7, g7', tkOut, LTok.cells]
              ·rw [whole_yes ho] at hwg
               rw [if_neg ho] at hZX
               obtain ⟨τ7, w7, g7', _, _⟩ := put_ok (vs := tokC 4 [] (valF H : Int) 0) (cs' := tokC 4 [] (valF H : Int) 0) 0 kg rfl (by simp [tokC])
               subst hZX
               simp (maxDischargeDepth := 99) [-writeAt, -Int.natCast_add, klen, k2, k6, k7, k12, k13, hcat, hwg, splice, hbn, hta, hd3, hfold, htk, htk2, w7, g7', tkOut, LTok.cells]
           ·have hmltI : ¬ (m : Int) < (s.length : Int) := by omega
            have hlm : lookF s m 0 = 0 := by unfold lookF; rw [List.getElem?_eq_none (by omega)]; rfl
            have hZX := hZ
            rw [hlm, if_neg (show ¬ (4 < F.length ∨ letB 0 = true) from fun h => h.elim hF4 (fun h => absurd h (by decide))), hxe] at hZX
            simp only [fst1] at hZX
            clear hxe hZ
            simp (maxDischargeDepth := 99) [-writeAt, -Int.natCast_add, glen, g0, g2, g5, g6', g7, g12, hmI, hml, hn1m, hn1mn, hw1, hFt, hF4I, hmlt, hmltI]
            refine endsi_to 4 (IPd D F false m (4 - F.length)) ?_ ?_
            ·refine endsi_range (4 - F.length) (IPd D F false m) ?_ ?_ ?_
             ·exact ⟨by simp [glen], by simp [glen, g2], by simp [glen, g6'], by simp [glen], by simp [glen, g12], by simp [glen], gg⟩
             ·rintro i fr3 τ3 hlt ⟨klen, k2, k6, k7, k12, k13, kg⟩
              have hL : (F ++ List.replicate i (48 : UInt8)).length = F.length + i := by simp
              have hLI : (((F ++ List.replicate i (48 : UInt8)).length : Nat) : Int) < 4 := by omega
              have hcat : sbin .add (F ++ List.replicate i 48) [48] = some (.str (F ++ List.replicate (i + 1) 48)) := by
               rw [cat1 (by rw [hL, List.length_singleton]; omega), List.append_assoc, ← List.replicate_succ']
              generalize F ++ List.replicate i 48 = G at k13 hL hLI hcat
              simp (maxDischargeDepth := 99) [-writeAt, -Int.natCast_add, cRNumber_2, klen, k13, hLI, hb0, hcat]
              exact ⟨by simp [klen], by simp [klen, k2], by simp [klen, k6], by simp [klen, k7], by simp [klen, k12], by simp [klen], kg⟩
             ·rintro fr3 τ3 ⟨klen, k2, k6, k7, k12, k13, kg⟩
              have hLI : ¬ (((F ++ List.replicate (4 - F.length) (48 : UInt8)).length : Nat) : Int) < 4 := by simp only [List.length_append, List.length_replicate]; omega
              have hI3 : ∀ fr', fr'.length = 172 → getSlot fr' 2 = .one (.ptr 0 0) → getSlot fr' 6 = .one (.str D) → getSlot fr' 7 = .one (.bool false) → getSlot fr' 12 = .one (.int .i64 m) → getSlot fr' 13 = getSlot fr3 13 → IPd D F false m (4 - F.length) fr' τ3 := fun fr' a b c d e f => ⟨a, b, c, d, e, f.trans k13, kg⟩
              have k13' := k13
              generalize F ++ List.replicate (4 - F.length) 48 = G at k13' hLI
              simp (maxDischargeDepth := 99) [-writeAt, -Int.natCast_add, cRNumber_2, klen, k13', hLI]
              exact hI3 _ (by simp [klen]) (by simp [klen, k2]) (by simp [klen, k6]) (by simp [klen, k7]) (by simp [klen, k12]) (by simp [klen])
            ·rintro fr3 τ3 ⟨klen, k2, k6, k7, k12, k13, kg⟩
             have hGl : (F ++ List.replicate (4 - F.length) (48 : UInt8)).length ≤ 4 := by simp only [List.length_append, List.length_replicate]; omega
             have hGd : ∀ c ∈ D ++ (F ++ List.replicate (4 - F.length) 48), digB c = true := by
              intro c hc
              rw [List.mem_append, List.mem_append] at hc
              rcases hc with hc | hc | hc
              ·exact hDd c hc
              ·exact hFd c hc
              ·rw [List.eq_of_mem_replicate hc]; decide
             generalize F ++ List.replicate (4 - F.length) 48 = G at k13 hGl hGd hZX
             have hcat : sbin .add D G = some (.str (D ++ G)) := cat1 (by omega)
             have hwg := fun σ => eq_whole σ (D ++ G) (by rw [List.length_append]; omega) hGd
             generalize D ++ G = H at *
             by_cases ho : mostN < valF H
             ·rw [whole_no ho] at hwg
              rw [if_pos ho] at hZX
              obtain ⟨τ7, w7, g7', _, _⟩ := put_ok (vs := tokC 0 [] 0 0) (cs' := tokC 0 [] 0 0) 0 kg rfl (by simp [tokC])
              subst hZX
              simp (maxDischargeDepth := 99) [-writeAt, -Int.natCast_add, klen, k2, k6, k7, k12, k13, hcat, hwg, splice, hbn, hta, hd3, hfold, htk, htk2, w7, g7', tkOut, LTok.cells]
             ·rw [whole_yes ho] at hwg
              rw [if_neg ho] at hZX
              obtain ⟨τ7, w7, g7', _, _⟩ := put_ok (vs := tokC 4 [] (valF H : Int) 0) (cs' := tokC 4 [] (valF H : Int) 0) 0 kg rfl (by simp [tokC])
              subst hZX
              simp (maxDischargeDepth := 99) [-writeAt, -Int.natCast_add, klen, k2, k6, k7, k12, k13, hcat, hwg, splice, hbn, hta, hd3, hfold, htk, htk2, w7, g7', tkOut, LTok.cells])
     | false =>
      rw [hdg] at hd hZ
      have hlet : letB 46 = false := by decide
      rw [hlet] at hl
      simp only [h46I] at hl
      rw [if_neg (show ¬ ((46 : UInt8) = 46 ∧ false = true) from fun h => absurd h.2 (by decide))] at hZ
      rcases hbad with ⟨⟨hb1, hb2⟩, hb3⟩ | ⟨hb12, hb3⟩
      ·rw [if_pos hb3] at hZ
       subst hZ
       simp (maxDischargeDepth := 99) [-writeAt, -Int.natCast_add, hlen, f0, f2, f5, hc0, hc0g, hspI, hsp, hnI, hDl, hDt, hdt2, hu, hk, hkI, hw1, hb1, hb2, hA, hAI, hB, hBI, hc1, hc1g, hc2, hc2g, h46I, hd, hl, splice, hbn, hta, hd3, hfold, htk, htk2, w6, g6, fst1, tkOut, LTok.cells]
      ·rw [if_neg hb3] at hZ
       rw [hlet, if_neg (by decide)] at hZ
       by_cases ho : mostN < valF D
       ·rw [whole_no ho] at hwh
        rw [if_pos ho] at hZ
        subst hZ
        rcases hb12 with ⟨hb1, hb2⟩ | ⟨hb1, hb2⟩ <;>
         simp (maxDischargeDepth := 99) [-writeAt, -Int.natCast_add, hlen, f0, f2, f5, hc0, hc0g, hspI, hsp, hnI, hDl, hDt, hdt2, hu, hk, hkI, hw1, hb1, hb2, hA, hAI, hB, hBI, hc1, hc1g, hc2, hc2g, h46I, hd, hl, hwh, splice, hbn, hta, hd3, hfold, htk, htk2, w6, g6, fst1, tkOut, LTok.cells]
       ·rw [whole_yes ho] at hwh
        rw [if_neg ho] at hZ
        subst hZ
        obtain ⟨τ5, w5, g5, _, _⟩ := put_ok (vs := tokC 3 [] (valF D : Int) 0) (cs' := tokC 3 [] (valF D : Int) 0) 0 hg rfl (by simp [tokC])
        rcases hb12 with ⟨hb1, hb2⟩ | ⟨hb1, hb2⟩ <;>
         simp (maxDischargeDepth := 99) [-writeAt, -Int.natCast_add, hlen, f0, f2, f5, hc0, hc0g, hspI, hsp, hnI, hDl, hDt, hdt2, hu, hk, hkI, hw1, hb1, hb2, hA, hAI, hB, hBI, hc1, hc1g, hc2, hc2g, h46I, hd, hl, hwh, splice, hbn, hta, hd3, hfold, htk, htk2, w5, g5, fst1, tkOut, LTok.cells]
    ·have h46I : ¬ (c1.toNat : Int) = 46 := by
      intro e
      apply h46
      have : c1.toNat = (46 : UInt8).toNat := by show c1.toNat = 46; omega
      exact UInt8.toNat_inj.1 this
     rw [if_neg (show ¬ (c1 = 46 ∧ digB c2 = true) from fun h => h46 h.1)] at hZ
     cases hlet : letB c1 with
     | true =>
      rw [hlet] at hl
      rcases hbad with ⟨⟨hb1, hb2⟩, hb3⟩ | ⟨hb12, hb3⟩
      ·rw [if_pos hb3] at hZ
       subst hZ
       simp (maxDischargeDepth := 99) [-writeAt, -Int.natCast_add, hlen, f0, f2, f5, hc0, hc0g, hspI, hsp, hnI, hDl, hDt, hdt2, hu, hk, hkI, hw1, hb1, hb2, hA, hAI, hB, hBI, hc1, hc1g, h46I, hl, splice, hbn, hta, hd3, hfold, htk, htk2, w6, g6, fst1, tkOut, LTok.cells]
      ·rw [if_neg hb3] at hZ
       rw [hlet, if_pos rfl] at hZ
       subst hZ
       rcases hb12 with ⟨hb1, hb2⟩ | ⟨hb1, hb2⟩ <;>
        simp (maxDischargeDepth := 99) [-writeAt, -Int.natCast_add, hlen, f0, f2, f5, hc0, hc0g, hspI, hsp, hnI, hDl, hDt, hdt2, hu, hk, hkI, hw1, hb1, hb2, hA, hAI, hB, hBI, hc1, hc1g, h46I, hl, splice, hbn, hta, hd3, hfold, htk, htk2, w6, g6, fst1, tkOut, LTok.cells]
     | false =>
      rw [hlet] at hl
      rcases hbad with ⟨⟨hb1, hb2⟩, hb3⟩ | ⟨hb12, hb3⟩
      ·rw [if_pos hb3] at hZ
       subst hZ
       simp (maxDischargeDepth := 99) [-writeAt, -Int.natCast_add, hlen, f0, f2, f5, hc0, hc0g, hspI, hsp, hnI, hDl, hDt, hdt2, hu, hk, hkI, hw1, hb1, hb2, hA, hAI, hB, hBI, hc1, hc1g, h46I, hl, splice, hbn, hta, hd3, hfold, htk, htk2, w6, g6, fst1, tkOut, LTok.cells]
      ·rw [if_neg hb3] at hZ
       rw [hlet, if_neg (by decide)] at hZ
       by_cases ho : mostN < valF D
       ·rw [whole_no ho] at hwh
        rw [if_pos ho] at hZ
        subst hZ
        rcases hb12 with ⟨hb1, hb2⟩ | ⟨hb1, hb2⟩ <;>
         simp (maxDischargeDepth := 99) [-writeAt, -Int.natCast_add, hlen, f0, f2, f5, hc0, hc0g, hspI, hsp, hnI, hDl, hDt, hdt2, hu, hk, hkI, hw1, hb1, hb2, hA, hAI, hB, hBI, hc1, hc1g, h46I, hl, hwh, splice, hbn, hta, hd3, hfold, htk, htk2, w6, g6, fst1, tkOut, LTok.cells]
       ·rw [whole_yes ho] at hwh
        rw [if_neg ho] at hZ
        subst hZ
        obtain ⟨τ5, w5, g5, _, _⟩ := put_ok (vs := tokC 3 [] (valF D : Int) 0) (cs' := tokC 3 [] (valF D : Int) 0) 0 hg rfl (by simp [tokC])
        rcases hb12 with ⟨hb1, hb2⟩ | ⟨hb1, hb2⟩ <;>
         simp (maxDischargeDepth := 99) [-writeAt, -Int.natCast_add, hlen, f0, f2, f5, hc0, hc0g, hspI, hsp, hnI, hDl, hDt, hdt2, hu, hk, hkI, hw1, hb1, hb2, hA, hAI, hB, hBI, hc1, hc1g, h46I, hl, hwh, splice, hbn, hta, hd3, hfold, htk, htk2, w5, g5, fst1, tkOut, LTok.cells]
   ·have hAI : ¬ ((n + 1 : Nat) : Int) < (s.length : Int) := by omega
    by_cases hB : n < s.length
    ·have hBI : (n : Int) < (s.length : Int) := by omega
     obtain ⟨c1, hc1⟩ : ∃ c1, s[n] = c1 := ⟨_, rfl⟩
     have hc1g : s[n]? = some c1 := by rw [List.getElem?_eq_getElem hB, hc1]
     have hl1 : lookF s n 0 = c1 := by unfold lookF; rw [Nat.add_zero, hc1g]; rfl
     have hl2 : lookF s n 1 = 0 := by unfold lookF; rw [List.getElem?_eq_none (by omega)]; rfl
     have hl := fun σ => eq_rletter σ c1
     rw [hl1, hl2, if_neg (show ¬ (c1 = 46 ∧ digB 0 = true) from fun h => absurd h.2 (by decide))] at hZ
     cases hlet : letB c1 with
     | true =>
      rw [hlet] at hl
      rcases hbad with ⟨⟨hb1, hb2⟩, hb3⟩ | ⟨hb12, hb3⟩
      ·rw [if_pos hb3] at hZ
       subst hZ
       simp (maxDischargeDepth := 99) [-writeAt, -Int.natCast_add, hlen, f0, f2, f5, hc0, hc0g, hspI, hsp, hnI, hDl, hDt, hdt2, hu, hk, hkI, hw1, hb1, hb2, hA, hAI, hB, hBI, hc1, hc1g, hl, splice, hbn, hta, hd3, hfold, htk, htk2, w6, g6, fst1, tkOut, LTok.cells]
      ·rw [if_neg hb3] at hZ
       rw [hlet, if_pos rfl] at hZ
       subst hZ
       rcases hb12 with ⟨hb1, hb2⟩ | ⟨hb1, hb2⟩ <;>
        simp (maxDischargeDepth := 99) [-writeAt, -Int.natCast_add, hlen, f0, f2, f5, hc0, hc0g, hspI, hsp, hnI, hDl, hDt, hdt2, hu, hk, hkI, hw1, hb1, hb2, hA, hAI, hB, hBI, hc1, hc1g, hl, splice, hbn, hta, hd3, hfold, htk, htk2, w6, g6, fst1, tkOut, LTok.cells]
     | false =>
      rw [hlet] at hl
      rcases hbad with ⟨⟨hb1, hb2⟩, hb3⟩ | ⟨hb12, hb3⟩
      ·rw [if_pos hb3] at hZ
       subst hZ
       simp (maxDischargeDepth := 99) [-writeAt, -Int.natCast_add, hlen, f0, f2, f5, hc0, hc0g, hspI, hsp, hnI, hDl, hDt, hdt2, hu, hk, hkI, hw1, hb1, hb2, hA, hAI, hB, hBI, hc1, hc1g, hl, splice, hbn, hta, hd3, hfold, htk, htk2, w6, g6, fst1, tkOut, LTok.cells]
      ·rw [if_neg hb3] at hZ
       rw [hlet, if_neg (by decide)] at hZ
       by_cases ho : mostN < valF D
       ·rw [whole_no ho] at hwh
        rw [if_pos ho] at hZ
        subst hZ
        rcases hb12 with ⟨hb1, hb2⟩ | ⟨hb1, hb2⟩ <;>
         simp (maxDischargeDepth := 99) [-writeAt, -Int.natCast_add, hlen, f0, f2, f5, hc0, hc0g, hspI, hsp, hnI, hDl, hDt, hdt2, hu, hk, hkI, hw1, hb1, hb2, hA, hAI, hB, hBI, hc1, hc1g, hl, hwh, splice, hbn, hta, hd3, hfold, htk, htk2, w6, g6, fst1, tkOut, LTok.cells]
       ·rw [whole_yes ho] at hwh
        rw [if_neg ho] at hZ
        subst hZ
        obtain ⟨τ5, w5, g5, _, _⟩ := put_ok (vs := tokC 3 [] (valF D : Int) 0) (cs' := tokC 3 [] (valF D : Int) 0) 0 hg rfl (by simp [tokC])
        rcases hb12 with ⟨hb1, hb2⟩ | ⟨hb1, hb2⟩ <;>
         simp (maxDischargeDepth := 99) [-writeAt, -Int.natCast_add, hlen, f0, f2, f5, hc0, hc0g, hspI, hsp, hnI, hDl, hDt, hdt2, hu, hk, hkI, hw1, hb1, hb2, hA, hAI, hB, hBI, hc1, hc1g, hl, hwh, splice, hbn, hta, hd3, hfold, htk, htk2, w5, g5, fst1, tkOut, LTok.cells]
    ·have hBI : ¬ (n : Int) < (s.length : Int) := by omega
     have hl1 : lookF s n 0 = 0 := by unfold lookF; rw [List.getElem?_eq_none (by omega)]; rfl
     have hl2 : lookF s n 1 = 0 := by unfold lookF; rw [List.getElem?_eq_none (by omega)]; rfl
     have hlet : letB 0 = false := by decide
     rw [hl1, hl2, if_neg (show ¬ ((0 : UInt8) = 46 ∧ digB 0 = true) from fun h => absurd h.2 (by decide))] at hZ
     rcases hbad with ⟨⟨hb1, hb2⟩, hb3⟩ | ⟨hb12, hb3⟩
     ·rw [if_pos hb3] at hZ
      subst hZ
      simp (maxDischargeDepth := 99) [-writeAt, -Int.natCast_add, hlen, f0, f2, f5, hc0, hc0g, hspI, hsp, hnI, hDl, hDt, hdt2, hu, hk, hkI, hw1, hb1, hb2, hA, hAI, hB, hBI, splice, hbn, hta, hd3, hfold, htk, htk2, w6, g6, fst1, tkOut, LTok.cells]
     ·rw [if_neg hb3] at hZ
      rw [hlet, if_neg (by decide)] at hZ
      by_cases ho : mostN < valF D
      ·rw [whole_no ho] at hwh
       rw [if_pos ho] at hZ
       subst hZ
       rcases hb12 with ⟨hb1, hb2⟩ | ⟨hb1, hb2⟩ <;>
        simp (maxDischargeDepth := 99) [-writeAt, -Int.natCast_add, hlen, f0, f2, f5, hc0, hc0g, hspI, hsp, hnI, hDl, hDt, hdt2, hu, hk, hkI, hw1, hb1, hb2, hA, hAI, hB, hBI, hwh, splice, hbn, hta, hd3, hfold, htk, htk2, w6, g6, fst1, tkOut, LTok.cells]
      ·rw [whole_yes ho] at hwh
       rw [if_neg ho] at hZ
       subst hZ
       obtain ⟨τ5, w5, g5, _, _⟩ := put_ok (vs := tokC 3 [] (valF D : Int) 0) (cs' := tokC 3 [] (valF D : Int) 0) 0 hg rfl (by simp [tokC])
       rcases hb12 with ⟨hb1, hb2⟩ | ⟨hb1, hb2⟩ <;>
        simp (maxDischargeDepth := 99) [-writeAt, -Int.natCast_add, hlen, f0, f2, f5, hc0, hc0g, hspI, hsp, hnI, hDl, hDt, hdt2, hu, hk, hkI, hw1, hb1, hb2, hA, hAI, hB, hBI, hwh, splice, hbn, hta, hd3, hfold, htk, htk2, w5, g5, fst1, tkOut, LTok.cells]
end Go.Proofs.YtepankcnleeakaaGreatDoor.Ab
namespace Go.Proofs.YtepankcnleeakaaGreatDoor.Ab
open Go
set_option maxRecDepth 20000
set_option maxHeartbeats 8000000
set_option linter.unusedSimpArgs false
set_option linter.unusedVariables false
theorem find_line (s : List UInt8) : ∀ (f i : Nat), s.length - i < f → findF [10] s f i = if i + (runF (fun c => c != 10) s i).length < s.length then some (i + (runF (fun c => c != 10) s i).length) else none
 | 0, _, h => absurd h (by omega)
 | f + 1, i, h => by
  by_cases hi : i < s.length
  ·rw [findF]
   have hd := List.drop_eq_getElem_cons hi
   by_cases hc : s[i] = 10
   ·have hr : runF (fun c => c != 10) s i = [] := by
     unfold runF
     rw [hd, List.takeWhile_cons, if_neg (by rw [hc]; decide)]
    rw [hd, hc]
    rw [hr, if_pos (by rfl), List.length_nil, Nat.add_zero, if_pos hi]
   ·have hr : runF (fun c => c != 10) s i = s[i] :: runF (fun c => c != 10) s (i + 1) := by
     unfold runF
     rw [hd, List.takeWhile_cons, if_pos (by simpa using hc)]
    have hp : ([10] : List UInt8).isPrefixOf (s.drop i) = false := by
     rw [hd]
     have : ((10 : UInt8) == s[i]) = false := by simpa using fun e => hc e.symm
     simp [List.isPrefixOf, this]
    rw [hp, find_line s f (i + 1) (by omega), hr, List.length_cons]
    simp only [Bool.false_eq_true, if_false]
    rw [show i + ((runF (fun c => c != 10) s (i + 1)).length + 1) = i + 1 + (runF (fun c => c != 10) s (i + 1)).length by omega]
  ·have hr : runF (fun c => c != 10) s i = [] := by
    unfold runF
    rw [List.drop_eq_nil_of_le (by omega)]
    rfl
   rw [find_far (by decide) _ _ (by omega), hr, if_neg (by simp; omega)]
theorem sk_note {L i m : Nat} (h1 : i + 2 ≤ m) (h2 : 2 ≤ L - m) : L + 1 - (m + 2) < L + 1 - i ∧ m + 2 ≤ L := by omega
theorem sk_line {L i r : Nat} (h1 : i + r ≤ L) (h2 : 0 < r) : L + 1 - (i + r) < L + 1 - i := by omega
theorem sk_w4 {L i m r : Nat} (hL : L ≤ 67108864) (h1 : i + 2 ≤ m) (h2 : 2 ≤ L - m) (hr : m - (i + 2) = r) : ¬ (r : Int) < 0 ∧ wr .i64 ((r : Int) + 4) = ((r + 4 : Nat) : Int) ∧ wr .i64 ((i : Int) + ((r + 4 : Nat) : Int)) = ((m + 2 : Nat) : Int) := by
 refine ⟨by omega, ?_, ?_⟩
 ·rw [wr64 (by omega) (by omega)]; omega
 ·rw [wr64 (by omega) (by omega)]; omega
theorem sk_w3 {L i r : Nat} (hL : L ≤ 67108864) (h1 : i + r ≤ L) : ¬ (r : Int) < 0 ∧ wr .i64 ((i : Int) + r) = ((i + r : Nat) : Int) := by
 refine ⟨by omega, ?_⟩
 rw [wr64 (by omega) (by omega)]; omega
def ISk (s : List UInt8) (Z : Nat × Bool) (k : Nat) (fr : List AV) (τ : AHeap) : Prop :=
 ∃ i, k = s.length + 1 - i ∧ i ≤ s.length ∧ fr.length = 68 ∧ getSlot fr 0 = .one (.str s) ∧ getSlot fr 1 = .one (.int .i64 i) ∧ Z = skipF s (s.length + 1) i
theorem eq_skip5 (σ : AHeap) (s : List UInt8) (hs : s.length ≤ 67108864) (i0 : Nat) (hi0 : i0 ≤ s.length) : lim LxT 54 [.one (.str s), .one (.int .i64 i0)] σ = some (.tup [.one (.int .i64 (skipF s (s.length + 1) i0).1), .one (.bool (skipF s (s.length + 1) i0).2)], σ) := by
 refine lim_rd (args' := [.one (.str s), .one (.int .i64 i0)]) (ids := [] ++ ([] ++ [])) rfl ((LxT_code _).trans codeRSkip) rfl rfl ?_ rfl
 unfold BodyP
 obtain ⟨Z, hZ⟩ : ∃ Z, skipF s (s.length + 1) i0 = Z := ⟨_, rfl⟩
 rw [hZ]
 have hme : s.length + 4 ≤ maxElems := by unfold maxElems; omega
 have hq1 : bytes [45, 45] = [45, 45] := rfl
 have hq2 : bytes [47, 42] = [47, 42] := rfl
 have hq3 : bytes [10] = [10] := rfl
 have hq4 : bytes [42, 47] = [42, 47] := rfl
 simp (maxDischargeDepth := 99) [cRSkip]
 refine endsi_to 0 (fun fr τ => fr.length = 68 ∧ getSlot fr 1 = .one (.int .i64 Z.1) ∧ Z.2 = true) ?_ ?_
 ·refine endsi_loop (I := ISk s Z) ?_ (k := s.length + 1 - i0) ⟨i0, rfl, hi0, by simp, by simp, by simp, hZ.symm⟩
  rintro k fr τ ⟨i, rfl, hi, hlen, f0, f1, hz⟩
  by_cases hlt : i < s.length
  ·have hlti : (i : Int) < (s.length : Int) := by omega
   have hiI : (i : Int) ≤ (s.length : Int) := by omega
   obtain ⟨c, hc⟩ : ∃ c, s[i] = c := ⟨_, rfl⟩
   have hcg : s[i]? = some c := by rw [List.getElem?_eq_getElem hlt, hc]
   have hw1 : wr .i64 ((i : Int) + 1) = ((i + 1 : Nat) : Int) := by rw [wr64 (by omega) (by omega)]; omega
   have hw2 : wr .i64 ((i : Int) + 2) = ((i + 2 : Nat) : Int) := by rw [wr64 (by omega) (by omega)]; omega
   have hdt : (s.drop i).take (s.length - i) = s.drop i := List.take_of_length_le (by simp)
   have hu8 : ∀ d : UInt8, (c.toNat : Int) = (d.toNat : Int) ↔ c = d := fun d => by
    constructor
    ·intro e
     exact UInt8.toNat_inj.1 (by omega)
    ·intro e; rw [e]
   have e9 : (c.toNat : Int) = 9 ↔ c = 9 := hu8 9
   have e10 : (c.toNat : Int) = 10 ↔ c = 10 := hu8 10
   have e13 : (c.toNat : Int) = 13 ↔ c = 13 := hu8 13
   have e32 : (c.toNat : Int) = 32 ↔ c = 32 := hu8 32
   have hnext : Z = skipF s (s.length + 1) (i + 1) → ∀ fr' : List AV, fr'.length = 68 → getSlot fr' 0 = .one (.str s) → getSlot fr' 1 = .one (.int .i64 ((i + 1 : Nat) : Int)) → ∃ j, j < s.length + 1 - i ∧ ISk s Z j fr' τ := fun h fr' a b d => ⟨s.length + 1 - (i + 1), by omega, i + 1, rfl, by omega, a, b, d, h⟩
   by_cases hb : c = 9 ∨ c = 10 ∨ c = 13 ∨ c = 32
   ·have hz1 := hz.trans (step_blank hcg hb)
    have hb' : ((c.toNat : Int) = 9 ∧ True ∧ True ∧ True) ∨ (¬ (c.toNat : Int) = 9 ∧ (c.toNat : Int) = 10 ∧ True ∧ True) ∨ (¬ (c.toNat : Int) = 9 ∧ ¬ (c.toNat : Int) = 10 ∧ (c.toNat : Int) = 13 ∧ True) ∨ (¬ (c.toNat : Int) = 9 ∧ ¬ (c.toNat : Int) = 10 ∧ ¬ (c.toNat : Int) = 13 ∧ (c.toNat : Int) = 32) := by
     rw [e9, e10, e13, e32]
     rcases hb with rfl | rfl | rfl | rfl <;> decide
    clear e9 e10 e13 e32 hu8
    rcases hb' with ⟨b1, b2, b3, b4⟩ | ⟨b1, b2, b3, b4⟩ | ⟨b1, b2, b3, b4⟩ | ⟨b1, b2, b3, b4⟩ <;>
     (simp (maxDischargeDepth := 99) [-Int.natCast_add, cRSkip_0, hlen, f0, f1, hlt, hlti, hc, hcg, b1, b2, b3, b4, hw1]
      exact hnext hz1 _ (by simp [hlen]) (by simp [hlen, f0]) (by simp [hlen]))
   ·have b9 : ¬ (c.toNat : Int) = 9 := fun e => hb (.inl (e9.1 e))
    have b10 : ¬ (c.toNat : Int) = 10 := fun e => hb (.inr (.inl (e10.1 e)))
    have b13 : ¬ (c.toNat : Int) = 13 := fun e => hb (.inr (.inr (.inl (e13.1 e))))
    have b32 : ¬ (c.toNat : Int) = 32 := fun e => hb (.inr (.inr (.inr (e32.1 e))))
    clear e9 e10 e13 e32 hu8
    have hbe1 := fun σ => eq_begins σ (s.drop i) [45, 45]
    have hbe2 := fun σ => eq_begins σ (s.drop i) [47, 42]
    cases hp : ([45, 45] : List UInt8).isPrefixOf (s.drop i) with
    | true =>
     rw [hp] at hbe1
     have hfl := find_line (s.drop i) ((s.drop i).length + 1) 0 (by omega)
     simp only [run_sh, Nat.add_zero, Nat.zero_add] at hfl
     have hfd := fun σ => eq_find σ (s.drop i) [10] (by simp) (by rw [List.length_drop]; omega) (by decide)
     obtain ⟨r, hr⟩ : ∃ r, (runF (fun c => c != 10) s i).length = r := ⟨_, rfl⟩
     have hz1 := hz.trans (step_line hcg hb hp hr)
     have hrl := runs_le (p := fun c => c != 10) (s := s) (i := i) (by omega)
     have hrp := line_pos hp
     rw [hr] at hfl hrl hrp
     rw [hfl] at hfd
     by_cases hx : r < (s.drop i).length
     ·rw [if_pos hx] at hfd
      have hfd : ∀ σ, lim LxT 78 [.one (.str (s.drop i)), .one (.str [10])] σ = some (.one (.int .i64 (r : Int)), σ) := hfd
      obtain ⟨hr0, hw3⟩ := sk_w3 hs hrl
      simp (maxDischargeDepth := 99) [-Int.natCast_add, cRSkip_0, hlen, f0, f1, hlt, hlti, hiI, hi, hc, hcg, b9, b10, b13, b32, hdt, hq1, hq3, hbe1, hfd, hr0, hw3]
      exact ⟨s.length + 1 - (i + r), sk_line hrl hrp, i + r, rfl, hrl, by simp [hlen], by simp [hlen, f0], by simp [hlen], hz1⟩
     ·rw [if_neg hx] at hfd
      rw [List.length_drop] at hx
      have hfd : ∀ σ, lim LxT 78 [.one (.str (s.drop i)), .one (.str [10])] σ = some (.one (.int .i64 (-1)), σ) := hfd
      have he : i + r = s.length := by omega
      rw [he, skipF, List.getElem?_eq_none (Nat.le_refl _)] at hz1
      subst hz1
      simp (maxDischargeDepth := 99) [-Int.natCast_add, cRSkip_0, hlen, f0, f1, hlt, hlti, hiI, hi, hc, hcg, b9, b10, b13, b32, hdt, hq1, hq3, hbe1, hfd]
    | false =>
     rw [hp] at hbe1
     cases hp2 : ([47, 42] : List UInt8).isPrefixOf (s.drop i) with
     | true =>
      rw [hp2] at hbe2
      have hi2 := pre_len hp2
      simp only [List.length_cons, List.length_nil] at hi2
      have hi2I : ((i + 2 : Nat) : Int) ≤ (s.length : Int) := by omega
      have hi2n : i + 2 ≤ s.length := by omega
      have hdt2 : (s.drop (i + 2)).take (s.length - (i + 2)) = s.drop (i + 2) := List.take_of_length_le (by simp)
      have hfs := find_sh [42, 47] s (i + 2) ((s.drop (i + 2)).length + 1) 0
      rw [Nat.add_zero, find_fuel (by decide) ((s.drop (i + 2)).length + 1) (s.length + 1) (i + 2) (by rw [List.length_drop]; omega) (by omega)] at hfs
      have hfd := fun σ => eq_find σ (s.drop (i + 2)) [42, 47] (by simp) (by rw [List.length_drop]; omega) (by decide)
      rw [hfs] at hfd
      cases hk : findF [42, 47] s (s.length + 1) (i + 2) with
      | none =>
       rw [hk] at hfd
       have hfd : ∀ σ, lim LxT 78 [.one (.str (s.drop (i + 2))), .one (.str [42, 47])] σ = some (.one (.int .i64 (-1)), σ) := hfd
       rw [skipF, hcg] at hz
       simp only at hz
       rw [if_neg hb, if_neg (by rw [hp]; decide), if_pos hp2, hk] at hz
       subst hz
       simp (maxDischargeDepth := 99) [-Int.natCast_add, cRSkip_0, hlen, f0, f1, hlt, hlti, hiI, hi, hc, hcg, b9, b10, b13, b32, hdt, hq1, hq2, hq4, hbe1, hbe2, hw2, hi2I, hi2n, hdt2, hfd]
      | some m =>
       rw [hk] at hfd
       have hfd : ∀ σ, lim LxT 78 [.one (.str (s.drop (i + 2))), .one (.str [42, 47])] σ = some (.one (.int .i64 ((m - (i + 2) : Nat) : Int)), σ) := hfd
       have hm := find_spec hk
       have hml := pre_len hm.2
       simp only [List.length_cons, List.length_nil] at hml
       have hm1 := hm.1
       have hz1 := hz.trans (step_note hcg hb hp hp2 hk)
       obtain ⟨r, hr⟩ : ∃ r, m - (i + 2) = r := ⟨_, rfl⟩
       rw [hr] at hfd
       obtain ⟨hr0, hw4, hw5⟩ := sk_w4 hs hm1 hml hr
       simp (maxDischargeDepth := 99) [-Int.natCast_add, cRSkip_0, hlen, f0, f1, hlt, hlti, hiI, hi, hc, hcg, b9, b10, b13, b32, hdt, hq1, hq2, hq4, hbe1, hbe2, hw2, hi2I, hi2n, hdt2, hfd, hr0, hw4, hw5]
       exact ⟨s.length + 1 - (m + 2), (sk_note hm1 hml).1, m + 2, rfl, (sk_note hm1 hml).2, by simp [hlen], by simp [hlen, f0], by simp [hlen], hz1⟩
     | false =>
      rw [hp2] at hbe2
      rw [skipF, hcg] at hz
      simp only at hz
      rw [if_neg hb, if_neg (by rw [hp]; decide), if_neg (by rw [hp2]; decide)] at hz
      subst hz
      simp (maxDischargeDepth := 99) [-Int.natCast_add, cRSkip_0, hlen, f0, f1, hlt, hlti, hiI, hi, hc, hcg, b9, b10, b13, b32, hdt, hq1, hq2, hbe1, hbe2]
  ·have hlti : ¬ (i : Int) < (s.length : Int) := by omega
   rw [skipF, List.getElem?_eq_none (by omega)] at hz
   subst hz
   simp (maxDischargeDepth := 99) [cRSkip_0, hlen, f0, f1, hlti]
 ·rintro fr τ ⟨hlen, f1, hz⟩
  simp (maxDischargeDepth := 99) [hlen, f1, hz]
end Go.Proofs.YtepankcnleeakaaGreatDoor.Ab
namespace Go.Proofs.YtepankcnleeakaaGreatDoor.Ab
open Go
set_option maxRecDepth 20000
set_option maxHeartbeats 8000000
set_option linter.unusedSimpArgs false
set_option linter.unusedVariables false
def TokOk : Prop := ∀ (σ : AHeap) (s : List UInt8), s ≠ [] → s.length ≤ 67108864 → lim LxT 55 [.one (.str s)] σ = some (.tup (tkOut (tokF s 0)), σ)
def ILx5 (s : List UInt8) (Z : List LTok × Int × Int) (k : Nat) (fr : List AV) (τ : AHeap) : Prop :=
 ∃ i l sl f, k = s.length + 1 - i ∧ i ≤ s.length ∧ fr.length = 47 ∧ getSlot fr 0 = .one (.str s) ∧ getSlot fr 5 = sl ∧ OutSl 0 τ 4 sl (tcells l) l.length ∧ l.length ≤ i ∧ getSlot fr 6 = .one (.int .i64 i) ∧ s.length - i < f ∧ lexF s f i l = Z
def PLx5 (Z : List LTok × Int × Int) (v : AV) (τ : AHeap) : Prop := ∃ sl, v = .tup [sl, .one (.int .i64 Z.2.1), .one (.int .i64 Z.2.2)] ∧ OutSl 0 τ 4 sl (tcells Z.1) Z.1.length
theorem lx_room {L i j k n : Nat} (h1 : i ≤ j) (h2 : j < k) (h3 : k ≤ L) (hn : n ≤ i) (hL : L ≤ 67108864) : L + 1 - k < L + 1 - i ∧ n + 1 ≤ k ∧ n + 1 ≤ maxElems ∧ wr .i64 ((j : Int) + ((k - j : Nat) : Int)) = (k : Int) := by
 refine ⟨by omega, by omega, by unfold maxElems; omega, ?_⟩
 rw [wr64 (by omega) (by omega)]
 omega
theorem run_lex5 (hT : TokOk) {s : List UInt8} (hs : s.length ≤ 67108864) : BodyP LxT cRLex [.one (.str s)] emptyH (fun _ v τ' => PLx5 (lexF s (s.length + 1) 0 []) v τ') := by
 unfold BodyP
 obtain ⟨Z, hZ⟩ : ∃ Z, lexF s (s.length + 1) 0 [] = Z := ⟨_, rfl⟩
 rw [hZ]
 simp (maxDischargeDepth := 99) [-writeAt, cRLex]
 refine endsi_loop (I := ILx5 s Z) ?_ (k := s.length + 1) ⟨0, [], .one .nilSlice, s.length + 1, by omega, Nat.zero_le _, by simp, by simp, by simp, OutSl.nil _ _ _, Nat.zero_le _, by simp, by omega, hZ⟩
 rintro k fr τ ⟨i, l, sl, f, rfl, hi, hlen, f0, f5, hsl, hll, f6, hf, hz⟩
 obtain ⟨f, rfl⟩ : ∃ f', f = f' + 1 := ⟨f - 1, by omega⟩
 rw [lexF] at hz
 have hsk := fun σ => eq_skip5 σ s hs i hi
 have hge := skip_ge (s := s) (f := s.length + 1) (i := i)
 cases hk : skipF s (s.length + 1) i with
 | mk j b =>
  rw [hk] at hsk hz hge
  simp only at hsk hge
  cases b with
  | false =>
   simp only at hz
   subst hz
   simp (maxDischargeDepth := 99) [-writeAt, cRLex_0, hlen, f0, f5, f6, hsk, PLx5]
   exact OutSl.nil _ _ _
  | true =>
   simp only at hz
   by_cases hj : s.length ≤ j
   ·have hjI : (s.length : Int) ≤ (j : Int) := by omega
    rw [if_pos hj] at hz
    subst hz
    simp (maxDischargeDepth := 99) [-writeAt, cRLex_0, hlen, f0, f5, f6, hsk, hj, hjI, PLx5]
    exact hsl
   ·have hjI : ¬ (s.length : Int) ≤ (j : Int) := by omega
    have hjlt : j < s.length := by omega
    have hjI2 : (j : Int) ≤ (s.length : Int) := by omega
    have hjle : j ≤ s.length := by omega
    rw [if_neg hj] at hz
    have hdt : (s.drop j).take (s.length - j) = s.drop j := List.take_of_length_le (by simp)
    have htk := fun σ => hT σ (s.drop j) (by intro h; have := congrArg List.length h; rw [List.length_drop] at this; simp at this; omega) (by rw [List.length_drop]; omega)
    have he5 := tok_sh_err s j 0
    have hes := tok_sh s j 0
    rw [Nat.add_zero] at he5 hes
    obtain ⟨τ1, hτ1⟩ : ∃ τ1, τ1 = τ.alloc ⟨[.int .i64 0, .str [], .int .i64 0, .int .i64 0], .own⟩ := ⟨_, rfl⟩
    have hg1 : τ1.get τ.size = some ⟨[.int .i64 0, .str [], .int .i64 0, .int .i64 0], .own⟩ := by rw [hτ1]; simp
    have hk1 : Keeps τ τ1 := by rw [hτ1]; exact (Keeps.refl τ).alloc
    have hz1 : τ1.size = τ.size + 1 := by rw [hτ1]; simp
    have hbn : bytes [] = [] := rfl
    have htl : ∀ k x n p, (tokC k x n p).length = 4 := fun _ _ _ _ => rfl
    have htl2 : ∀ k x n p, List.take 4 (tokC k x n p) = tokC k x n p := fun _ _ _ _ => rfl
    cases ht : tokF s j with
    | mk t r =>
     obtain ⟨k, e⟩ := r
     rw [ht] at hz he5 hes
     cases e with
     | some e =>
      simp only at hz
      subst hz
      have hene := tok_err (s := s) (i := j) (e := e) (by rw [ht])
      have hout : tkOut (tokF (s.drop j) 0) = [.agg (tokC 0 [] 0 0), .one (.int .i64 0), .one (.int .i64 e)] := by
       generalize tokF (s.drop j) 0 = y at he5
       obtain ⟨a, b, c⟩ := y
       simp only at he5
       subst he5
       rfl
      rw [hout] at htk
      obtain ⟨τ2, w2, g2, o2, z2⟩ := put_ok (vs := tokC 0 [] 0 0) (cs' := tokC 0 [] 0 0) 0 hg1 rfl (by simp [tokC])
      simp (maxDischargeDepth := 99) [-writeAt, cRLex_0, hlen, f0, f5, f6, hsk, hj, hjI, hjI2, hjle, hdt, htk, hbn, ← hτ1, htl, htl2, w2, hene, PLx5]
      exact OutSl.nil _ _ _
     | none =>
      simp only at hz
      obtain ⟨hk1', hk2', hp⟩ := tok_in hjlt ht
      have hes := hes rfl
      have hout : tkOut (tokF (s.drop j) 0) = [.agg (tokC t.k t.s t.n 0), .one (.int .i64 ((k - j : Nat) : Int)), .one (.int .i64 0)] := by
       rw [hes]
       show [AV.agg (sh j t).cells, _, _] = _
       unfold sh LTok.cells
       simp only [hp]
       rw [show ((j : Int) - (j : Int)) = 0 by omega]
      rw [hout] at htk
      obtain ⟨hr1, hr2, hr3, hr4⟩ := lx_room hge hk1' hk2' hll hs
      obtain ⟨τ2, w2, g2, o2, z2⟩ := put_ok (vs := tokC t.k t.s t.n 0) (cs' := tokC t.k t.s t.n 0) 0 hg1 rfl (by simp [tokC])
      obtain ⟨τ3, w3, g3, o3, z3⟩ := put_ok (vs := [.int .i64 j]) (cs' := t.cells) 3 g2 (by unfold LTok.cells; rw [hp]; rfl) (by simp [tokC])
      obtain ⟨τ4, hτ4⟩ : ∃ τ4, τ4 = τ3.alloc ⟨t.cells, .own⟩ := ⟨_, rfl⟩
      have hg4 : τ4.get τ3.size = some ⟨t.cells, .own⟩ := by rw [hτ4]; simp
      have hk4 : Keeps τ3 τ4 := by rw [hτ4]; exact (Keeps.refl τ3).alloc
      have hsl4 : OutSl 0 τ4 4 sl (tcells l) l.length := hsl.stay (fun id _ h => by rw [hk4.2 id (by omega), o3 id (by omega), o2 id (by omega), hk1.2 id h])
      have hap := append_out (bytes := 40) (vs := t.cells) hsl4 (Nat.zero_le _) (by omega) rfl hr3 (by decide)
      have hcl : t.cells.length = 4 := rfl
      have hct : List.take 4 t.cells = t.cells := rfl
      simp (maxDischargeDepth := 99) [-writeAt, -Int.natCast_add, cRLex_0, hlen, f0, f5, f6, hsk, hj, hjI, hjI2, hjle, hdt, htk, hbn, ← hτ1, htl, htl2, w2, g2, w3, g3, hcl, hct, repeatCells, splice, ← hτ4, srcLen, srcCells, hg4]
      refine hap.mono ?_
      rintro v τ5 ⟨q1, q2, q3⟩
      have htc : tcells l ++ t.cells = tcells (l ++ [t]) := by simp [tcells]
      rw [htc] at q1
      simp (maxDischargeDepth := 99) [-writeAt, -Int.natCast_add, hlen, hr4]
      exact ⟨s.length + 1 - k, hr1, k, l ++ [t], v, f, rfl, hk2', by simp [hlen], by simp [hlen, f0], by simp [hlen], by rw [List.length_append]; exact q1, by rw [List.length_append]; exact hr2, by simp [hlen], by omega, hz⟩
end Go.Proofs.YtepankcnleeakaaGreatDoor.Ab
namespace Go.Proofs.YtepankcnleeakaaGreatDoor.Ab
open Go
set_option maxRecDepth 20000
set_option maxHeartbeats 8000000
set_option linter.unusedSimpArgs false
set_option linter.unusedVariables false
theorem tkOut_is (x : LTok × Nat × Option Int) : ∃ k s n p a b, tkOut x = [.agg (tokC k s n p), .one (.int .i64 a), .one (.int .i64 b)] := by
 obtain ⟨t, k, e⟩ := x
 cases e with
 | none => exact ⟨_, _, _, _, _, _, rfl⟩
 | some e => exact ⟨_, _, _, _, _, _, rfl⟩
def INm (s : List UInt8) (i : Nat) (fr : List AV) (τ : AHeap) : Prop :=
 fr.length = 87 ∧ getSlot fr 0 = .one (.str s) ∧ getSlot fr 2 = .one (.ptr 0 0) ∧ getSlot fr 5 = .one (.int .i64 ((1 + i : Nat) : Int)) ∧ τ.get 0 = some ⟨tokC 0 [] 0 0, .own⟩
def ISg5 (s : List UInt8) (S : List SV) (Z : List AV) (i : Nat) (fr : List AV) (τ : AHeap) : Prop :=
 fr.length = 87 ∧ getSlot fr 0 = .one (.str s) ∧ getSlot fr 2 = .one (.ptr 0 0) ∧ getSlot fr 7 = .one (.slice 1 0 1 20 (some 20)) ∧ getSlot fr 8 = .one (.int .i64 i) ∧ τ.get 0 = some ⟨tokC 0 [] 0 0, .own⟩ ∧ τ.get 1 = some ⟨S, .own⟩ ∧
  signF s 0 = (signsL.drop i).find? fun x => x.isPrefixOf (s.drop 0)
theorem tok_ok (hR : RunesOk) : TokOk := by
 intro σ s h0 hs
 refine lim_rd (args' := [.one (.str s)]) (ids := [] ++ []) rfl ((LxT_code _).trans codeRToken) rfl rfl ?_ (tkOut_scal _)
 unfold BodyP
 obtain ⟨Z, hZ⟩ : ∃ Z, tkOut (tokF s 0) = Z := ⟨_, rfl⟩
 rw [hZ]
 have hsp : 0 < s.length := List.length_pos_iff.2 h0
 have hspI : (0 : Int) < (s.length : Int) := by omega
 have hme : s.length + 4 ≤ maxElems := by unfold maxElems; omega
 obtain ⟨c0, hc0⟩ : ∃ c0, s[0] = c0 := ⟨_, rfl⟩
 have hc0g : s[0]? = some c0 := by rw [List.getElem?_eq_getElem hsp, hc0]
 have hlk : lookF s 0 0 = c0 := by rw [look_at hsp, hc0]
 unfold tokF at hZ
 simp only [hlk, Nat.zero_add] at hZ
 obtain ⟨τ0, hτ0⟩ : ∃ τ0, τ0 = emptyH.alloc ⟨tokC 0 [] 0 0, .own⟩ := ⟨_, rfl⟩
 have hg0 : τ0.get 0 = some ⟨tokC 0 [] 0 0, .own⟩ := by rw [hτ0]; rfl
 have hs0 : τ0.size = 1 := by rw [hτ0]; rfl
 have htc : [SV.int .i64 0, .str [], .int .i64 0, .int .i64 0] = tokC 0 [] 0 0 := rfl
 have hes : emptyH.size = 0 := rfl
 have hbn : bytes [] = [] := rfl
 have hd5 : List.drop 2 (tokC 0 [] 0 0) = [.int .i64 0, .int .i64 0] := rfl
 have htk : ∀ k x n p, (tokC k x n p).length = 4 := fun _ _ _ _ => rfl
 have htk2 : ∀ k x n p, List.take 4 (tokC k x n p) = tokC k x n p := fun _ _ _ _ => rfl
 have hfold : ∀ k x n p, [SV.int .i64 k, .str x, .int .i64 n, .int .i64 p] = tokC k x n p := fun _ _ _ _ => rfl
 have hl0 := fun σ => eq_rletter σ c0
 have hd0 := fun σ => eq_rdigit σ c0
 cases hlet : letB c0 with
 | true =>
  rw [hlet] at hl0
  rw [if_pos hlet] at hZ
  obtain ⟨X, hX⟩ : ∃ X, runF ldB s 0 = X := ⟨_, rfl⟩
  rw [hX] at hZ
  have hX0 : 0 < X.length := by rw [← hX]; exact run_pos hsp (by rw [hc0]; unfold ldB; rw [hlet]; rfl)
  have hXt : s.take X.length = X := by rw [← hX]; exact take_run ldB s
  have hXl : X.length ≤ s.length := by have := runs_le (p := ldB) (s := s) (i := 0) (by omega); rw [hX] at this; omega
  have hXlI : (X.length : Int) ≤ (s.length : Int) := by omega
  simp (maxDischargeDepth := 99) [-writeAt, cRToken, htc, ← hτ0, hes, hbn, hc0, hc0g, hsp, hspI, hl0]
  refine endsi_to 1 (INm s (X.length - 1)) ?_ ?_
  ·refine endsi_range (X.length - 1) (INm s) ?_ ?_ ?_
   ·exact ⟨by simp, by simp, by simp, by simp, hg0⟩
   ·rintro i fr τ hlt ⟨hlen, f0, f2, f5, hg⟩
    obtain ⟨c, hc, hpc, hjl⟩ := run_get (pb := ldB) (s := s) (i := 0) (j := 1 + i) (by rw [hX]; omega)
    rw [Nat.zero_add] at hc hjl
    have hcg : s[1 + i] = c := (List.getElem?_eq_some_iff.1 hc).2
    have hlti : ((1 + i : Nat) : Int) < (s.length : Int) := by omega
    have hw := wr_next hjl (by omega)
    have hl := fun σ => eq_rletter σ c
    have hd := fun σ => eq_rdigit σ c
    cases h1 : letB c with
    | true =>
     rw [h1] at hl
     simp (maxDischargeDepth := 99) [-writeAt, -Int.natCast_add, cRToken_0, hlen, f0, f2, f5, hjl, hlti, hc, hcg, hl, hw]
     exact ⟨by simp [hlen], by simp [hlen, f0], by simp [hlen, f2], by simp [hlen, Nat.add_assoc], hg⟩
    | false =>
     rw [h1] at hl
     have h2 : digB c = true := by unfold ldB at hpc; rw [h1] at hpc; simpa using hpc
     rw [h2] at hd
     simp (maxDischargeDepth := 99) [-writeAt, -Int.natCast_add, cRToken_0, hlen, f0, f2, f5, hjl, hlti, hc, hcg, hl, hd, hw]
     exact ⟨by simp [hlen], by simp [hlen, f0], by simp [hlen, f2], by simp [hlen, Nat.add_assoc], hg⟩
   ·rintro fr τ ⟨hlen, f0, f2, f5, hg⟩
    have e1 : 1 + (X.length - 1) = X.length := by omega
    have hI : ∀ fr', fr'.length = 87 → getSlot fr' 0 = .one (.str s) → getSlot fr' 2 = .one (.ptr 0 0) → getSlot fr' 5 = .one (.int .i64 X.length) → INm s (X.length - 1) fr' τ := fun fr' a b c d => ⟨a, b, c, by rw [e1]; exact d, hg⟩
    rw [e1] at f5
    have hst := run_stop (pb := ldB) (s := s) (i := 0)
    rw [hX, Nat.zero_add] at hst
    rcases hst with hge | ⟨c, hc, hpc⟩
    ·have hlti : ¬ (X.length : Int) < (s.length : Int) := by omega
     simp (maxDischargeDepth := 99) [-writeAt, cRToken_0, hlen, f0, f2, f5, hlti]
     exact hI _ (by simp [hlen]) (by simp [hlen, f0]) (by simp [hlen, f2]) (by simp [hlen, f5])
    ·have hjl := (List.getElem?_eq_some_iff.1 hc).1
     have hcg : s[X.length] = c := (List.getElem?_eq_some_iff.1 hc).2
     have hlti : (X.length : Int) < (s.length : Int) := by omega
     have hl := fun σ => eq_rletter σ c
     have hd := fun σ => eq_rdigit σ c
     unfold ldB at hpc
     rw [Bool.or_eq_false_iff] at hpc
     rw [hpc.1] at hl
     rw [hpc.2] at hd
     simp (maxDischargeDepth := 99) [-writeAt, cRToken_0, hlen, f0, f2, f5, hjl, hlti, hc, hcg, hl, hd]
     exact hI _ (by simp [hlen]) (by simp [hlen, f0]) (by simp [hlen, f2]) (by simp [hlen, f5])
  ·rintro fr τ ⟨hlen, f0, f2, f5, hg⟩
   rw [show 1 + (X.length - 1) = X.length by omega] at f5
   have hsm := fun σ => eq_rsmall σ X (by omega)
   have hwd := fun σ => eq_word5 σ (low X)
   by_cases hw : low X ∈ wordsL
   ·rw [decide_eq_true hw] at hwd
    rw [if_pos hw] at hZ
    subst hZ
    obtain ⟨τ5, w5, g5, _, _⟩ := put_ok (vs := tokC 2 (low X) 0 0) (cs' := tokC 2 (low X) 0 0) 0 hg rfl (by simp [tokC])
    generalize low X = Y at *
    simp (maxDischargeDepth := 99) [-writeAt, hlen, f0, f2, f5, hXl, hXlI, hXt, hsm, hwd, splice, hbn, hd5, hfold, htk, htk2, w5, g5, tkOut, LTok.cells]
   ·rw [decide_eq_false hw] at hwd
    rw [if_neg hw] at hZ
    subst hZ
    obtain ⟨τ5, w5, g5, _, _⟩ := put_ok (vs := tokC 1 X 0 0) (cs' := tokC 1 X 0 0) 0 hg rfl (by simp [tokC])
    generalize low X = Y at *
    simp (maxDischargeDepth := 99) [-writeAt, hlen, f0, f2, f5, hXl, hXlI, hXt, hsm, hwd, splice, hbn, hd5, hfold, htk, htk2, w5, g5, tkOut, LTok.cells]
 | false =>
  rw [hlet] at hl0
  rw [if_neg (by rw [hlet]; decide)] at hZ
  cases hdig : digB c0 with
  | true =>
   rw [hdig] at hd0
   rw [if_pos hdig] at hZ
   have hnum := fun σ => eq_num5 σ s hs h0
   obtain ⟨k, x, n, p, a, b, hout⟩ := tkOut_is (numF s 0)
   rw [hout] at hnum hZ
   subst hZ
   obtain ⟨τ5, w5, g5, _, _⟩ := put_ok (vs := tokC k x n p) (cs' := tokC k x n p) 0 hg0 rfl (by simp [tokC])
   simp (maxDischargeDepth := 99) [-writeAt, cRToken, htc, ← hτ0, hes, hbn, hc0, hc0g, hsp, hspI, hl0, hd0, hnum, htk, htk2, w5, g5]
  | false =>
   rw [hdig] at hd0
   rw [if_neg (by rw [hdig]; decide)] at hZ
   by_cases h39 : c0 = 39
   ·rw [if_pos h39] at hZ
    have h9 : (c0.toNat : Int) = 39 := by rw [h39]; rfl
    simp only [h9] at hl0 hd0
    have htx := fun σ => eq_text5 hR σ s hs h0
    obtain ⟨k, x, n, p, a, b, hout⟩ := tkOut_is (textF s 0)
    rw [hout] at htx hZ
    subst hZ
    obtain ⟨τ5, w5, g5, _, _⟩ := put_ok (vs := tokC k x n p) (cs' := tokC k x n p) 0 hg0 rfl (by simp [tokC])
    simp (maxDischargeDepth := 99) [-writeAt, cRToken, htc, ← hτ0, hes, hbn, hc0, hc0g, hsp, hspI, hl0, hd0, h9, htx, htk, htk2, w5, g5]
   ·rw [if_neg h39] at hZ
    have h9 : ¬ (c0.toNat : Int) = 39 := by
     intro e
     apply h39
     have : c0.toNat = (39 : UInt8).toNat := by show c0.toNat = 39; omega
     exact UInt8.toNat_inj.1 this
    obtain ⟨S, hS⟩ : ∃ S, signsL.map SV.str = S := ⟨_, rfl⟩
    have hS' : [SV.str (bytes [60, 61]), .str (bytes [62, 61]), .str (bytes [33, 61]), .str (bytes [45, 62]), .str (bytes [60]), .str (bytes [62]), .str (bytes [61]), .str (bytes [43]), .str (bytes [45]), .str (bytes [42]), .str (bytes [47]), .str (bytes [37]), .str (bytes [40]), .str (bytes [41]), .str (bytes [44]), .str (bytes [46]), .str (bytes [59]), .str (bytes [91]), .str (bytes [93]), .str (bytes [35])] = S := hS
    have hSl : S.length = 20 := by rw [← hS]; rfl
    simp (maxDischargeDepth := 99) [-writeAt, cRToken, htc, ← hτ0, hes, hbn, hc0, hc0g, hsp, hspI, hl0, hd0, h9, splice, repeatCells, hS', hs0]
    refine endsi_to 3 (fun fr τ => fr.length = 87 ∧ getSlot fr 2 = .one (.ptr 0 0) ∧ τ.get 0 = some ⟨tokC 0 [] 0 0, .own⟩ ∧ signF s 0 = none) ?_ ?_
    ·refine endsi_range 20 (ISg5 s S Z) ?_ ?_ ?_
     ·refine ⟨by simp, by simp, by simp, by simp, by simp, ?_, ?_, rfl⟩
      ·simp [hs0, hg0]
      ·simp [hs0]
     ·rintro i fr τ hlt ⟨hlen, f0, f2, f7, f8, g0, g1, hu⟩
      have hlti : (i : Int) < 20 := by omega
      have hw1 : wr .i64 ((i : Int) + 1) = ((i + 1 : Nat) : Int) := by rw [wr64 (by omega) (by omega)]; omega
      have hlw : i < signsL.length := hlt
      obtain ⟨x, hx⟩ : ∃ x, signsL[i] = x := ⟨_, rfl⟩
      have hxg : signsL[i]? = some x := by rw [List.getElem?_eq_getElem hlw, hx]
      have hc : S[i]? = some (.str x) := by rw [← hS, List.getElem?_map, hxg]; rfl
      have hcg : S[i]'(by omega) = .str x := (List.getElem?_eq_some_iff.1 hc).2
      have hbg := fun σ => eq_begins σ s x
      rw [List.drop_eq_getElem_cons hlw, hx, List.find?_cons, List.drop_zero] at hu
      cases hp : x.isPrefixOf s with
      | true =>
       rw [hp] at hbg hu
       simp only at hu
       rw [hu] at hZ
       simp only at hZ
       subst hZ
       obtain ⟨τ5, w5, g5, o5, _⟩ := put_ok (vs := tokC 6 x 0 0) (cs' := tokC 6 x 0 0) 0 g0 rfl (by simp [tokC])
       have k5 : τ5.get 1 = τ.get 1 := o5 1 (by decide)
       simp (maxDischargeDepth := 99) [-writeAt, -Int.natCast_add, cRToken_1, hlen, f0, f2, f7, f8, hlt, hlti, g0, g1, hc, hcg, hSl, hbg]
       refine endsi_draw ?_
       simp (maxDischargeDepth := 99) [-writeAt, -sameObj, -Int.natCast_add, k5, hlen, f0, f2, f7, f8, hlt, hlti, g0, g1, hc, hcg, hSl, splice, hbn, hd5, hfold, htk, htk2, w5, g5, tkOut, LTok.cells]
      | false =>
       rw [hp] at hbg hu
       simp only at hu
       simp (maxDischargeDepth := 99) [-writeAt, -Int.natCast_add, cRToken_1, hlen, f0, f2, f7, f8, hlt, hlti, g0, g1, hc, hcg, hSl, hbg, hw1]
       exact ⟨by simp [hlen], by simp [hlen, f0], by simp [hlen, f2], by simp [hlen, f7], by simp [hlen], g0, g1, by rw [List.drop_zero]; exact hu⟩
     ·rintro fr τ ⟨hlen, f0, f2, f7, f8, g0, g1, hu⟩
      have f8 : getSlot fr 8 = .one (.int .i64 20) := f8
      have hu : signF s 0 = none := hu
      simp (maxDischargeDepth := 99) [-writeAt, cRToken_1, hlen, f0, f2, f7, f8]
      exact ⟨g0, hu⟩
    ·rintro fr τ ⟨hlen, f2, hg, hu⟩
     rw [hu] at hZ
     simp only at hZ
     subst hZ
     obtain ⟨τ6, w6, g6, _, _⟩ := put_ok (vs := tokC 0 [] 0 0) (cs' := tokC 0 [] 0 0) 0 hg rfl (by simp [tokC])
     simp (maxDischargeDepth := 99) [-writeAt, hlen, f2, splice, hbn, hd5, hfold, htk, htk2, w6, g6, tkOut, LTok.cells]
end Go.Proofs.YtepankcnleeakaaGreatDoor.Ab
namespace Go.Proofs.YtepankcnleeakaaGreatDoor.Ab
open Go
set_option maxRecDepth 20000
set_option maxHeartbeats 8000000
set_option linter.unusedSimpArgs false
set_option linter.unusedVariables false
theorem eq_lex5 (hR : RunesOk) (σ : AHeap) (s : List UInt8) (hs : s.length ≤ 67108864) :
  lim LxT 31 [.one (.str s)] σ = some (.tup [.one (.lst ((lexA s).1.map LTok.cells)), .one (.int .i64 (lexA s).2.1), .one (.int .i64 (lexA s).2.2)], σ) := by
 have ha : frzDAs frzDepth σ [.one (.str s)] = some ([.one (.str s)], []) := rfl
 have h := lim_mv (C := LxT) (f := 31) (F := cRLex) (σ := σ) (args := [.one (.str s)]) rfl ((LxT_code _).trans codeRLex) rfl ha
  (V := .tup [.one (.lst ((lexA s).1.map LTok.cells)), .one (.int .i64 (lexA s).2.1), .one (.int .i64 (lexA s).2.2)]) ?_
 ·exact h
 ·refine BodyP.mono (run_lex5 (tok_ok hR) hs) ?_
  rintro t v τ' ⟨sl, rfl, hsl⟩
  change OutSl 0 τ' 4 sl (tcells (lexA s).1) (lexA s).1.length at hsl
  obtain ⟨sv, rfl⟩ : ∃ sv, sl = .one sv := by
   rcases hsl.2 with ⟨h1, _⟩ | ⟨q, h1, _⟩
   ·exact ⟨_, h1⟩
   ·exact ⟨_, h1⟩
  obtain ⟨ids, hf⟩ := frz_tout hsl
  refine ⟨ids ++ ([] ++ ([] ++ [])), ?_⟩
  have e1 : ∀ n : Int, frzD 9 τ' (.int .i64 n) = some (.int .i64 n, []) := fun n => rfl
  simp only [frzDA, frzDAs, frzDepth, hf, e1]
  rfl
end Go.Proofs.YtepankcnleeakaaGreatDoor.Ab
