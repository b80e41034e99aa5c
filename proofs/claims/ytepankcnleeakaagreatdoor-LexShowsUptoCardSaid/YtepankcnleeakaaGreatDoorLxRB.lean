/- Several of my texts in one: LxR10, LxR11, LxR12, LxR13, LxR14, LxR15, LxR16, LxR17, LxR18, LxR19, LxR20, LxR21. -/
import Derived.Test.YtepankcnleeakaaGreatDoorLxRA
import Derived.Test.YtepankcnleeakaaGreatDoorLxA
namespace Go.Proofs.YtepankcnleeakaaGreatDoor.Ab
open Go
set_option maxRecDepth 20000
set_option maxHeartbeats 8000000
set_option linter.unusedSimpArgs false
set_option linter.unusedVariables false
theorem digs_cut (v : Nat) (h : 0 < v) : Lib.decDigits v = (if v / 10 = 0 then [] else Lib.decDigits (v / 10)) ++ [UInt8.ofNat (48 + v % 10)] := by
 rw [Lib.decDigits.eq_def]
 by_cases h10 : v < 10
 ·rw [dif_pos h10, if_pos (by omega), show v % 10 = v by omega]
  rfl
 ·rw [dif_neg h10, if_neg (by omega)]
def IDg (u : Nat) (k : Nat) (fr : List AV) (τ : AHeap) : Prop :=
 ∃ v acc, k = v ∧ v < 18446744073709551616 ∧ fr.length = 25 ∧ getSlot fr 0 = .one (.int .u64 v) ∧ getSlot fr 3 = .one (.str acc) ∧ Lib.decDigits u = (if v = 0 then [] else Lib.decDigits v) ++ acc
theorem eq_digs (σ : AHeap) (u : Nat) (hu : u < 18446744073709551616) : lim LxT 53 [.one (.int .u64 u)] σ = some (.one (.str (Lib.decDigits u)), σ) := by
 refine lim_rd (args' := [.one (.int .u64 u)]) (ids := [] ++ []) rfl ((LxT_code _).trans codeRDigs) rfl rfl ?_ rfl
 unfold BodyP
 obtain ⟨D, hD⟩ : ∃ D, Lib.decDigits u = D := ⟨_, rfl⟩
 have hDl : D.length ≤ 20 := by rw [← hD]; exact digs20 hu
 have hone : ∀ v : Nat, v < 18446744073709551616 → (v : Int).tmod 10 = ((v % 10 : Nat) : Int) ∧ wr .u64 ((v % 10 : Nat) : Int) = ((v % 10 : Nat) : Int) ∧ wr .u64 (48 + ((v % 10 : Nat) : Int)) = ((48 + v % 10 : Nat) : Int) ∧ wr .u8 ((48 + v % 10 : Nat) : Int) = ((48 + v % 10 : Nat) : Int) ∧ (v : Int).tdiv 10 = ((v / 10 : Nat) : Int) ∧ wr .u64 ((v / 10 : Nat) : Int) = ((v / 10 : Nat) : Int) := by
  intro v hv
  refine ⟨by rw [Int.tmod_eq_emod_of_nonneg (by omega)]; omega, wr64u (by omega), ?_, ?_, by rw [Int.tdiv_eq_ediv_of_nonneg (by omega)]; omega, wr64u (by omega)⟩
  ·rw [show 48 + ((v % 10 : Nat) : Int) = ((48 + v % 10 : Nat) : Int) by omega]
   exact wr64u (by omega)
  ·unfold wr
   simp only
   rw [if_pos (by omega)]
 obtain ⟨a1, a2, a3, a4, a5, a6⟩ := hone u hu
 have hun : ∀ m : Nat, unbytes [SV.int .u8 (m : Int)] = some [UInt8.ofNat m] := fun m => rfl
 have hu0 := hun (48 + u % 10)
 have b1 : (u : Int) % 10 = ((u % 10 : Nat) : Int) := by omega
 have b2 : (u : Int) / 10 = ((u / 10 : Nat) : Int) := by omega
 rw [hD]
 simp (maxDischargeDepth := 99) [-UInt8.ofNat_add, -Int.natCast_add, -Int.natCast_emod, -Int.natCast_ediv, cRDigs, a1, a2, a3, a4, a5, a6, b1, b2, hu0, splice, repeatCells, srcLen, srcCells, isStr]
 refine endsi_to 0 (fun fr τ => fr.length = 25 ∧ getSlot fr 3 = .one (.str D)) ?_ ?_
 ·refine endsi_loop (I := IDg u) ?_ (k := u / 10) ⟨u / 10, [UInt8.ofNat (48 + u % 10)], rfl, by omega, by simp, by simp, by simp, ?_⟩
  ·rintro v fr τ ⟨_, acc, rfl, hv, hlen, f0, f3, he⟩
   have he' := he
   rw [hD] at he'
   have hal : acc.length ≤ D.length := by rw [he', List.length_append]; omega
   by_cases h0 : 0 < v
   ·have h0I : (0 : Int) < (v : Int) := by omega
    obtain ⟨c1, c2, c3, c4, c5, c6⟩ := hone v hv
    have hv0 := hun (48 + v % 10)
    have d1 : (v : Int) % 10 = ((v % 10 : Nat) : Int) := by omega
    have d2 : (v : Int) / 10 = ((v / 10 : Nat) : Int) := by omega
    have hcat : sbin .add [UInt8.ofNat (48 + v % 10)] acc = some (.str (UInt8.ofNat (48 + v % 10) :: acc)) := cat1 (by simp only [List.length_cons, List.length_nil]; omega)
    simp (maxDischargeDepth := 99) [-UInt8.ofNat_add, -Int.natCast_add, -Int.natCast_emod, -Int.natCast_ediv, cRDigs_0, hlen, f0, f3, h0, h0I, c1, c2, c3, c4, c5, c6, d1, d2, hv0, hcat, splice, repeatCells, srcLen, srcCells, isStr]
    refine ⟨v / 10, by omega, v / 10, UInt8.ofNat (48 + v % 10) :: acc, rfl, by omega, by simp [hlen], by simp [hlen], by simp [hlen], ?_⟩
    rw [he, if_neg (by omega), digs_cut v h0]
    simp
   ·have h0I : ¬ (0 : Int) < (v : Int) := by omega
    have hv0 : v = 0 := by omega
    rw [if_pos hv0, List.nil_append] at he'
    rw [← he'] at f3
    simp (maxDischargeDepth := 99) [-Int.natCast_add, cRDigs_0, hlen, f0, f3, h0, h0I]
  ·by_cases h0 : 0 < u
   ·exact digs_cut u h0
   ·obtain rfl : u = 0 := by omega
    rw [Lib.decDigits.eq_def]
    rfl
 ·rintro fr τ ⟨hlen, f3⟩
  simp (maxDischargeDepth := 99) [hlen, f3]
end Go.Proofs.YtepankcnleeakaaGreatDoor.Ab
namespace Go.Proofs.YtepankcnleeakaaGreatDoor.Ab
open Go
set_option maxRecDepth 20000
set_option maxHeartbeats 8000000
set_option linter.unusedSimpArgs false
set_option linter.unusedVariables false
theorem wru_neg {n : Int} (h0 : -9223372036854775808 ≤ n) (h : n < 0) : wr .u64 n = n + 18446744073709551616 ∧ wr .u64 (-(n + 18446744073709551616)) = (n.natAbs : Int) := by
 have hs : ¬ IntKind.u64.signed = true := by decide
 constructor
 ·unfold wr
  simp only
  rw [if_neg (by omega)]
  simp [IntKind.wrap, IntKind.bits, hs]
  omega
 ·unfold wr
  simp only
  rw [if_neg (by omega)]
  simp [IntKind.wrap, IntKind.bits, hs]
  omega
theorem eq_rdigits (σ : AHeap) (n : Int) (h0 : -9223372036854775808 ≤ n) (h1 : n ≤ 9223372036854775807) : lim LxT 30 [.one (.int .i64 n)] σ = some (.one (.str (Lib.itoa n)), σ) := by
 refine lim_rd (args' := [.one (.int .i64 n)]) (ids := [] ++ []) rfl ((LxT_code _).trans codeRDigits) rfl rfl ?_ rfl
 unfold BodyP Lib.itoa
 have hbn : bytes [] = [] := rfl
 have hb45 : bytes [45] = [45] := rfl
 by_cases h : n < 0
 ·obtain ⟨w1, w2⟩ := wru_neg h0 h
  rw [if_pos h]
  have hd := fun σ => eq_digs σ n.natAbs (by omega)
  have hl := digs20 (u := n.natAbs) (by omega)
  have hc : sbin .add [45] (Lib.decDigits n.natAbs) = some (.str (45 :: Lib.decDigits n.natAbs)) := cat1 (by simp only [List.length_cons, List.length_nil]; omega)
  generalize n.natAbs = m at *
  generalize Lib.decDigits m = D at *
  simp (maxDischargeDepth := 99) [cRDigits, h, w1, w2, hd, hbn, hb45, hc]
 ·rw [if_neg h]
  obtain ⟨m, rfl⟩ : ∃ m : Nat, n = m := ⟨n.toNat, by omega⟩
  have hd := fun σ => eq_digs σ m (by omega)
  have hl := digs20 (u := m) (by omega)
  have hw := wr64u (m := m) (by omega)
  rw [show (m : Int).toNat = m from rfl]
  have hc : sbin .add [] (Lib.decDigits m) = some (.str (Lib.decDigits m)) := cat1 (a := []) (by simp only [List.length_nil]; omega)
  generalize Lib.decDigits m = D at *
  simp (maxDischargeDepth := 99) [cRDigits, h, hw, hd, hbn, hc]
end Go.Proofs.YtepankcnleeakaaGreatDoor.Ab
namespace Go.Proofs.YtepankcnleeakaaGreatDoor.Ab
open Go
set_option linter.unusedVariables false
theorem digs_big {v : Nat} (h : 10 ≤ v) : Lib.decDigits v = Lib.decDigits (v / 10) ++ [UInt8.ofNat (48 + v % 10)] := by
 rw [Lib.decDigits.eq_def, dif_neg (by omega)]
theorem digs_one {v : Nat} (h : v < 10) : Lib.decDigits v = [UInt8.ofNat (48 + v)] := by
 rw [Lib.decDigits.eq_def, dif_pos h]
theorem digs_pad {r : Nat} (h : r < 10000) : (Lib.decDigits (r + 10000)).drop 1 = List.replicate (4 - (Lib.decDigits r).length) 48 ++ Lib.decDigits r := by
 have hL : (Lib.decDigits (r + 10000)).drop 1 = [UInt8.ofNat (48 + r / 1000), UInt8.ofNat (48 + r / 100 % 10), UInt8.ofNat (48 + r / 10 % 10), UInt8.ofNat (48 + r % 10)] := by
  rw [digs_big (v := r + 10000) (by omega), digs_big (v := (r + 10000) / 10) (by omega), digs_big (v := (r + 10000) / 10 / 10) (by omega), digs_big (v := (r + 10000) / 10 / 10 / 10) (by omega), digs_one (v := (r + 10000) / 10 / 10 / 10 / 10) (by omega)]
  simp only [List.cons_append, List.nil_append, List.drop_succ_cons, List.drop_zero]
  rw [show (r + 10000) / 10 / 10 / 10 % 10 = r / 1000 by omega, show (r + 10000) / 10 / 10 % 10 = r / 100 % 10 by omega, show (r + 10000) / 10 % 10 = r / 10 % 10 by omega, show (r + 10000) % 10 = r % 10 by omega]
 rw [hL]
 by_cases h1 : r < 10
 ·rw [digs_one h1, show r / 1000 = 0 by omega, show r / 100 % 10 = 0 by omega, show r / 10 % 10 = 0 by omega, show r % 10 = r by omega]
  rfl
 ·by_cases h2 : r < 100
  ·rw [digs_big (v := r) (by omega), digs_one (v := r / 10) (by omega), show r / 1000 = 0 by omega, show r / 100 % 10 = 0 by omega, show r / 10 % 10 = r / 10 by omega]
   rfl
  ·by_cases h3 : r < 1000
   ·rw [digs_big (v := r) (by omega), digs_big (v := r / 10) (by omega), digs_one (v := r / 10 / 10) (by omega), show r / 1000 = 0 by omega, show r / 100 % 10 = r / 10 / 10 by omega]
    rfl
   ·rw [digs_big (v := r) (by omega), digs_big (v := r / 10) (by omega), digs_big (v := r / 10 / 10) (by omega), digs_one (v := r / 10 / 10 / 10) (by omega), show r / 1000 = r / 10 / 10 / 10 by omega, show r / 100 % 10 = r / 10 / 10 % 10 by omega]
    rfl
end Go.Proofs.YtepankcnleeakaaGreatDoor.Ab
namespace Go.Proofs.YtepankcnleeakaaGreatDoor.Ab
open Go
set_option maxRecDepth 20000
set_option maxHeartbeats 8000000
set_option linter.unusedSimpArgs false
set_option linter.unusedVariables false
def trimF (x : List UInt8) : List UInt8 := if Lib.trimRightB x 48 = [] then [48] else Lib.trimRightB x 48
theorem trim_zero (g : List UInt8) : trimF (g ++ [48]) = trimF g := by
 unfold trimF Lib.trimRightB
 simp
theorem trim_stop {g : List UInt8} {c : UInt8} (h : c ≠ 48) : trimF (g ++ [c]) = g ++ [c] := by
 have : Lib.trimRightB (g ++ [c]) 48 = g ++ [c] := by
  unfold Lib.trimRightB
  simp [h]
 unfold trimF
 rw [this, if_neg (by simp)]
theorem trim_one (c : UInt8) : trimF [c] = [c] := by
 by_cases h : c = 48
 ·subst h; rfl
 ·exact trim_stop (g := []) h
def IDc (Z : List UInt8) (s3 s4 : AV) (k : Nat) (fr : List AV) (τ : AHeap) : Prop :=
 ∃ g c, k = g.length ∧ g.length ≤ 3 ∧ fr.length = 41 ∧ getSlot fr 3 = s3 ∧ getSlot fr 4 = s4 ∧ getSlot fr 5 = .one (.str (g ++ [c])) ∧ trimF (g ++ [c]) = Z
def FDc (Z : List UInt8) (s3 s4 : AV) (fr : List AV) (τ : AHeap) : Prop := fr.length = 41 ∧ getSlot fr 3 = s3 ∧ getSlot fr 4 = s4 ∧ getSlot fr 5 = .one (.str Z)
theorem step_dec {C : Ctx} {Z : List UInt8} {s3 s4 : AV} {k : Nat} {fr : List AV} {τ : AHeap} {R : KN} (h : IDc Z s3 s4 k fr τ) :
  EndsI .go (lim LxT) cRDec_0 fr τ (fun _ fr σ => ∃ j, j < k ∧ IDc Z s3 s4 j fr σ) (fun j _ fr σ => j = 0 ∧ FDc Z s3 s4 fr σ) R := by
 obtain ⟨g, c, rfl, hg, hlen, f3, f4, f5, hz⟩ := h
 have hl : (g ++ [c]).length = g.length + 1 := by simp
 have hw : wr .i64 (((g.length + 1 : Nat) : Int) - 1) = (g.length : Int) := by rw [wr64 (by omega) (by omega)]; omega
 have hcg : (g ++ [c])[g.length]? = some c := by simp
 have htk : (g ++ [c]).take g.length = g := by simp
 have hltn : g.length < (g ++ [c]).length := by omega
 have hltI : (g.length : Int) < ((g.length + 1 : Nat) : Int) := by omega
 have hle : (g.length : Int) ≤ ((g.length + 1 : Nat) : Int) := by omega
 have hcg2 : (g ++ [c])[g.length] = c := (List.getElem?_eq_some_iff.1 hcg).2
 by_cases h1 : 0 < g.length
 ·have h1I : (1 : Int) < ((g.length + 1 : Nat) : Int) := by omega
  by_cases h48 : c = 48
  ·subst h48
   have h4I : (((48 : UInt8).toNat : Nat) : Int) = 48 := rfl
   rw [trim_zero] at hz
   have hdec : ∃ g' c', g = g' ++ [c'] := by
    rcases List.eq_nil_or_concat g with h | ⟨l, b, h⟩
    ·rw [h] at h1; simp at h1
    ·exact ⟨l, b, by simpa using h⟩
   generalize g ++ [48] = X at *
   simp (maxDischargeDepth := 99) [-Int.natCast_add, cRDec_0, hlen, f3, f4, f5, hl, hw, h1I, hcg, hcg2, htk, hltn, hltI, hle, h4I]
   obtain ⟨g', c', hgc⟩ := hdec
   have hgl : g.length = g'.length + 1 := by rw [hgc]; simp
   exact ⟨g'.length, by omega, g', c', rfl, by omega, by simp [hlen], by simp [hlen, f3], by simp [hlen, f4], by simp [hlen, hgc], by rw [← hgc]; exact hz⟩
  ·have h4I : ¬ (c.toNat : Int) = 48 := by
    intro e
    apply h48
    have : c.toNat = (48 : UInt8).toNat := by show c.toNat = 48; omega
    exact UInt8.toNat_inj.1 this
   rw [trim_stop h48] at hz
   subst hz
   generalize g ++ [c] = X at *
   simp (maxDischargeDepth := 99) [-Int.natCast_add, cRDec_0, hlen, f3, f4, f5, hl, hw, h1I, hcg, hcg2, hltn, hltI, hle, h4I]
   exact ⟨by simp [hlen], by simp [hlen, f3], by simp [hlen, f4], by simp [hlen, f5]⟩
 ·have h1I : ¬ (1 : Int) < ((g.length + 1 : Nat) : Int) := by omega
  have hg0 : g = [] := List.length_eq_zero_iff.1 (by omega)
  subst hg0
  rw [List.nil_append, trim_one] at hz
  subst hz
  simp (maxDischargeDepth := 99) [-Int.natCast_add, cRDec_0, hlen, f3, f4, f5]
  exact ⟨by simp [hlen], by simp [hlen, f3], by simp [hlen, f4], by simp [hlen, f5]⟩
end Go.Proofs.YtepankcnleeakaaGreatDoor.Ab
namespace Go.Proofs.YtepankcnleeakaaGreatDoor.Ab
open Go
set_option maxRecDepth 20000
set_option maxHeartbeats 8000000
set_option linter.unusedSimpArgs false
set_option linter.unusedVariables false
theorem eq_rdec (σ : AHeap) (n : Int) (h0 : -9223372036854775808 ≤ n) (h1 : n ≤ 9223372036854775807) : lim LxT 52 [.one (.int .i64 n)] σ = some (.one (.str (decF n)), σ) := by
 refine lim_rd (args' := [.one (.int .i64 n)]) (ids := [] ++ []) rfl ((LxT_code _).trans codeRDec) rfl rfl ?_ rfl
 unfold BodyP decF
 have hbn : bytes [] = [] := rfl
 have hb45 : bytes [45] = [45] := rfl
 have hb46 : bytes [46] = [46] := rfl
 obtain ⟨m, hm⟩ : ∃ m, n.natAbs = m := ⟨_, rfl⟩
 have hm64 : m < 18446744073709551616 := by omega
 rw [hm]
 obtain ⟨r, hr⟩ : ∃ r, m % 10000 = r := ⟨_, rfl⟩
 obtain ⟨q, hq⟩ : ∃ q, m / 10000 = q := ⟨_, rfl⟩
 have hrl : r < 10000 := by omega
 have hql : q < 18446744073709551616 := by omega
 have a1 : (m : Int).tmod 10000 = (r : Int) := by rw [Int.tmod_eq_emod_of_nonneg (by omega)]; omega
 have a1' : (m : Int) % 10000 = (r : Int) := by omega
 have a2 : (m : Int).tdiv 10000 = (q : Int) := by rw [Int.tdiv_eq_ediv_of_nonneg (by omega)]; omega
 have a2' : (m : Int) / 10000 = (q : Int) := by omega
 have a3 : wr .u64 (r : Int) = (r : Int) := wr64u (by omega)
 have a4 : wr .u64 ((r : Int) + 10000) = ((r + 10000 : Nat) : Int) := by rw [show (r : Int) + 10000 = ((r + 10000 : Nat) : Int) by omega]; exact wr64u (by omega)
 have a5 : wr .u64 (q : Int) = (q : Int) := wr64u hql
 have hd1 := fun σ => eq_digs σ (r + 10000) (by omega)
 have hd2 := fun σ => eq_digs σ q hql
 have hpad := digs_pad hrl
 have hql20 := digs20 (u := q) (by omega)
 have hpl := part_len hrl
 have hpt : decPart r = trimF ((Lib.decDigits (r + 10000)).drop 1) := by rw [hpad]; rfl
 have h4 := digs4 hrl
 have hlen4 : ((Lib.decDigits (r + 10000)).drop 1).length = 4 := by rw [hpad, List.length_append, List.length_replicate]; omega
 rw [hr, hq]
 generalize decPart r = P at *
 generalize Lib.decDigits (r + 10000) = W at *
 generalize Lib.decDigits q = Q at *
 obtain ⟨E, hE⟩ : ∃ E, W.drop 1 = E := ⟨_, rfl⟩
 rw [hE] at hlen4 hpt
 have hWl : W.length = 5 := by rw [← hE, List.length_drop] at hlen4; omega
 have hEt : (W.drop 1).take (W.length - 1) = E := by rw [hE]; exact List.take_of_length_le (by omega)
 have hEt4 : E.take 4 = E := List.take_of_length_le (by omega)
 obtain ⟨g, c, hgc⟩ : ∃ g c, E = g ++ [c] := by
  rcases List.eq_nil_or_concat E with h | ⟨l, b, h⟩
  ·rw [h] at hlen4; simp at hlen4
  ·exact ⟨l, b, by simpa using h⟩
 have hgl : g.length = 3 := by rw [hgc] at hlen4; simp at hlen4; omega
 have hcat2 : ∀ S : List UInt8, S.length ≤ 1 → sbin .add S Q = some (.str (S ++ Q)) ∧ sbin .add (S ++ Q) [46] = some (.str (S ++ Q ++ [46])) ∧ sbin .add (S ++ Q ++ [46]) P = some (.str (S ++ Q ++ [46] ++ P)) := fun S hS =>
  ⟨cat1 (by omega), cat1 (by simp only [List.length_append, List.length_cons, List.length_nil]; omega), cat1 (by simp only [List.length_append, List.length_cons, List.length_nil]; omega)⟩
 by_cases h : n < 0
 ·obtain ⟨w1, w2⟩ := wru_neg h0 h
  rw [hm] at w2
  rw [if_pos h]
  obtain ⟨k1, k2, k3⟩ := hcat2 [45] (by decide)
  generalize [45] ++ Q = Y1 at *
  generalize Y1 ++ [46] = Y2 at *
  generalize Y2 ++ P = Y3 at *
  simp (maxDischargeDepth := 99) [-Int.natCast_add, cRDec, h, w1, w2, a1, a1', a3, a4, hd1, hbn, hb45, hWl, hE, hEt, hEt4]
  refine endsi_to 0 (FDc P (.one (.int .u64 m)) (.one (.str [45]))) ?_ ?_
  ·exact endsi_loop (I := IDc P (.one (.int .u64 m)) (.one (.str [45]))) (fun k fr τ hI => step_dec (C := LxT) hI) (k := g.length) ⟨g, c, rfl, by omega, by simp, by simp, by simp, by simp [hgc], by rw [← hgc]; exact hpt.symm⟩
  ·rintro fr τ ⟨hlen, f3, f4, f5⟩
   simp (maxDischargeDepth := 99) [-Int.natCast_add, hlen, f3, f4, f5, a2, a2', a5, hd2, hb46, k1, k2, k3]
 ·obtain rfl : n = (m : Int) := by omega
  rw [if_neg h]
  have w1 := wr64u (m := m) hm64
  obtain ⟨k1, k2, k3⟩ := hcat2 [] (by decide)
  generalize [] ++ Q = Y1 at *
  generalize Y1 ++ [46] = Y2 at *
  generalize Y2 ++ P = Y3 at *
  simp (maxDischargeDepth := 99) [-Int.natCast_add, cRDec, h, w1, a1, a1', a3, a4, hd1, hbn, hWl, hE, hEt, hEt4]
  refine endsi_to 0 (FDc P (.one (.int .u64 m)) (.one (.str []))) ?_ ?_
  ·exact endsi_loop (I := IDc P (.one (.int .u64 m)) (.one (.str []))) (fun k fr τ hI => step_dec (C := LxT) hI) (k := g.length) ⟨g, c, rfl, by omega, by simp, by simp, by simp, by simp [hgc], by rw [← hgc]; exact hpt.symm⟩
  ·rintro fr τ ⟨hlen, f3, f4, f5⟩
   simp (maxDischargeDepth := 99) [-Int.natCast_add, hlen, f3, f4, f5, a2, a2', a5, hd2, hb46, k1, k2, k3]
end Go.Proofs.YtepankcnleeakaaGreatDoor.Ab
namespace Go.Proofs.YtepankcnleeakaaGreatDoor.Ab
open Go
set_option maxRecDepth 20000
set_option linter.unusedVariables false
set_option linter.unusedSimpArgs false
def okV (least v : Nat) : Prop := least ≤ v ∧ v ≤ 1114111 ∧ ¬ (55296 ≤ v ∧ v < 57344)
def contD (d : Nat) : Prop := 128 ≤ d ∧ d < 192
instance (a b : Nat) : Decidable (okV a b) := by unfold okV; exact inferInstance
instance (a : Nat) : Decidable (contD a) := by unfold contD; exact inferInstance
theorem check2 (n b0 b1 b2 b3 : Nat) (h0 : 192 ≤ b0) (h1 : b0 < 224) (k1 : b1 < 256) :
  Lib.checkN n b1 b2 b3 (Lib.firstT b0 % 8) (Lib.accLo (Lib.firstT b0 / 16)) (Lib.accHi (Lib.firstT b0 / 16)) = if 2 ≤ n ∧ contD b1 ∧ okV 128 ((b0 - 192) * 64 + b1 - 128) then some 2 else none := by
 unfold contD okV
 by_cases c0 : b0 < 194
 ·rw [if_neg (by omega)]
  simp [Lib.firstT, Lib.checkN, show ¬ b0 < 128 by omega, c0]
 ·have e : Lib.firstT b0 % 8 = 2 ∧ Lib.accLo (Lib.firstT b0 / 16) = 128 ∧ Lib.accHi (Lib.firstT b0 / 16) = 191 := by
   refine ⟨?_, ?_, ?_⟩ <;> simp [Lib.firstT, Lib.accLo, Lib.accHi, show ¬ b0 < 128 by omega, c0, h1]
  obtain ⟨e1, e2, e3⟩ := e
  rw [e1, e2, e3]
  unfold Lib.checkN
  rw [if_pos rfl]
  split <;> split <;> first | rfl | (exfalso; omega)
theorem check3 (n b0 b1 b2 b3 : Nat) (h0 : 224 ≤ b0) (h1 : b0 < 240) (k1 : b1 < 256) (k2 : b2 < 256) :
  Lib.checkN n b1 b2 b3 (Lib.firstT b0 % 8) (Lib.accLo (Lib.firstT b0 / 16)) (Lib.accHi (Lib.firstT b0 / 16)) = if 3 ≤ n ∧ contD b1 ∧ contD b2 ∧ okV 2048 (((b0 - 224) * 64 + b1 - 128) * 64 + b2 - 128) then some 3 else none := by
 unfold contD okV
 have fin : ∀ lo hi, Lib.firstT b0 % 8 = 3 → Lib.accLo (Lib.firstT b0 / 16) = lo → Lib.accHi (Lib.firstT b0 / 16) = hi → ((3 ≤ n ∧ (128 ≤ b1 ∧ b1 < 192) ∧ (128 ≤ b2 ∧ b2 < 192) ∧ (2048 ≤ (((b0 - 224) * 64 + b1 - 128) * 64 + b2 - 128) ∧ (((b0 - 224) * 64 + b1 - 128) * 64 + b2 - 128) ≤ 1114111 ∧ ¬ (55296 ≤ (((b0 - 224) * 64 + b1 - 128) * 64 + b2 - 128) ∧ (((b0 - 224) * 64 + b1 - 128) * 64 + b2 - 128) < 57344))) ↔ ¬ (n < 3 ∨ b1 < lo ∨ hi < b1 ∨ b2 < 128 ∨ 191 < b2)) →
   Lib.checkN n b1 b2 b3 (Lib.firstT b0 % 8) (Lib.accLo (Lib.firstT b0 / 16)) (Lib.accHi (Lib.firstT b0 / 16)) = if 3 ≤ n ∧ (128 ≤ b1 ∧ b1 < 192) ∧ (128 ≤ b2 ∧ b2 < 192) ∧ (2048 ≤ (((b0 - 224) * 64 + b1 - 128) * 64 + b2 - 128) ∧ (((b0 - 224) * 64 + b1 - 128) * 64 + b2 - 128) ≤ 1114111 ∧ ¬ (55296 ≤ (((b0 - 224) * 64 + b1 - 128) * 64 + b2 - 128) ∧ (((b0 - 224) * 64 + b1 - 128) * 64 + b2 - 128) < 57344)) then some 3 else none := fun lo hi e1 e2 e3 hiff => by
  rw [e1, e2, e3]
  unfold Lib.checkN
  rw [if_neg (by decide), if_pos rfl]
  by_cases hc : n < 3 ∨ b1 < lo ∨ hi < b1 ∨ b2 < 128 ∨ 191 < b2
  ·rw [if_pos hc, if_neg (fun h => hiff.1 h hc)]
  ·rw [if_neg hc, if_pos (hiff.2 hc)]
 by_cases c2 : b0 = 224
 ·subst c2; exact fin 160 191 (by decide) (by decide) (by decide) (by omega)
 by_cases c3 : b0 < 237
 ·exact fin 128 191 (by simp [Lib.firstT, show ¬ b0 < 128 by omega, show ¬ b0 < 194 by omega, show ¬ b0 < 224 by omega, c2, c3]) (by simp [Lib.firstT, Lib.accLo, show ¬ b0 < 128 by omega, show ¬ b0 < 194 by omega, show ¬ b0 < 224 by omega, c2, c3]) (by simp [Lib.firstT, Lib.accHi, show ¬ b0 < 128 by omega, show ¬ b0 < 194 by omega, show ¬ b0 < 224 by omega, c2, c3]) (by omega)
 by_cases c4 : b0 = 237
 ·subst c4; exact fin 128 159 (by decide) (by decide) (by decide) (by omega)
 ·exact fin 128 191 (by simp [Lib.firstT, show ¬ b0 < 128 by omega, show ¬ b0 < 194 by omega, show ¬ b0 < 224 by omega, c2, c3, c4, h1]) (by simp [Lib.firstT, Lib.accLo, show ¬ b0 < 128 by omega, show ¬ b0 < 194 by omega, show ¬ b0 < 224 by omega, c2, c3, c4, h1]) (by simp [Lib.firstT, Lib.accHi, show ¬ b0 < 128 by omega, show ¬ b0 < 194 by omega, show ¬ b0 < 224 by omega, c2, c3, c4, h1]) (by omega)
theorem check4 (n b0 b1 b2 b3 : Nat) (h0 : 240 ≤ b0) (h1 : b0 < 248) (k1 : b1 < 256) (k2 : b2 < 256) (k3 : b3 < 256) :
  Lib.checkN n b1 b2 b3 (Lib.firstT b0 % 8) (Lib.accLo (Lib.firstT b0 / 16)) (Lib.accHi (Lib.firstT b0 / 16)) = if 4 ≤ n ∧ contD b1 ∧ contD b2 ∧ contD b3 ∧ okV 65536 ((((b0 - 240) * 64 + b1 - 128) * 64 + b2 - 128) * 64 + b3 - 128) then some 4 else none := by
 unfold contD okV
 obtain ⟨V, hV⟩ : ∃ V, ((((b0 - 240) * 64 + b1 - 128) * 64 + b2 - 128) * 64 + b3 - 128) = V := ⟨_, rfl⟩
 rw [hV]
 have fin : ∀ lo hi, Lib.firstT b0 % 8 = 4 → Lib.accLo (Lib.firstT b0 / 16) = lo → Lib.accHi (Lib.firstT b0 / 16) = hi → ((4 ≤ n ∧ (128 ≤ b1 ∧ b1 < 192) ∧ (128 ≤ b2 ∧ b2 < 192) ∧ (128 ≤ b3 ∧ b3 < 192) ∧ (65536 ≤ V ∧ V ≤ 1114111 ∧ ¬ (55296 ≤ V ∧ V < 57344))) ↔ ¬ (n < 4 ∨ b1 < lo ∨ hi < b1 ∨ b2 < 128 ∨ 191 < b2 ∨ b3 < 128 ∨ 191 < b3)) →
   Lib.checkN n b1 b2 b3 (Lib.firstT b0 % 8) (Lib.accLo (Lib.firstT b0 / 16)) (Lib.accHi (Lib.firstT b0 / 16)) = if 4 ≤ n ∧ (128 ≤ b1 ∧ b1 < 192) ∧ (128 ≤ b2 ∧ b2 < 192) ∧ (128 ≤ b3 ∧ b3 < 192) ∧ (65536 ≤ V ∧ V ≤ 1114111 ∧ ¬ (55296 ≤ V ∧ V < 57344)) then some 4 else none := fun lo hi e1 e2 e3 hiff => by
  rw [e1, e2, e3]
  unfold Lib.checkN
  rw [if_neg (by decide), if_neg (by decide), if_pos rfl]
  by_cases hc : n < 4 ∨ b1 < lo ∨ hi < b1 ∨ b2 < 128 ∨ 191 < b2 ∨ b3 < 128 ∨ 191 < b3
  ·rw [if_pos hc, if_neg (fun h => hiff.1 h hc)]
  ·rw [if_neg hc, if_pos (hiff.2 hc)]
 have n1 : ¬ b0 < 128 := by omega
 have n2 : ¬ b0 < 194 := by omega
 have n3 : ¬ b0 < 224 := by omega
 have n4 : ¬ b0 = 224 := by omega
 have n5 : ¬ b0 < 237 := by omega
 have n6 : ¬ b0 = 237 := by omega
 have n7 : ¬ b0 < 240 := by omega
 by_cases c6 : b0 = 240
 ·subst c6; exact fin 144 191 (by decide) (by decide) (by decide) (by omega)
 by_cases c7 : b0 < 244
 ·exact fin 128 191 (by simp [Lib.firstT, n1, n2, n3, n4, n5, n6, n7, c6, c7]) (by simp [Lib.firstT, Lib.accLo, n1, n2, n3, n4, n5, n6, n7, c6, c7]) (by simp [Lib.firstT, Lib.accHi, n1, n2, n3, n4, n5, n6, n7, c6, c7]) (by omega)
 by_cases c8 : b0 = 244
 ·subst c8; exact fin 128 143 (by decide) (by decide) (by decide) (by omega)
 ·rw [if_neg (by omega)]
  simp [Lib.firstT, Lib.checkN, n1, n2, n3, n4, n5, n6, n7, c6, c7, c8]
def vals (l : List UInt8) (v : Nat) : Nat → Nat
 | 0 => v
 | k + 1 => vals l v k * 64 + (l.getD (k + 1) 0).toNat - 128
def runeOk (l : List UInt8) (n least v : Nat) : Prop := n ≤ l.length ∧ (∀ k, 1 ≤ k → k < n → contD (l.getD k 0).toNat) ∧ okV least (vals l v (n - 1))
theorem valid_rune (l : List UInt8) (n least base : Nat) (hne : l ≠ []) (h : (n = 2 ∧ least = 128 ∧ base = 192 ∧ 192 ≤ (l.getD 0 0).toNat ∧ (l.getD 0 0).toNat < 224) ∨ (n = 3 ∧ least = 2048 ∧ base = 224 ∧ 224 ≤ (l.getD 0 0).toNat ∧ (l.getD 0 0).toNat < 240) ∨ (n = 4 ∧ least = 65536 ∧ base = 240 ∧ 240 ≤ (l.getD 0 0).toNat ∧ (l.getD 0 0).toNat < 248)) :
  (runeOk l n least ((l.getD 0 0).toNat - base) → Lib.validD l = Lib.validD (l.drop n)) ∧ (¬ runeOk l n least ((l.getD 0 0).toNat - base) → Lib.validD l = false) := by
 have hv := Lib.validD_lead l hne (by omega)
 have k1 := (l.getD 1 0).toNat_lt
 have k2 := (l.getD 2 0).toNat_lt
 have k3 := (l.getD 3 0).toNat_lt
 rcases h with ⟨rfl, rfl, rfl, h0, h1⟩ | ⟨rfl, rfl, rfl, h0, h1⟩ | ⟨rfl, rfl, rfl, h0, h1⟩
 ·rw [check2 _ _ _ _ _ h0 h1 k1] at hv
  have hiff : runeOk l 2 128 ((l.getD 0 0).toNat - 192) ↔ 2 ≤ l.length ∧ contD (l.getD 1 0).toNat ∧ okV 128 (((l.getD 0 0).toNat - 192) * 64 + (l.getD 1 0).toNat - 128) := by
   unfold runeOk
   constructor
   ·rintro ⟨a, b, c⟩; exact ⟨a, b 1 (by omega) (by omega), c⟩
   ·rintro ⟨a, b, c⟩
    refine ⟨a, fun k x y => ?_, c⟩
    obtain rfl : k = 1 := by omega
    exact b
  constructor <;> intro hr
  ·rw [if_pos (hiff.1 hr)] at hv; exact hv
  ·rw [if_neg (fun h => hr (hiff.2 h))] at hv; exact hv
 ·rw [check3 _ _ _ _ _ h0 h1 k1 k2] at hv
  have hiff : runeOk l 3 2048 ((l.getD 0 0).toNat - 224) ↔ 3 ≤ l.length ∧ contD (l.getD 1 0).toNat ∧ contD (l.getD 2 0).toNat ∧ okV 2048 ((((l.getD 0 0).toNat - 224) * 64 + (l.getD 1 0).toNat - 128) * 64 + (l.getD 2 0).toNat - 128) := by
   unfold runeOk
   constructor
   ·rintro ⟨a, b, c⟩; exact ⟨a, b 1 (by omega) (by omega), b 2 (by omega) (by omega), c⟩
   ·rintro ⟨a, b, b2, c⟩
    refine ⟨a, fun k x y => ?_, c⟩
    rcases (show k = 1 ∨ k = 2 by omega) with rfl | rfl
    ·exact b
    ·exact b2
  constructor <;> intro hr
  ·rw [if_pos (hiff.1 hr)] at hv; exact hv
  ·rw [if_neg (fun h => hr (hiff.2 h))] at hv; exact hv
 ·rw [check4 _ _ _ _ _ h0 h1 k1 k2 k3] at hv
  have hiff : runeOk l 4 65536 ((l.getD 0 0).toNat - 240) ↔ 4 ≤ l.length ∧ contD (l.getD 1 0).toNat ∧ contD (l.getD 2 0).toNat ∧ contD (l.getD 3 0).toNat ∧ okV 65536 (((((l.getD 0 0).toNat - 240) * 64 + (l.getD 1 0).toNat - 128) * 64 + (l.getD 2 0).toNat - 128) * 64 + (l.getD 3 0).toNat - 128) := by
   unfold runeOk
   constructor
   ·rintro ⟨a, b, c⟩; exact ⟨a, b 1 (by omega) (by omega), b 2 (by omega) (by omega), b 3 (by omega) (by omega), c⟩
   ·rintro ⟨a, b, b2, b3, c⟩
    refine ⟨a, fun k x y => ?_, c⟩
    rcases (show k = 1 ∨ k = 2 ∨ k = 3 by omega) with rfl | rfl | rfl
    ·exact b
    ·exact b2
    ·exact b3
  constructor <;> intro hr
  ·rw [if_pos (hiff.1 hr)] at hv; exact hv
  ·rw [if_neg (fun h => hr (hiff.2 h))] at hv; exact hv
theorem valid_none (l : List UInt8) (hne : l ≠ []) (h : (128 ≤ (l.getD 0 0).toNat ∧ (l.getD 0 0).toNat < 192) ∨ 248 ≤ (l.getD 0 0).toNat) : Lib.validD l = false := by
 have hv := Lib.validD_lead l hne (by omega)
 have h8 : Lib.firstT (l.getD 0 0).toNat % 8 = 1 := by
  generalize (l.getD 0 0).toNat = b at *
  rcases h with ⟨h0, h1⟩ | h
  ·simp [Lib.firstT, show ¬ b < 128 by omega, show b < 194 by omega]
  ·simp [Lib.firstT, show ¬ b < 128 by omega, show ¬ b < 194 by omega, show ¬ b < 224 by omega, show ¬ b = 224 by omega, show ¬ b < 237 by omega, show ¬ b = 237 by omega, show ¬ b < 240 by omega, show ¬ b = 240 by omega, show ¬ b < 244 by omega, show ¬ b = 244 by omega]
 rw [h8] at hv
 rw [hv]
 rfl
end Go.Proofs.YtepankcnleeakaaGreatDoor.Ab
namespace Go.Proofs.YtepankcnleeakaaGreatDoor.Ab
open Go
set_option maxRecDepth 20000
set_option maxHeartbeats 8000000
set_option linter.unusedSimpArgs false
set_option linter.unusedVariables false
theorem vals_zero (l : List UInt8) (v : Nat) : vals l v 0 = v := rfl
theorem vals_step {V P d : Nat} (h : V < 1000 * P) (hd : d < 256) (hp : 0 < P) : V * 64 + d - 128 < 1000 * (P * 100) := by omega
theorem vals_lt (l : List UInt8) {v : Nat} (hv : v < 256) (j : Nat) : vals l v j < 1000 * 100 ^ j := by
 induction j with
 | zero => exact Nat.lt_of_lt_of_le (m := 256) hv (by decide)
 | succ j ih =>
  have e : (100 : Nat) ^ (j + 1) = 100 ^ j * 100 := Nat.pow_succ 100 j
  rw [e]
  exact vals_step ih (l.getD (j + 1) 0).toNat_lt (Nat.pow_pos (by decide))
theorem vals_small (l : List UInt8) {v j : Nat} (hv : v < 256) (hj : j ≤ 3) : vals l v j < 1000000000 := by
 have h := vals_lt l hv j
 have := Nat.pow_le_pow_right (show 0 < 100 by decide) hj
 have e : (100 : Nat) ^ 3 = 1000000 := by decide
 generalize 100 ^ j = P at *
 omega
theorem cont_lo {d : Nat} (h : d < 128) : ¬ contD d := fun k => absurd k.1 (by omega)
theorem cont_hi {d : Nat} (h : 192 ≤ d) : ¬ contD d := fun k => absurd k.2 (by omega)
theorem adv {L i n i' D : Nat} (hD : L - i = D) (hDn : ¬ D < n) (hn : 0 < n) (hi : i < L) (hi' : i + n = i') : L - i' < D ∧ i' ≤ L := by omega
theorem upto_ne {k J : Nat} (h : k < J + 1) (hne : ¬ k = J) : k < J := by omega
theorem fits {L i n D : Nat} (hD : L - i = D) (hDn : ¬ D < n) (hi : i < L) : i + n ≤ L := by omega
def IRi (x : List UInt8) (i n least v j : Nat) (fr : List AV) (τ : AHeap) : Prop :=
 fr.length = 95 ∧ getSlot fr 0 = .one (.str x) ∧ getSlot fr 3 = .one (.int .i64 i) ∧ getSlot fr 5 = .one (.int .i64 n) ∧ getSlot fr 6 = .one (.int .i64 least) ∧ getSlot fr 7 = .one (.int .i64 (vals (x.drop i) v j)) ∧ getSlot fr 8 = .one (.int .i64 (j + 1 : Nat)) ∧
  ∀ k, 1 ≤ k → k < j + 1 → contD ((x.drop i).getD k 0).toNat
theorem run_inner {x : List UInt8} {i n least v : Nat} {R : KN} (hin : i + n ≤ x.length) (hx : x.length ≤ 1000000000000) (h1 : 1 ≤ n) (hn : n ≤ 4) (hv : v < 256)
  (hR : (∃ k, 1 ≤ k ∧ k < n ∧ ¬ contD ((x.drop i).getD k 0).toNat) → ∀ fr σ, fr.length = 95 → getSlot fr 2 = .one (.bool false) → R .go fr σ) {fr : List AV} {τ : AHeap} (h0 : IRi x i n least v 0 fr τ) :
  EndsI .go (lim LxT) (.loop cRRunes_0) fr τ (fun _ _ _ => False) (fun j _ fr σ => j = 3 ∧ IRi x i n least v (n - 1) fr σ) R := by
 refine endsi_range (n - 1) (IRi x i n least v) h0 ?_ ?_
 ·rintro j fr τ hlt ⟨hlen, f0, f3, f5, f6, f7, f8, hall⟩
  obtain ⟨M, hM⟩ : ∃ M, vals (x.drop i) v j = M := ⟨_, rfl⟩
  have hMs : M < 1000000000 := by rw [← hM]; exact vals_small _ hv (by omega)
  obtain ⟨J, hJ⟩ : ∃ J, j + 1 = J := ⟨_, rfl⟩
  rw [hM] at f7
  rw [hJ] at f8
  have hJn : J < n := by omega
  have hJI : (J : Int) < (n : Int) := by omega
  obtain ⟨p, hp⟩ : ∃ p, i + J = p := ⟨_, rfl⟩
  have hpl : p < x.length := by omega
  obtain ⟨d, hd⟩ : ∃ d, x[p] = d := ⟨_, rfl⟩
  have hdg : x[p]? = some d := by rw [List.getElem?_eq_getElem hpl, hd]
  have hlk : (x.drop i).getD J 0 = d := by rw [List.getD_eq_getElem?_getD, List.getElem?_drop, hp, hdg]; rfl
  have hd8 := d.toNat_lt
  have w1 : wr .i64 ((i : Int) + (J : Int)) = (p : Int) := by rw [wr64 (by omega) (by omega)]; omega
  have w2 : wr .i64 (d.toNat : Int) = (d.toNat : Int) := wr64 (by omega) (by omega)
  obtain ⟨A, hA⟩ : ∃ A, M * 64 = A := ⟨_, rfl⟩
  obtain ⟨J', hJ'⟩ : ∃ J', J + 1 = J' := ⟨_, rfl⟩
  have w3 : wr .i64 ((M : Int) * 64) = (A : Int) := by rw [wr64 (by omega) (by omega)]; omega
  obtain ⟨B, hB⟩ : ∃ B, A + d.toNat = B := ⟨_, rfl⟩
  have w4 : wr .i64 ((A : Int) + (d.toNat : Int)) = (B : Int) := by rw [wr64 (by omega) (by omega)]; omega
  have w6 : wr .i64 ((J : Int) + 1) = (J' : Int) := by rw [wr64 (by omega) (by omega)]; omega
  by_cases c1 : d.toNat < 128
  ·have c1I : (d.toNat : Int) < 128 := by omega
   have hno : ∃ k, 1 ≤ k ∧ k < n ∧ ¬ contD ((x.drop i).getD k 0).toNat := ⟨J, hJ ▸ Nat.succ_le_succ (Nat.zero_le _), hJn, by rw [hlk]; exact cont_lo c1⟩
   simp (maxDischargeDepth := 99) [cRRunes_0, hlen, f0, f3, f5, f7, f8, hJI, hJn, w1, hpl, hdg, hd, w2, c1, c1I]
   exact hR hno _ _ (by simp [hlen]) (by simp [hlen])
  ·have c1I : ¬ (d.toNat : Int) < 128 := by omega
   by_cases c2 : 192 ≤ d.toNat
   ·have c2I : (192 : Int) ≤ (d.toNat : Int) := by omega
    have hno : ∃ k, 1 ≤ k ∧ k < n ∧ ¬ contD ((x.drop i).getD k 0).toNat := ⟨J, hJ ▸ Nat.succ_le_succ (Nat.zero_le _), hJn, by rw [hlk]; exact cont_hi c2⟩
    simp (maxDischargeDepth := 99) [cRRunes_0, hlen, f0, f3, f5, f7, f8, hJI, hJn, w1, hpl, hdg, hd, w2, c1, c1I, c2, c2I]
    exact hR hno _ _ (by simp [hlen]) (by simp [hlen])
   ·have c2I : ¬ (192 : Int) ≤ (d.toNat : Int) := by omega
    obtain ⟨C, hC⟩ : ∃ C, B - 128 = C := ⟨_, rfl⟩
    have w5 : wr .i64 ((B : Int) - 128) = (C : Int) := by rw [wr64 (by omega) (by omega)]; omega
    have hVC : vals (x.drop i) v (j + 1) = C := by
     show vals (x.drop i) v j * 64 + ((x.drop i).getD (j + 1) 0).toNat - 128 = C
     rw [hM, hJ, hlk, hA, hB, hC]
    simp (maxDischargeDepth := 99) [cRRunes_0, hlen, f0, f3, f5, f7, f8, hJI, hJn, w1, hpl, hdg, hd, w2, c1, c1I, c2, c2I, w3, w4, w5, w6]
    refine ⟨by simp [hlen], by simp [hlen, f0], by simp [hlen, f3], by simp [hlen, f5], by simp [hlen, f6], by rw [hVC]; simp [hlen], by rw [hJ, hJ']; simp [hlen], fun k hk1 hk2 => ?_⟩
    by_cases hkJ : k = J
    ·subst hkJ
     rw [hlk]
     exact ⟨by omega, by omega⟩
    ·exact hall k hk1 (by rw [hJ] at hk2 ⊢; exact upto_ne hk2 hkJ)
 ·rintro fr τ ⟨hlen, f0, f3, f5, f6, f7, f8, hall⟩
  have e : n - 1 + 1 = n := by omega
  rw [e] at f8
  simp (maxDischargeDepth := 99) [cRRunes_0, hlen, f5, f8]
  exact ⟨by simp [hlen], by simp [hlen, f0], by simp [hlen, f3], by simp [hlen, f5], by simp [hlen, f6], by simp [hlen, f7], by rw [e]; simp [hlen, f8], hall⟩
def IRn (x : List UInt8) (Z : Bool) (k : Nat) (fr : List AV) (τ : AHeap) : Prop :=
 ∃ i, k = x.length - i ∧ i ≤ x.length ∧ fr.length = 95 ∧ getSlot fr 0 = .one (.str x) ∧ getSlot fr 3 = .one (.int .i64 i) ∧ Lib.validD (x.drop i) = Z
def FRn (Z : Bool) (fr : List AV) (τ : AHeap) : Prop := fr.length = 95 ∧ Z = true
theorem step_runes {x : List UInt8} {Z : Bool} {R : KN} (hx : x.length ≤ 1000000000000) (hR : ∀ fr σ, fr.length = 95 → getSlot fr 2 = .one (.bool Z) → R .go fr σ) {k : Nat} {fr : List AV} {τ : AHeap} (h : IRn x Z k fr τ) :
  EndsI .go (lim LxT) cRRunes_1 fr τ (fun _ fr σ => ∃ j, j < k ∧ IRn x Z j fr σ) (fun j _ fr σ => j = 0 ∧ FRn Z fr σ) R := by
 obtain ⟨i, rfl, hi, hlen, f0, f3, hz⟩ := h
 by_cases hlt : i < x.length
 ·have hltI : (i : Int) < (x.length : Int) := by omega
  obtain ⟨c, hc⟩ : ∃ c, x[i] = c := ⟨_, rfl⟩
  have hcg : x[i]? = some c := by rw [List.getElem?_eq_getElem hlt, hc]
  have hc8 := c.toNat_lt
  have wc : wr .i64 (c.toNat : Int) = (c.toNat : Int) := wr64 (by omega) (by omega)
  obtain ⟨D, hD⟩ : ∃ D, x.length - i = D := ⟨_, rfl⟩
  have wD : wr .i64 ((x.length : Int) - (i : Int)) = (D : Int) := by rw [wr64 (by omega) (by omega)]; omega
  have hne : x.drop i ≠ [] := by
   intro e
   have := congrArg List.length e
   simp at this
   omega
  have hg0 : (x.drop i).getD 0 0 = c := by rw [List.getD_eq_getElem?_getD, List.getElem?_drop, Nat.add_zero, hcg]; rfl
  have hdl : (x.drop i).length = D := by rw [List.length_drop, hD]
  have hnone := valid_none (x.drop i) hne
  rw [hg0, hz] at hnone
  rw [hD]
  by_cases a1 : c.toNat < 128
  ·have a1I : (c.toNat : Int) < 128 := by omega
   have hz1 : Lib.validD (x.drop (i + 1)) = Z := by
    rw [← hz, List.drop_eq_getElem_cons hlt, hc]
    exact (Lib.validD_cons c _ a1).symm
   have hD1 : ¬ (D : Int) < 1 := by omega
   have q1 : ¬ (c.toNat : Int) < 0 := by omega
   have q2 : ¬ (1114111 : Int) < (c.toNat : Int) := by omega
   have q3 : ¬ (55296 : Int) ≤ (c.toNat : Int) := by omega
   obtain ⟨i', hi'⟩ : ∃ i', i + 1 = i' := ⟨_, rfl⟩
   have wi : wr .i64 ((i : Int) + 1) = (i' : Int) := by rw [wr64 (by omega) (by omega)]; omega
   have hadv := adv hD (n := 1) (i' := i') (by omega) (by omega) hlt hi'
   simp (maxDischargeDepth := 99) [cRRunes_1, hlen, f0, f3, hlt, hltI, hc, hcg, wc, a1, a1I, wD, hD1]
   refine endsi_to 3 (IRi x i 1 0 c.toNat 0) ?_ ?_
   ·exact run_inner (n := 1) (least := 0) hlt hx (Nat.le_refl _) (by decide) hc8 (fun ⟨k, k1, k2, _⟩ => absurd k2 (Nat.not_lt.2 k1)) ⟨by simp [hlen], by simp [hlen, f0], by simp [hlen, f3], by simp [hlen], by simp [hlen], by rw [vals_zero]; simp [hlen], by simp [hlen], fun k k1 k2 => absurd k2 (Nat.not_lt.2 k1)⟩
   ·rintro fr τ ⟨hlen, f0, f3, f5, f6, f7, f8, _⟩
    have f7 : getSlot fr 7 = .one (.int .i64 c.toNat) := f7
    have f5 : getSlot fr 5 = .one (.int .i64 1) := f5
    have f6 : getSlot fr 6 = .one (.int .i64 0) := f6
    simp (maxDischargeDepth := 99) [hlen, f0, f3, f5, f6, f7, q1, q2, q3, wi]
    refine ⟨x.length - i', hadv.1, i', rfl, hadv.2, by simp [hlen], by simp [hlen, f0], by simp [hlen], by rw [← hi']; exact hz1⟩
  ·by_cases a2 : 192 ≤ c.toNat
   ·by_cases a3 : c.toNat < 224
    ·obtain ⟨v, hv⟩ : ∃ v, c.toNat - 192 = v := ⟨_, rfl⟩
     have wv : wr .i64 ((c.toNat : Int) - 192) = (v : Int) := by rw [wr64 (by omega) (by omega)]; omega
     have a1I : ¬ (c.toNat : Int) < 128 := by omega
     have a2I : (192 : Int) ≤ (c.toNat : Int) := by omega
     have a3I : (c.toNat : Int) < 224 := by omega
     have hv8 : v < 256 := by omega
     obtain ⟨v1, v0⟩ := valid_rune (x.drop i) 2 128 192 hne (by rw [hg0]; omega)
     rw [hg0, hv, hz, List.drop_drop] at v1
     rw [hg0, hv, hz] at v0
     by_cases hDn : D < 2
     ·have hDnI : (D : Int) < 2 := by omega
      have hZ0 : Z = false := v0 (fun h => absurd hDn (Nat.not_lt.2 (by have := h.1; rwa [hdl] at this)))
      subst hZ0
      simp (maxDischargeDepth := 99) [cRRunes_1, hlen, f0, f3, hlt, hltI, hc, hcg, wc, a1I, a2I, a3I, wv, wD, hDnI]
      exact hR _ _ (by simp [hlen]) (by simp [hlen])
     ·have hDnI : ¬ (D : Int) < 2 := by omega
      simp (maxDischargeDepth := 99) [cRRunes_1, hlen, f0, f3, hlt, hltI, hc, hcg, wc, a1I, a2I, a3I, wv, wD, hDnI]
      refine endsi_to 3 (IRi x i 2 128 v (2 - 1)) ?_ ?_
      ·refine run_inner (n := 2) (least := 128) (fits hD hDn hlt) hx (by decide) (by decide) hv8 (fun ⟨k, k1, k2, k3⟩ fr σ hl h2 => hR fr σ hl ?_) ⟨by simp [hlen], by simp [hlen, f0], by simp [hlen, f3], by simp [hlen], by simp [hlen], by rw [vals_zero]; simp [hlen], by simp [hlen], fun k k1 k2 => absurd k2 (Nat.not_lt.2 k1)⟩
       have hZ0 : Z = false := v0 (fun h => k3 (h.2.1 k k1 k2))
       rw [hZ0]
       exact h2
      ·rintro fr τ ⟨hlen, f0, f3, f5, f6, f7, f8, hall⟩
       have f5 : getSlot fr 5 = .one (.int .i64 2) := f5
       have f6 : getSlot fr 6 = .one (.int .i64 128) := f6
       have hall : ∀ k, 1 ≤ k → k < 2 → contD ((x.drop i).getD k 0).toNat := hall
       obtain ⟨V, hV⟩ : ∃ V, vals (x.drop i) v (2 - 1) = V := ⟨_, rfl⟩
       rw [hV] at f7
       have hok : runeOk (x.drop i) 2 128 v ↔ okV 128 V := ⟨fun h => by have := h.2.2; rwa [hV] at this, fun h => ⟨by rw [hdl]; exact Nat.not_lt.1 hDn, hall, by rw [hV]; exact h⟩⟩
       obtain ⟨i', hi'⟩ : ∃ i', i + 2 = i' := ⟨_, rfl⟩
       have hadv := adv hD (n := 2) (i' := i') hDn (by decide) hlt hi'
       have wi : wr .i64 ((i : Int) + 2) = (i' : Int) := by rw [wr64 (by omega) (by omega)]; omega
       by_cases q1 : V < 128
       ·have q1I : (V : Int) < 128 := by omega
        have hZ0 : Z = false := v0 (fun h => absurd q1 (Nat.not_lt.2 (hok.1 h).1))
        subst hZ0
        simp (maxDischargeDepth := 99) [hlen, f0, f3, f5, f6, f7, q1, q1I]
        exact hR _ _ (by simp [hlen]) (by simp [hlen])
       ·have q1I : ¬ (V : Int) < 128 := by omega
        by_cases q2 : 1114111 < V
        ·have q2I : (1114111 : Int) < (V : Int) := by omega
         have hZ0 : Z = false := v0 (fun h => absurd q2 (Nat.not_lt.2 (hok.1 h).2.1))
         subst hZ0
         simp (maxDischargeDepth := 99) [hlen, f0, f3, f5, f6, f7, q1, q1I, q2, q2I]
         exact hR _ _ (by simp [hlen]) (by simp [hlen])
        ·have q2I : ¬ (1114111 : Int) < (V : Int) := by omega
         by_cases q3 : 55296 ≤ V
         ·have q3I : (55296 : Int) ≤ (V : Int) := by omega
          by_cases q4 : V < 57344
          ·have q4I : (V : Int) < 57344 := by omega
           have hZ0 : Z = false := v0 (fun h => (hok.1 h).2.2 ⟨q3, q4⟩)
           subst hZ0
           simp (maxDischargeDepth := 99) [hlen, f0, f3, f5, f6, f7, q1, q1I, q2, q2I, q3, q3I, q4, q4I]
           exact hR _ _ (by simp [hlen]) (by simp [hlen])
          ·have q4I : ¬ (V : Int) < 57344 := by omega
           have hz1 := v1 (hok.2 ⟨Nat.not_lt.1 q1, Nat.not_lt.1 q2, fun h => q4 h.2⟩)
           simp (maxDischargeDepth := 99) [hlen, f0, f3, f5, f6, f7, q1, q1I, q2, q2I, q3, q3I, q4, q4I, wi]
           refine ⟨x.length - i', hadv.1, i', rfl, hadv.2, by simp [hlen], by simp [hlen, f0], by simp [hlen], by rw [← hi']; exact hz1.symm⟩
         ·have q3I : ¬ (55296 : Int) ≤ (V : Int) := by omega
          have hz1 := v1 (hok.2 ⟨Nat.not_lt.1 q1, Nat.not_lt.1 q2, fun h => q3 h.1⟩)
          simp (maxDischargeDepth := 99) [hlen, f0, f3, f5, f6, f7, q1, q1I, q2, q2I, q3, q3I, wi]
          refine ⟨x.length - i', hadv.1, i', rfl, hadv.2, by simp [hlen], by simp [hlen, f0], by simp [hlen], by rw [← hi']; exact hz1.symm⟩
    ·by_cases a5 : c.toNat < 240
     ·obtain ⟨v, hv⟩ : ∃ v, c.toNat - 224 = v := ⟨_, rfl⟩
      have wv : wr .i64 ((c.toNat : Int) - 224) = (v : Int) := by rw [wr64 (by omega) (by omega)]; omega
      have a1I : ¬ (c.toNat : Int) < 128 := by omega
      have a2I : (192 : Int) ≤ (c.toNat : Int) := by omega
      have a3I : ¬ (c.toNat : Int) < 224 := by omega
      have a4I : (224 : Int) ≤ (c.toNat : Int) := by omega
      have a5I : (c.toNat : Int) < 240 := by omega
      have hv8 : v < 256 := by omega
      obtain ⟨v1, v0⟩ := valid_rune (x.drop i) 3 2048 224 hne (by rw [hg0]; omega)
      rw [hg0, hv, hz, List.drop_drop] at v1
      rw [hg0, hv, hz] at v0
      by_cases hDn : D < 3
      ·have hDnI : (D : Int) < 3 := by omega
       have hZ0 : Z = false := v0 (fun h => absurd hDn (Nat.not_lt.2 (by have := h.1; rwa [hdl] at this)))
       subst hZ0
       simp (maxDischargeDepth := 99) [cRRunes_1, hlen, f0, f3, hlt, hltI, hc, hcg, wc, a1I, a2I, a3I, a4I, a5I, wv, wD, hDnI]
       exact hR _ _ (by simp [hlen]) (by simp [hlen])
      ·have hDnI : ¬ (D : Int) < 3 := by omega
       simp (maxDischargeDepth := 99) [cRRunes_1, hlen, f0, f3, hlt, hltI, hc, hcg, wc, a1I, a2I, a3I, a4I, a5I, wv, wD, hDnI]
       refine endsi_to 3 (IRi x i 3 2048 v (3 - 1)) ?_ ?_
       ·refine run_inner (n := 3) (least := 2048) (fits hD hDn hlt) hx (by decide) (by decide) hv8 (fun ⟨k, k1, k2, k3⟩ fr σ hl h2 => hR fr σ hl ?_) ⟨by simp [hlen], by simp [hlen, f0], by simp [hlen, f3], by simp [hlen], by simp [hlen], by rw [vals_zero]; simp [hlen], by simp [hlen], fun k k1 k2 => absurd k2 (Nat.not_lt.2 k1)⟩
        have hZ0 : Z = false := v0 (fun h => k3 (h.2.1 k k1 k2))
        rw [hZ0]
        exact h2
       ·rintro fr τ ⟨hlen, f0, f3, f5, f6, f7, f8, hall⟩
        have f5 : getSlot fr 5 = .one (.int .i64 3) := f5
        have f6 : getSlot fr 6 = .one (.int .i64 2048) := f6
        have hall : ∀ k, 1 ≤ k → k < 3 → contD ((x.drop i).getD k 0).toNat := hall
        obtain ⟨V, hV⟩ : ∃ V, vals (x.drop i) v (3 - 1) = V := ⟨_, rfl⟩
        rw [hV] at f7
        have hok : runeOk (x.drop i) 3 2048 v ↔ okV 2048 V := ⟨fun h => by have := h.2.2; rwa [hV] at this, fun h => ⟨by rw [hdl]; exact Nat.not_lt.1 hDn, hall, by rw [hV]; exact h⟩⟩
        obtain ⟨i', hi'⟩ : ∃ i', i + 3 = i' := ⟨_, rfl⟩
        have hadv := adv hD (n := 3) (i' := i') hDn (by decide) hlt hi'
        have wi : wr .i64 ((i : Int) + 3) = (i' : Int) := by rw [wr64 (by omega) (by omega)]; omega
        by_cases q1 : V < 2048
        ·have q1I : (V : Int) < 2048 := by omega
         have hZ0 : Z = false := v0 (fun h => absurd q1 (Nat.not_lt.2 (hok.1 h).1))
         subst hZ0
         simp (maxDischargeDepth := 99) [hlen, f0, f3, f5, f6, f7, q1, q1I]
         exact hR _ _ (by simp [hlen]) (by simp [hlen])
        ·have q1I : ¬ (V : Int) < 2048 := by omega
         by_cases q2 : 1114111 < V
         ·have q2I : (1114111 : Int) < (V : Int) := by omega
          have hZ0 : Z = false := v0 (fun h => absurd q2 (Nat.not_lt.2 (hok.1 h).2.1))
          subst hZ0
          simp (maxDischargeDepth := 99) [hlen, f0, f3, f5, f6, f7, q1, q1I, q2, q2I]
          exact hR _ _ (by simp [hlen]) (by simp [hlen])
         ·have q2I : ¬ (1114111 : Int) < (V : Int) := by omega
          by_cases q3 : 55296 ≤ V
          ·have q3I : (55296 : Int) ≤ (V : Int) := by omega
           by_cases q4 : V < 57344
           ·have q4I : (V : Int) < 57344 := by omega
            have hZ0 : Z = false := v0 (fun h => (hok.1 h).2.2 ⟨q3, q4⟩)
            subst hZ0
            simp (maxDischargeDepth := 99) [hlen, f0, f3, f5, f6, f7, q1, q1I, q2, q2I, q3, q3I, q4, q4I]
            exact hR _ _ (by simp [hlen]) (by simp [hlen])
           ·have q4I : ¬ (V : Int) < 57344 := by omega
            have hz1 := v1 (hok.2 ⟨Nat.not_lt.1 q1, Nat.not_lt.1 q2, fun h => q4 h.2⟩)
            simp (maxDischargeDepth := 99) [hlen, f0, f3, f5, f6, f7, q1, q1I, q2, q2I, q3, q3I, q4, q4I, wi]
            refine ⟨x.length - i', hadv.1, i', rfl, hadv.2, by simp [hlen], by simp [hlen, f0], by simp [hlen], by rw [← hi']; exact hz1.symm⟩
          ·have q3I : ¬ (55296 : Int) ≤ (V : Int) := by omega
           have hz1 := v1 (hok.2 ⟨Nat.not_lt.1 q1, Nat.not_lt.1 q2, fun h => q3 h.1⟩)
           simp (maxDischargeDepth := 99) [hlen, f0, f3, f5, f6, f7, q1, q1I, q2, q2I, q3, q3I, wi]
           refine ⟨x.length - i', hadv.1, i', rfl, hadv.2, by simp [hlen], by simp [hlen, f0], by simp [hlen], by rw [← hi']; exact hz1.symm⟩
     ·by_cases a7 : c.toNat < 248
      ·obtain ⟨v, hv⟩ : ∃ v, c.toNat - 240 = v := ⟨_, rfl⟩
       have wv : wr .i64 ((c.toNat : Int) - 240) = (v : Int) := by rw [wr64 (by omega) (by omega)]; omega
       have a1I : ¬ (c.toNat : Int) < 128 := by omega
       have a2I : (192 : Int) ≤ (c.toNat : Int) := by omega
       have a3I : ¬ (c.toNat : Int) < 224 := by omega
       have a4I : (224 : Int) ≤ (c.toNat : Int) := by omega
       have a5I : ¬ (c.toNat : Int) < 240 := by omega
       have a6I : (240 : Int) ≤ (c.toNat : Int) := by omega
       have a7I : (c.toNat : Int) < 248 := by omega
       have hv8 : v < 256 := by omega
       obtain ⟨v1, v0⟩ := valid_rune (x.drop i) 4 65536 240 hne (by rw [hg0]; omega)
       rw [hg0, hv, hz, List.drop_drop] at v1
       rw [hg0, hv, hz] at v0
       by_cases hDn : D < 4
       ·have hDnI : (D : Int) < 4 := by omega
        have hZ0 : Z = false := v0 (fun h => absurd hDn (Nat.not_lt.2 (by have := h.1; rwa [hdl] at this)))
        subst hZ0
        simp (maxDischargeDepth := 99) [cRRunes_1, hlen, f0, f3, hlt, hltI, hc, hcg, wc, a1I, a2I, a3I, a4I, a5I, a6I, a7I, wv, wD, hDnI]
        exact hR _ _ (by simp [hlen]) (by simp [hlen])
       ·have hDnI : ¬ (D : Int) < 4 := by omega
        simp (maxDischargeDepth := 99) [cRRunes_1, hlen, f0, f3, hlt, hltI, hc, hcg, wc, a1I, a2I, a3I, a4I, a5I, a6I, a7I, wv, wD, hDnI]
        refine endsi_to 3 (IRi x i 4 65536 v (4 - 1)) ?_ ?_
        ·refine run_inner (n := 4) (least := 65536) (fits hD hDn hlt) hx (by decide) (by decide) hv8 (fun ⟨k, k1, k2, k3⟩ fr σ hl h2 => hR fr σ hl ?_) ⟨by simp [hlen], by simp [hlen, f0], by simp [hlen, f3], by simp [hlen], by simp [hlen], by rw [vals_zero]; simp [hlen], by simp [hlen], fun k k1 k2 => absurd k2 (Nat.not_lt.2 k1)⟩
         have hZ0 : Z = false := v0 (fun h => k3 (h.2.1 k k1 k2))
         rw [hZ0]
         exact h2
        ·rintro fr τ ⟨hlen, f0, f3, f5, f6, f7, f8, hall⟩
         have f5 : getSlot fr 5 = .one (.int .i64 4) := f5
         have f6 : getSlot fr 6 = .one (.int .i64 65536) := f6
         have hall : ∀ k, 1 ≤ k → k < 4 → contD ((x.drop i).getD k 0).toNat := hall
         obtain ⟨V, hV⟩ : ∃ V, vals (x.drop i) v (4 - 1) = V := ⟨_, rfl⟩
         rw [hV] at f7
         have hok : runeOk (x.drop i) 4 65536 v ↔ okV 65536 V := ⟨fun h => by have := h.2.2; rwa [hV] at this, fun h => ⟨by rw [hdl]; exact Nat.not_lt.1 hDn, hall, by rw [hV]; exact h⟩⟩
         obtain ⟨i', hi'⟩ : ∃ i', i + 4 = i' := ⟨_, rfl⟩
         have hadv := adv hD (n := 4) (i' := i') hDn (by decide) hlt hi'
         have wi : wr .i64 ((i : Int) + 4) = (i' : Int) := by rw [wr64 (by omega) (by omega)]; omega
         by_cases q1 : V < 65536
         ·have q1I : (V : Int) < 65536 := by omega
          have hZ0 : Z = false := v0 (fun h => absurd q1 (Nat.not_lt.2 (hok.1 h).1))
          subst hZ0
          simp (maxDischargeDepth := 99) [hlen, f0, f3, f5, f6, f7, q1, q1I]
          exact hR _ _ (by simp [hlen]) (by simp [hlen])
         ·have q1I : ¬ (V : Int) < 65536 := by omega
          by_cases q2 : 1114111 < V
          ·have q2I : (1114111 : Int) < (V : Int) := by omega
           have hZ0 : Z = false := v0 (fun h => absurd q2 (Nat.not_lt.2 (hok.1 h).2.1))
           subst hZ0
           simp (maxDischargeDepth := 99) [hlen, f0, f3, f5, f6, f7, q1, q1I, q2, q2I]
           exact hR _ _ (by simp [hlen]) (by simp [hlen])
          ·have q2I : ¬ (1114111 : Int) < (V : Int) := by omega
           by_cases q3 : 55296 ≤ V
           ·have q3I : (55296 : Int) ≤ (V : Int) := by omega
            by_cases q4 : V < 57344
            ·have q4I : (V : Int) < 57344 := by omega
             have hZ0 : Z = false := v0 (fun h => (hok.1 h).2.2 ⟨q3, q4⟩)
             subst hZ0
             simp (maxDischargeDepth := 99) [hlen, f0, f3, f5, f6, f7, q1, q1I, q2, q2I, q3, q3I, q4, q4I]
             exact hR _ _ (by simp [hlen]) (by simp [hlen])
            ·have q4I : ¬ (V : Int) < 57344 := by omega
             have hz1 := v1 (hok.2 ⟨Nat.not_lt.1 q1, Nat.not_lt.1 q2, fun h => q4 h.2⟩)
             simp (maxDischargeDepth := 99) [hlen, f0, f3, f5, f6, f7, q1, q1I, q2, q2I, q3, q3I, q4, q4I, wi]
             refine ⟨x.length - i', hadv.1, i', rfl, hadv.2, by simp [hlen], by simp [hlen, f0], by simp [hlen], by rw [← hi']; exact hz1.symm⟩
           ·have q3I : ¬ (55296 : Int) ≤ (V : Int) := by omega
            have hz1 := v1 (hok.2 ⟨Nat.not_lt.1 q1, Nat.not_lt.1 q2, fun h => q3 h.1⟩)
            simp (maxDischargeDepth := 99) [hlen, f0, f3, f5, f6, f7, q1, q1I, q2, q2I, q3, q3I, wi]
            refine ⟨x.length - i', hadv.1, i', rfl, hadv.2, by simp [hlen], by simp [hlen, f0], by simp [hlen], by rw [← hi']; exact hz1.symm⟩
      ·have hZ0 : Z = false := hnone (by omega)
       subst hZ0
       have a1I : ¬ (c.toNat : Int) < 128 := by omega
       have a2I : (192 : Int) ≤ (c.toNat : Int) := by omega
       have a3I : ¬ (c.toNat : Int) < 224 := by omega
       have a4I : (224 : Int) ≤ (c.toNat : Int) := by omega
       have a5I : ¬ (c.toNat : Int) < 240 := by omega
       have a6I : (240 : Int) ≤ (c.toNat : Int) := by omega
       have a7I : ¬ (c.toNat : Int) < 248 := by omega
       simp (maxDischargeDepth := 99) [cRRunes_1, hlen, f0, f3, hlt, hltI, hc, hcg, wc, a1I, a2I, a3I, a4I, a5I, a6I, a7I]
       exact hR _ _ (by simp [hlen]) (by simp [hlen])
   ·have hZ0 : Z = false := hnone (by omega)
    subst hZ0
    have a1I : ¬ (c.toNat : Int) < 128 := by omega
    have a2I : ¬ (192 : Int) ≤ (c.toNat : Int) := by omega
    have a4I : ¬ (224 : Int) ≤ (c.toNat : Int) := by omega
    have a6I : ¬ (240 : Int) ≤ (c.toNat : Int) := by omega
    simp (maxDischargeDepth := 99) [cRRunes_1, hlen, f0, f3, hlt, hltI, hc, hcg, wc, a1I, a2I, a4I, a6I]
    exact hR _ _ (by simp [hlen]) (by simp [hlen])
 ·have hltI : ¬ (i : Int) < (x.length : Int) := by omega
  have hZ1 : Z = true := by
   rw [← hz, List.drop_of_length_le (by omega)]
   rfl
  simp (maxDischargeDepth := 99) [cRRunes_1, hlen, f0, f3, hlt, hltI]
  exact ⟨by simp [hlen], hZ1⟩
theorem runes_ok : RunesOk := by
 intro σ x hx
 refine lim_rd (args' := [.one (.str x)]) (ids := [] ++ []) rfl ((LxT_code _).trans codeRRunes) rfl rfl ?_ rfl
 unfold BodyP
 obtain ⟨Z, hZ⟩ : ∃ Z, Lib.validD x = Z := ⟨_, rfl⟩
 rw [hZ]
 have hxl : x.length ≤ 1000000000000 := by unfold maxElems at hx; omega
 simp (maxDischargeDepth := 99) [cRRunes]
 refine endsi_to 0 (FRn Z) ?_ ?_
 ·exact endsi_loop (I := IRn x Z) (fun k fr τ hI => step_runes hxl (fun fr σ hl h2 => by simp [h2]) hI) (k := x.length) ⟨0, by omega, Nat.zero_le _, by simp, by simp, by simp, hZ⟩
 ·rintro fr τ ⟨hlen, rfl⟩
  simp (maxDischargeDepth := 99) [hlen]
end Go.Proofs.YtepankcnleeakaaGreatDoor.Ab
namespace Go.Proofs.YtepankcnleeakaaGreatDoor.Ab
open Go
set_option maxRecDepth 20000
set_option linter.unusedSimpArgs false
set_option linter.unusedVariables false
def shownR (t : LTok) : List UInt8 := if t.k = 3 then Lib.itoa t.n else if t.k = 4 then decF t.n else if t.k = 5 then textQ t.s else if t.k = 7 then Lib.itoa t.n ++ [109, 115] else t.s
def okR (t : LTok) : Prop := (lexA (shownR t)).1 = [⟨t.k, t.s, t.n, 0⟩]
instance (t : LTok) : Decidable (okR t) := by unfold okR; exact inferInstance
def kindB (t : LTok) : Prop := t.k = 1 ∨ t.k = 2 ∨ t.k = 3 ∨ t.k = 4 ∨ t.k = 5 ∨ t.k = 6 ∨ t.k = 7
theorem num_k {s : List UInt8} {i k : Nat} {t : LTok} {e : Option Int} (h : numF s i = (t, k, e)) : kindB t := by
 unfold numF at h
 simp only at h
 unfold kindB
 split at h
 ·simp only [Prod.mk.injEq] at h; rw [← h.1]; simp
 ·split at h
  ·split at h
   ·simp only [Prod.mk.injEq] at h; rw [← h.1]; simp
   ·simp only [Prod.mk.injEq] at h; rw [← h.1]; simp
  ·simp only [Prod.mk.injEq] at h; rw [← h.1]; simp
theorem tok_k {s : List UInt8} {i k : Nat} {t : LTok} (h : tokF s i = (t, k, none)) : kindB t := by
 unfold tokF at h
 simp only at h
 split at h
 ·simp only [Prod.mk.injEq] at h
  rw [← h.1]
  unfold kindB
  split <;> simp
 ·split at h
  ·exact num_k h
  ·split at h
   ·unfold textF at h
    unfold kindB
    split at h
    ·simp only [Prod.mk.injEq] at h; rw [← h.1]; simp
    ·simp at h
   ·split at h
    ·simp only [Prod.mk.injEq] at h; unfold kindB; rw [← h.1]; simp
    ·simp at h
theorem lex_k (s : List UInt8) : ∀ (f i : Nat) (l : List LTok), (∀ t ∈ l, kindB t) → ∀ t ∈ (lexF s f i l).1, kindB t
 | 0, i, l, hl, t, ht => hl t ht
 | f + 1, i, l, hl, t, ht => by
  unfold lexF at ht
  split at ht
  ·simp at ht
  ·split at ht
   ·exact hl t ht
   ·split at ht
    ·rename_i u k hu
     refine lex_k s f k (l ++ [u]) (fun x hx => ?_) t ht
     rw [List.mem_append] at hx
     rcases hx with hx | hx
     ·exact hl x hx
     ·simp at hx
      subst hx
      exact tok_k hu
    ·simp at ht
theorem lexA_k {s : List UInt8} {u : LTok} (h : (lexA s).1 = [u]) : kindB u := by
 unfold lexA at h
 exact lex_k s _ _ [] (fun t ht => by simp at ht) u (by rw [h]; simp)
theorem shown_eq {t : LTok} (h : kindB t) : shownR t = shownF t := by
 unfold kindB at h
 unfold shownR shownF
 rcases h with h | h | h | h | h | h | h <;> rw [h] <;> simp
theorem ok_iff (t : LTok) : okR t ↔ okT t := by
 by_cases hk : kindB t
 ·unfold okR okT
  rw [shown_eq hk]
 ·constructor
  ·intro h; exact absurd (lexA_k h) hk
  ·intro h; exact absurd (lexA_k h) hk
theorem ok_shown {t : LTok} (h : okT t) : shownR t = shownF t := shown_eq (lexA_k (u := ⟨t.k, t.s, t.n, 0⟩) h)
end Go.Proofs.YtepankcnleeakaaGreatDoor.Ab
namespace Go.Proofs.YtepankcnleeakaaGreatDoor.Ab
open Go
set_option maxRecDepth 20000
set_option maxHeartbeats 8000000
set_option linter.unusedSimpArgs false
set_option linter.unusedVariables false
theorem frz_valR (σ : AHeap) (k n : Int) (s : List UInt8) : frzDAs frzDepth σ [.agg [.int .i64 k, .int .i64 n, .str s]] = some ([.agg [.int .i64 k, .int .i64 n, .str s]], [] ++ []) := rfl
theorem eq_may_num (σ : AHeap) (k n : Int) (hk : k = 2 ∨ k = 3) : lim LxT 51 [.agg [.int .i64 k, .int .i64 n, .str []]] σ = some (.one (.bool true), σ) := by
 refine lim_rd (args' := [.agg [.int .i64 k, .int .i64 n, .str []]]) (ids := [] ++ []) rfl ((LxT_code _).trans codeRMay) rfl (frz_valR σ k n []) ?_ rfl
 unfold BodyP
 have hq : sbin .eql ([] : List UInt8) [] = some (.bool true) := rfl
 have hbn : bytes [] = [] := rfl
 rcases hk with rfl | rfl <;> simp (maxDischargeDepth := 99) [cRMay, hq, hbn]
theorem eq_may_text (σ : AHeap) (s : List UInt8) (hs : s.length ≤ 1048576) : lim LxT 51 [.agg [.int .i64 4, .int .i64 0, .str s]] σ = some (.one (.bool (decide (s.length ≤ 1024 ∧ Lib.validD s = true))), σ) := by
 refine lim_rd (args' := [.agg [.int .i64 4, .int .i64 0, .str s]]) (ids := [] ++ []) rfl ((LxT_code _).trans codeRMay) rfl (frz_valR σ 4 0 s) ?_ rfl
 unfold BodyP
 have hr := fun σ => runes_ok σ s (by unfold maxElems; omega)
 by_cases h : s.length ≤ 1024
 ·have hI : (s.length : Int) ≤ 1024 := by omega
  cases hv : Lib.validD s <;> rw [hv] at hr <;> simp (maxDischargeDepth := 99) [cRMay, h, hI, hr]
 ·have hI : ¬ (s.length : Int) ≤ 1024 := by omega
  simp (maxDischargeDepth := 99) [cRMay, h, hI]
theorem eq_rvshow_int (σ : AHeap) (n : Int) (h0 : -9223372036854775808 ≤ n) (h1 : n ≤ 9223372036854775807) : lim LxT 29 [.agg [.int .i64 2, .int .i64 n, .str []]] σ = some (.one (.str (Lib.itoa n)), σ) := by
 refine lim_rd (args' := [.agg [.int .i64 2, .int .i64 n, .str []]]) (ids := [] ++ []) rfl ((LxT_code _).trans codeRVShow) rfl (frz_valR σ 2 n []) ?_ rfl
 unfold BodyP
 have hm := fun σ => eq_may_num σ 2 n (.inl rfl)
 have hd := fun σ => eq_rdigits σ n h0 h1
 have h3 : List.take 3 [SV.int .i64 2, .int .i64 n, .str []] = [SV.int .i64 2, .int .i64 n, .str []] := rfl
 simp (maxDischargeDepth := 99) [cRVShow, hm, hd, h3]
theorem eq_rvshow_dec (σ : AHeap) (n : Int) (h0 : -9223372036854775808 ≤ n) (h1 : n ≤ 9223372036854775807) : lim LxT 29 [.agg [.int .i64 3, .int .i64 n, .str []]] σ = some (.one (.str (decF n)), σ) := by
 refine lim_rd (args' := [.agg [.int .i64 3, .int .i64 n, .str []]]) (ids := [] ++ []) rfl ((LxT_code _).trans codeRVShow) rfl (frz_valR σ 3 n []) ?_ rfl
 unfold BodyP
 have hm := fun σ => eq_may_num σ 3 n (.inr rfl)
 have hd := fun σ => eq_rdec σ n h0 h1
 have h3 : List.take 3 [SV.int .i64 3, .int .i64 n, .str []] = [SV.int .i64 3, .int .i64 n, .str []] := rfl
 simp (maxDischargeDepth := 99) [cRVShow, hm, hd, h3]
theorem quote_cons (c : UInt8) (x : List UInt8) : quoteF (c :: x) = if c = 39 then 39 :: 39 :: quoteF x else c :: quoteF x := rfl
theorem quote_app (a b : List UInt8) : quoteF (a ++ b) = quoteF a ++ quoteF b := by
 induction a with
 | nil => rfl
 | cons c a ih =>
  rw [List.cons_append, quote_cons, quote_cons, ih]
  split <;> rfl
theorem quote_one {c : UInt8} (h : ¬ c = 39) : quoteF [c] = [c] := by
 rw [quote_cons, if_neg h]
 rfl
def IQt (s : List UInt8) (i : Nat) (fr : List AV) (τ : AHeap) : Prop :=
 fr.length = 51 ∧ getSlot fr 1 = .one (.ptr 0 0) ∧ getSlot fr 3 = .one (.str ([39] ++ quoteF (s.take i))) ∧ getSlot fr 4 = .one (.int .i64 i) ∧ τ.get 0 = some ⟨[.int .i64 4, .int .i64 0, .str s], .own⟩
def FQt (s : List UInt8) (fr : List AV) (τ : AHeap) : Prop := fr.length = 51 ∧ getSlot fr 3 = .one (.str ([39] ++ quoteF s))
theorem eq_rvshow_text (σ : AHeap) (s : List UInt8) (hs : s.length ≤ 1048576) : lim LxT 29 [.agg [.int .i64 4, .int .i64 0, .str s]] σ = some (.one (.str (textQ s)), σ) := by
 refine lim_rd (args' := [.agg [.int .i64 4, .int .i64 0, .str s]]) (ids := [] ++ []) rfl ((LxT_code _).trans codeRVShow) rfl (frz_valR σ 4 0 s) ?_ rfl
 unfold BodyP
 have hm := fun σ => eq_may_text σ s hs
 have h3 : List.take 3 [SV.int .i64 4, .int .i64 0, .str s] = [SV.int .i64 4, .int .i64 0, .str s] := rfl
 have hbn : bytes [] = [] := rfl
 have hb39 : bytes [39] = [39] := rfl
 obtain ⟨Z, hZ⟩ : ∃ Z, textQ s = Z := ⟨_, rfl⟩
 rw [hZ]
 unfold textQ at hZ
 by_cases h : s.length ≤ 1024 ∧ Lib.validD s = true
 ·rw [if_pos h] at hZ
  rw [decide_eq_true h] at hm
  have hl := h.1
  obtain ⟨τ0, hτ0⟩ : ∃ τ0, τ0 = emptyH.alloc ⟨[.int .i64 4, .int .i64 0, .str s], .own⟩ := ⟨_, rfl⟩
  have hg0 : τ0.get 0 = some ⟨[.int .i64 4, .int .i64 0, .str s], .own⟩ := by rw [hτ0]; rfl
  have hes : emptyH.size = 0 := rfl
  simp (maxDischargeDepth := 99) [cRVShow, ← hτ0, hes, hg0, h3, hm, hb39]
  refine endsi_to 1 (FQt s) ?_ ?_
  ·refine endsi_range s.length (IQt s) ?_ ?_ ?_
   ·exact ⟨by simp, by simp, by simp [quoteF], by simp, hg0⟩
   ·rintro i fr τ hlt ⟨hlen, f1, f3, f4, hg⟩
    have hltI : (i : Int) < (s.length : Int) := by omega
    obtain ⟨c, hc⟩ : ∃ c, s[i] = c := ⟨_, rfl⟩
    have hcg : s[i]? = some c := by rw [List.getElem?_eq_getElem hlt, hc]
    have hq := quote_len (s.take i)
    have htl : (s.take i).length = i := by rw [List.length_take]; omega
    rw [htl] at hq
    obtain ⟨i', hi'⟩ : ∃ i', i + 1 = i' := ⟨_, rfl⟩
    have wi : wr .i64 ((i : Int) + 1) = (i' : Int) := by rw [wr64 (by omega) (by omega)]; omega
    have ht1 : s.take i' = s.take i ++ [c] := by rw [← hi', List.take_succ_eq_append_getElem hlt, hc]
    have hsl : (s.drop i).take (i' - i) = [c] := by
     rw [List.drop_eq_getElem_cons hlt, hc, ← hi', show i + 1 - i = 1 by omega]
     rfl
    have hle1 : (i : Int) ≤ (i' : Int) := by omega
    have hle2 : (i' : Int) ≤ (s.length : Int) := by omega
    have hle1n : i ≤ i' := by omega
    have hle2n : i' ≤ s.length := by omega
    rw [hi']
    have hQ : [39] ++ quoteF (s.take i') = [39] ++ quoteF (s.take i) ++ quoteF [c] := by rw [ht1, quote_app, List.append_assoc]
    generalize quoteF (s.take i) = Q at *
    have hQl : ([39] ++ Q).length ≤ 2049 := by simp only [List.length_append, List.length_cons, List.length_nil]; omega
    have hdone : getSlot fr 3 = .one (.str ([39] ++ Q)) := f3
    generalize ([39] : List UInt8) ++ Q = G at *
    by_cases h39 : c = 39
    ·subst h39
     have h9 : (((39 : UInt8).toNat : Nat) : Int) = 39 := rfl
     have k1 : sbin .add G [39] = some (.str (G ++ [39])) := cat1 (by simp only [List.length_cons, List.length_nil]; omega)
     have k2 : sbin .add (G ++ [39]) [39] = some (.str (G ++ [39] ++ [39])) := cat1 (by simp only [List.length_append, List.length_cons, List.length_nil]; omega)
     have hQ2 : [39] ++ quoteF (s.take i') = G ++ [39] ++ [39] := by rw [hQ, List.append_assoc]; rfl
     generalize G ++ [39] = G1 at *
     generalize G1 ++ [39] = G2 at *
     simp (maxDischargeDepth := 99) [-Int.natCast_add, cRVShow_0, hlen, f1, f3, f4, hg, hlt, hltI, hc, hcg, h9, hb39, k1, wi, hle1, hle2, hle1n, hle2n, hsl, k2]
     exact ⟨by simp [hlen], by simp [hlen, f1], by rw [hQ2]; simp [hlen], by simp [hlen], hg⟩
    ·have hcI : ¬ (c.toNat : Int) = 39 := by
      intro e
      apply h39
      have : c.toNat = (39 : UInt8).toNat := by show c.toNat = 39; omega
      exact UInt8.toNat_inj.1 this
     have k1 : sbin .add G [c] = some (.str (G ++ [c])) := cat1 (by simp only [List.length_cons, List.length_nil]; omega)
     have hQ2 : [39] ++ quoteF (s.take i') = G ++ [c] := by
      rw [hQ, quote_one h39]
     generalize G ++ [c] = G1 at *
     simp (maxDischargeDepth := 99) [-Int.natCast_add, cRVShow_0, hlen, f1, f3, f4, hg, hlt, hltI, hc, hcg, hcI, h39, wi, hle1, hle2, hle1n, hle2n, hsl, k1]
     exact ⟨by simp [hlen], by simp [hlen, f1], by rw [hQ2]; simp [hlen], by simp [hlen], hg⟩
   ·rintro fr τ ⟨hlen, f1, f3, f4, hg⟩
    rw [List.take_of_length_le (Nat.le_refl _)] at f3
    simp (maxDischargeDepth := 99) [cRVShow_0, hlen, f1, f4, hg]
    exact ⟨by simp [hlen], by simp [hlen, f3]⟩
  ·rintro fr τ ⟨hlen, f3⟩
   have hq := quote_len s
   have hk : sbin .add ([39] ++ quoteF s) [39] = some (.str ([39] ++ quoteF s ++ [39])) := cat1 (by simp only [List.length_append, List.length_cons, List.length_nil]; omega)
   rw [hZ] at hk
   generalize ([39] : List UInt8) ++ quoteF s = G at *
   simp (maxDischargeDepth := 99) [hlen, f3, hb39, hk]
 ·rw [if_neg h] at hZ
  rw [decide_eq_false h] at hm
  subst hZ
  simp (maxDischargeDepth := 99) [cRVShow, h3, hm, hbn]
end Go.Proofs.YtepankcnleeakaaGreatDoor.Ab
namespace Go.Proofs.YtepankcnleeakaaGreatDoor.Ab
open Go
set_option maxRecDepth 20000
set_option maxHeartbeats 8000000
set_option linter.unusedSimpArgs false
set_option linter.unusedVariables false
def shwS (t : LTok) : List UInt8 := if (lexA (shownR t)).1.length = 1 then shownR t else []
theorem eqS_tok (a b : LTok) : evEqS 4 [(0, .int), (1, .str), (2, .int), (3, .int)] (.agg a.cells) (.agg b.cells) = some (decide (a = b)) := by
 obtain ⟨k, s, n, p⟩ := a
 obtain ⟨k', s', n', p'⟩ := b
 have h4 : ∀ (k : Int) (s : List UInt8) (n p : Int), (LTok.cells ⟨k, s, n, p⟩).length = 4 := fun _ _ _ _ => rfl
 unfold evEqS
 simp only [h4, Nat.beq_refl, Bool.and_true]
 unfold LTok.cells tokC
 by_cases e1 : k = k'
 ·subst e1
  by_cases e2 : s = s'
  ·subst e2
   by_cases e3 : n = n'
   ·subst e3
    by_cases e4 : p = p'
    ·subst e4
     simp [eqOffs, eqS, beqL_refl]
    ·simp [eqOffs, eqS, beqL_refl, e4]
   ·simp [eqOffs, eqS, beqL_refl, e3]
  ·have hb : beqL s s' = false := by
    cases hb : beqL s s' with
    | false => rfl
    | true => rw [beqL_iff] at hb; exact absurd (by simpa using hb) e2
   simp [eqOffs, eqS, hb, e2]
 ·simp [eqOffs, eqS, e1]
theorem lexA_err {s : List UInt8} (h : (lexA s).2.2 ≠ 0) : (lexA s).1 = [] := lx_err (s := s) (f := s.length + 1) (i := 0) (l0 := []) (by omega) h
theorem shownR_len {t : LTok} (h : t.fine) : (shownR t).length ≤ 1048700 := by
 obtain ⟨⟨h0, h1⟩, h2⟩ := h
 have a := itoa_len h0 h1
 have b := dec_len h0 h1
 have c := quote_len t.s
 unfold shownR textQ
 split
 ·omega
 ·split
  ·omega
  ·split
   ·split
    ·simp only [List.length_append, List.length_cons, List.length_nil]; omega
    ·simp
   ·split
    ·simp only [List.length_append, List.length_cons, List.length_nil]; omega
    ·omega
theorem frz_tokR (σ : AHeap) (t : LTok) : frzDAs frzDepth σ [.agg t.cells] = some ([.agg t.cells], [] ++ []) := rfl
theorem eq_shw (σ : AHeap) (t : LTok) (h : t.fine) : lim LxT 20 [.agg t.cells] σ = some (.tup [.one (.str (shwS t)), .one (.bool (decide (okR t)))], σ) := by
 refine lim_rd (args' := [.agg t.cells]) (ids := [] ++ []) rfl ((LxT_code _).trans codeRShw) rfl (frz_tokR σ t) ?_ rfl
 unfold BodyP
 have hSl := shownR_len h
 obtain ⟨S, hS⟩ : ∃ S, shownR t = S := ⟨_, rfl⟩
 rw [hS] at hSl
 have hlex := fun σ => eq_lex5 runes_ok σ S (Nat.le_trans hSl (by decide))
 have hlerr := lexA_err (s := S)
 obtain ⟨L, hL⟩ : ∃ L, (lexA S).1 = L := ⟨_, rfl⟩
 obtain ⟨a, ha⟩ : ∃ a, (lexA S).2.1 = a := ⟨_, rfl⟩
 obtain ⟨e, he⟩ : ∃ e, (lexA S).2.2 = e := ⟨_, rfl⟩
 rw [hL, he] at hlerr
 rw [hL, ha, he] at hlex
 have hw : shwS t = if L.length = 1 then S else [] := by unfold shwS; rw [hS, hL]
 have hok : okR t ↔ L = [⟨t.k, t.s, t.n, 0⟩] := by unfold okR; rw [hS, hL]
 obtain ⟨X, hX⟩ : ∃ X, shwS t = X := ⟨_, rfl⟩
 obtain ⟨B, hB⟩ : ∃ B, decide (okR t) = B := ⟨_, rfl⟩
 rw [hX, hB]
 rw [hX] at hw
 have hbn : bytes [] = [] := rfl
 have hbm : bytes [109, 115] = [109, 115] := rfl
 obtain ⟨τ0, hτ0⟩ : ∃ τ0, τ0 = emptyH.alloc ⟨t.cells, .own⟩ := ⟨_, rfl⟩
 have hg0 : τ0.get 0 = some ⟨t.cells, .own⟩ := by rw [hτ0]; rfl
 have hes : emptyH.size = 0 := rfl
 obtain ⟨t0, ht0⟩ : ∃ t0 : LTok, t0 = ⟨t.k, t.s, t.n, 0⟩ := ⟨_, rfl⟩
 rw [← ht0] at hok
 obtain ⟨τ1, w1, g1, _, _⟩ := put_ok (vs := [.int .i64 0]) (cs' := t0.cells) 3 hg0 (by rw [ht0]; rfl) (by simp [LTok.cells, tokC])
 have hc0 : t.cells[0]? = some (.int .i64 t.k) := rfl
 have hc1 : t.cells[1]? = some (.str t.s) := rfl
 have hc2 : t.cells[2]? = some (.int .i64 t.n) := rfl
 have hcl : ∀ u : LTok, u.cells.length = 4 := fun _ => rfl
 have htk : ∀ u : LTok, List.take 4 u.cells = u.cells := fun _ => rfl
 have hcls : (t.k = 3 ∧ ∀ σ, lim LxT 29 [.agg [.int .i64 2, .int .i64 t.n, .str []]] σ = some (.one (.str S), σ)) ∨
   (¬ t.k = 3 ∧ t.k = 4 ∧ ∀ σ, lim LxT 29 [.agg [.int .i64 3, .int .i64 t.n, .str []]] σ = some (.one (.str S), σ)) ∨
   (¬ t.k = 3 ∧ ¬ t.k = 4 ∧ t.k = 5 ∧ ∀ σ, lim LxT 29 [.agg [.int .i64 4, .int .i64 0, .str t.s]] σ = some (.one (.str S), σ)) ∨
   (¬ t.k = 3 ∧ ¬ t.k = 4 ∧ ¬ t.k = 5 ∧ t.k = 7 ∧ ∃ I, (∀ σ, lim LxT 30 [.one (.int .i64 t.n)] σ = some (.one (.str I), σ)) ∧ sbin .add I [109, 115] = some (.str S)) ∨
   (¬ t.k = 3 ∧ ¬ t.k = 4 ∧ ¬ t.k = 5 ∧ ¬ t.k = 7 ∧ S = t.s) := by
  obtain ⟨⟨h0, h1⟩, h2⟩ := h
  unfold shownR at hS
  by_cases k3 : t.k = 3
  ·rw [if_pos k3] at hS; exact .inl ⟨k3, fun σ => by rw [← hS]; exact eq_rvshow_int σ t.n h0 h1⟩
  ·rw [if_neg k3] at hS
   by_cases k4 : t.k = 4
   ·rw [if_pos k4] at hS; exact .inr (.inl ⟨k3, k4, fun σ => by rw [← hS]; exact eq_rvshow_dec σ t.n h0 h1⟩)
   ·rw [if_neg k4] at hS
    by_cases k5 : t.k = 5
    ·rw [if_pos k5] at hS; exact .inr (.inr (.inl ⟨k3, k4, k5, fun σ => by rw [← hS]; exact eq_rvshow_text σ t.s h2⟩))
    ·rw [if_neg k5] at hS
     by_cases k7 : t.k = 7
     ·rw [if_pos k7] at hS
      refine .inr (.inr (.inr (.inl ⟨k3, k4, k5, k7, Lib.itoa t.n, fun σ => eq_rdigits σ t.n h0 h1, ?_⟩)))
      have := itoa_len h0 h1
      rw [← hS]
      exact cat1 (by simp only [List.length_cons, List.length_nil]; omega)
     ·rw [if_neg k7] at hS; exact .inr (.inr (.inr (.inr ⟨k3, k4, k5, k7, hS.symm⟩)))
 generalize hcells : t.cells = cs at *
 by_cases he0 : e = 0
 ·by_cases hl1 : L.length = 1
  ·obtain ⟨u, hu⟩ : ∃ u, L = [u] := List.length_eq_one_iff.1 hl1
   subst hu
   have hXS : X = S := by rw [hw]; rfl
   have hBu : decide (u = t0) = B := by rw [← hB]; exact decide_eq_decide.2 (by rw [hok]; simp)
   have heq := eqS_tok u t0
   rw [hBu] at heq
   have hm : List.map LTok.cells [u] = [u.cells] := rfl
   rw [hm] at hlex
   have hclu := hcl u
   have hclt := hcl t0
   have htku := htk u
   have htkt := htk t0
   generalize u.cells = uc at *
   generalize t0.cells = tc at *
   rcases hcls with ⟨k3, hs⟩ | ⟨k3, k4, hs⟩ | ⟨k3, k4, k5, hs⟩ | ⟨k3, k4, k5, k7, I, hs, hs2⟩ | ⟨k3, k4, k5, k7, rfl⟩
   ·simp (maxDischargeDepth := 99) [-writeAt, -evEqS, cRShw, ← hτ0, hes, hg0, hc0, hc1, hc2, k3, splice, hbn, hs, hlex, he0, w1, g1, hclu, hclt, htku, htkt, heq, hXS]
   ·simp (maxDischargeDepth := 99) [-writeAt, -evEqS, cRShw, ← hτ0, hes, hg0, hc0, hc1, hc2, k3, k4, splice, hbn, hs, hlex, he0, w1, g1, hclu, hclt, htku, htkt, heq, hXS]
   ·simp (maxDischargeDepth := 99) [-writeAt, -evEqS, cRShw, ← hτ0, hes, hg0, hc0, hc1, hc2, k3, k4, k5, splice, hbn, hs, hlex, he0, w1, g1, hclu, hclt, htku, htkt, heq, hXS]
   ·simp (maxDischargeDepth := 99) [-writeAt, -evEqS, cRShw, ← hτ0, hes, hg0, hc0, hc1, hc2, k3, k4, k5, k7, splice, hbn, hbm, hs, hs2, hlex, he0, w1, g1, hclu, hclt, htku, htkt, heq, hXS]
   ·simp (maxDischargeDepth := 99) [-writeAt, -evEqS, cRShw, ← hτ0, hes, hg0, hc0, hc1, hc2, k3, k4, k5, k7, splice, hbn, hlex, he0, w1, g1, hclu, hclt, htku, htkt, heq, hXS]
  ·have hXS : X = [] := by rw [hw, if_neg hl1]
   have hB0 : B = false := by rw [← hB]; exact decide_eq_false (fun h => hl1 (by rw [hok.1 h]; rfl))
   have hl1I : ¬ (L.length : Int) = 1 := by omega
   rcases hcls with ⟨k3, hs⟩ | ⟨k3, k4, hs⟩ | ⟨k3, k4, k5, hs⟩ | ⟨k3, k4, k5, k7, I, hs, hs2⟩ | ⟨k3, k4, k5, k7, rfl⟩
   ·simp (maxDischargeDepth := 99) [-writeAt, -evEqS, cRShw, ← hτ0, hes, hg0, hc0, hc1, hc2, k3, splice, hbn, hs, hlex, he0, hl1, hl1I, hXS, hB0]
   ·simp (maxDischargeDepth := 99) [-writeAt, -evEqS, cRShw, ← hτ0, hes, hg0, hc0, hc1, hc2, k3, k4, splice, hbn, hs, hlex, he0, hl1, hl1I, hXS, hB0]
   ·simp (maxDischargeDepth := 99) [-writeAt, -evEqS, cRShw, ← hτ0, hes, hg0, hc0, hc1, hc2, k3, k4, k5, splice, hbn, hs, hlex, he0, hl1, hl1I, hXS, hB0]
   ·simp (maxDischargeDepth := 99) [-writeAt, -evEqS, cRShw, ← hτ0, hes, hg0, hc0, hc1, hc2, k3, k4, k5, k7, splice, hbn, hbm, hs, hs2, hlex, he0, hl1, hl1I, hXS, hB0]
   ·simp (maxDischargeDepth := 99) [-writeAt, -evEqS, cRShw, ← hτ0, hes, hg0, hc0, hc1, hc2, k3, k4, k5, k7, splice, hbn, hlex, he0, hl1, hl1I, hXS, hB0]
 ·have hL0 := hlerr he0
  subst hL0
  have hXS : X = [] := hw
  have hB0 : B = false := by rw [← hB]; exact decide_eq_false (fun h => by have := hok.1 h; cases this)
  rcases hcls with ⟨k3, hs⟩ | ⟨k3, k4, hs⟩ | ⟨k3, k4, k5, hs⟩ | ⟨k3, k4, k5, k7, I, hs, hs2⟩ | ⟨k3, k4, k5, k7, rfl⟩
  ·simp (maxDischargeDepth := 99) [-writeAt, -evEqS, cRShw, ← hτ0, hes, hg0, hc0, hc1, hc2, k3, splice, hbn, hs, hlex, he0, hXS, hB0]
  ·simp (maxDischargeDepth := 99) [-writeAt, -evEqS, cRShw, ← hτ0, hes, hg0, hc0, hc1, hc2, k3, k4, splice, hbn, hs, hlex, he0, hXS, hB0]
  ·simp (maxDischargeDepth := 99) [-writeAt, -evEqS, cRShw, ← hτ0, hes, hg0, hc0, hc1, hc2, k3, k4, k5, splice, hbn, hs, hlex, he0, hXS, hB0]
  ·simp (maxDischargeDepth := 99) [-writeAt, -evEqS, cRShw, ← hτ0, hes, hg0, hc0, hc1, hc2, k3, k4, k5, k7, splice, hbn, hbm, hs, hs2, hlex, he0, hXS, hB0]
  ·simp (maxDischargeDepth := 99) [-writeAt, -evEqS, cRShw, ← hτ0, hes, hg0, hc0, hc1, hc2, k3, k4, k5, k7, splice, hbn, hlex, he0, hXS, hB0]
end Go.Proofs.YtepankcnleeakaaGreatDoor.Ab
namespace Go.Proofs.YtepankcnleeakaaGreatDoor.Ab
open Go
set_option maxRecDepth 20000
set_option maxHeartbeats 8000000
set_option linter.unusedSimpArgs false
set_option linter.unusedVariables false
def sumS (l : List LTok) : Nat := (l.map fun t => (shownF t).length + 1).sum
theorem sumS_app (a b : List LTok) : sumS (a ++ b) = sumS a + sumS b := by simp [sumS]
theorem sumS_take (l : List LTok) (i : Nat) : sumS (l.take i) ≤ sumS l := by
 have := sumS_app (l.take i) (l.drop i)
 rw [List.take_append_drop] at this
 omega
theorem joinTail_app (a b : List (List UInt8)) : Lib.joinTail [32] (a ++ b) = Lib.joinTail [32] a ++ Lib.joinTail [32] b := by simp [Lib.joinTail]
theorem join_snoc {a : List (List UInt8)} (h : a ≠ []) (x : List UInt8) : Lib.join (a ++ [x]) [32] = Lib.join a [32] ++ [32] ++ x := by
 cases a with
 | nil => exact absurd rfl h
 | cons y a =>
  rw [List.cons_append, Lib.join_cons, Lib.join_cons, joinTail_app]
  simp [Lib.joinTail]
theorem tail_sum : ∀ l : List LTok, (Lib.joinTail [32] (l.map shownF)).length = sumS l
 | [] => rfl
 | t :: l => by
  have := tail_sum l
  rw [List.map_cons, show shownF t :: l.map shownF = [shownF t] ++ l.map shownF from rfl, joinTail_app, List.length_append, this, show t :: l = [t] ++ l from rfl, sumS_app]
  simp [Lib.joinTail, sumS]
theorem join_sum (l : List LTok) : (Lib.join (l.map shownF) [32]).length ≤ sumS l := by
 cases l with
 | nil => simp [Lib.join_nil]
 | cons t l =>
  rw [List.map_cons, Lib.join_cons, List.length_append, tail_sum, show t :: l = [t] ++ l from rfl, sumS_app]
  simp [sumS]
def IS5 (l : List LTok) (i : Nat) (fr : List AV) (τ : AHeap) : Prop :=
 fr.length = 31 ∧ getSlot fr 0 = .one (.lst (l.map LTok.cells)) ∧ getSlot fr 3 = .one (.str (Lib.join ((l.take i).map shownF) [32])) ∧ getSlot fr 4 = .one (.int .i64 i) ∧ ∀ t ∈ l.take i, okT t
def FS5 (l : List LTok) (fr : List AV) (τ : AHeap) : Prop := fr.length = 31 ∧ getSlot fr 3 = .one (.str (Lib.join (l.map shownF) [32])) ∧ ∀ t ∈ l, okT t
theorem eq_rshow (σ : AHeap) (l : List LTok) (hf : ∀ t ∈ l, t.fine) (hm : l.length ≤ 16777216) (hj : sumS l ≤ 1000000000) : lim LxT 11 [.one (.lst (l.map LTok.cells))] σ = some (.one (.str (showF l)), σ) := by
 refine lim_rd (args' := [.one (.lst (l.map LTok.cells))]) (ids := [] ++ []) rfl ((LxT_code _).trans codeRShow) rfl (by simp only [frzDAs, toksV_frz]) ?_ rfl
 unfold BodyP
 have hbn : bytes [] = [] := rfl
 have hb32 : bytes [32] = [32] := rfl
 obtain ⟨Z, hZ⟩ : ∃ Z, showF l = Z := ⟨_, rfl⟩
 rw [hZ]
 simp (maxDischargeDepth := 99) [cRShow, hbn]
 refine endsi_to 0 (FS5 l) ?_ ?_
 ·refine endsi_range l.length (IS5 l) ?_ ?_ ?_
  ·exact ⟨by simp, by simp, by simp [Lib.join_nil], by simp, fun t h => by simp at h⟩
  ·rintro i fr τ hlt ⟨hlen, f0, f3, f4, hall⟩
   have hltI : (i : Int) < (l.length : Int) := by omega
   obtain ⟨o, ho⟩ : ∃ o, l[i] = o := ⟨_, rfl⟩
   have hom : o ∈ l := by rw [← ho]; exact List.getElem_mem hlt
   have hof := hf o hom
   have hsh := fun σ => eq_shw σ o hof
   have hcg : (l.map LTok.cells)[i]? = some o.cells := by rw [List.getElem?_map, List.getElem?_eq_getElem hlt, ho]; rfl
   have hcl : o.cells.length = 4 := rfl
   have htk : List.take 4 o.cells = o.cells := rfl
   have hw := wr_next hlt (by unfold maxElems; omega)
   obtain ⟨Q, hQ⟩ : ∃ Q, l.map LTok.cells = Q := ⟨_, rfl⟩
   have hQl : Q.length = l.length := by rw [← hQ]; simp
   rw [hQ] at hcg f0
   have hcg2 : Q[i]'(by omega) = o.cells := (List.getElem?_eq_some_iff.1 hcg).2
   by_cases hok : okR o
   ·have hokT := (ok_iff o).1 hok
    have hS : shwS o = shownF o := by
     unfold shwS
     rw [show (lexA (shownR o)).1 = [⟨o.k, o.s, o.n, 0⟩] from hok]
     exact ok_shown hokT
    rw [hS, decide_eq_true hok] at hsh
    have htake : l.take (i + 1) = l.take i ++ [o] := by rw [List.take_succ_eq_append_getElem hlt, ho]
    have hall' : ∀ t ∈ l.take (i + 1), okT t := by
     intro t ht
     rw [htake, List.mem_append] at ht
     rcases ht with ht | ht
     ·exact hall t ht
     ·simp at ht
      subst ht
      exact hokT
    have hbd := join_sum (l.take (i + 1))
    have hbd2 := sumS_take l (i + 1)
    obtain ⟨J', hJ'⟩ : ∃ J', Lib.join ((l.take (i + 1)).map shownF) [32] = J' := ⟨_, rfl⟩
    have hfin : ∀ fr2 τ2, (fr2.length = 31 ∧ getSlot fr2 0 = .one (.lst Q) ∧ getSlot fr2 3 = .one (.str J') ∧ getSlot fr2 4 = .one (.int .i64 ((i + 1 : Nat) : Int))) → IS5 l (i + 1) fr2 τ2 := fun fr2 τ2 ⟨a, b, c, d⟩ => ⟨a, by rw [hQ]; exact b, by rw [hJ']; exact c, d, hall'⟩
    rw [hJ'] at hbd
    by_cases h0 : i = 0
    ·subst h0
     have hJ : J' = shownF o := by rw [← hJ', htake]; simp [Lib.join_one]
     have f3 : getSlot fr 3 = .one (.str []) := f3
     have f4 : getSlot fr 4 = .one (.int .i64 0) := f4
     rw [← hJ] at hsh
     have k1 : sbin .add [] J' = some (.str J') := cat1 (a := []) (by simp only [List.length_nil]; omega)
     have hltI : (0 : Int) < (l.length : Int) := hltI
     have hw1 : wr .i64 (1 : Int) = 1 := rfl
     simp (maxDischargeDepth := 99) [cRShow_0, hlen, f0, f3, f4, hQl, hltI, hlt, hcg, hcg2, hcl, htk, hsh, hb32, k1, hw1]
     exact hfin _ _ ⟨by simp [hlen], by simp [hlen, f0], by simp [hlen], by simp [hlen]⟩
    ·have h0I : (0 : Int) < (i : Int) := by omega
     have h0n : 0 < i := by omega
     have hne : (l.take i).map shownF ≠ [] := by
      intro e
      have := congrArg List.length e
      rw [List.length_map, List.length_take, List.length_nil] at this
      omega
     have hJ : J' = Lib.join ((l.take i).map shownF) [32] ++ [32] ++ shownF o := by rw [← hJ', htake, List.map_append]; exact join_snoc hne _
     obtain ⟨G, hG⟩ : ∃ G, Lib.join ((l.take i).map shownF) [32] = G := ⟨_, rfl⟩
     rw [hG] at f3 hJ
     have hJl := congrArg List.length hJ
     simp only [List.length_append, List.length_cons, List.length_nil] at hJl
     have k1 : sbin .add G [32] = some (.str (G ++ [32])) := cat1 (by simp only [List.length_cons, List.length_nil]; omega)
     have k2 : sbin .add (G ++ [32]) (shownF o) = some (.str (G ++ [32] ++ shownF o)) := cat1 (by simp only [List.length_append, List.length_cons, List.length_nil]; omega)
     rw [← hJ] at k2
     generalize G ++ [32] = G1 at *
     simp (maxDischargeDepth := 99) [-Int.natCast_add, cRShow_0, hlen, f0, f3, f4, hQl, hltI, hlt, hcg, hcg2, hcl, htk, hsh, h0I, h0n, hb32, k1, k2, hw]
     exact hfin _ _ ⟨by simp [hlen], by simp [hlen, f0], by simp [hlen], by simp [hlen]⟩
   ·have hZ0 : Z = [] := by
     rw [← hZ]
     unfold showF
     rw [if_neg (fun h => hok ((ok_iff o).2 (h o hom)))]
    rw [decide_eq_false hok] at hsh
    simp (maxDischargeDepth := 99) [cRShow_0, hlen, f0, f3, f4, hQl, hltI, hlt, hcg, hcg2, hcl, htk, hsh, hbn, hZ0]
  ·rintro fr τ ⟨hlen, f0, f3, f4, hall⟩
   rw [List.take_of_length_le (Nat.le_refl _)] at f3 hall
   simp (maxDischargeDepth := 99) [cRShow_0, hlen, f0, f4]
   exact ⟨by simp [hlen], by simp [hlen, f3], hall⟩
 ·rintro fr τ ⟨hlen, f3, hall⟩
  have hZ1 : Z = Lib.join (l.map shownF) [32] := by
   rw [← hZ]
   unfold showF
   rw [if_pos hall]
  rw [← hZ1] at f3
  simp (maxDischargeDepth := 99) [hlen, f3]
end Go.Proofs.YtepankcnleeakaaGreatDoor.Ab
namespace Go.Proofs.YtepankcnleeakaaGreatDoor.Ab
open Go
set_option maxRecDepth 20000
set_option maxHeartbeats 8000000
set_option linter.unusedSimpArgs false
set_option linter.unusedVariables false
theorem primOk_limU {P : Program} [IsProg P] {C : Ctx} (hC : C.Good P) (f : Nat) : PrimOk P f (fun args σ => lim C f args σ) := fun args σ v σ' h => by
 obtain ⟨n, hn⟩ := lim_iff.1 h
 exact sound hC n f args σ v σ' hn
theorem lim_rd_move {C : Ctx} {f : Nat} {a args args1 : List AV} {V : AV} {i i1 : List Nat} {σ σ1 : AHeap} (h : C.prim f = none) (hh : C.hint f = .rd) (h1 : frzDAs frzDepth σ1 args1 = some (a, i1)) (e : lim C f args1 σ1 = some (V, σ1))
  (h2 : frzDAs frzDepth σ args = some (a, i)) : lim C f args σ = some (V, σ) := by
 obtain ⟨n, hn⟩ := lim_iff.1 e
 refine lim_iff.2 ⟨n, ?_⟩
 cases n with
 | zero => cases hn
 | succ n =>
  cases hc : C.code f with
  | none => simp only [evCall, h, hc] at hn; cases hn
  | some F =>
   simp only [evCall, h, hc, hh, inArgs, h1, h2] at hn ⊢
   unfold afterB at hn ⊢
   split at hn
   ·split at hn
    ·rename_i h3
     simp only [hintRes] at hn ⊢
     split at hn
     ·simp only [Option.some.injEq, Prod.mk.injEq] at hn
      simp only [Option.some.injEq, Prod.mk.injEq, and_true]
      exact hn.1
     ·cases hn
    ·cases hn
   ·split at hn
    ·rename_i h3
     simp only [hintRes] at hn ⊢
     split at hn
     ·simp only [Option.some.injEq, Prod.mk.injEq] at hn
      simp only [Option.some.injEq, Prod.mk.injEq, and_true]
      exact hn.1
     ·cases hn
    ·cases hn
   ·cases hn
noncomputable def lhPrims : List (Nat × Prim) := [(12, pBool true), (8, pWords), (9, fun args σ => lim LxT 9 args σ), (10, fun args σ => lim LxV 10 args σ), (11, fun args σ => lim LxT 11 args σ)]
noncomputable def LxH : Ctx := ⟨codeOf, primAt lhPrims, fun _ => .no⟩
theorem LxH_good : LxH.Good Tryz.prog where
 code := fun f F h => codeOf_good h
 prim := fun f p h => primAt_ok (l := lhPrims) (fun g p hm => by
  simp only [lhPrims, List.mem_cons, Prod.mk.injEq, List.not_mem_nil, or_false] at hm
  rcases hm with ⟨rfl, rfl⟩ | ⟨rfl, rfl⟩ | ⟨rfl, rfl⟩ | ⟨rfl, rfl⟩ | ⟨rfl, rfl⟩
  ·exact primOk_closed LxM_good awake05
  ·exact primOk_words
  ·exact primOk_limU LxT_good _
  ·exact primOk_limU LxV_good _
  ·exact primOk_limU LxT_good _) f p h
theorem LxH_code (f : Nat) : LxH.code f = codeOf f := by kernel_rfl
theorem LxH_awake (σ : AHeap) : lim LxH 12 [] σ = some (.one (.bool true), σ) := (lim_prim (p := pBool true) rfl).trans rfl
theorem LxH_words (σ : AHeap) : lim LxH 8 [] σ = some (.one (.slice σ.size 0 1 58 none), σ.alloc ⟨wordsL.map SV.str, .own⟩) := (lim_prim (p := pWords) rfl).trans rfl
theorem LxH_rwords (σ : AHeap) : lim LxH 9 [] σ = some (.one (.slice σ.size 0 1 58 (some 58)), σ.alloc ⟨wordsL.map SV.str, .own⟩) := by
 refine (lim_prim (p := fun args σ => lim LxT 9 args σ) rfl).trans ?_
 obtain ⟨v, τ, h, rfl, rfl⟩ := run_words σ
 exact h
theorem LxH_show (σ : AHeap) (x : AV) (l : List LTok) (ids : List Nat) (hx : frzDAs frzDepth σ [x] = some ([.one (.lst (l.map LTok.cells))], ids)) (hf : ∀ t ∈ l, t.fine) (hm : l.length ≤ 16777216) (hj : (Lib.join (l.map shownF) [32]).length ≤ 1000000000) :
  lim LxH 10 [x] σ = some (.one (.str (showF l)), σ) :=
 (lim_prim (p := fun args σ => lim LxV 10 args σ) rfl).trans (lim_rd_move (σ1 := σ) rfl rfl (show frzDAs frzDepth σ [.one (.lst (l.map LTok.cells))] = some ([.one (.lst (l.map LTok.cells))], [] ++ []) by simp only [frzDAs, toksV_frz]) (eq_show σ l hf hm hj) hx)
theorem LxH_rshow (σ : AHeap) (l : List LTok) (hf : ∀ t ∈ l, t.fine) (hm : l.length ≤ 16777216) (hj : sumS l ≤ 1000000000) : lim LxH 11 [.one (.lst (l.map LTok.cells))] σ = some (.one (.str (showF l)), σ) :=
 (lim_prim (p := fun args σ => lim LxT 11 args σ) rfl).trans (eq_rshow σ l hf hm hj)
theorem tk_flat (l : List LTok) : (l.map LTok.cells).flatten = tcells l := rfl
theorem tk_len : ∀ l : List LTok, (tcells l).length = l.length * 4
 | [] => rfl
 | t :: l => by
  have : tcells (t :: l) = t.cells ++ tcells l := rfl
  rw [this, List.length_append, tk_len l, show t.cells.length = 4 from rfl, List.length_cons]
  omega
theorem srcCells_tok (σ : AHeap) (l : List LTok) : srcCells σ 4 l.length (.one (.lst (l.map LTok.cells))) = some (tcells l) := by
 have hl := tk_len l
 have h1 : List.take l.length (l.map LTok.cells) = l.map LTok.cells := List.take_of_length_le (by simp)
 rw [← tk_flat] at hl
 simp only [srcCells, h1, hl, List.length_map]
 rw [Nat.ble_self_eq_true, show Nat.beq (l.length * 4) (l.length * 4) = true from Nat.beq_refl _]
 rfl
theorem append_toks (σ : AHeap) (l : List LTok) (hm : l.length ≤ maxElems) : OptP (appendA σ 4 40 (.one .nilSlice) l.length (tcells l)) (fun _ v τ => ∃ ids, frzDAs frzDepth τ [v] = some ([.one (.lst (l.map LTok.cells))], ids)) := by
 have hlen := tk_len l
 cases l with
 | nil =>
  simp only [List.length_nil, appendA]
  exact ⟨_, _, rfl, [] ++ [], rfl⟩
 | cons t l =>
  have hb : Nat.ble (t :: l).length maxElems = true := Nat.ble_eq_true_of_le hm
  have hb2 : Nat.ble 40 maxBytes = true := rfl
  obtain ⟨n, hn⟩ : ∃ n, (t :: l).length = n + 1 := ⟨_, rfl⟩
  rw [hn] at hb hlen
  rw [hn]
  simp only [appendA, appendK, hb, hb2, Bool.and_true]
  refine ⟨_, _, rfl, ?_⟩
  have hg : (σ.alloc ⟨tcells (t :: l), .own⟩).get σ.size = some ⟨tcells (t :: l), .own⟩ := by simp
  obtain ⟨ids, h⟩ := frz_tout (τ := σ.alloc ⟨tcells (t :: l), .own⟩) (b := 0) (s := .slice σ.size 0 4 (n + 1) none) (l := t :: l) (by
   rw [hn]
   exact ⟨hlen, .inr ⟨σ.size, rfl, by omega, by omega, hg⟩⟩)
  exact ⟨ids ++ [], by simp only [frzDAs, frzDA, frzDepth, h]⟩
def ILs (Q : List (List SV)) (W : List SV) (i : Nat) (fr : List AV) (τ : AHeap) : Prop :=
 fr.length = 37 ∧ getSlot fr 0 = .one (.lst Q) ∧ getSlot fr 3 = .one (.slice 0 0 1 58 none) ∧ getSlot fr 4 = .one (.slice 1 0 1 58 (some 58)) ∧ getSlot fr 5 = .one (.int .i64 i) ∧ τ.get 0 = some ⟨W, .own⟩ ∧ τ.get 1 = some ⟨W, .own⟩
theorem law_shows (l : List LTok) (hf : ∀ t ∈ l, t.fine) (hm : l.length ≤ 1048576) (hj : sumS l ≤ 1000000000) : ∃ σ', lim LxH 3 [.one (.lst (l.map LTok.cells))] emptyH = some (.one (.bool true), σ') := by
 have key : OptP (lim LxH 3 [.one (.lst (l.map LTok.cells))] emptyH) (fun _ v _ => v = .one (.bool true)) := by
  refine lim_code rfl ((LxH_code _).trans codeLShows) rfl ?_
  unfold BodyP
  have h58 : wordsL.length = 58 := by decide
  have he : emptyH.size = 0 := rfl
  have hw1 := LxH_words emptyH
  rw [he] at hw1
  obtain ⟨τ1, hτ1⟩ : ∃ τ1, τ1 = emptyH.alloc ⟨wordsL.map SV.str, .own⟩ := ⟨_, rfl⟩
  have z1 : τ1.size = 1 := by rw [hτ1]; rfl
  have hw2 := LxH_rwords τ1
  rw [z1] at hw2
  rw [← hτ1] at hw1
  obtain ⟨τ2, hτ2⟩ : ∃ τ2, τ2 = τ1.alloc ⟨wordsL.map SV.str, .own⟩ := ⟨_, rfl⟩
  rw [← hτ2] at hw2
  have g0 : τ2.get 0 = some ⟨wordsL.map SV.str, .own⟩ := by rw [hτ2, hτ1]; rfl
  have g1 : τ2.get 1 = some ⟨wordsL.map SV.str, .own⟩ := by rw [hτ2, hτ1]; rfl
  obtain ⟨W, hW⟩ : ∃ W, wordsL.map SV.str = W := ⟨_, rfl⟩
  have hWl : W.length = 58 := by rw [← hW, List.length_map, h58]
  rw [hW] at g0 g1
  have hcells : ∀ i (h : i < 58), ∃ u, W[i]? = some (.str u) := fun i h => ⟨wordsL[i]'(by omega), by rw [← hW, List.getElem?_map, List.getElem?_eq_getElem (by omega)]; rfl⟩
  have hap := fun τ => append_toks τ l (by unfold maxElems; omega)
  have hjj := join_sum l
  have hs1 := fun τ x ids hx => LxH_show τ x l ids hx hf (by omega) (by omega)
  have hs2 := fun τ => LxH_rshow τ l hf (by omega) hj
  have hQf := tk_flat l
  obtain ⟨Q, hQ⟩ : ∃ Q, l.map LTok.cells = Q := ⟨_, rfl⟩
  have hQl : Q.length = l.length := by rw [← hQ]; simp
  have hQw : lstW 4 Q = true := by rw [← hQ]; cases l <;> rfl
  rw [hQ] at hs1 hs2 hQf
  have hap : ∀ τ, OptP (appendA τ 4 40 (.one .nilSlice) l.length (tcells l)) (fun _ v τ => ∃ ids, frzDAs frzDepth τ [v] = some ([.one (.lst Q)], ids)) := fun τ => by rw [← hQ]; exact hap τ
  rw [hQ]
  generalize showF l = X at *
  clear hjj hf hj
  simp (maxDischargeDepth := 99) [cLShows, hw1, hw2]
  refine endsi_to 0 (fun fr τ => fr.length = 37 ∧ getSlot fr 0 = .one (.lst Q)) ?_ ?_
  ·refine endsi_range 58 (ILs Q W) ?_ ?_ ?_
   ·exact ⟨by simp, by simp, by simp, by simp, by simp, g0, g1⟩
   ·rintro i fr τ hlt ⟨hlen, f0, f3, f4, f5, k0, k1⟩
    have hlti : (i : Int) < 58 := by omega
    have hwi : wr .i64 ((i : Int) + 1) = ((i + 1 : Nat) : Int) := by rw [wr64 (by omega) (by omega)]; omega
    obtain ⟨u, hcell⟩ := hcells i hlt
    have hcg : W[i]'(by omega) = .str u := (List.getElem?_eq_some_iff.1 hcell).2
    simp (maxDischargeDepth := 99) [-Int.natCast_add, cLShows_0, hlen, f0, f3, f4, f5, hlt, hlti, k0, k1, hcell, hcg, hWl, sbin, beqL_refl, hwi]
    exact ⟨by simp [hlen], by simp [hlen, f0], by simp [hlen, f3], by simp [hlen, f4], by simp [hlen], k0, k1⟩
   ·rintro fr τ ⟨hlen, f0, f3, f4, f5, k0, k1⟩
    have f5 : getSlot fr 5 = .one (.int .i64 58) := f5
    simp (maxDischargeDepth := 99) [cLShows_0, hlen, f0, f4, f5]
  ·rintro fr τ ⟨hlen, f0⟩
   have hbt : sbin .eql X X = some (.bool true) := by simp only [sbin, beqL_refl]
   have hsl : srcLen (.one (.lst Q)) = some l.length := by rw [← hQl]; rfl
   have hsc : srcCells τ 4 l.length (.one (.lst Q)) = some (tcells l) := by rw [← hQ]; exact srcCells_tok τ l
   simp (maxDischargeDepth := 99) [hlen, f0, hsl, hsc]
   refine (hap τ).mono ?_
   rintro v τ' ⟨ids, hx⟩
   have hs3 := hs1 τ' v ids hx
   simp (maxDischargeDepth := 99) [hlen, f0, hs3, hs2, hbt, LxH_awake]
 obtain ⟨v, σ', h1, rfl⟩ := key
 exact ⟨σ', h1⟩
end Go.Proofs.YtepankcnleeakaaGreatDoor.Ab
