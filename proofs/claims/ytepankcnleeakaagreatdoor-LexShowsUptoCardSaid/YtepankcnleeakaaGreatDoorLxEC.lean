/- Several of my texts in one: LxE10, LxE11, LxE12, LxE13. -/
import Derived.Test.YtepankcnleeakaaGreatDoorLxEB
import Derived.Test.YtepankcnleeakaaGreatDoorLxBA
import Derived.Lib.IndexLaws
namespace Go.Proofs.YtepankcnleeakaaGreatDoor.Ab
open Go
set_option maxRecDepth 20000
set_option maxHeartbeats 16000000
set_option linter.unusedSimpArgs false
def zero4 : List SV := [.int .i64 0, .str [], .int .i64 0, .int .i64 0]
def tok4 (k n : Int) (i : Nat) : List SV := [.int .i64 k, .str [], .int .i64 n, .int .i64 i]
structure NSt (τ0 τ : AHeap) (p z : Nat) (s : List UInt8) (k : Nat) (m : SV) (e b : Int) (tc : List SV) : Prop where
 rdr : Rdr τ p s k m e b
 ans : τ.get z = some ⟨zero4, .own⟩
 tok : τ.get (z + 1) = some ⟨tc, .own⟩
 oth : Oth p τ0 τ
 sz : z + 2 ≤ τ.size
 z0 : τ0.size = z
 pz : p < z
theorem NSt.step {τ0 τ τ' : AHeap} {p z : Nat} {s : List UInt8} {k k' : Nat} {m : SV} {e b e' b' : Int} {tc : List SV} (h : NSt τ0 τ p z s k m e b tc) (hr : Rdr τ' p s k' m e' b') (ho : Oth p τ τ') : NSt τ0 τ' p z s k' m e' b' tc :=
 ⟨hr, by rw [ho.2 z (by have := h.sz; omega) (by have := h.pz; omega)]; exact h.ans, by rw [ho.2 (z + 1) (by have := h.sz; omega) (by have := h.pz; omega)]; exact h.tok, h.oth.trans ho, by have := h.sz; have := ho.1; omega, h.z0, h.pz⟩
theorem NSt.keep {τ0 τ τ' : AHeap} {p z : Nat} {s : List UInt8} {k : Nat} {m : SV} {e b : Int} {tc : List SV} (h : NSt τ0 τ p z s k m e b tc) (h1 : τ.size ≤ τ'.size) (h2 : ∀ id, id < τ.size → τ'.get id = τ.get id) : NSt τ0 τ' p z s k m e b tc :=
 h.step (by have := AHeap.get_lt h.rdr; unfold Rdr; rw [h2 p this]; exact h.rdr) ⟨h1, fun id hid _ => h2 id hid⟩
theorem NSt.put {τ0 τ : AHeap} {p z : Nat} {s : List UInt8} {k : Nat} {m : SV} {e b : Int} {tc tc' : List SV} (h : NSt τ0 τ p z s k m e b tc) (off : Nat) (vs : List SV) (hs : splice tc off vs = tc') (hl : off + vs.length ≤ tc.length) :
  ∃ τ', writeAt τ (z + 1) off vs = some τ' ∧ NSt τ0 τ' p z s k m e b tc' := by
 obtain ⟨τ', w, g, o, zz⟩ := put_ok off h.tok hs hl
 refine ⟨τ', w, ?_, by rw [o z (by omega)]; exact h.ans, g, ⟨by have := h.oth.1; omega, fun id h1 h2 => (o id (by have := h.z0; omega)).trans (h.oth.2 id h1 h2)⟩, by have := h.sz; omega, h.z0, h.pz⟩
 unfold Rdr
 rw [o p (by have := h.pz; omega)]
 exact h.rdr
theorem NSt.out {τ0 τ : AHeap} {p z : Nat} {s : List UInt8} {k : Nat} {m : SV} {e b : Int} {tc : List SV} (h : NSt τ0 τ p z s k m e b tc) (h4 : tc.length = 4) :
  ∃ τ', writeAt τ z 0 tc = some τ' ∧ τ'.get z = some ⟨tc, .own⟩ ∧ Rdr τ' p s k m e b ∧ Oth p τ0 τ' := by
 obtain ⟨τ', w, g, o, zz⟩ := put_ok (vs := tc) (cs' := tc) 0 h.ans (by
  match tc, h4 with
  | [a, b, c, d], _ => rfl) (by simp [h4, zero4])
 refine ⟨τ', w, g, ?_, ⟨by have := h.oth.1; omega, fun id h1 h2 => (o id (by have := h.z0; omega)).trans (h.oth.2 id h1 h2)⟩⟩
 unfold Rdr
 rw [o p (by have := h.pz; omega)]
 exact h.rdr
theorem ptk_ok {p : Nat} {m : SV} {s : List UInt8} {i : Nat} {τ0 τ : AHeap} {t : LTok} {k : Nat} {tc : List SV} {e b : Int} {er : Option Int} (ho : Oth p τ0 τ) (hr : Rdr τ p s k m e b) (h4 : tc.length = 4)
  (h0 : er = none → e = 0 ∧ b = 0 ∧ tc = t.cells ∧ i < k ∧ k ≤ s.length) (h1 : ∀ x, er = some x → e = x ∧ b = i ∧ x ≠ 0) : PTk p m s i (t, k, er) τ0 (.agg tc) τ := by
 refine ⟨ho, ?_⟩
 cases er with
 | none =>
  obtain ⟨rfl, rfl, rfl, q1, q2⟩ := h0 rfl
  exact ⟨rfl, hr, q1, q2⟩
 | some x =>
  obtain ⟨rfl, rfl, q⟩ := h1 x rfl
  exact ⟨tc, k, h4, rfl, hr, q⟩
def ErrIs (i : Nat) (er : Option Int) (e b : Int) : Prop := (er = none ∧ e = 0 ∧ b = 0) ∨ ∃ x, er = some x ∧ x ≠ 0 ∧ e = x ∧ b = i
theorem ErrIs.fail {i : Nat} {er : Option Int} {e b : Int} (h : ErrIs i er e b) {x : Int} (hx : x ≠ 0) : ErrIs i (fst1 er (some x)) (if e = 0 then x else e) (if e = 0 then (i : Int) else b) := by
 rcases h with ⟨rfl, rfl, rfl⟩ | ⟨y, rfl, hy, rfl, rfl⟩
 ·exact .inr ⟨x, rfl, hx, by simp, by simp⟩
 ·exact .inr ⟨e, rfl, hy, by rw [if_neg hy], by rw [if_neg hy]⟩
theorem ErrIs.none_ {i : Nat} {er : Option Int} {e b : Int} (h : ErrIs i er e b) : ErrIs i (fst1 er none) e b := by
 rcases h with ⟨rfl, h⟩ | ⟨y, rfl, h⟩
 ·exact .inl ⟨rfl, h⟩
 ·exact .inr ⟨y, rfl, h⟩
theorem ErrIs.ok {i : Nat} {er : Option Int} {e b : Int} (h : ErrIs i er e b) : (er = none → e = 0 ∧ b = 0) ∧ ∀ x, er = some x → e = x ∧ b = i ∧ x ≠ 0 := by
 rcases h with ⟨rfl, h⟩ | ⟨y, rfl, h1, h2, h3⟩
 ·exact ⟨fun _ => h, fun x e => (by cases e)⟩
 ·exact ⟨fun e => (by cases e), fun x e => (by cases e; exact ⟨h2, h3, h1⟩)⟩
theorem NSt.move {τ0 τ : AHeap} {p z : Nat} {s : List UInt8} {k : Nat} {m : SV} {e b : Int} {tc : List SV} (h : NSt τ0 τ p z s k m e b tc) (k' : Nat) : ∃ τ', writeAt τ p 1 [.int .i64 k'] = some τ' ∧ NSt τ0 τ' p z s k' m e b tc := by
 obtain ⟨τ', w, hr, ho⟩ := h.rdr.wAt k'
 exact ⟨τ', w, h.step hr ho⟩
theorem nst_new {τ : AHeap} {p : Nat} {s : List UInt8} {i : Nat} {m : SV} {e b : Int} (h : Rdr τ p s i m e b) (k : Int) :
  ∃ τ1, writeAt ((τ.alloc ⟨zero4, .own⟩).alloc ⟨zero4, .own⟩) (τ.size + 1) 0 (tok4 k 0 i) = some τ1 ∧ NSt τ τ1 p τ.size s i m e b (tok4 k 0 i) := by
 have hpl := AHeap.get_lt h
 have hk : Keeps τ ((τ.alloc ⟨zero4, .own⟩).alloc ⟨zero4, .own⟩) := (Keeps.refl τ).alloc.alloc
 obtain ⟨τ1, w, g, o, zz⟩ := put_ok (τ := (τ.alloc ⟨zero4, .own⟩).alloc ⟨zero4, .own⟩) (id := τ.size + 1) (cs := zero4) (vs := tok4 k 0 i) (cs' := tok4 k 0 i) 0 (by simp) rfl (by simp [tok4, zero4])
 have hz : τ1.size = τ.size + 2 := by rw [zz]; simp
 refine ⟨τ1, w, ?_, ?_, g, ⟨by omega, fun id h1 _ => (o id (by omega)).trans (hk.2 id h1)⟩, by omega, rfl, hpl⟩
 ·unfold Rdr; rw [o p (by omega), hk.2 p hpl]; exact h
 ·rw [o τ.size (by omega)]; simp
theorem tdiv_nat (a b : Nat) : ((a : Int).tdiv (b : Int)) = ((a / b : Nat) : Int) := (Int.ofNat_tdiv a b).symm
end Go.Proofs.YtepankcnleeakaaGreatDoor.Ab
namespace Go.Proofs.YtepankcnleeakaaGreatDoor.Ab
open Go
set_option maxRecDepth 20000
set_option maxHeartbeats 16000000
set_option linter.unusedSimpArgs false
def zeroE (s : List UInt8) (i : Nat) : Option Int := if 1 < (runF digB s i).length ∧ s[i]? = some 48 then some 50 else none
theorem num_period {s : List UInt8} {i : Nat} (h : 0 < (unitF s (i + (runF digB s i).length)).2) :
  numF s i = (⟨7, [], valF (runF digB s i) * (unitF s (i + (runF digB s i).length)).1, i⟩, i + (runF digB s i).length + (unitF s (i + (runF digB s i).length)).2,
   fst1 (zeroE s i) (if mostN < valF (runF digB s i) ∨ 1099511627776 / (unitF s (i + (runF digB s i).length)).1 < valF (runF digB s i) then some 51 else none)) := by
 unfold numF zeroE
 simp only
 rw [if_pos h]
theorem num_bad {s : List UInt8} {i : Nat} (h : ¬ 0 < (unitF s (i + (runF digB s i).length)).2) (hd : lookF s (i + (runF digB s i).length) 0 = 46 ∧ digB (lookF s (i + (runF digB s i).length) 1) = true)
  (hb : 4 < (runF digB s (i + (runF digB s i).length + 1)).length ∨ letB (lookF s (i + (runF digB s i).length + 1 + (runF digB s (i + (runF digB s i).length + 1)).length) 0) = true) :
  numF s i = (⟨4, [], 0, i⟩, i + (runF digB s i).length + 1 + (runF digB s (i + (runF digB s i).length + 1)).length, fst1 (zeroE s i) (some 50)) := by
 unfold numF zeroE
 simp only
 rw [if_neg h, if_pos hd, if_pos hb]
theorem num_dec {s : List UInt8} {i : Nat} (h : ¬ 0 < (unitF s (i + (runF digB s i).length)).2) (hd : lookF s (i + (runF digB s i).length) 0 = 46 ∧ digB (lookF s (i + (runF digB s i).length) 1) = true)
  (hb : ¬ (4 < (runF digB s (i + (runF digB s i).length + 1)).length ∨ letB (lookF s (i + (runF digB s i).length + 1 + (runF digB s (i + (runF digB s i).length + 1)).length) 0) = true)) :
  numF s i = (⟨4, [], valF (runF digB s i ++ runF digB s (i + (runF digB s i).length + 1) ++ List.replicate (4 - (runF digB s (i + (runF digB s i).length + 1)).length) 48), i⟩,
   i + (runF digB s i).length + 1 + (runF digB s (i + (runF digB s i).length + 1)).length,
   fst1 (zeroE s i) (if mostN < valF (runF digB s i ++ runF digB s (i + (runF digB s i).length + 1) ++ List.replicate (4 - (runF digB s (i + (runF digB s i).length + 1)).length) 48) then some 51 else none)) := by
 unfold numF zeroE
 simp only
 rw [if_neg h, if_pos hd, if_neg hb]
theorem num_int {s : List UInt8} {i : Nat} (h : ¬ 0 < (unitF s (i + (runF digB s i).length)).2) (hd : ¬ (lookF s (i + (runF digB s i).length) 0 = 46 ∧ digB (lookF s (i + (runF digB s i).length) 1) = true)) :
  numF s i = (⟨3, [], valF (runF digB s i), i⟩, i + (runF digB s i).length,
   fst1 (zeroE s i) (fst1 (if letB (lookF s (i + (runF digB s i).length) 0) = true then some 50 else none) (if mostN < valF (runF digB s i) then some 51 else none))) := by
 unfold numF zeroE
 simp only
 rw [if_neg h, if_neg hd]
theorem fst1_assoc (a b c : Option Int) : fst1 (fst1 a b) c = fst1 a (fst1 b c) := by cases a <;> rfl
theorem u8_eq {c : UInt8} (n : Nat) (hn : n < 256) : (c = UInt8.ofNat n) ↔ ((c.toNat : Int) = (n : Int)) := by
 constructor
 ·rintro rfl
  rw [UInt8.toNat_ofNat']
  omega
 ·intro e
  have : c.toNat = n := by omega
  rw [← this]
  simp
theorem look_pos {s : List UInt8} {j : Nat} (h : lookF s j 0 = 46) : j < s.length := by
 unfold lookF at h
 rw [Nat.add_zero] at h
 by_cases hj : j < s.length
 ·exact hj
 ·rw [List.getElem?_eq_none (by omega)] at h
  cases h
theorem look_pos' {s : List UInt8} {j : Nat} {c : UInt8} (h : lookF s j 0 = c) (hc : c ≠ 0 := by decide) : j < s.length := by
 unfold lookF at h
 rw [Nat.add_zero] at h
 by_cases hj : j < s.length
 ·exact hj
 ·rw [List.getElem?_eq_none (by omega)] at h
  exact absurd h.symm hc
theorem wr_small {n : Nat} (h : n ≤ 1099511627776) : wr .i64 (n : Int) = n := wr64 (by omega) (by omega)
theorem ar_div {U : Nat} : wr .i64 ((1099511627776 : Int).tdiv (U : Int)) = (1099511627776 : Int) / (U : Int) := by
 have h : (1099511627776 : Int) / (U : Int) = ((1099511627776 / U : Nat) : Int) := (Int.natCast_ediv 1099511627776 U).symm
 rw [h, show (1099511627776 : Int) = ((1099511627776 : Nat) : Int) from rfl, tdiv_nat]
 exact wr_small (Nat.div_le_self _ _)
theorem ar_cat {d f : List UInt8} {L i J M : Nat} (hJ : i + d.length = J) (hM : J + 1 + f.length = M) (hl : M ≤ L) (hL : L ≤ 67108864) (h4 : ¬ 4 < f.length) :
  (d ++ f ++ List.replicate (4 - f.length) (48 : UInt8)).length ≤ 1099511627776 ∧ wr .i64 (4 - (f.length : Int)) = ((4 - f.length : Nat) : Int) ∧ sbin .add d f = some (.str (d ++ f)) ∧
   sbin .add (d ++ f) (List.replicate (4 - f.length) 48) = some (.str (d ++ f ++ List.replicate (4 - f.length) 48)) ∧ i < M := by
 refine ⟨?_, ?_, ?_, ?_, by omega⟩
 ·simp only [List.length_append, List.length_replicate]
  omega
 ·rw [wr64 (by omega) (by omega)]; omega
 ·have : Nat.ble (d.length + f.length) maxStr = true := Nat.ble_eq_true_of_le (by unfold maxStr; omega)
  simp only [sbin, this]
 ·have : Nat.ble ((d ++ f).length + (List.replicate (4 - f.length) (48 : UInt8)).length) maxStr = true := Nat.ble_eq_true_of_le (by simp only [List.length_append, List.length_replicate]; unfold maxStr; omega)
  simp only [sbin, this]
theorem rep_le (f : List UInt8) : 4 - f.length ≤ 4 := Nat.sub_le _ _
theorem num_ok : NumOk := by
 intro τ p m s i hr hs hi hdig
 refine lim_code rfl ((LxX_code _).trans codeLNumber) rfl ?_
 unfold BodyP
 have hsm : s.length ≤ maxElems := by unfold maxElems; omega
 have hpl := AHeap.get_lt hr
 have hp0 : ¬ p = τ.size := by omega
 have hp1 : ¬ p = τ.size + 1 := by omega
 obtain ⟨τ1, hwz, hn1⟩ := nst_new hr 3
 have hr' := hr
 unfold Rdr rcells at hr'
 have hwh := run_while (g := 39) (pb := digB) hn1.rdr hsm (Nat.le_of_lt hi) eq_digit
 unfold zero4 tok4 at hwz
 simp (maxDischargeDepth := 99) [-writeAt, cLNumber, hr', hp0, hp1, hwz]
 refine hwh.mono ?_
 rintro v τ2 ⟨rfl, hr2, ho2⟩
 have hn2 := hn1.step hr2 ho2
 have hj := run_le (pb := digB) (Nat.le_of_lt hi)
 have hd := run_digs (s := s) (i := i)
 obtain ⟨c, hc⟩ : ∃ c, s[i]? = some c := ⟨_, List.getElem?_eq_getElem hi⟩
 have hcd : digB c = true := by unfold lookF at hdig; rw [Nat.add_zero, hc] at hdig; exact hdig
 have hc' : s[i] = c := (List.getElem?_eq_some_iff.1 hc).2
 have hdc : ∃ r, runF digB s i = c :: r := by
  unfold runF
  rw [List.drop_eq_getElem_cons hi, hc', List.takeWhile_cons, if_pos hcd]
  exact ⟨_, rfl⟩
 obtain ⟨r, hdr⟩ := hdc
 have h0 : runF digB s i ≠ [] := by rw [hdr]; simp
 have hdl : (runF digB s i).length ≤ 1099511627776 := by omega
 have hlen0 : 0 < (runF digB s i).length := by rw [hdr]; simp
 have hget0 : (runF digB s i)[0]? = some c := by rw [hdr]; rfl
 have hNp := @num_period s i
 have hNb := @num_bad s i
 have hNd := @num_dec s i
 have hNi := @num_int s i
 have hzE : zeroE s i = if 1 < (runF digB s i).length ∧ c = 48 then some 50 else none := by unfold zeroE; rw [hc]; simp
 have h48 := u8_eq (c := c) 48 (by decide)
 generalize zeroE s i = er at hNp hNb hNd hNi hzE
 generalize runF digB s i = d at *
 have hget0' : d[0]'hlen0 = c := (List.getElem?_eq_some_iff.1 hget0).2
 obtain ⟨n, ev, τ3, hat, hz3, hk3, hav⟩ := run_atoi τ2 d h0 hd hdl
 have hn3 := hn2.keep hz3 hk3
 have htok3 := hn3.tok
 unfold tok4 at htok3
 have hJ : i + d.length ≤ s.length := hj
 generalize hJe : i + d.length = J at *
 have hlJ : ∀ τ m e b, Rdr τ p s J m e b → lim LxX 62 [.one (.ptr p 0), .one (.int .i64 0)] τ = some (.one (.int .u8 (lookF s J 0).toNat), τ) := fun τ m e b h => eq_look τ p s J 0 m e b h hsm hJ (by omega)
 have hlJ1 : ∀ τ m e b, Rdr τ p s J m e b → lim LxX 62 [.one (.ptr p 0), .one (.int .i64 1)] τ = some (.one (.int .u8 (lookF s J 1).toNat), τ) := fun τ m e b h => eq_look τ p s J 1 m e b h hsm hJ (by omega)
 rcases hav with ⟨hov, rfl, rfl⟩ | ⟨hov, rfl, et, ec, rfl⟩
 ·by_cases hl1 : 1 < d.length
  ·have hl1x : (1 : Int) < (d.length : Int) := by omega
   by_cases hcz : c = 48
   ·have hcI : (c.toNat : Int) = 48 := h48.1 hcz
    have hfl3 := run_fail hn3.rdr 50 i
    simp (maxDischargeDepth := 99) [-writeAt, hat, hl1x, hget0, hget0', hlen0, hcI, htok3]
    refine hfl3.mono ?_
    rintro v τ4 ⟨rfl, hr4, ho4⟩
    have hn4 := hn3.step hr4 ho4
    have herr : ErrIs i er (if (0 : Int) = 0 then 50 else 0) (if (0 : Int) = 0 then (i : Int) else 0) := by rw [hzE, if_pos ⟨hl1, hcz⟩]; exact .inr ⟨50, rfl, by decide, rfl, rfl⟩
    generalize (if (0 : Int) = 0 then (50 : Int) else 0) = e0 at hn4 herr
    generalize (if (0 : Int) = 0 then (i : Int) else 0) = b0 at hn4 herr
    clear hn3 hr4 ho4 hfl3
    have hu := run_unit hn4.rdr hsm hJ
    have htok4 := hn4.tok
    unfold tok4 at htok4
    simp (maxDischargeDepth := 99) [-writeAt, hp0, hp1]
    refine hu.mono ?_
    rintro v τ5 ⟨rfl, hr5, ho5⟩
    have hn5 := hn4.step hr5 ho5
    clear hu hr5 ho5
    by_cases hk : 0 < (unitF s J).2
    ·obtain ⟨hu1, hu2, hu3⟩ := unit_ok hk
     rw [hNp hk]
     have hule := (unit_le (s := s) (i := J)).2
     generalize (unitF s J).1 = U at hu1 hu2 ⊢
     generalize (unitF s J).2 = K at hk hu3 hule ⊢
     have hkI : (0 : Int) < (K : Int) := by omega
     have hU0 : ¬ (U : Int) = 0 := by omega
     have hU0' : ¬ U = 0 := by omega
     have hwk : wr .i64 ((J : Int) + (K : Int)) = ((J + K : Nat) : Int) := by rw [wr64 (by omega) (by omega)]; omega
     obtain ⟨τ6, w6, hn6⟩ := hn5.move (J + K)
     have hr5 := hn5.rdr
     unfold Rdr rcells at hr5
     have hdI : (1099511627776 : Int) / (U : Int) = ((1099511627776 / U : Nat) : Int) := (Int.natCast_ediv 1099511627776 U).symm
     have hdiv := @ar_div U
     have htok6 := hn6.tok
     unfold tok4 at htok6
     by_cases hq : 1099511627776 / U < valF d
     ·have hqI : (1099511627776 : Int) / (U : Int) < (valF d : Int) := by rw [hdI]; exact Int.ofNat_lt.2 hq
      have hfl := run_fail hn6.rdr 51 i
      simp (maxDischargeDepth := 99) [-writeAt, -Int.natCast_add, hk, hkI, hr5, hwk, w6, hU0, hU0', hdiv, hqI, htok6]
      refine hfl.mono ?_
      rintro v τ7 ⟨rfl, hr7, ho7⟩
      have hn7 := hn6.step hr7 ho7
      have he7 := herr.fail (x := 51) (by decide)
      obtain ⟨τ8, w8, hn8⟩ := hn7.put 0 [.int .i64 7] (tc' := [.int .i64 7, .str [], .int .i64 0, .int .i64 i]) rfl (by simp [tok4])
      obtain ⟨τ9, w9, hn9⟩ := hn8.put 2 [.int .i64 (wr .i64 ((valF d : Int) * (U : Int)))] (tc' := [.int .i64 7, .str [], .int .i64 (wr .i64 ((valF d : Int) * (U : Int))), .int .i64 i]) rfl (by simp)
      obtain ⟨τa, wa, ga, hra, hoa⟩ := hn9.out rfl
      have htok9 := hn9.tok
      simp (maxDischargeDepth := 99) [-writeAt, w8, w9, htok9, wa, ga]
      rw [if_pos (by right; exact hq)]
      exact ptk_ok hoa hra rfl (fun e => by rw [e] at he7; rcases he7 with ⟨h, _⟩ | ⟨x, h, _⟩ <;> (revert e; cases er <;> simp [fst1])) he7.ok.2
     ·have hqI : ¬ (1099511627776 : Int) / (U : Int) < (valF d : Int) := by rw [hdI]; exact fun h => hq (Int.ofNat_lt.1 h)
      have hle : valF d * U ≤ 1099511627776 := Nat.le_trans (Nat.mul_le_mul_right U (Nat.le_of_not_lt hq)) (Nat.div_mul_le_self _ _)
      have hmul : wr .i64 ((valF d : Int) * (U : Int)) = ((valF d * U : Nat) : Int) := by rw [← Int.natCast_mul]; exact wr64 (by omega) (by omega)
      obtain ⟨τ8, w8, hn8⟩ := hn6.put 0 [.int .i64 7] (tc' := [.int .i64 7, .str [], .int .i64 0, .int .i64 i]) rfl (by simp [tok4])
      obtain ⟨τ9, w9, hn9⟩ := hn8.put 2 [.int .i64 ((valF d * U : Nat) : Int)] (tc' := [.int .i64 7, .str [], .int .i64 ((valF d * U : Nat) : Int), .int .i64 i]) rfl (by simp)
      obtain ⟨τa, wa, ga, hra, hoa⟩ := hn9.out rfl
      have htok9 := hn9.tok
      simp (maxDischargeDepth := 99) [-writeAt, -Int.natCast_add, -Int.natCast_mul, hk, hkI, hr5, hwk, w6, hU0, hU0', hdiv, hqI, htok6, hmul, w8, w9, htok9, wa, ga]
      rw [if_neg (by omega)]
      have he7 := herr.none_
      exact ptk_ok hoa hra rfl (fun e => ⟨(he7.ok.1 e).1, (he7.ok.1 e).2, rfl, by omega, hu3⟩) he7.ok.2
    ·have hkI : ¬ (0 : Int) < ((unitF s J).2 : Int) := by omega
     have hkI' : (((unitF s J).2 : Nat) : Int) ≤ 0 := by omega
     have hl5 := hlJ _ _ _ _ hn5.rdr
     have hl51 := hlJ1 _ _ _ _ hn5.rdr
     have hlI5 := fun τ => eq_letter τ (lookF s J 0)
     have hlD5 := fun τ => eq_digit τ (lookF s J 1)
     have h46 := u8_eq (c := lookF s J 0) 46 (by decide)
     by_cases hdot : lookF s J 0 = 46 ∧ digB (lookF s J 1) = true
     ·have h46I : ((lookF s J 0).toNat : Int) = 46 := h46.1 hdot.1
      rw [hdot.2] at hlD5
      have hJlt := look_pos hdot.1
      have hwj := wr_next hJlt hsm
      obtain ⟨τ6, w6, hn6⟩ := hn5.move (J + 1)
      have hr5 := hn5.rdr
      unfold Rdr rcells at hr5
      have hwf := run_while (g := 39) (pb := digB) hn6.rdr hsm hJlt eq_digit
      simp (maxDischargeDepth := 99) [-writeAt, -Int.natCast_add, hk, hkI, hkI', hl5, hl51, hlD5, h46I, hr5, hwj, w6]
      refine hwf.mono ?_
      rintro v τ7 ⟨rfl, hr7, ho7⟩
      have hn7 := hn6.step hr7 ho7
      have hf := run_digs (s := s) (i := J + 1)
      have hM := run_le (pb := digB) hJlt
      have hNb' := hNb hk hdot
      have hNd' := hNd hk hdot
      generalize runF digB s (J + 1) = f at *
      have hlM : ∀ τ m e b, Rdr τ p s (J + 1 + f.length) m e b → lim LxX 62 [.one (.ptr p 0), .one (.int .i64 0)] τ = some (.one (.int .u8 (lookF s (J + 1 + f.length) 0).toNat), τ) := fun τ m e b h => eq_look τ p s (J + 1 + f.length) 0 m e b h hsm hM (by omega)
      have hlIM := fun τ => eq_letter τ (lookF s (J + 1 + f.length) 0)
      generalize hMe : J + 1 + f.length = M at *
      obtain ⟨τ8, w8, hn8⟩ := hn7.put 0 [.int .i64 4] (tc' := tok4 4 0 i) rfl (by simp [tok4])
      have hl8 := hlM _ _ _ _ hn8.rdr
      have htok8 := hn8.tok
      unfold tok4 at htok8
      have badp : ∀ (τ9 : AHeap) (hr9 : Rdr τ9 p s M m (if e0 = 0 then 50 else e0) (if e0 = 0 then (i : Int) else b0)) (ho9 : Oth p τ8 τ9), ∃ τa, τ9.get (τ.size + 1) = some ⟨[.int .i64 4, .str [], .int .i64 0, .int .i64 i], .own⟩ ∧ writeAt τ9 τ.size 0 [.int .i64 4, .str [], .int .i64 0, .int .i64 i] = some τa ∧ τa.get τ.size = some ⟨[.int .i64 4, .str [], .int .i64 0, .int .i64 i], .own⟩ ∧
        PTk p m s i (⟨4, [], 0, i⟩, M, fst1 er (some 50)) τ (.agg [.int .i64 4, .str [], .int .i64 0, .int .i64 i]) τa := by
       intro τ9 hr9 ho9
       have hn9 := hn8.step hr9 ho9
       obtain ⟨τa, wa, ga, hra, hoa⟩ := hn9.out rfl
       have he9 := herr.fail (x := 50) (by decide)
       exact ⟨τa, hn9.tok, wa, ga, ptk_ok hoa hra rfl (fun e => by rw [e] at he9; rcases he9 with ⟨h, _⟩ | ⟨x, h, _⟩ <;> (revert e; cases er <;> simp [fst1])) he9.ok.2⟩
      by_cases h4 : 4 < f.length
      ·have h4I : (4 : Int) < (f.length : Int) := by omega
       have hfl := run_fail hn8.rdr 50 i
       simp (maxDischargeDepth := 99) [-writeAt, -Int.natCast_add, w8, h4I, htok8]
       refine hfl.mono ?_
       rintro v τ9 ⟨rfl, hr9, ho9⟩
       obtain ⟨τa, ht9, wa, ga, hP⟩ := badp τ9 hr9 ho9
       simp (maxDischargeDepth := 99) [-writeAt, ht9, wa, ga]
       rw [hNb' (.inl h4)]
       exact hP
      ·have h4I : ¬ (4 : Int) < (f.length : Int) := by omega
       cases hlt : letB (lookF s M 0) with
       | true =>
        rw [hlt] at hlIM
        have hfl := run_fail hn8.rdr 50 i
        simp (maxDischargeDepth := 99) [-writeAt, -Int.natCast_add, w8, h4I, hl8, hlIM, htok8]
        refine hfl.mono ?_
        rintro v τ9 ⟨rfl, hr9, ho9⟩
        obtain ⟨τa, ht9, wa, ga, hP⟩ := badp τ9 hr9 ho9
        simp (maxDischargeDepth := 99) [-writeAt, ht9, wa, ga]
        rw [hNb' (.inr hlt)]
        exact hP
       | false =>
        rw [hlt] at hlIM
        rw [hNd' (by rw [hlt]; simp; omega)]
        have hcat : ∀ c ∈ d ++ f ++ List.replicate (4 - f.length) 48, digB c = true := by
         intro c hc
         rw [List.mem_append, List.mem_append] at hc
         rcases hc with (hc | hc) | hc
         ·exact hd c hc
         ·exact hf c hc
         ·rw [(List.mem_replicate.1 hc).2]; decide
        obtain ⟨hcl, hsub4, hs1, hs2, hiM⟩ := ar_cat hJe hMe hM hs h4
        have hrep := fun τ => eq_repeat0 τ (4 - f.length) (rep_le f)
        obtain ⟨n2, ev2, τ9, hat2, hz9, hk9, hav2⟩ := run_atoi τ8 (d ++ f ++ List.replicate (4 - f.length) 48) (by intro e; rw [List.append_eq_nil_iff, List.append_eq_nil_iff] at e; exact h0 e.1.1) hcat hcl
        generalize d ++ f ++ List.replicate (4 - f.length) 48 = D at *
        generalize List.replicate (4 - f.length) (48 : UInt8) = Z at hrep hs2
        have hn9 := hn8.keep hz9 hk9
        have hl9 := hlM _ _ _ _ hn9.rdr
        have htok9 := hn9.tok
        unfold tok4 at htok9
        rcases hav2 with ⟨hv, rfl, rfl⟩ | ⟨hv, rfl, et2, ec2, rfl⟩
        ·obtain ⟨τb, wb, hnb⟩ := hn9.put 2 [.int .i64 (valF D)] (tc' := [.int .i64 4, .str [], .int .i64 (valF D), .int .i64 i]) rfl (by simp [tok4])
         obtain ⟨τa, wa, ga, hra, hoa⟩ := hnb.out rfl
         have htokb := hnb.tok
         simp (maxDischargeDepth := 99) [-writeAt, -Int.natCast_add, w8, h4I, hl8, hlIM, hsub4, hrep, hs1, hs2, hat2, hl9, wb, htokb, wa, ga]
         rw [if_neg (by omega)]
         have he7 := herr.none_
         exact ptk_ok hoa hra rfl (fun e => ⟨(he7.ok.1 e).1, (he7.ok.1 e).2, rfl, hiM, hM⟩) he7.ok.2
        ·have hfl := run_fail hn9.rdr 51 i
         simp (maxDischargeDepth := 99) [-writeAt, -Int.natCast_add, w8, h4I, hl8, hlIM, hsub4, hrep, hs1, hs2, hat2, hl9, htok9]
         refine hfl.mono ?_
         rintro v τc ⟨rfl, hrc, hoc⟩
         have hnc := hn9.step hrc hoc
         have he7 := herr.fail (x := 51) (by decide)
         obtain ⟨τb, wb, hnb⟩ := hnc.put 2 [.int .i64 9223372036854775807] (tc' := [.int .i64 4, .str [], .int .i64 9223372036854775807, .int .i64 i]) rfl (by simp [tok4])
         obtain ⟨τa, wa, ga, hra, hoa⟩ := hnb.out rfl
         have htokb := hnb.tok
         simp (maxDischargeDepth := 99) [-writeAt, wb, htokb, wa, ga]
         rw [if_pos (by omega)]
         exact ptk_ok hoa hra rfl (fun e => by rw [e] at he7; rcases he7 with ⟨h, _⟩ | ⟨x, h, _⟩ <;> (revert e; cases er <;> simp [fst1])) he7.ok.2
     ·rw [hNi hk hdot, ← fst1_assoc]
      have hpre : ((lookF s J 0).toNat : Int) ≠ 46 ∨ (((lookF s J 0).toNat : Int) = 46 ∧ digB (lookF s J 1) = false) := by
       by_cases h : lookF s J 0 = 46
       ·right
        refine ⟨h46.1 h, ?_⟩
        cases hb : digB (lookF s J 1) with
        | true => exact absurd ⟨h, hb⟩ hdot
        | false => rfl
       ·exact .inl (fun e => h (h46.2 e))
      have htok5 := hn5.tok
      unfold tok4 at htok5
      have goOn : ∀ (τ6 : AHeap) (e6 b6 : Int) (er6 : Option Int), NSt τ τ6 p τ.size s J m e6 b6 [.int .i64 3, .str [], .int .i64 0, .int .i64 i] → ErrIs i er6 e6 b6 → ∃ τb τa, writeAt τ6 (τ.size + 1) 2 [.int .i64 (valF d : Int)] = some τb ∧ τb.get (τ.size + 1) = some ⟨[.int .i64 3, .str [], .int .i64 (valF d : Int), .int .i64 i], .own⟩ ∧
        writeAt τb τ.size 0 [.int .i64 3, .str [], .int .i64 (valF d : Int), .int .i64 i] = some τa ∧ τa.get τ.size = some ⟨[.int .i64 3, .str [], .int .i64 (valF d : Int), .int .i64 i], .own⟩ ∧ ( PTk p m s i (⟨3, [], valF d, i⟩, J, er6) τ (.agg [.int .i64 3, .str [], .int .i64 (valF d : Int), .int .i64 i]) τa) := by
       intro τ6 e6 b6 er6 hn6 he6
       obtain ⟨τb, wb, hnb⟩ := hn6.put 2 [.int .i64 (valF d : Int)] (tc' := [.int .i64 3, .str [], .int .i64 (valF d : Int), .int .i64 i]) rfl (by simp)
       obtain ⟨τa, wa, ga, hra, hoa⟩ := hnb.out rfl
       exact ⟨τb, τa, wb, hnb.tok, wa, ga, ptk_ok hoa hra rfl (fun e => ⟨(he6.ok.1 e).1, (he6.ok.1 e).2, rfl, by omega, hJ⟩) he6.ok.2⟩
      rcases hpre with hx | ⟨hx, hy⟩
      ·cases hlt : letB (lookF s J 0) with
       | true =>
        rw [hlt] at hlI5
        have hfl := run_fail hn5.rdr 50 i
        simp (maxDischargeDepth := 99) [-writeAt, -Int.natCast_add, hk, hkI, hkI', hl5, hx, hlI5, htok5]
        refine hfl.mono ?_
        rintro v τ6 ⟨rfl, hr6, ho6⟩
        have hn6 := hn5.step hr6 ho6
        have he6 := herr.fail (x := 50) (by decide)
        obtain ⟨τb, τa, wb, gb, wa, ga, hP⟩ := goOn τ6 _ _ _ hn6 he6.none_
        simp (maxDischargeDepth := 99) [-writeAt, wb, gb, wa, ga]
        rw [if_neg (show ¬ mostN < valF d from Nat.not_lt.2 hov)]
        exact hP
       | false =>
        rw [hlt] at hlI5
        have he6 := herr.none_
        obtain ⟨τb, τa, wb, gb, wa, ga, hP⟩ := goOn τ5 _ _ _ hn5 he6.none_
        simp (maxDischargeDepth := 99) [-writeAt, -Int.natCast_add, hk, hkI, hkI', hl5, hx, hlI5, wb, gb, wa, ga]
        rw [if_neg (show ¬ mostN < valF d from Nat.not_lt.2 hov)]
        exact hP
      ·rw [hy] at hlD5
       have hl46 : letB (lookF s J 0) = false := by rw [h46.2 hx]; rfl
       have hlI46 : ∀ τ, lim LxX 37 [.one (.int .u8 46)] τ = some (.one (.bool false), τ) := fun τ => eq_letter τ 46
       rw [hl46]
       have he6 := herr.none_
       obtain ⟨τb, τa, wb, gb, wa, ga, hP⟩ := goOn τ5 _ _ _ hn5 he6.none_
       simp (maxDischargeDepth := 99) [-writeAt, -Int.natCast_add, hk, hkI, hkI', hl5, hx, hl51, hlD5, hlI46, wb, gb, wa, ga]
       rw [if_neg (show ¬ mostN < valF d from Nat.not_lt.2 hov)]
       exact hP
   ·have hcI : ¬ (c.toNat : Int) = 48 := fun e => hcz (h48.2 e)
    have hn4 := hn3
    have herr : ErrIs i er 0 0 := by rw [hzE, if_neg (fun h => hcz h.2)]; exact .inl ⟨rfl, rfl, rfl⟩
    obtain ⟨e0, he0⟩ : ∃ e : Int, e = 0 := ⟨0, rfl⟩
    obtain ⟨b0, hb0⟩ : ∃ e : Int, e = 0 := ⟨0, rfl⟩
    have hn4 : NSt τ τ3 p τ.size s J m e0 b0 (tok4 3 0 i) := by rw [he0, hb0]; exact hn3
    have herr : ErrIs i er e0 b0 := by rw [he0, hb0]; exact herr
    have hu := run_unit hn4.rdr hsm hJ
    have htok4 := hn4.tok
    unfold tok4 at htok4
    simp (maxDischargeDepth := 99) [-writeAt, hat, hp0, hp1, htok3, hl1x, hget0, hget0', hlen0, hcI]
    refine hu.mono ?_
    rintro v τ5 ⟨rfl, hr5, ho5⟩
    have hn5 := hn4.step hr5 ho5
    clear hu hr5 ho5
    by_cases hk : 0 < (unitF s J).2
    ·obtain ⟨hu1, hu2, hu3⟩ := unit_ok hk
     rw [hNp hk]
     have hule := (unit_le (s := s) (i := J)).2
     generalize (unitF s J).1 = U at hu1 hu2 ⊢
     generalize (unitF s J).2 = K at hk hu3 hule ⊢
     have hkI : (0 : Int) < (K : Int) := by omega
     have hU0 : ¬ (U : Int) = 0 := by omega
     have hU0' : ¬ U = 0 := by omega
     have hwk : wr .i64 ((J : Int) + (K : Int)) = ((J + K : Nat) : Int) := by rw [wr64 (by omega) (by omega)]; omega
     obtain ⟨τ6, w6, hn6⟩ := hn5.move (J + K)
     have hr5 := hn5.rdr
     unfold Rdr rcells at hr5
     have hdI : (1099511627776 : Int) / (U : Int) = ((1099511627776 / U : Nat) : Int) := (Int.natCast_ediv 1099511627776 U).symm
     have hdiv := @ar_div U
     have htok6 := hn6.tok
     unfold tok4 at htok6
     by_cases hq : 1099511627776 / U < valF d
     ·have hqI : (1099511627776 : Int) / (U : Int) < (valF d : Int) := by rw [hdI]; exact Int.ofNat_lt.2 hq
      have hfl := run_fail hn6.rdr 51 i
      simp (maxDischargeDepth := 99) [-writeAt, -Int.natCast_add, hk, hkI, hr5, hwk, w6, hU0, hU0', hdiv, hqI, htok6]
      refine hfl.mono ?_
      rintro v τ7 ⟨rfl, hr7, ho7⟩
      have hn7 := hn6.step hr7 ho7
      have he7 := herr.fail (x := 51) (by decide)
      obtain ⟨τ8, w8, hn8⟩ := hn7.put 0 [.int .i64 7] (tc' := [.int .i64 7, .str [], .int .i64 0, .int .i64 i]) rfl (by simp [tok4])
      obtain ⟨τ9, w9, hn9⟩ := hn8.put 2 [.int .i64 (wr .i64 ((valF d : Int) * (U : Int)))] (tc' := [.int .i64 7, .str [], .int .i64 (wr .i64 ((valF d : Int) * (U : Int))), .int .i64 i]) rfl (by simp)
      obtain ⟨τa, wa, ga, hra, hoa⟩ := hn9.out rfl
      have htok9 := hn9.tok
      simp (maxDischargeDepth := 99) [-writeAt, w8, w9, htok9, wa, ga]
      rw [if_pos (by right; exact hq)]
      exact ptk_ok hoa hra rfl (fun e => by rw [e] at he7; rcases he7 with ⟨h, _⟩ | ⟨x, h, _⟩ <;> (revert e; cases er <;> simp [fst1])) he7.ok.2
     ·have hqI : ¬ (1099511627776 : Int) / (U : Int) < (valF d : Int) := by rw [hdI]; exact fun h => hq (Int.ofNat_lt.1 h)
      have hle : valF d * U ≤ 1099511627776 := Nat.le_trans (Nat.mul_le_mul_right U (Nat.le_of_not_lt hq)) (Nat.div_mul_le_self _ _)
      have hmul : wr .i64 ((valF d : Int) * (U : Int)) = ((valF d * U : Nat) : Int) := by rw [← Int.natCast_mul]; exact wr64 (by omega) (by omega)
      obtain ⟨τ8, w8, hn8⟩ := hn6.put 0 [.int .i64 7] (tc' := [.int .i64 7, .str [], .int .i64 0, .int .i64 i]) rfl (by simp [tok4])
      obtain ⟨τ9, w9, hn9⟩ := hn8.put 2 [.int .i64 ((valF d * U : Nat) : Int)] (tc' := [.int .i64 7, .str [], .int .i64 ((valF d * U : Nat) : Int), .int .i64 i]) rfl (by simp)
      obtain ⟨τa, wa, ga, hra, hoa⟩ := hn9.out rfl
      have htok9 := hn9.tok
      simp (maxDischargeDepth := 99) [-writeAt, -Int.natCast_add, -Int.natCast_mul, hk, hkI, hr5, hwk, w6, hU0, hU0', hdiv, hqI, htok6, hmul, w8, w9, htok9, wa, ga]
      rw [if_neg (by omega)]
      have he7 := herr.none_
      exact ptk_ok hoa hra rfl (fun e => ⟨(he7.ok.1 e).1, (he7.ok.1 e).2, rfl, by omega, hu3⟩) he7.ok.2
    ·have hkI : ¬ (0 : Int) < ((unitF s J).2 : Int) := by omega
     have hkI' : (((unitF s J).2 : Nat) : Int) ≤ 0 := by omega
     have hl5 := hlJ _ _ _ _ hn5.rdr
     have hl51 := hlJ1 _ _ _ _ hn5.rdr
     have hlI5 := fun τ => eq_letter τ (lookF s J 0)
     have hlD5 := fun τ => eq_digit τ (lookF s J 1)
     have h46 := u8_eq (c := lookF s J 0) 46 (by decide)
     by_cases hdot : lookF s J 0 = 46 ∧ digB (lookF s J 1) = true
     ·have h46I : ((lookF s J 0).toNat : Int) = 46 := h46.1 hdot.1
      rw [hdot.2] at hlD5
      have hJlt := look_pos hdot.1
      have hwj := wr_next hJlt hsm
      obtain ⟨τ6, w6, hn6⟩ := hn5.move (J + 1)
      have hr5 := hn5.rdr
      unfold Rdr rcells at hr5
      have hwf := run_while (g := 39) (pb := digB) hn6.rdr hsm hJlt eq_digit
      simp (maxDischargeDepth := 99) [-writeAt, -Int.natCast_add, hk, hkI, hkI', hl5, hl51, hlD5, h46I, hr5, hwj, w6]
      refine hwf.mono ?_
      rintro v τ7 ⟨rfl, hr7, ho7⟩
      have hn7 := hn6.step hr7 ho7
      have hf := run_digs (s := s) (i := J + 1)
      have hM := run_le (pb := digB) hJlt
      have hNb' := hNb hk hdot
      have hNd' := hNd hk hdot
      generalize runF digB s (J + 1) = f at *
      have hlM : ∀ τ m e b, Rdr τ p s (J + 1 + f.length) m e b → lim LxX 62 [.one (.ptr p 0), .one (.int .i64 0)] τ = some (.one (.int .u8 (lookF s (J + 1 + f.length) 0).toNat), τ) := fun τ m e b h => eq_look τ p s (J + 1 + f.length) 0 m e b h hsm hM (by omega)
      have hlIM := fun τ => eq_letter τ (lookF s (J + 1 + f.length) 0)
      generalize hMe : J + 1 + f.length = M at *
      obtain ⟨τ8, w8, hn8⟩ := hn7.put 0 [.int .i64 4] (tc' := tok4 4 0 i) rfl (by simp [tok4])
      have hl8 := hlM _ _ _ _ hn8.rdr
      have htok8 := hn8.tok
      unfold tok4 at htok8
      have badp : ∀ (τ9 : AHeap) (hr9 : Rdr τ9 p s M m (if e0 = 0 then 50 else e0) (if e0 = 0 then (i : Int) else b0)) (ho9 : Oth p τ8 τ9), ∃ τa, τ9.get (τ.size + 1) = some ⟨[.int .i64 4, .str [], .int .i64 0, .int .i64 i], .own⟩ ∧ writeAt τ9 τ.size 0 [.int .i64 4, .str [], .int .i64 0, .int .i64 i] = some τa ∧ τa.get τ.size = some ⟨[.int .i64 4, .str [], .int .i64 0, .int .i64 i], .own⟩ ∧
        PTk p m s i (⟨4, [], 0, i⟩, M, fst1 er (some 50)) τ (.agg [.int .i64 4, .str [], .int .i64 0, .int .i64 i]) τa := by
       intro τ9 hr9 ho9
       have hn9 := hn8.step hr9 ho9
       obtain ⟨τa, wa, ga, hra, hoa⟩ := hn9.out rfl
       have he9 := herr.fail (x := 50) (by decide)
       exact ⟨τa, hn9.tok, wa, ga, ptk_ok hoa hra rfl (fun e => by rw [e] at he9; rcases he9 with ⟨h, _⟩ | ⟨x, h, _⟩ <;> (revert e; cases er <;> simp [fst1])) he9.ok.2⟩
      by_cases h4 : 4 < f.length
      ·have h4I : (4 : Int) < (f.length : Int) := by omega
       have hfl := run_fail hn8.rdr 50 i
       simp (maxDischargeDepth := 99) [-writeAt, -Int.natCast_add, w8, h4I, htok8]
       refine hfl.mono ?_
       rintro v τ9 ⟨rfl, hr9, ho9⟩
       obtain ⟨τa, ht9, wa, ga, hP⟩ := badp τ9 hr9 ho9
       simp (maxDischargeDepth := 99) [-writeAt, ht9, wa, ga]
       rw [hNb' (.inl h4)]
       exact hP
      ·have h4I : ¬ (4 : Int) < (f.length : Int) := by omega
       cases hlt : letB (lookF s M 0) with
       | true =>
        rw [hlt] at hlIM
        have hfl := run_fail hn8.rdr 50 i
        simp (maxDischargeDepth := 99) [-writeAt, -Int.natCast_add, w8, h4I, hl8, hlIM, htok8]
        refine hfl.mono ?_
        rintro v τ9 ⟨rfl, hr9, ho9⟩
        obtain ⟨τa, ht9, wa, ga, hP⟩ := badp τ9 hr9 ho9
        simp (maxDischargeDepth := 99) [-writeAt, ht9, wa, ga]
        rw [hNb' (.inr hlt)]
        exact hP
       | false =>
        rw [hlt] at hlIM
        rw [hNd' (by rw [hlt]; simp; omega)]
        have hcat : ∀ c ∈ d ++ f ++ List.replicate (4 - f.length) 48, digB c = true := by
         intro c hc
         rw [List.mem_append, List.mem_append] at hc
         rcases hc with (hc | hc) | hc
         ·exact hd c hc
         ·exact hf c hc
         ·rw [(List.mem_replicate.1 hc).2]; decide
        obtain ⟨hcl, hsub4, hs1, hs2, hiM⟩ := ar_cat hJe hMe hM hs h4
        have hrep := fun τ => eq_repeat0 τ (4 - f.length) (rep_le f)
        obtain ⟨n2, ev2, τ9, hat2, hz9, hk9, hav2⟩ := run_atoi τ8 (d ++ f ++ List.replicate (4 - f.length) 48) (by intro e; rw [List.append_eq_nil_iff, List.append_eq_nil_iff] at e; exact h0 e.1.1) hcat hcl
        generalize d ++ f ++ List.replicate (4 - f.length) 48 = D at *
        generalize List.replicate (4 - f.length) (48 : UInt8) = Z at hrep hs2
        have hn9 := hn8.keep hz9 hk9
        have hl9 := hlM _ _ _ _ hn9.rdr
        have htok9 := hn9.tok
        unfold tok4 at htok9
        rcases hav2 with ⟨hv, rfl, rfl⟩ | ⟨hv, rfl, et2, ec2, rfl⟩
        ·obtain ⟨τb, wb, hnb⟩ := hn9.put 2 [.int .i64 (valF D)] (tc' := [.int .i64 4, .str [], .int .i64 (valF D), .int .i64 i]) rfl (by simp [tok4])
         obtain ⟨τa, wa, ga, hra, hoa⟩ := hnb.out rfl
         have htokb := hnb.tok
         simp (maxDischargeDepth := 99) [-writeAt, -Int.natCast_add, w8, h4I, hl8, hlIM, hsub4, hrep, hs1, hs2, hat2, hl9, wb, htokb, wa, ga]
         rw [if_neg (by omega)]
         have he7 := herr.none_
         exact ptk_ok hoa hra rfl (fun e => ⟨(he7.ok.1 e).1, (he7.ok.1 e).2, rfl, hiM, hM⟩) he7.ok.2
        ·have hfl := run_fail hn9.rdr 51 i
         simp (maxDischargeDepth := 99) [-writeAt, -Int.natCast_add, w8, h4I, hl8, hlIM, hsub4, hrep, hs1, hs2, hat2, hl9, htok9]
         refine hfl.mono ?_
         rintro v τc ⟨rfl, hrc, hoc⟩
         have hnc := hn9.step hrc hoc
         have he7 := herr.fail (x := 51) (by decide)
         obtain ⟨τb, wb, hnb⟩ := hnc.put 2 [.int .i64 9223372036854775807] (tc' := [.int .i64 4, .str [], .int .i64 9223372036854775807, .int .i64 i]) rfl (by simp [tok4])
         obtain ⟨τa, wa, ga, hra, hoa⟩ := hnb.out rfl
         have htokb := hnb.tok
         simp (maxDischargeDepth := 99) [-writeAt, wb, htokb, wa, ga]
         rw [if_pos (by omega)]
         exact ptk_ok hoa hra rfl (fun e => by rw [e] at he7; rcases he7 with ⟨h, _⟩ | ⟨x, h, _⟩ <;> (revert e; cases er <;> simp [fst1])) he7.ok.2
     ·rw [hNi hk hdot, ← fst1_assoc]
      have hpre : ((lookF s J 0).toNat : Int) ≠ 46 ∨ (((lookF s J 0).toNat : Int) = 46 ∧ digB (lookF s J 1) = false) := by
       by_cases h : lookF s J 0 = 46
       ·right
        refine ⟨h46.1 h, ?_⟩
        cases hb : digB (lookF s J 1) with
        | true => exact absurd ⟨h, hb⟩ hdot
        | false => rfl
       ·exact .inl (fun e => h (h46.2 e))
      have htok5 := hn5.tok
      unfold tok4 at htok5
      have goOn : ∀ (τ6 : AHeap) (e6 b6 : Int) (er6 : Option Int), NSt τ τ6 p τ.size s J m e6 b6 [.int .i64 3, .str [], .int .i64 0, .int .i64 i] → ErrIs i er6 e6 b6 → ∃ τb τa, writeAt τ6 (τ.size + 1) 2 [.int .i64 (valF d : Int)] = some τb ∧ τb.get (τ.size + 1) = some ⟨[.int .i64 3, .str [], .int .i64 (valF d : Int), .int .i64 i], .own⟩ ∧
        writeAt τb τ.size 0 [.int .i64 3, .str [], .int .i64 (valF d : Int), .int .i64 i] = some τa ∧ τa.get τ.size = some ⟨[.int .i64 3, .str [], .int .i64 (valF d : Int), .int .i64 i], .own⟩ ∧ ( PTk p m s i (⟨3, [], valF d, i⟩, J, er6) τ (.agg [.int .i64 3, .str [], .int .i64 (valF d : Int), .int .i64 i]) τa) := by
       intro τ6 e6 b6 er6 hn6 he6
       obtain ⟨τb, wb, hnb⟩ := hn6.put 2 [.int .i64 (valF d : Int)] (tc' := [.int .i64 3, .str [], .int .i64 (valF d : Int), .int .i64 i]) rfl (by simp)
       obtain ⟨τa, wa, ga, hra, hoa⟩ := hnb.out rfl
       exact ⟨τb, τa, wb, hnb.tok, wa, ga, ptk_ok hoa hra rfl (fun e => ⟨(he6.ok.1 e).1, (he6.ok.1 e).2, rfl, by omega, hJ⟩) he6.ok.2⟩
      rcases hpre with hx | ⟨hx, hy⟩
      ·cases hlt : letB (lookF s J 0) with
       | true =>
        rw [hlt] at hlI5
        have hfl := run_fail hn5.rdr 50 i
        simp (maxDischargeDepth := 99) [-writeAt, -Int.natCast_add, hk, hkI, hkI', hl5, hx, hlI5, htok5]
        refine hfl.mono ?_
        rintro v τ6 ⟨rfl, hr6, ho6⟩
        have hn6 := hn5.step hr6 ho6
        have he6 := herr.fail (x := 50) (by decide)
        obtain ⟨τb, τa, wb, gb, wa, ga, hP⟩ := goOn τ6 _ _ _ hn6 he6.none_
        simp (maxDischargeDepth := 99) [-writeAt, wb, gb, wa, ga]
        rw [if_neg (show ¬ mostN < valF d from Nat.not_lt.2 hov)]
        exact hP
       | false =>
        rw [hlt] at hlI5
        have he6 := herr.none_
        obtain ⟨τb, τa, wb, gb, wa, ga, hP⟩ := goOn τ5 _ _ _ hn5 he6.none_
        simp (maxDischargeDepth := 99) [-writeAt, -Int.natCast_add, hk, hkI, hkI', hl5, hx, hlI5, wb, gb, wa, ga]
        rw [if_neg (show ¬ mostN < valF d from Nat.not_lt.2 hov)]
        exact hP
      ·rw [hy] at hlD5
       have hl46 : letB (lookF s J 0) = false := by rw [h46.2 hx]; rfl
       have hlI46 : ∀ τ, lim LxX 37 [.one (.int .u8 46)] τ = some (.one (.bool false), τ) := fun τ => eq_letter τ 46
       rw [hl46]
       have he6 := herr.none_
       obtain ⟨τb, τa, wb, gb, wa, ga, hP⟩ := goOn τ5 _ _ _ hn5 he6.none_
       simp (maxDischargeDepth := 99) [-writeAt, -Int.natCast_add, hk, hkI, hkI', hl5, hx, hl51, hlD5, hlI46, wb, gb, wa, ga]
       rw [if_neg (show ¬ mostN < valF d from Nat.not_lt.2 hov)]
       exact hP
  ·have hl1x : ¬ (1 : Int) < (d.length : Int) := by omega
   have herr : ErrIs i er 0 0 := by rw [hzE, if_neg (fun h => hl1 h.1)]; exact .inl ⟨rfl, rfl, rfl⟩
   obtain ⟨e0, he0⟩ : ∃ e : Int, e = 0 := ⟨0, rfl⟩
   obtain ⟨b0, hb0⟩ : ∃ e : Int, e = 0 := ⟨0, rfl⟩
   have hn4 : NSt τ τ3 p τ.size s J m e0 b0 (tok4 3 0 i) := by rw [he0, hb0]; exact hn3
   have herr : ErrIs i er e0 b0 := by rw [he0, hb0]; exact herr
   have hu := run_unit hn4.rdr hsm hJ
   have htok4 := hn4.tok
   unfold tok4 at htok4
   simp (maxDischargeDepth := 99) [-writeAt, hat, hp0, hp1, htok3, hl1x]
   refine hu.mono ?_
   rintro v τ5 ⟨rfl, hr5, ho5⟩
   have hn5 := hn4.step hr5 ho5
   clear hu hr5 ho5
   by_cases hk : 0 < (unitF s J).2
   ·obtain ⟨hu1, hu2, hu3⟩ := unit_ok hk
    rw [hNp hk]
    have hule := (unit_le (s := s) (i := J)).2
    generalize (unitF s J).1 = U at hu1 hu2 ⊢
    generalize (unitF s J).2 = K at hk hu3 hule ⊢
    have hkI : (0 : Int) < (K : Int) := by omega
    have hU0 : ¬ (U : Int) = 0 := by omega
    have hU0' : ¬ U = 0 := by omega
    have hwk : wr .i64 ((J : Int) + (K : Int)) = ((J + K : Nat) : Int) := by rw [wr64 (by omega) (by omega)]; omega
    obtain ⟨τ6, w6, hn6⟩ := hn5.move (J + K)
    have hr5 := hn5.rdr
    unfold Rdr rcells at hr5
    have hdI : (1099511627776 : Int) / (U : Int) = ((1099511627776 / U : Nat) : Int) := (Int.natCast_ediv 1099511627776 U).symm
    have hdiv := @ar_div U
    have htok6 := hn6.tok
    unfold tok4 at htok6
    by_cases hq : 1099511627776 / U < valF d
    ·have hqI : (1099511627776 : Int) / (U : Int) < (valF d : Int) := by rw [hdI]; exact Int.ofNat_lt.2 hq
     have hfl := run_fail hn6.rdr 51 i
     simp (maxDischargeDepth := 99) [-writeAt, -Int.natCast_add, hk, hkI, hr5, hwk, w6, hU0, hU0', hdiv, hqI, htok6]
     refine hfl.mono ?_
     rintro v τ7 ⟨rfl, hr7, ho7⟩
     have hn7 := hn6.step hr7 ho7
     have he7 := herr.fail (x := 51) (by decide)
     obtain ⟨τ8, w8, hn8⟩ := hn7.put 0 [.int .i64 7] (tc' := [.int .i64 7, .str [], .int .i64 0, .int .i64 i]) rfl (by simp [tok4])
     obtain ⟨τ9, w9, hn9⟩ := hn8.put 2 [.int .i64 (wr .i64 ((valF d : Int) * (U : Int)))] (tc' := [.int .i64 7, .str [], .int .i64 (wr .i64 ((valF d : Int) * (U : Int))), .int .i64 i]) rfl (by simp)
     obtain ⟨τa, wa, ga, hra, hoa⟩ := hn9.out rfl
     have htok9 := hn9.tok
     simp (maxDischargeDepth := 99) [-writeAt, w8, w9, htok9, wa, ga]
     rw [if_pos (by right; exact hq)]
     exact ptk_ok hoa hra rfl (fun e => by rw [e] at he7; rcases he7 with ⟨h, _⟩ | ⟨x, h, _⟩ <;> (revert e; cases er <;> simp [fst1])) he7.ok.2
    ·have hqI : ¬ (1099511627776 : Int) / (U : Int) < (valF d : Int) := by rw [hdI]; exact fun h => hq (Int.ofNat_lt.1 h)
     have hle : valF d * U ≤ 1099511627776 := Nat.le_trans (Nat.mul_le_mul_right U (Nat.le_of_not_lt hq)) (Nat.div_mul_le_self _ _)
     have hmul : wr .i64 ((valF d : Int) * (U : Int)) = ((valF d * U : Nat) : Int) := by rw [← Int.natCast_mul]; exact wr64 (by omega) (by omega)
     obtain ⟨τ8, w8, hn8⟩ := hn6.put 0 [.int .i64 7] (tc' := [.int .i64 7, .str [], .int .i64 0, .int .i64 i]) rfl (by simp [tok4])
     obtain ⟨τ9, w9, hn9⟩ := hn8.put 2 [.int .i64 ((valF d * U : Nat) : Int)] (tc' := [.int .i64 7, .str [], .int .i64 ((valF d * U : Nat) : Int), .int .i64 i]) rfl (by simp)
     obtain ⟨τa, wa, ga, hra, hoa⟩ := hn9.out rfl
     have htok9 := hn9.tok
     simp (maxDischargeDepth := 99) [-writeAt, -Int.natCast_add, -Int.natCast_mul, hk, hkI, hr5, hwk, w6, hU0, hU0', hdiv, hqI, htok6, hmul, w8, w9, htok9, wa, ga]
     rw [if_neg (by omega)]
     have he7 := herr.none_
     exact ptk_ok hoa hra rfl (fun e => ⟨(he7.ok.1 e).1, (he7.ok.1 e).2, rfl, by omega, hu3⟩) he7.ok.2
   ·have hkI : ¬ (0 : Int) < ((unitF s J).2 : Int) := by omega
    have hkI' : (((unitF s J).2 : Nat) : Int) ≤ 0 := by omega
    have hl5 := hlJ _ _ _ _ hn5.rdr
    have hl51 := hlJ1 _ _ _ _ hn5.rdr
    have hlI5 := fun τ => eq_letter τ (lookF s J 0)
    have hlD5 := fun τ => eq_digit τ (lookF s J 1)
    have h46 := u8_eq (c := lookF s J 0) 46 (by decide)
    by_cases hdot : lookF s J 0 = 46 ∧ digB (lookF s J 1) = true
    ·have h46I : ((lookF s J 0).toNat : Int) = 46 := h46.1 hdot.1
     rw [hdot.2] at hlD5
     have hJlt := look_pos hdot.1
     have hwj := wr_next hJlt hsm
     obtain ⟨τ6, w6, hn6⟩ := hn5.move (J + 1)
     have hr5 := hn5.rdr
     unfold Rdr rcells at hr5
     have hwf := run_while (g := 39) (pb := digB) hn6.rdr hsm hJlt eq_digit
     simp (maxDischargeDepth := 99) [-writeAt, -Int.natCast_add, hk, hkI, hkI', hl5, hl51, hlD5, h46I, hr5, hwj, w6]
     refine hwf.mono ?_
     rintro v τ7 ⟨rfl, hr7, ho7⟩
     have hn7 := hn6.step hr7 ho7
     have hf := run_digs (s := s) (i := J + 1)
     have hM := run_le (pb := digB) hJlt
     have hNb' := hNb hk hdot
     have hNd' := hNd hk hdot
     generalize runF digB s (J + 1) = f at *
     have hlM : ∀ τ m e b, Rdr τ p s (J + 1 + f.length) m e b → lim LxX 62 [.one (.ptr p 0), .one (.int .i64 0)] τ = some (.one (.int .u8 (lookF s (J + 1 + f.length) 0).toNat), τ) := fun τ m e b h => eq_look τ p s (J + 1 + f.length) 0 m e b h hsm hM (by omega)
     have hlIM := fun τ => eq_letter τ (lookF s (J + 1 + f.length) 0)
     generalize hMe : J + 1 + f.length = M at *
     obtain ⟨τ8, w8, hn8⟩ := hn7.put 0 [.int .i64 4] (tc' := tok4 4 0 i) rfl (by simp [tok4])
     have hl8 := hlM _ _ _ _ hn8.rdr
     have htok8 := hn8.tok
     unfold tok4 at htok8
     have badp : ∀ (τ9 : AHeap) (hr9 : Rdr τ9 p s M m (if e0 = 0 then 50 else e0) (if e0 = 0 then (i : Int) else b0)) (ho9 : Oth p τ8 τ9), ∃ τa, τ9.get (τ.size + 1) = some ⟨[.int .i64 4, .str [], .int .i64 0, .int .i64 i], .own⟩ ∧ writeAt τ9 τ.size 0 [.int .i64 4, .str [], .int .i64 0, .int .i64 i] = some τa ∧ τa.get τ.size = some ⟨[.int .i64 4, .str [], .int .i64 0, .int .i64 i], .own⟩ ∧
       PTk p m s i (⟨4, [], 0, i⟩, M, fst1 er (some 50)) τ (.agg [.int .i64 4, .str [], .int .i64 0, .int .i64 i]) τa := by
      intro τ9 hr9 ho9
      have hn9 := hn8.step hr9 ho9
      obtain ⟨τa, wa, ga, hra, hoa⟩ := hn9.out rfl
      have he9 := herr.fail (x := 50) (by decide)
      exact ⟨τa, hn9.tok, wa, ga, ptk_ok hoa hra rfl (fun e => by rw [e] at he9; rcases he9 with ⟨h, _⟩ | ⟨x, h, _⟩ <;> (revert e; cases er <;> simp [fst1])) he9.ok.2⟩
     by_cases h4 : 4 < f.length
     ·have h4I : (4 : Int) < (f.length : Int) := by omega
      have hfl := run_fail hn8.rdr 50 i
      simp (maxDischargeDepth := 99) [-writeAt, -Int.natCast_add, w8, h4I, htok8]
      refine hfl.mono ?_
      rintro v τ9 ⟨rfl, hr9, ho9⟩
      obtain ⟨τa, ht9, wa, ga, hP⟩ := badp τ9 hr9 ho9
      simp (maxDischargeDepth := 99) [-writeAt, ht9, wa, ga]
      rw [hNb' (.inl h4)]
      exact hP
     ·have h4I : ¬ (4 : Int) < (f.length : Int) := by omega
      cases hlt : letB (lookF s M 0) with
      | true =>
       rw [hlt] at hlIM
       have hfl := run_fail hn8.rdr 50 i
       simp (maxDischargeDepth := 99) [-writeAt, -Int.natCast_add, w8, h4I, hl8, hlIM, htok8]
       refine hfl.mono ?_
       rintro v τ9 ⟨rfl, hr9, ho9⟩
       obtain ⟨τa, ht9, wa, ga, hP⟩ := badp τ9 hr9 ho9
       simp (maxDischargeDepth := 99) [-writeAt, ht9, wa, ga]
       rw [hNb' (.inr hlt)]
       exact hP
      | false =>
       rw [hlt] at hlIM
       rw [hNd' (by rw [hlt]; simp; omega)]
       have hcat : ∀ c ∈ d ++ f ++ List.replicate (4 - f.length) 48, digB c = true := by
        intro c hc
        rw [List.mem_append, List.mem_append] at hc
        rcases hc with (hc | hc) | hc
        ·exact hd c hc
        ·exact hf c hc
        ·rw [(List.mem_replicate.1 hc).2]; decide
       obtain ⟨hcl, hsub4, hs1, hs2, hiM⟩ := ar_cat hJe hMe hM hs h4
       have hrep := fun τ => eq_repeat0 τ (4 - f.length) (rep_le f)
       obtain ⟨n2, ev2, τ9, hat2, hz9, hk9, hav2⟩ := run_atoi τ8 (d ++ f ++ List.replicate (4 - f.length) 48) (by intro e; rw [List.append_eq_nil_iff, List.append_eq_nil_iff] at e; exact h0 e.1.1) hcat hcl
       generalize d ++ f ++ List.replicate (4 - f.length) 48 = D at *
       generalize List.replicate (4 - f.length) (48 : UInt8) = Z at hrep hs2
       have hn9 := hn8.keep hz9 hk9
       have hl9 := hlM _ _ _ _ hn9.rdr
       have htok9 := hn9.tok
       unfold tok4 at htok9
       rcases hav2 with ⟨hv, rfl, rfl⟩ | ⟨hv, rfl, et2, ec2, rfl⟩
       ·obtain ⟨τb, wb, hnb⟩ := hn9.put 2 [.int .i64 (valF D)] (tc' := [.int .i64 4, .str [], .int .i64 (valF D), .int .i64 i]) rfl (by simp [tok4])
        obtain ⟨τa, wa, ga, hra, hoa⟩ := hnb.out rfl
        have htokb := hnb.tok
        simp (maxDischargeDepth := 99) [-writeAt, -Int.natCast_add, w8, h4I, hl8, hlIM, hsub4, hrep, hs1, hs2, hat2, hl9, wb, htokb, wa, ga]
        rw [if_neg (by omega)]
        have he7 := herr.none_
        exact ptk_ok hoa hra rfl (fun e => ⟨(he7.ok.1 e).1, (he7.ok.1 e).2, rfl, hiM, hM⟩) he7.ok.2
       ·have hfl := run_fail hn9.rdr 51 i
        simp (maxDischargeDepth := 99) [-writeAt, -Int.natCast_add, w8, h4I, hl8, hlIM, hsub4, hrep, hs1, hs2, hat2, hl9, htok9]
        refine hfl.mono ?_
        rintro v τc ⟨rfl, hrc, hoc⟩
        have hnc := hn9.step hrc hoc
        have he7 := herr.fail (x := 51) (by decide)
        obtain ⟨τb, wb, hnb⟩ := hnc.put 2 [.int .i64 9223372036854775807] (tc' := [.int .i64 4, .str [], .int .i64 9223372036854775807, .int .i64 i]) rfl (by simp [tok4])
        obtain ⟨τa, wa, ga, hra, hoa⟩ := hnb.out rfl
        have htokb := hnb.tok
        simp (maxDischargeDepth := 99) [-writeAt, wb, htokb, wa, ga]
        rw [if_pos (by omega)]
        exact ptk_ok hoa hra rfl (fun e => by rw [e] at he7; rcases he7 with ⟨h, _⟩ | ⟨x, h, _⟩ <;> (revert e; cases er <;> simp [fst1])) he7.ok.2
    ·rw [hNi hk hdot, ← fst1_assoc]
     have hpre : ((lookF s J 0).toNat : Int) ≠ 46 ∨ (((lookF s J 0).toNat : Int) = 46 ∧ digB (lookF s J 1) = false) := by
      by_cases h : lookF s J 0 = 46
      ·right
       refine ⟨h46.1 h, ?_⟩
       cases hb : digB (lookF s J 1) with
       | true => exact absurd ⟨h, hb⟩ hdot
       | false => rfl
      ·exact .inl (fun e => h (h46.2 e))
     have htok5 := hn5.tok
     unfold tok4 at htok5
     have goOn : ∀ (τ6 : AHeap) (e6 b6 : Int) (er6 : Option Int), NSt τ τ6 p τ.size s J m e6 b6 [.int .i64 3, .str [], .int .i64 0, .int .i64 i] → ErrIs i er6 e6 b6 → ∃ τb τa, writeAt τ6 (τ.size + 1) 2 [.int .i64 (valF d : Int)] = some τb ∧ τb.get (τ.size + 1) = some ⟨[.int .i64 3, .str [], .int .i64 (valF d : Int), .int .i64 i], .own⟩ ∧
       writeAt τb τ.size 0 [.int .i64 3, .str [], .int .i64 (valF d : Int), .int .i64 i] = some τa ∧ τa.get τ.size = some ⟨[.int .i64 3, .str [], .int .i64 (valF d : Int), .int .i64 i], .own⟩ ∧ ( PTk p m s i (⟨3, [], valF d, i⟩, J, er6) τ (.agg [.int .i64 3, .str [], .int .i64 (valF d : Int), .int .i64 i]) τa) := by
      intro τ6 e6 b6 er6 hn6 he6
      obtain ⟨τb, wb, hnb⟩ := hn6.put 2 [.int .i64 (valF d : Int)] (tc' := [.int .i64 3, .str [], .int .i64 (valF d : Int), .int .i64 i]) rfl (by simp)
      obtain ⟨τa, wa, ga, hra, hoa⟩ := hnb.out rfl
      exact ⟨τb, τa, wb, hnb.tok, wa, ga, ptk_ok hoa hra rfl (fun e => ⟨(he6.ok.1 e).1, (he6.ok.1 e).2, rfl, by omega, hJ⟩) he6.ok.2⟩
     rcases hpre with hx | ⟨hx, hy⟩
     ·cases hlt : letB (lookF s J 0) with
      | true =>
       rw [hlt] at hlI5
       have hfl := run_fail hn5.rdr 50 i
       simp (maxDischargeDepth := 99) [-writeAt, -Int.natCast_add, hk, hkI, hkI', hl5, hx, hlI5, htok5]
       refine hfl.mono ?_
       rintro v τ6 ⟨rfl, hr6, ho6⟩
       have hn6 := hn5.step hr6 ho6
       have he6 := herr.fail (x := 50) (by decide)
       obtain ⟨τb, τa, wb, gb, wa, ga, hP⟩ := goOn τ6 _ _ _ hn6 he6.none_
       simp (maxDischargeDepth := 99) [-writeAt, wb, gb, wa, ga]
       rw [if_neg (show ¬ mostN < valF d from Nat.not_lt.2 hov)]
       exact hP
      | false =>
       rw [hlt] at hlI5
       have he6 := herr.none_
       obtain ⟨τb, τa, wb, gb, wa, ga, hP⟩ := goOn τ5 _ _ _ hn5 he6.none_
       simp (maxDischargeDepth := 99) [-writeAt, -Int.natCast_add, hk, hkI, hkI', hl5, hx, hlI5, wb, gb, wa, ga]
       rw [if_neg (show ¬ mostN < valF d from Nat.not_lt.2 hov)]
       exact hP
     ·rw [hy] at hlD5
      have hl46 : letB (lookF s J 0) = false := by rw [h46.2 hx]; rfl
      have hlI46 : ∀ τ, lim LxX 37 [.one (.int .u8 46)] τ = some (.one (.bool false), τ) := fun τ => eq_letter τ 46
      rw [hl46]
      have he6 := herr.none_
      obtain ⟨τb, τa, wb, gb, wa, ga, hP⟩ := goOn τ5 _ _ _ hn5 he6.none_
      simp (maxDischargeDepth := 99) [-writeAt, -Int.natCast_add, hk, hkI, hkI', hl5, hx, hl51, hlD5, hlI46, wb, gb, wa, ga]
      rw [if_neg (show ¬ mostN < valF d from Nat.not_lt.2 hov)]
      exact hP
 ·by_cases hl1 : 1 < d.length
  ·have hl1x : (1 : Int) < (d.length : Int) := by omega
   by_cases hcz : c = 48
   ·have hcI : (c.toNat : Int) = 48 := h48.1 hcz
    have hfl3 := run_fail hn3.rdr 50 i
    simp (maxDischargeDepth := 99) [-writeAt, hat, hl1x, hget0, hget0', hlen0, hcI, htok3]
    refine hfl3.mono ?_
    rintro v τ4 ⟨rfl, hr4, ho4⟩
    have hn4 := hn3.step hr4 ho4
    have herr : ErrIs i er (if (0 : Int) = 0 then 50 else 0) (if (0 : Int) = 0 then (i : Int) else 0) := by rw [hzE, if_pos ⟨hl1, hcz⟩]; exact .inr ⟨50, rfl, by decide, rfl, rfl⟩
    generalize (if (0 : Int) = 0 then (50 : Int) else 0) = e0 at hn4 herr
    generalize (if (0 : Int) = 0 then (i : Int) else 0) = b0 at hn4 herr
    clear hn3 hr4 ho4 hfl3
    have hu := run_unit hn4.rdr hsm hJ
    have htok4 := hn4.tok
    unfold tok4 at htok4
    simp (maxDischargeDepth := 99) [-writeAt, hp0, hp1]
    refine hu.mono ?_
    rintro v τ5 ⟨rfl, hr5, ho5⟩
    have hn5 := hn4.step hr5 ho5
    clear hu hr5 ho5
    by_cases hk : 0 < (unitF s J).2
    ·obtain ⟨hu1, hu2, hu3⟩ := unit_ok hk
     rw [hNp hk]
     have hule := (unit_le (s := s) (i := J)).2
     generalize (unitF s J).1 = U at hu1 hu2 ⊢
     generalize (unitF s J).2 = K at hk hu3 hule ⊢
     have hkI : (0 : Int) < (K : Int) := by omega
     have hU0 : ¬ (U : Int) = 0 := by omega
     have hU0' : ¬ U = 0 := by omega
     have hwk : wr .i64 ((J : Int) + (K : Int)) = ((J + K : Nat) : Int) := by rw [wr64 (by omega) (by omega)]; omega
     obtain ⟨τ6, w6, hn6⟩ := hn5.move (J + K)
     have hr5 := hn5.rdr
     unfold Rdr rcells at hr5
     have hdI : (1099511627776 : Int) / (U : Int) = ((1099511627776 / U : Nat) : Int) := (Int.natCast_ediv 1099511627776 U).symm
     have hdiv := @ar_div U
     have htok6 := hn6.tok
     unfold tok4 at htok6
     have hfl := run_fail hn6.rdr 51 i
     simp (maxDischargeDepth := 99) [-writeAt, -Int.natCast_add, hk, hkI, hr5, hwk, w6, hU0, hU0', hdiv, htok6]
     refine hfl.mono ?_
     rintro v τ7 ⟨rfl, hr7, ho7⟩
     have hn7 := hn6.step hr7 ho7
     have he7 := herr.fail (x := 51) (by decide)
     obtain ⟨τ8, w8, hn8⟩ := hn7.put 0 [.int .i64 7] (tc' := [.int .i64 7, .str [], .int .i64 0, .int .i64 i]) rfl (by simp [tok4])
     obtain ⟨τ9, w9, hn9⟩ := hn8.put 2 [.int .i64 (wr .i64 (9223372036854775807 * (U : Int)))] (tc' := [.int .i64 7, .str [], .int .i64 (wr .i64 (9223372036854775807 * (U : Int))), .int .i64 i]) rfl (by simp)
     obtain ⟨τa, wa, ga, hra, hoa⟩ := hn9.out rfl
     have htok9 := hn9.tok
     simp (maxDischargeDepth := 99) [-writeAt, w8, w9, htok9, wa, ga]
     rw [if_pos (by left; omega)]
     exact ptk_ok hoa hra rfl (fun e => by rw [e] at he7; rcases he7 with ⟨h, _⟩ | ⟨x, h, _⟩ <;> (revert e; cases er <;> simp [fst1])) he7.ok.2
    ·have hkI : ¬ (0 : Int) < ((unitF s J).2 : Int) := by omega
     have hkI' : (((unitF s J).2 : Nat) : Int) ≤ 0 := by omega
     have hl5 := hlJ _ _ _ _ hn5.rdr
     have hl51 := hlJ1 _ _ _ _ hn5.rdr
     have hlI5 := fun τ => eq_letter τ (lookF s J 0)
     have hlD5 := fun τ => eq_digit τ (lookF s J 1)
     have h46 := u8_eq (c := lookF s J 0) 46 (by decide)
     by_cases hdot : lookF s J 0 = 46 ∧ digB (lookF s J 1) = true
     ·have h46I : ((lookF s J 0).toNat : Int) = 46 := h46.1 hdot.1
      rw [hdot.2] at hlD5
      have hJlt := look_pos hdot.1
      have hwj := wr_next hJlt hsm
      obtain ⟨τ6, w6, hn6⟩ := hn5.move (J + 1)
      have hr5 := hn5.rdr
      unfold Rdr rcells at hr5
      have hwf := run_while (g := 39) (pb := digB) hn6.rdr hsm hJlt eq_digit
      simp (maxDischargeDepth := 99) [-writeAt, -Int.natCast_add, hk, hkI, hkI', hl5, hl51, hlD5, h46I, hr5, hwj, w6]
      refine hwf.mono ?_
      rintro v τ7 ⟨rfl, hr7, ho7⟩
      have hn7 := hn6.step hr7 ho7
      have hf := run_digs (s := s) (i := J + 1)
      have hM := run_le (pb := digB) hJlt
      have hNb' := hNb hk hdot
      have hNd' := hNd hk hdot
      generalize runF digB s (J + 1) = f at *
      have hlM : ∀ τ m e b, Rdr τ p s (J + 1 + f.length) m e b → lim LxX 62 [.one (.ptr p 0), .one (.int .i64 0)] τ = some (.one (.int .u8 (lookF s (J + 1 + f.length) 0).toNat), τ) := fun τ m e b h => eq_look τ p s (J + 1 + f.length) 0 m e b h hsm hM (by omega)
      have hlIM := fun τ => eq_letter τ (lookF s (J + 1 + f.length) 0)
      generalize hMe : J + 1 + f.length = M at *
      obtain ⟨τ8, w8, hn8⟩ := hn7.put 0 [.int .i64 4] (tc' := tok4 4 0 i) rfl (by simp [tok4])
      have hl8 := hlM _ _ _ _ hn8.rdr
      have htok8 := hn8.tok
      unfold tok4 at htok8
      have badp : ∀ (τ9 : AHeap) (hr9 : Rdr τ9 p s M m (if e0 = 0 then 50 else e0) (if e0 = 0 then (i : Int) else b0)) (ho9 : Oth p τ8 τ9), ∃ τa, τ9.get (τ.size + 1) = some ⟨[.int .i64 4, .str [], .int .i64 0, .int .i64 i], .own⟩ ∧ writeAt τ9 τ.size 0 [.int .i64 4, .str [], .int .i64 0, .int .i64 i] = some τa ∧ τa.get τ.size = some ⟨[.int .i64 4, .str [], .int .i64 0, .int .i64 i], .own⟩ ∧
        PTk p m s i (⟨4, [], 0, i⟩, M, fst1 er (some 50)) τ (.agg [.int .i64 4, .str [], .int .i64 0, .int .i64 i]) τa := by
       intro τ9 hr9 ho9
       have hn9 := hn8.step hr9 ho9
       obtain ⟨τa, wa, ga, hra, hoa⟩ := hn9.out rfl
       have he9 := herr.fail (x := 50) (by decide)
       exact ⟨τa, hn9.tok, wa, ga, ptk_ok hoa hra rfl (fun e => by rw [e] at he9; rcases he9 with ⟨h, _⟩ | ⟨x, h, _⟩ <;> (revert e; cases er <;> simp [fst1])) he9.ok.2⟩
      by_cases h4 : 4 < f.length
      ·have h4I : (4 : Int) < (f.length : Int) := by omega
       have hfl := run_fail hn8.rdr 50 i
       simp (maxDischargeDepth := 99) [-writeAt, -Int.natCast_add, w8, h4I, htok8]
       refine hfl.mono ?_
       rintro v τ9 ⟨rfl, hr9, ho9⟩
       obtain ⟨τa, ht9, wa, ga, hP⟩ := badp τ9 hr9 ho9
       simp (maxDischargeDepth := 99) [-writeAt, ht9, wa, ga]
       rw [hNb' (.inl h4)]
       exact hP
      ·have h4I : ¬ (4 : Int) < (f.length : Int) := by omega
       cases hlt : letB (lookF s M 0) with
       | true =>
        rw [hlt] at hlIM
        have hfl := run_fail hn8.rdr 50 i
        simp (maxDischargeDepth := 99) [-writeAt, -Int.natCast_add, w8, h4I, hl8, hlIM, htok8]
        refine hfl.mono ?_
        rintro v τ9 ⟨rfl, hr9, ho9⟩
        obtain ⟨τa, ht9, wa, ga, hP⟩ := badp τ9 hr9 ho9
        simp (maxDischargeDepth := 99) [-writeAt, ht9, wa, ga]
        rw [hNb' (.inr hlt)]
        exact hP
       | false =>
        rw [hlt] at hlIM
        rw [hNd' (by rw [hlt]; simp; omega)]
        have hcat : ∀ c ∈ d ++ f ++ List.replicate (4 - f.length) 48, digB c = true := by
         intro c hc
         rw [List.mem_append, List.mem_append] at hc
         rcases hc with (hc | hc) | hc
         ·exact hd c hc
         ·exact hf c hc
         ·rw [(List.mem_replicate.1 hc).2]; decide
        obtain ⟨hcl, hsub4, hs1, hs2, hiM⟩ := ar_cat hJe hMe hM hs h4
        have hrep := fun τ => eq_repeat0 τ (4 - f.length) (rep_le f)
        obtain ⟨n2, ev2, τ9, hat2, hz9, hk9, hav2⟩ := run_atoi τ8 (d ++ f ++ List.replicate (4 - f.length) 48) (by intro e; rw [List.append_eq_nil_iff, List.append_eq_nil_iff] at e; exact h0 e.1.1) hcat hcl
        generalize d ++ f ++ List.replicate (4 - f.length) 48 = D at *
        generalize List.replicate (4 - f.length) (48 : UInt8) = Z at hrep hs2
        have hn9 := hn8.keep hz9 hk9
        have hl9 := hlM _ _ _ _ hn9.rdr
        have htok9 := hn9.tok
        unfold tok4 at htok9
        rcases hav2 with ⟨hv, rfl, rfl⟩ | ⟨hv, rfl, et2, ec2, rfl⟩
        ·obtain ⟨τb, wb, hnb⟩ := hn9.put 2 [.int .i64 (valF D)] (tc' := [.int .i64 4, .str [], .int .i64 (valF D), .int .i64 i]) rfl (by simp [tok4])
         obtain ⟨τa, wa, ga, hra, hoa⟩ := hnb.out rfl
         have htokb := hnb.tok
         simp (maxDischargeDepth := 99) [-writeAt, -Int.natCast_add, w8, h4I, hl8, hlIM, hsub4, hrep, hs1, hs2, hat2, hl9, wb, htokb, wa, ga]
         rw [if_neg (by omega)]
         have he7 := herr.none_
         exact ptk_ok hoa hra rfl (fun e => ⟨(he7.ok.1 e).1, (he7.ok.1 e).2, rfl, hiM, hM⟩) he7.ok.2
        ·have hfl := run_fail hn9.rdr 51 i
         simp (maxDischargeDepth := 99) [-writeAt, -Int.natCast_add, w8, h4I, hl8, hlIM, hsub4, hrep, hs1, hs2, hat2, hl9, htok9]
         refine hfl.mono ?_
         rintro v τc ⟨rfl, hrc, hoc⟩
         have hnc := hn9.step hrc hoc
         have he7 := herr.fail (x := 51) (by decide)
         obtain ⟨τb, wb, hnb⟩ := hnc.put 2 [.int .i64 9223372036854775807] (tc' := [.int .i64 4, .str [], .int .i64 9223372036854775807, .int .i64 i]) rfl (by simp [tok4])
         obtain ⟨τa, wa, ga, hra, hoa⟩ := hnb.out rfl
         have htokb := hnb.tok
         simp (maxDischargeDepth := 99) [-writeAt, wb, htokb, wa, ga]
         rw [if_pos (by omega)]
         exact ptk_ok hoa hra rfl (fun e => by rw [e] at he7; rcases he7 with ⟨h, _⟩ | ⟨x, h, _⟩ <;> (revert e; cases er <;> simp [fst1])) he7.ok.2
     ·rw [hNi hk hdot, ← fst1_assoc]
      have hpre : ((lookF s J 0).toNat : Int) ≠ 46 ∨ (((lookF s J 0).toNat : Int) = 46 ∧ digB (lookF s J 1) = false) := by
       by_cases h : lookF s J 0 = 46
       ·right
        refine ⟨h46.1 h, ?_⟩
        cases hb : digB (lookF s J 1) with
        | true => exact absurd ⟨h, hb⟩ hdot
        | false => rfl
       ·exact .inl (fun e => h (h46.2 e))
      have htok5 := hn5.tok
      unfold tok4 at htok5
      have goOn : ∀ (τ6 : AHeap) (e6 b6 : Int) (er6 : Option Int), NSt τ τ6 p τ.size s J m e6 b6 [.int .i64 3, .str [], .int .i64 0, .int .i64 i] → ErrIs i er6 e6 b6 → ∃ τb τa, writeAt τ6 (τ.size + 1) 2 [.int .i64 9223372036854775807] = some τb ∧ τb.get (τ.size + 1) = some ⟨[.int .i64 3, .str [], .int .i64 9223372036854775807, .int .i64 i], .own⟩ ∧
        writeAt τb τ.size 0 [.int .i64 3, .str [], .int .i64 9223372036854775807, .int .i64 i] = some τa ∧ τa.get τ.size = some ⟨[.int .i64 3, .str [], .int .i64 9223372036854775807, .int .i64 i], .own⟩ ∧ (er6 ≠ none → PTk p m s i (⟨3, [], valF d, i⟩, J, er6) τ (.agg [.int .i64 3, .str [], .int .i64 9223372036854775807, .int .i64 i]) τa) := by
       intro τ6 e6 b6 er6 hn6 he6
       obtain ⟨τb, wb, hnb⟩ := hn6.put 2 [.int .i64 9223372036854775807] (tc' := [.int .i64 3, .str [], .int .i64 9223372036854775807, .int .i64 i]) rfl (by simp)
       obtain ⟨τa, wa, ga, hra, hoa⟩ := hnb.out rfl
       exact ⟨τb, τa, wb, hnb.tok, wa, ga, fun hne => ptk_ok hoa hra rfl (fun e => absurd e hne) he6.ok.2⟩
      rcases hpre with hx | ⟨hx, hy⟩
      ·cases hlt : letB (lookF s J 0) with
       | true =>
        rw [hlt] at hlI5
        have hfl := run_fail hn5.rdr 50 i
        simp (maxDischargeDepth := 99) [-writeAt, -Int.natCast_add, hk, hkI, hkI', hl5, hx, hlI5, htok5]
        refine hfl.mono ?_
        rintro v τ6 ⟨rfl, hr6, ho6⟩
        have hn6 := hn5.step hr6 ho6
        have he6 := herr.fail (x := 50) (by decide)
        have htok6 := hn6.tok
        unfold tok4 at htok6
        have hfl2 := run_fail hn6.rdr 51 i
        simp (maxDischargeDepth := 99) [-writeAt, htok6]
        refine hfl2.mono ?_
        rintro v τ7 ⟨rfl, hr7, ho7⟩
        have hn7 := hn6.step hr7 ho7
        have he7 := he6.fail (x := 51) (by decide)
        obtain ⟨τb, τa, wb, gb, wa, ga, hP⟩ := goOn τ7 _ _ _ hn7 he7
        simp (maxDischargeDepth := 99) [-writeAt, wb, gb, wa, ga]
        rw [if_pos (show mostN < valF d from Nat.lt_of_not_le hov)]
        exact hP (by cases er <;> simp [fst1])
       | false =>
        rw [hlt] at hlI5
        have he6 := herr.none_
        have hfl2 := run_fail hn5.rdr 51 i
        simp (maxDischargeDepth := 99) [-writeAt, -Int.natCast_add, hk, hkI, hkI', hl5, hx, hlI5, htok5]
        refine hfl2.mono ?_
        rintro v τ7 ⟨rfl, hr7, ho7⟩
        have hn7 := hn5.step hr7 ho7
        have he7 := he6.fail (x := 51) (by decide)
        obtain ⟨τb, τa, wb, gb, wa, ga, hP⟩ := goOn τ7 _ _ _ hn7 he7
        simp (maxDischargeDepth := 99) [-writeAt, wb, gb, wa, ga]
        rw [if_pos (show mostN < valF d from Nat.lt_of_not_le hov)]
        exact hP (by cases er <;> simp [fst1])
      ·rw [hy] at hlD5
       have hl46 : letB (lookF s J 0) = false := by rw [h46.2 hx]; rfl
       have hlI46 : ∀ τ, lim LxX 37 [.one (.int .u8 46)] τ = some (.one (.bool false), τ) := fun τ => eq_letter τ 46
       rw [hl46]
       have he6 := herr.none_
       have hfl2 := run_fail hn5.rdr 51 i
       simp (maxDischargeDepth := 99) [-writeAt, -Int.natCast_add, hk, hkI, hkI', hl5, hx, hl51, hlD5, hlI46, htok5]
       refine hfl2.mono ?_
       rintro v τ7 ⟨rfl, hr7, ho7⟩
       have hn7 := hn5.step hr7 ho7
       have he7 := he6.fail (x := 51) (by decide)
       obtain ⟨τb, τa, wb, gb, wa, ga, hP⟩ := goOn τ7 _ _ _ hn7 he7
       simp (maxDischargeDepth := 99) [-writeAt, wb, gb, wa, ga]
       rw [if_pos (show mostN < valF d from Nat.lt_of_not_le hov)]
       exact hP (by cases er <;> simp [fst1])
   ·have hcI : ¬ (c.toNat : Int) = 48 := fun e => hcz (h48.2 e)
    have hn4 := hn3
    have herr : ErrIs i er 0 0 := by rw [hzE, if_neg (fun h => hcz h.2)]; exact .inl ⟨rfl, rfl, rfl⟩
    obtain ⟨e0, he0⟩ : ∃ e : Int, e = 0 := ⟨0, rfl⟩
    obtain ⟨b0, hb0⟩ : ∃ e : Int, e = 0 := ⟨0, rfl⟩
    have hn4 : NSt τ τ3 p τ.size s J m e0 b0 (tok4 3 0 i) := by rw [he0, hb0]; exact hn3
    have herr : ErrIs i er e0 b0 := by rw [he0, hb0]; exact herr
    have hu := run_unit hn4.rdr hsm hJ
    have htok4 := hn4.tok
    unfold tok4 at htok4
    simp (maxDischargeDepth := 99) [-writeAt, hat, hp0, hp1, htok3, hl1x, hget0, hget0', hlen0, hcI]
    refine hu.mono ?_
    rintro v τ5 ⟨rfl, hr5, ho5⟩
    have hn5 := hn4.step hr5 ho5
    clear hu hr5 ho5
    by_cases hk : 0 < (unitF s J).2
    ·obtain ⟨hu1, hu2, hu3⟩ := unit_ok hk
     rw [hNp hk]
     have hule := (unit_le (s := s) (i := J)).2
     generalize (unitF s J).1 = U at hu1 hu2 ⊢
     generalize (unitF s J).2 = K at hk hu3 hule ⊢
     have hkI : (0 : Int) < (K : Int) := by omega
     have hU0 : ¬ (U : Int) = 0 := by omega
     have hU0' : ¬ U = 0 := by omega
     have hwk : wr .i64 ((J : Int) + (K : Int)) = ((J + K : Nat) : Int) := by rw [wr64 (by omega) (by omega)]; omega
     obtain ⟨τ6, w6, hn6⟩ := hn5.move (J + K)
     have hr5 := hn5.rdr
     unfold Rdr rcells at hr5
     have hdI : (1099511627776 : Int) / (U : Int) = ((1099511627776 / U : Nat) : Int) := (Int.natCast_ediv 1099511627776 U).symm
     have hdiv := @ar_div U
     have htok6 := hn6.tok
     unfold tok4 at htok6
     have hfl := run_fail hn6.rdr 51 i
     simp (maxDischargeDepth := 99) [-writeAt, -Int.natCast_add, hk, hkI, hr5, hwk, w6, hU0, hU0', hdiv, htok6]
     refine hfl.mono ?_
     rintro v τ7 ⟨rfl, hr7, ho7⟩
     have hn7 := hn6.step hr7 ho7
     have he7 := herr.fail (x := 51) (by decide)
     obtain ⟨τ8, w8, hn8⟩ := hn7.put 0 [.int .i64 7] (tc' := [.int .i64 7, .str [], .int .i64 0, .int .i64 i]) rfl (by simp [tok4])
     obtain ⟨τ9, w9, hn9⟩ := hn8.put 2 [.int .i64 (wr .i64 (9223372036854775807 * (U : Int)))] (tc' := [.int .i64 7, .str [], .int .i64 (wr .i64 (9223372036854775807 * (U : Int))), .int .i64 i]) rfl (by simp)
     obtain ⟨τa, wa, ga, hra, hoa⟩ := hn9.out rfl
     have htok9 := hn9.tok
     simp (maxDischargeDepth := 99) [-writeAt, w8, w9, htok9, wa, ga]
     rw [if_pos (by left; omega)]
     exact ptk_ok hoa hra rfl (fun e => by rw [e] at he7; rcases he7 with ⟨h, _⟩ | ⟨x, h, _⟩ <;> (revert e; cases er <;> simp [fst1])) he7.ok.2
    ·have hkI : ¬ (0 : Int) < ((unitF s J).2 : Int) := by omega
     have hkI' : (((unitF s J).2 : Nat) : Int) ≤ 0 := by omega
     have hl5 := hlJ _ _ _ _ hn5.rdr
     have hl51 := hlJ1 _ _ _ _ hn5.rdr
     have hlI5 := fun τ => eq_letter τ (lookF s J 0)
     have hlD5 := fun τ => eq_digit τ (lookF s J 1)
     have h46 := u8_eq (c := lookF s J 0) 46 (by decide)
     by_cases hdot : lookF s J 0 = 46 ∧ digB (lookF s J 1) = true
     ·have h46I : ((lookF s J 0).toNat : Int) = 46 := h46.1 hdot.1
      rw [hdot.2] at hlD5
      have hJlt := look_pos hdot.1
      have hwj := wr_next hJlt hsm
      obtain ⟨τ6, w6, hn6⟩ := hn5.move (J + 1)
      have hr5 := hn5.rdr
      unfold Rdr rcells at hr5
      have hwf := run_while (g := 39) (pb := digB) hn6.rdr hsm hJlt eq_digit
      simp (maxDischargeDepth := 99) [-writeAt, -Int.natCast_add, hk, hkI, hkI', hl5, hl51, hlD5, h46I, hr5, hwj, w6]
      refine hwf.mono ?_
      rintro v τ7 ⟨rfl, hr7, ho7⟩
      have hn7 := hn6.step hr7 ho7
      have hf := run_digs (s := s) (i := J + 1)
      have hM := run_le (pb := digB) hJlt
      have hNb' := hNb hk hdot
      have hNd' := hNd hk hdot
      generalize runF digB s (J + 1) = f at *
      have hlM : ∀ τ m e b, Rdr τ p s (J + 1 + f.length) m e b → lim LxX 62 [.one (.ptr p 0), .one (.int .i64 0)] τ = some (.one (.int .u8 (lookF s (J + 1 + f.length) 0).toNat), τ) := fun τ m e b h => eq_look τ p s (J + 1 + f.length) 0 m e b h hsm hM (by omega)
      have hlIM := fun τ => eq_letter τ (lookF s (J + 1 + f.length) 0)
      generalize hMe : J + 1 + f.length = M at *
      obtain ⟨τ8, w8, hn8⟩ := hn7.put 0 [.int .i64 4] (tc' := tok4 4 0 i) rfl (by simp [tok4])
      have hl8 := hlM _ _ _ _ hn8.rdr
      have htok8 := hn8.tok
      unfold tok4 at htok8
      have badp : ∀ (τ9 : AHeap) (hr9 : Rdr τ9 p s M m (if e0 = 0 then 50 else e0) (if e0 = 0 then (i : Int) else b0)) (ho9 : Oth p τ8 τ9), ∃ τa, τ9.get (τ.size + 1) = some ⟨[.int .i64 4, .str [], .int .i64 0, .int .i64 i], .own⟩ ∧ writeAt τ9 τ.size 0 [.int .i64 4, .str [], .int .i64 0, .int .i64 i] = some τa ∧ τa.get τ.size = some ⟨[.int .i64 4, .str [], .int .i64 0, .int .i64 i], .own⟩ ∧
        PTk p m s i (⟨4, [], 0, i⟩, M, fst1 er (some 50)) τ (.agg [.int .i64 4, .str [], .int .i64 0, .int .i64 i]) τa := by
       intro τ9 hr9 ho9
       have hn9 := hn8.step hr9 ho9
       obtain ⟨τa, wa, ga, hra, hoa⟩ := hn9.out rfl
       have he9 := herr.fail (x := 50) (by decide)
       exact ⟨τa, hn9.tok, wa, ga, ptk_ok hoa hra rfl (fun e => by rw [e] at he9; rcases he9 with ⟨h, _⟩ | ⟨x, h, _⟩ <;> (revert e; cases er <;> simp [fst1])) he9.ok.2⟩
      by_cases h4 : 4 < f.length
      ·have h4I : (4 : Int) < (f.length : Int) := by omega
       have hfl := run_fail hn8.rdr 50 i
       simp (maxDischargeDepth := 99) [-writeAt, -Int.natCast_add, w8, h4I, htok8]
       refine hfl.mono ?_
       rintro v τ9 ⟨rfl, hr9, ho9⟩
       obtain ⟨τa, ht9, wa, ga, hP⟩ := badp τ9 hr9 ho9
       simp (maxDischargeDepth := 99) [-writeAt, ht9, wa, ga]
       rw [hNb' (.inl h4)]
       exact hP
      ·have h4I : ¬ (4 : Int) < (f.length : Int) := by omega
       cases hlt : letB (lookF s M 0) with
       | true =>
        rw [hlt] at hlIM
        have hfl := run_fail hn8.rdr 50 i
        simp (maxDischargeDepth := 99) [-writeAt, -Int.natCast_add, w8, h4I, hl8, hlIM, htok8]
        refine hfl.mono ?_
        rintro v τ9 ⟨rfl, hr9, ho9⟩
        obtain ⟨τa, ht9, wa, ga, hP⟩ := badp τ9 hr9 ho9
        simp (maxDischargeDepth := 99) [-writeAt, ht9, wa, ga]
        rw [hNb' (.inr hlt)]
        exact hP
       | false =>
        rw [hlt] at hlIM
        rw [hNd' (by rw [hlt]; simp; omega)]
        have hcat : ∀ c ∈ d ++ f ++ List.replicate (4 - f.length) 48, digB c = true := by
         intro c hc
         rw [List.mem_append, List.mem_append] at hc
         rcases hc with (hc | hc) | hc
         ·exact hd c hc
         ·exact hf c hc
         ·rw [(List.mem_replicate.1 hc).2]; decide
        obtain ⟨hcl, hsub4, hs1, hs2, hiM⟩ := ar_cat hJe hMe hM hs h4
        have hrep := fun τ => eq_repeat0 τ (4 - f.length) (rep_le f)
        obtain ⟨n2, ev2, τ9, hat2, hz9, hk9, hav2⟩ := run_atoi τ8 (d ++ f ++ List.replicate (4 - f.length) 48) (by intro e; rw [List.append_eq_nil_iff, List.append_eq_nil_iff] at e; exact h0 e.1.1) hcat hcl
        generalize d ++ f ++ List.replicate (4 - f.length) 48 = D at *
        generalize List.replicate (4 - f.length) (48 : UInt8) = Z at hrep hs2
        have hn9 := hn8.keep hz9 hk9
        have hl9 := hlM _ _ _ _ hn9.rdr
        have htok9 := hn9.tok
        unfold tok4 at htok9
        rcases hav2 with ⟨hv, rfl, rfl⟩ | ⟨hv, rfl, et2, ec2, rfl⟩
        ·obtain ⟨τb, wb, hnb⟩ := hn9.put 2 [.int .i64 (valF D)] (tc' := [.int .i64 4, .str [], .int .i64 (valF D), .int .i64 i]) rfl (by simp [tok4])
         obtain ⟨τa, wa, ga, hra, hoa⟩ := hnb.out rfl
         have htokb := hnb.tok
         simp (maxDischargeDepth := 99) [-writeAt, -Int.natCast_add, w8, h4I, hl8, hlIM, hsub4, hrep, hs1, hs2, hat2, hl9, wb, htokb, wa, ga]
         rw [if_neg (by omega)]
         have he7 := herr.none_
         exact ptk_ok hoa hra rfl (fun e => ⟨(he7.ok.1 e).1, (he7.ok.1 e).2, rfl, hiM, hM⟩) he7.ok.2
        ·have hfl := run_fail hn9.rdr 51 i
         simp (maxDischargeDepth := 99) [-writeAt, -Int.natCast_add, w8, h4I, hl8, hlIM, hsub4, hrep, hs1, hs2, hat2, hl9, htok9]
         refine hfl.mono ?_
         rintro v τc ⟨rfl, hrc, hoc⟩
         have hnc := hn9.step hrc hoc
         have he7 := herr.fail (x := 51) (by decide)
         obtain ⟨τb, wb, hnb⟩ := hnc.put 2 [.int .i64 9223372036854775807] (tc' := [.int .i64 4, .str [], .int .i64 9223372036854775807, .int .i64 i]) rfl (by simp [tok4])
         obtain ⟨τa, wa, ga, hra, hoa⟩ := hnb.out rfl
         have htokb := hnb.tok
         simp (maxDischargeDepth := 99) [-writeAt, wb, htokb, wa, ga]
         rw [if_pos (by omega)]
         exact ptk_ok hoa hra rfl (fun e => by rw [e] at he7; rcases he7 with ⟨h, _⟩ | ⟨x, h, _⟩ <;> (revert e; cases er <;> simp [fst1])) he7.ok.2
     ·rw [hNi hk hdot, ← fst1_assoc]
      have hpre : ((lookF s J 0).toNat : Int) ≠ 46 ∨ (((lookF s J 0).toNat : Int) = 46 ∧ digB (lookF s J 1) = false) := by
       by_cases h : lookF s J 0 = 46
       ·right
        refine ⟨h46.1 h, ?_⟩
        cases hb : digB (lookF s J 1) with
        | true => exact absurd ⟨h, hb⟩ hdot
        | false => rfl
       ·exact .inl (fun e => h (h46.2 e))
      have htok5 := hn5.tok
      unfold tok4 at htok5
      have goOn : ∀ (τ6 : AHeap) (e6 b6 : Int) (er6 : Option Int), NSt τ τ6 p τ.size s J m e6 b6 [.int .i64 3, .str [], .int .i64 0, .int .i64 i] → ErrIs i er6 e6 b6 → ∃ τb τa, writeAt τ6 (τ.size + 1) 2 [.int .i64 9223372036854775807] = some τb ∧ τb.get (τ.size + 1) = some ⟨[.int .i64 3, .str [], .int .i64 9223372036854775807, .int .i64 i], .own⟩ ∧
        writeAt τb τ.size 0 [.int .i64 3, .str [], .int .i64 9223372036854775807, .int .i64 i] = some τa ∧ τa.get τ.size = some ⟨[.int .i64 3, .str [], .int .i64 9223372036854775807, .int .i64 i], .own⟩ ∧ (er6 ≠ none → PTk p m s i (⟨3, [], valF d, i⟩, J, er6) τ (.agg [.int .i64 3, .str [], .int .i64 9223372036854775807, .int .i64 i]) τa) := by
       intro τ6 e6 b6 er6 hn6 he6
       obtain ⟨τb, wb, hnb⟩ := hn6.put 2 [.int .i64 9223372036854775807] (tc' := [.int .i64 3, .str [], .int .i64 9223372036854775807, .int .i64 i]) rfl (by simp)
       obtain ⟨τa, wa, ga, hra, hoa⟩ := hnb.out rfl
       exact ⟨τb, τa, wb, hnb.tok, wa, ga, fun hne => ptk_ok hoa hra rfl (fun e => absurd e hne) he6.ok.2⟩
      rcases hpre with hx | ⟨hx, hy⟩
      ·cases hlt : letB (lookF s J 0) with
       | true =>
        rw [hlt] at hlI5
        have hfl := run_fail hn5.rdr 50 i
        simp (maxDischargeDepth := 99) [-writeAt, -Int.natCast_add, hk, hkI, hkI', hl5, hx, hlI5, htok5]
        refine hfl.mono ?_
        rintro v τ6 ⟨rfl, hr6, ho6⟩
        have hn6 := hn5.step hr6 ho6
        have he6 := herr.fail (x := 50) (by decide)
        have htok6 := hn6.tok
        unfold tok4 at htok6
        have hfl2 := run_fail hn6.rdr 51 i
        simp (maxDischargeDepth := 99) [-writeAt, htok6]
        refine hfl2.mono ?_
        rintro v τ7 ⟨rfl, hr7, ho7⟩
        have hn7 := hn6.step hr7 ho7
        have he7 := he6.fail (x := 51) (by decide)
        obtain ⟨τb, τa, wb, gb, wa, ga, hP⟩ := goOn τ7 _ _ _ hn7 he7
        simp (maxDischargeDepth := 99) [-writeAt, wb, gb, wa, ga]
        rw [if_pos (show mostN < valF d from Nat.lt_of_not_le hov)]
        exact hP (by cases er <;> simp [fst1])
       | false =>
        rw [hlt] at hlI5
        have he6 := herr.none_
        have hfl2 := run_fail hn5.rdr 51 i
        simp (maxDischargeDepth := 99) [-writeAt, -Int.natCast_add, hk, hkI, hkI', hl5, hx, hlI5, htok5]
        refine hfl2.mono ?_
        rintro v τ7 ⟨rfl, hr7, ho7⟩
        have hn7 := hn5.step hr7 ho7
        have he7 := he6.fail (x := 51) (by decide)
        obtain ⟨τb, τa, wb, gb, wa, ga, hP⟩ := goOn τ7 _ _ _ hn7 he7
        simp (maxDischargeDepth := 99) [-writeAt, wb, gb, wa, ga]
        rw [if_pos (show mostN < valF d from Nat.lt_of_not_le hov)]
        exact hP (by cases er <;> simp [fst1])
      ·rw [hy] at hlD5
       have hl46 : letB (lookF s J 0) = false := by rw [h46.2 hx]; rfl
       have hlI46 : ∀ τ, lim LxX 37 [.one (.int .u8 46)] τ = some (.one (.bool false), τ) := fun τ => eq_letter τ 46
       rw [hl46]
       have he6 := herr.none_
       have hfl2 := run_fail hn5.rdr 51 i
       simp (maxDischargeDepth := 99) [-writeAt, -Int.natCast_add, hk, hkI, hkI', hl5, hx, hl51, hlD5, hlI46, htok5]
       refine hfl2.mono ?_
       rintro v τ7 ⟨rfl, hr7, ho7⟩
       have hn7 := hn5.step hr7 ho7
       have he7 := he6.fail (x := 51) (by decide)
       obtain ⟨τb, τa, wb, gb, wa, ga, hP⟩ := goOn τ7 _ _ _ hn7 he7
       simp (maxDischargeDepth := 99) [-writeAt, wb, gb, wa, ga]
       rw [if_pos (show mostN < valF d from Nat.lt_of_not_le hov)]
       exact hP (by cases er <;> simp [fst1])
  ·have hl1x : ¬ (1 : Int) < (d.length : Int) := by omega
   have herr : ErrIs i er 0 0 := by rw [hzE, if_neg (fun h => hl1 h.1)]; exact .inl ⟨rfl, rfl, rfl⟩
   obtain ⟨e0, he0⟩ : ∃ e : Int, e = 0 := ⟨0, rfl⟩
   obtain ⟨b0, hb0⟩ : ∃ e : Int, e = 0 := ⟨0, rfl⟩
   have hn4 : NSt τ τ3 p τ.size s J m e0 b0 (tok4 3 0 i) := by rw [he0, hb0]; exact hn3
   have herr : ErrIs i er e0 b0 := by rw [he0, hb0]; exact herr
   have hu := run_unit hn4.rdr hsm hJ
   have htok4 := hn4.tok
   unfold tok4 at htok4
   simp (maxDischargeDepth := 99) [-writeAt, hat, hp0, hp1, htok3, hl1x]
   refine hu.mono ?_
   rintro v τ5 ⟨rfl, hr5, ho5⟩
   have hn5 := hn4.step hr5 ho5
   clear hu hr5 ho5
   by_cases hk : 0 < (unitF s J).2
   ·obtain ⟨hu1, hu2, hu3⟩ := unit_ok hk
    rw [hNp hk]
    have hule := (unit_le (s := s) (i := J)).2
    generalize (unitF s J).1 = U at hu1 hu2 ⊢
    generalize (unitF s J).2 = K at hk hu3 hule ⊢
    have hkI : (0 : Int) < (K : Int) := by omega
    have hU0 : ¬ (U : Int) = 0 := by omega
    have hU0' : ¬ U = 0 := by omega
    have hwk : wr .i64 ((J : Int) + (K : Int)) = ((J + K : Nat) : Int) := by rw [wr64 (by omega) (by omega)]; omega
    obtain ⟨τ6, w6, hn6⟩ := hn5.move (J + K)
    have hr5 := hn5.rdr
    unfold Rdr rcells at hr5
    have hdI : (1099511627776 : Int) / (U : Int) = ((1099511627776 / U : Nat) : Int) := (Int.natCast_ediv 1099511627776 U).symm
    have hdiv := @ar_div U
    have htok6 := hn6.tok
    unfold tok4 at htok6
    have hfl := run_fail hn6.rdr 51 i
    simp (maxDischargeDepth := 99) [-writeAt, -Int.natCast_add, hk, hkI, hr5, hwk, w6, hU0, hU0', hdiv, htok6]
    refine hfl.mono ?_
    rintro v τ7 ⟨rfl, hr7, ho7⟩
    have hn7 := hn6.step hr7 ho7
    have he7 := herr.fail (x := 51) (by decide)
    obtain ⟨τ8, w8, hn8⟩ := hn7.put 0 [.int .i64 7] (tc' := [.int .i64 7, .str [], .int .i64 0, .int .i64 i]) rfl (by simp [tok4])
    obtain ⟨τ9, w9, hn9⟩ := hn8.put 2 [.int .i64 (wr .i64 (9223372036854775807 * (U : Int)))] (tc' := [.int .i64 7, .str [], .int .i64 (wr .i64 (9223372036854775807 * (U : Int))), .int .i64 i]) rfl (by simp)
    obtain ⟨τa, wa, ga, hra, hoa⟩ := hn9.out rfl
    have htok9 := hn9.tok
    simp (maxDischargeDepth := 99) [-writeAt, w8, w9, htok9, wa, ga]
    rw [if_pos (by left; omega)]
    exact ptk_ok hoa hra rfl (fun e => by rw [e] at he7; rcases he7 with ⟨h, _⟩ | ⟨x, h, _⟩ <;> (revert e; cases er <;> simp [fst1])) he7.ok.2
   ·have hkI : ¬ (0 : Int) < ((unitF s J).2 : Int) := by omega
    have hkI' : (((unitF s J).2 : Nat) : Int) ≤ 0 := by omega
    have hl5 := hlJ _ _ _ _ hn5.rdr
    have hl51 := hlJ1 _ _ _ _ hn5.rdr
    have hlI5 := fun τ => eq_letter τ (lookF s J 0)
    have hlD5 := fun τ => eq_digit τ (lookF s J 1)
    have h46 := u8_eq (c := lookF s J 0) 46 (by decide)
    by_cases hdot : lookF s J 0 = 46 ∧ digB (lookF s J 1) = true
    ·have h46I : ((lookF s J 0).toNat : Int) = 46 := h46.1 hdot.1
     rw [hdot.2] at hlD5
     have hJlt := look_pos hdot.1
     have hwj := wr_next hJlt hsm
     obtain ⟨τ6, w6, hn6⟩ := hn5.move (J + 1)
     have hr5 := hn5.rdr
     unfold Rdr rcells at hr5
     have hwf := run_while (g := 39) (pb := digB) hn6.rdr hsm hJlt eq_digit
     simp (maxDischargeDepth := 99) [-writeAt, -Int.natCast_add, hk, hkI, hkI', hl5, hl51, hlD5, h46I, hr5, hwj, w6]
     refine hwf.mono ?_
     rintro v τ7 ⟨rfl, hr7, ho7⟩
     have hn7 := hn6.step hr7 ho7
     have hf := run_digs (s := s) (i := J + 1)
     have hM := run_le (pb := digB) hJlt
     have hNb' := hNb hk hdot
     have hNd' := hNd hk hdot
     generalize runF digB s (J + 1) = f at *
     have hlM : ∀ τ m e b, Rdr τ p s (J + 1 + f.length) m e b → lim LxX 62 [.one (.ptr p 0), .one (.int .i64 0)] τ = some (.one (.int .u8 (lookF s (J + 1 + f.length) 0).toNat), τ) := fun τ m e b h => eq_look τ p s (J + 1 + f.length) 0 m e b h hsm hM (by omega)
     have hlIM := fun τ => eq_letter τ (lookF s (J + 1 + f.length) 0)
     generalize hMe : J + 1 + f.length = M at *
     obtain ⟨τ8, w8, hn8⟩ := hn7.put 0 [.int .i64 4] (tc' := tok4 4 0 i) rfl (by simp [tok4])
     have hl8 := hlM _ _ _ _ hn8.rdr
     have htok8 := hn8.tok
     unfold tok4 at htok8
     have badp : ∀ (τ9 : AHeap) (hr9 : Rdr τ9 p s M m (if e0 = 0 then 50 else e0) (if e0 = 0 then (i : Int) else b0)) (ho9 : Oth p τ8 τ9), ∃ τa, τ9.get (τ.size + 1) = some ⟨[.int .i64 4, .str [], .int .i64 0, .int .i64 i], .own⟩ ∧ writeAt τ9 τ.size 0 [.int .i64 4, .str [], .int .i64 0, .int .i64 i] = some τa ∧ τa.get τ.size = some ⟨[.int .i64 4, .str [], .int .i64 0, .int .i64 i], .own⟩ ∧
       PTk p m s i (⟨4, [], 0, i⟩, M, fst1 er (some 50)) τ (.agg [.int .i64 4, .str [], .int .i64 0, .int .i64 i]) τa := by
      intro τ9 hr9 ho9
      have hn9 := hn8.step hr9 ho9
      obtain ⟨τa, wa, ga, hra, hoa⟩ := hn9.out rfl
      have he9 := herr.fail (x := 50) (by decide)
      exact ⟨τa, hn9.tok, wa, ga, ptk_ok hoa hra rfl (fun e => by rw [e] at he9; rcases he9 with ⟨h, _⟩ | ⟨x, h, _⟩ <;> (revert e; cases er <;> simp [fst1])) he9.ok.2⟩
     by_cases h4 : 4 < f.length
     ·have h4I : (4 : Int) < (f.length : Int) := by omega
      have hfl := run_fail hn8.rdr 50 i
      simp (maxDischargeDepth := 99) [-writeAt, -Int.natCast_add, w8, h4I, htok8]
      refine hfl.mono ?_
      rintro v τ9 ⟨rfl, hr9, ho9⟩
      obtain ⟨τa, ht9, wa, ga, hP⟩ := badp τ9 hr9 ho9
      simp (maxDischargeDepth := 99) [-writeAt, ht9, wa, ga]
      rw [hNb' (.inl h4)]
      exact hP
     ·have h4I : ¬ (4 : Int) < (f.length : Int) := by omega
      cases hlt : letB (lookF s M 0) with
      | true =>
       rw [hlt] at hlIM
       have hfl := run_fail hn8.rdr 50 i
       simp (maxDischargeDepth := 99) [-writeAt, -Int.natCast_add, w8, h4I, hl8, hlIM, htok8]
       refine hfl.mono ?_
       rintro v τ9 ⟨rfl, hr9, ho9⟩
       obtain ⟨τa, ht9, wa, ga, hP⟩ := badp τ9 hr9 ho9
       simp (maxDischargeDepth := 99) [-writeAt, ht9, wa, ga]
       rw [hNb' (.inr hlt)]
       exact hP
      | false =>
       rw [hlt] at hlIM
       rw [hNd' (by rw [hlt]; simp; omega)]
       have hcat : ∀ c ∈ d ++ f ++ List.replicate (4 - f.length) 48, digB c = true := by
        intro c hc
        rw [List.mem_append, List.mem_append] at hc
        rcases hc with (hc | hc) | hc
        ·exact hd c hc
        ·exact hf c hc
        ·rw [(List.mem_replicate.1 hc).2]; decide
       obtain ⟨hcl, hsub4, hs1, hs2, hiM⟩ := ar_cat hJe hMe hM hs h4
       have hrep := fun τ => eq_repeat0 τ (4 - f.length) (rep_le f)
       obtain ⟨n2, ev2, τ9, hat2, hz9, hk9, hav2⟩ := run_atoi τ8 (d ++ f ++ List.replicate (4 - f.length) 48) (by intro e; rw [List.append_eq_nil_iff, List.append_eq_nil_iff] at e; exact h0 e.1.1) hcat hcl
       generalize d ++ f ++ List.replicate (4 - f.length) 48 = D at *
       generalize List.replicate (4 - f.length) (48 : UInt8) = Z at hrep hs2
       have hn9 := hn8.keep hz9 hk9
       have hl9 := hlM _ _ _ _ hn9.rdr
       have htok9 := hn9.tok
       unfold tok4 at htok9
       rcases hav2 with ⟨hv, rfl, rfl⟩ | ⟨hv, rfl, et2, ec2, rfl⟩
       ·obtain ⟨τb, wb, hnb⟩ := hn9.put 2 [.int .i64 (valF D)] (tc' := [.int .i64 4, .str [], .int .i64 (valF D), .int .i64 i]) rfl (by simp [tok4])
        obtain ⟨τa, wa, ga, hra, hoa⟩ := hnb.out rfl
        have htokb := hnb.tok
        simp (maxDischargeDepth := 99) [-writeAt, -Int.natCast_add, w8, h4I, hl8, hlIM, hsub4, hrep, hs1, hs2, hat2, hl9, wb, htokb, wa, ga]
        rw [if_neg (by omega)]
        have he7 := herr.none_
        exact ptk_ok hoa hra rfl (fun e => ⟨(he7.ok.1 e).1, (he7.ok.1 e).2, rfl, hiM, hM⟩) he7.ok.2
       ·have hfl := run_fail hn9.rdr 51 i
        simp (maxDischargeDepth := 99) [-writeAt, -Int.natCast_add, w8, h4I, hl8, hlIM, hsub4, hrep, hs1, hs2, hat2, hl9, htok9]
        refine hfl.mono ?_
        rintro v τc ⟨rfl, hrc, hoc⟩
        have hnc := hn9.step hrc hoc
        have he7 := herr.fail (x := 51) (by decide)
        obtain ⟨τb, wb, hnb⟩ := hnc.put 2 [.int .i64 9223372036854775807] (tc' := [.int .i64 4, .str [], .int .i64 9223372036854775807, .int .i64 i]) rfl (by simp [tok4])
        obtain ⟨τa, wa, ga, hra, hoa⟩ := hnb.out rfl
        have htokb := hnb.tok
        simp (maxDischargeDepth := 99) [-writeAt, wb, htokb, wa, ga]
        rw [if_pos (by omega)]
        exact ptk_ok hoa hra rfl (fun e => by rw [e] at he7; rcases he7 with ⟨h, _⟩ | ⟨x, h, _⟩ <;> (revert e; cases er <;> simp [fst1])) he7.ok.2
    ·rw [hNi hk hdot, ← fst1_assoc]
     have hpre : ((lookF s J 0).toNat : Int) ≠ 46 ∨ (((lookF s J 0).toNat : Int) = 46 ∧ digB (lookF s J 1) = false) := by
      by_cases h : lookF s J 0 = 46
      ·right
       refine ⟨h46.1 h, ?_⟩
       cases hb : digB (lookF s J 1) with
       | true => exact absurd ⟨h, hb⟩ hdot
       | false => rfl
      ·exact .inl (fun e => h (h46.2 e))
     have htok5 := hn5.tok
     unfold tok4 at htok5
     have goOn : ∀ (τ6 : AHeap) (e6 b6 : Int) (er6 : Option Int), NSt τ τ6 p τ.size s J m e6 b6 [.int .i64 3, .str [], .int .i64 0, .int .i64 i] → ErrIs i er6 e6 b6 → ∃ τb τa, writeAt τ6 (τ.size + 1) 2 [.int .i64 9223372036854775807] = some τb ∧ τb.get (τ.size + 1) = some ⟨[.int .i64 3, .str [], .int .i64 9223372036854775807, .int .i64 i], .own⟩ ∧
       writeAt τb τ.size 0 [.int .i64 3, .str [], .int .i64 9223372036854775807, .int .i64 i] = some τa ∧ τa.get τ.size = some ⟨[.int .i64 3, .str [], .int .i64 9223372036854775807, .int .i64 i], .own⟩ ∧ (er6 ≠ none → PTk p m s i (⟨3, [], valF d, i⟩, J, er6) τ (.agg [.int .i64 3, .str [], .int .i64 9223372036854775807, .int .i64 i]) τa) := by
      intro τ6 e6 b6 er6 hn6 he6
      obtain ⟨τb, wb, hnb⟩ := hn6.put 2 [.int .i64 9223372036854775807] (tc' := [.int .i64 3, .str [], .int .i64 9223372036854775807, .int .i64 i]) rfl (by simp)
      obtain ⟨τa, wa, ga, hra, hoa⟩ := hnb.out rfl
      exact ⟨τb, τa, wb, hnb.tok, wa, ga, fun hne => ptk_ok hoa hra rfl (fun e => absurd e hne) he6.ok.2⟩
     rcases hpre with hx | ⟨hx, hy⟩
     ·cases hlt : letB (lookF s J 0) with
      | true =>
       rw [hlt] at hlI5
       have hfl := run_fail hn5.rdr 50 i
       simp (maxDischargeDepth := 99) [-writeAt, -Int.natCast_add, hk, hkI, hkI', hl5, hx, hlI5, htok5]
       refine hfl.mono ?_
       rintro v τ6 ⟨rfl, hr6, ho6⟩
       have hn6 := hn5.step hr6 ho6
       have he6 := herr.fail (x := 50) (by decide)
       have htok6 := hn6.tok
       unfold tok4 at htok6
       have hfl2 := run_fail hn6.rdr 51 i
       simp (maxDischargeDepth := 99) [-writeAt, htok6]
       refine hfl2.mono ?_
       rintro v τ7 ⟨rfl, hr7, ho7⟩
       have hn7 := hn6.step hr7 ho7
       have he7 := he6.fail (x := 51) (by decide)
       obtain ⟨τb, τa, wb, gb, wa, ga, hP⟩ := goOn τ7 _ _ _ hn7 he7
       simp (maxDischargeDepth := 99) [-writeAt, wb, gb, wa, ga]
       rw [if_pos (show mostN < valF d from Nat.lt_of_not_le hov)]
       exact hP (by cases er <;> simp [fst1])
      | false =>
       rw [hlt] at hlI5
       have he6 := herr.none_
       have hfl2 := run_fail hn5.rdr 51 i
       simp (maxDischargeDepth := 99) [-writeAt, -Int.natCast_add, hk, hkI, hkI', hl5, hx, hlI5, htok5]
       refine hfl2.mono ?_
       rintro v τ7 ⟨rfl, hr7, ho7⟩
       have hn7 := hn5.step hr7 ho7
       have he7 := he6.fail (x := 51) (by decide)
       obtain ⟨τb, τa, wb, gb, wa, ga, hP⟩ := goOn τ7 _ _ _ hn7 he7
       simp (maxDischargeDepth := 99) [-writeAt, wb, gb, wa, ga]
       rw [if_pos (show mostN < valF d from Nat.lt_of_not_le hov)]
       exact hP (by cases er <;> simp [fst1])
     ·rw [hy] at hlD5
      have hl46 : letB (lookF s J 0) = false := by rw [h46.2 hx]; rfl
      have hlI46 : ∀ τ, lim LxX 37 [.one (.int .u8 46)] τ = some (.one (.bool false), τ) := fun τ => eq_letter τ 46
      rw [hl46]
      have he6 := herr.none_
      have hfl2 := run_fail hn5.rdr 51 i
      simp (maxDischargeDepth := 99) [-writeAt, -Int.natCast_add, hk, hkI, hkI', hl5, hx, hl51, hlD5, hlI46, htok5]
      refine hfl2.mono ?_
      rintro v τ7 ⟨rfl, hr7, ho7⟩
      have hn7 := hn5.step hr7 ho7
      have he7 := he6.fail (x := 51) (by decide)
      obtain ⟨τb, τa, wb, gb, wa, ga, hP⟩ := goOn τ7 _ _ _ hn7 he7
      simp (maxDischargeDepth := 99) [-writeAt, wb, gb, wa, ga]
      rw [if_pos (show mostN < valF d from Nat.lt_of_not_le hov)]
      exact hP (by cases er <;> simp [fst1])
end Go.Proofs.YtepankcnleeakaaGreatDoor.Ab
namespace Go.Proofs.YtepankcnleeakaaGreatDoor.Ab
open Go
set_option maxRecDepth 20000
set_option maxHeartbeats 16000000
set_option linter.unusedSimpArgs false
theorem eq_idx (τ : AHeap) (s : List UInt8) : lim LxX 64 [.one (.str s), .one (.int .u8 39)] τ = some (.one (.int .i64 (Lib.indexByte s 39)), τ) := by
 refine eqP (lim_code rfl ((LxX_code _).trans codeLIndexByte) rfl ?_)
 unfold BodyP
 have h : ∀ τ, lim LxX 85 [.one (.str s), .one (.int .u8 39)] τ = some (.one (.int .i64 (Lib.indexByte s 39)), τ) := fun τ => (lim_prim (p := pIdxB) rfl).trans rfl
 simp (maxDischargeDepth := 99) [cLIndexByte, h]
theorem eq_valid (τ : AHeap) (s : List UInt8) (h : s.length ≤ 1099511627776) : lim LxX 66 [.one (.str s)] τ = some (.one (.bool (Lib.validD s)), τ) := by
 refine (lim_prim (p := pValid) rfl).trans ?_
 have hb : Nat.ble s.length 1099511627776 = true := Nat.ble_eq_true_of_le h
 simp only [pValid, hb]
theorem body_none {s : List UInt8} : ∀ (f i : Nat) (out : List UInt8), (∀ k, i ≤ k → s[k]? ≠ some 39) → bodyF s f i out = none
 | 0, _, _, _ => rfl
 | f + 1, i, out, h => by
  rw [bodyF]
  cases hc : s[i]? with
  | none => rfl
  | some c =>
   have : ¬ c = 39 := fun e => h i (Nat.le_refl _) (by rw [hc, e])
   simp only
   rw [if_neg this]
   exact body_none f (i + 1) _ (fun k hk => h k (by omega))
theorem body_skip {s : List UInt8} : ∀ (d f i : Nat) (out : List UInt8), (∀ k, k < d → s[i + k]? ≠ some 39) → i + d ≤ s.length → bodyF s (f + d) i out = bodyF s f (i + d) (out ++ (s.drop i).take d)
 | 0, f, i, out, _, _ => by simp
 | d + 1, f, i, out, h, hl => by
  have hlt : i < s.length := by omega
  rw [show f + (d + 1) = (f + d) + 1 by omega, bodyF, List.getElem?_eq_getElem hlt]
  have : ¬ s[i] = 39 := fun e => h 0 (by omega) (by rw [Nat.add_zero, List.getElem?_eq_getElem hlt, e])
  simp only
  rw [if_neg this, body_skip d f (i + 1) _ (fun k hk => by rw [show i + 1 + k = i + (k + 1) by omega]; exact h (k + 1) (by omega)) (by omega)]
  rw [show i + 1 + d = i + (d + 1) by omega, List.append_assoc, List.drop_eq_getElem_cons hlt, List.take_succ_cons]
  rfl
def ITx (p z b : Nat) (s : List UInt8) (i : Nat) (m : SV) (τ0 : AHeap) (k : Nat) (fr : List AV) (τ : AHeap) : Prop :=
 ∃ kk f out, k = s.length + 1 - kk ∧ i < kk ∧ kk ≤ s.length ∧ s.length - kk < f ∧ bodyF s f kk out = bodyF s (s.length + 1) (i + 1) [] ∧ out.length ≤ kk ∧ fr.length = 88 ∧ getSlot fr 0 = .one (.ptr p 0) ∧ getSlot fr 2 = .one (.ptr z 0) ∧
  getSlot fr 3 = .one (.ptr (z + 1) 0) ∧ getSlot fr 4 = .one (.ptr b 0) ∧ NSt τ0 τ p z s kk m 0 0 (tok4 5 0 i) ∧ Bld (b + 1) b τ out ∧ z + 2 ≤ b ∧ b + 1 ≤ τ.size
def FTx (p z b : Nat) (s : List UInt8) (i : Nat) (m : SV) (τ0 : AHeap) (fr : List AV) (τ : AHeap) : Prop :=
 ∃ kk out, i < kk ∧ kk ≤ s.length ∧ bodyF s (s.length + 1) (i + 1) [] = some (out, kk) ∧ out.length ≤ kk ∧ fr.length = 88 ∧ getSlot fr 0 = .one (.ptr p 0) ∧ getSlot fr 2 = .one (.ptr z 0) ∧
  getSlot fr 3 = .one (.ptr (z + 1) 0) ∧ getSlot fr 4 = .one (.ptr b 0) ∧ NSt τ0 τ p z s kk m 0 0 (tok4 5 0 i) ∧ Bld (b + 1) b τ out ∧ z + 2 ≤ b ∧ b + 1 ≤ τ.size
def RTx (p z : Nat) (s : List UInt8) (i : Nat) (m : SV) (τ0 : AHeap) (fr : List AV) (τ : AHeap) : Prop :=
 ∃ tc, fr.length = 88 ∧ getSlot fr 2 = .one (.ptr z 0) ∧ τ.get z = some ⟨tc, .own⟩ ∧ tc.length = 4 ∧ PTk p m s i (textF s i) τ0 (.agg tc) τ
theorem NSt.bld {τ0 τ τ' : AHeap} {p z b : Nat} {s : List UInt8} {k : Nat} {m : SV} {e e' : Int} {tc : List SV} (h : NSt τ0 τ p z s k m e e' tc) (hb : z + 2 ≤ b) (hsz : b + 1 ≤ τ.size) (h1 : τ.size ≤ τ'.size)
  (h2 : ∀ i, i < b + 1 → i ≠ b → i < τ.size → τ'.get i = τ.get i) : NSt τ0 τ' p z s k m e e' tc := by
 have hp := h.pz
 have hz := h.z0
 refine ⟨?_, by rw [h2 z (by omega) (by omega) (by omega)]; exact h.ans, by rw [h2 (z + 1) (by omega) (by omega) (by omega)]; exact h.tok, ⟨by have := h.oth.1; omega, fun id q1 q2 => by rw [h2 id (by omega) (by omega) (by omega)]; exact h.oth.2 id q1 q2⟩, by omega, hz, hp⟩
 unfold Rdr
 rw [h2 p (by omega) (by omega) (by omega)]
 exact h.rdr
theorem ar_text {L kk d f i ol xl : Nat} (hs : L ≤ 67108864) (hik : i < kk) (hlt : kk + d < L) (hf : L - kk < f + 1 + d) (hol : ol ≤ kk) (hxl : xl = d) :
  wr .i64 ((kk : Int) + (d : Int)) = ((kk + d : Nat) : Int) ∧ wr .i64 ((d : Int) + 1) = ((d + 1 : Nat) : Int) ∧ wr .i64 ((kk : Int) + ((d + 1 : Nat) : Int)) = ((kk + d + 1 : Nat) : Int) ∧
   ol + xl ≤ 1099511627776 ∧ ol + xl + 1 ≤ 1099511627776 ∧ L + 1 - (kk + d + 1 + 1) < L + 1 - kk ∧ i < kk + d + 1 + 1 ∧ L - (kk + d + 1 + 1) < f ∧ ol + xl + 1 ≤ kk + d + 1 + 1 ∧ i < kk + d + 1 ∧ ol + xl ≤ kk + d + 1 ∧
   ¬ (d : Int) < 0 ∧ kk + d - kk = d := by
 subst hxl
 refine ⟨?_, ?_, ?_, by omega, by omega, by omega, by omega, by omega, by omega, by omega, by omega, by omega, by omega⟩
 ·rw [wr64 (by omega) (by omega)]; omega
 ·rw [wr64 (by omega) (by omega)]; omega
 ·rw [wr64 (by omega) (by omega)]; omega
theorem ar_pb {p z b : Nat} (h1 : p < z) (h2 : z + 2 ≤ b) : p < b ∧ b ≠ p ∧ ∀ i, b + 1 ≤ i → i ≠ p := ⟨by omega, by omega, fun i h => by omega⟩
theorem ar_f {L kk d f : Nat} (h1 : L - kk < f) (h2 : kk + d < L) : ∃ f', f = f' + 1 + d := ⟨f - 1 - d, by omega⟩
theorem move_oth {τ τ' : AHeap} {p : Nat} {s : List UInt8} {i x : Nat} {m : SV} {e b : Int} (h : Rdr τ p s i m e b) (w : writeAt τ p 1 [.int .i64 x] = some τ') : Oth p τ τ' := by
 obtain ⟨τ2, w2, _, ho⟩ := h.wAt x
 rw [w] at w2
 cases w2
 exact ho
theorem step_text {p z b : Nat} {s : List UInt8} {i : Nat} {m : SV} {τ0 : AHeap} (hs : s.length ≤ 67108864) {k : Nat} {fr : List AV} {τ : AHeap} (hI : ITx p z b s i m τ0 k fr τ) (E : KE) (R : KN)
  (hE : ∀ fr τ, FTx p z b s i m τ0 fr τ → E 0 .go fr τ) (hR : ∀ fr τ, RTx p z s i m τ0 fr τ → R .go fr τ) :
  EndsI .go (lim LxX) cLText_0 fr τ (fun _ fr τ => ∃ k', k' < k ∧ ITx p z b s i m τ0 k' fr τ) E R := by
 obtain ⟨kk, f, out, rfl, hik, hks, hf, hB, hol, hlen, f0, f2, f3, f4, hn, hb, hzb, hbs⟩ := hI
 have hsm : s.length ≤ maxElems := by unfold maxElems; omega
 have hr := hn.rdr
 unfold Rdr rcells at hr
 have htok := hn.tok
 unfold tok4 at htok
 have hsub : (s.drop kk).take (s.length - kk) = s.drop kk := List.take_of_length_le (by simp)
 have hksI : (kk : Int) ≤ (s.length : Int) := Int.ofNat_le.2 hks
 have hidx := fun τ => eq_idx τ (s.drop kk)
 have hge := Lib.indexByte_ge (s.drop kk) 39
 by_cases hneg : Lib.indexByte (s.drop kk) 39 < 0
 ·have hm1 : Lib.indexByte (s.drop kk) 39 = -1 := by omega
  have hnone := Lib.indexByte_none hm1
  have hbn : bodyF s (s.length + 1) (i + 1) [] = none := by
   rw [← hB]
   refine body_none _ _ _ (fun k hk => ?_)
   have := hnone (k - kk)
   rw [List.getElem?_drop, show kk + (k - kk) = k by omega] at this
   exact this
  rw [hm1] at hidx
  have hfl := run_fail hn.rdr 52 i
  simp (maxDischargeDepth := 99) [-writeAt, -Int.natCast_add, cLText_0, hlen, f0, f2, f3, f4, hr, hksI, hks, hsub, hidx, htok]
  refine hfl.mono ?_
  rintro v τ1 ⟨rfl, hr1, ho1⟩
  have hn1 := hn.step hr1 ho1
  obtain ⟨τa, wa, ga, hra, hoa⟩ := hn1.out rfl
  have htok1 := hn1.tok
  unfold tok4 at htok1 wa ga
  simp (maxDischargeDepth := 99) [-writeAt, hlen, f2, f3, htok1, wa]
  have hT : textF s i = (⟨5, [], 0, i⟩, i, some 52) := by unfold textF; rw [hbn]
  have hP : PTk p m s i (textF s i) τ0 (.agg [.int .i64 5, .str [], .int .i64 0, .int .i64 i]) τa := by
   rw [hT]
   exact ⟨hoa, _, kk, rfl, rfl, hra, by decide⟩
  refine hR _ _ ?_
  refine ⟨_, ?_, ?_, ga, rfl, hP⟩
  ·simp [hlen]
  ·simp [hlen, f2]
 ·obtain ⟨d, hd⟩ : ∃ d : Nat, Lib.indexByte (s.drop kk) 39 = (d : Int) := ⟨(Lib.indexByte (s.drop kk) 39).toNat, by omega⟩
  obtain ⟨hq, hbefore⟩ := Lib.indexByte_some hd
  rw [hd] at hidx
  rw [List.getElem?_drop] at hq
  have hlt : kk + d < s.length := (List.getElem?_eq_some_iff.1 hq).1
  have hbefore' : ∀ k, k < d → s[kk + k]? ≠ some 39 := fun k hk => by have := hbefore k hk; rw [List.getElem?_drop] at this; exact this
  obtain ⟨f', rfl⟩ := ar_f hf hlt
  rw [body_skip d (f' + 1) kk out hbefore' (Nat.le_of_lt hlt), bodyF, hq] at hB
  simp only [if_true] at hB
  have hxl : ((s.drop kk).take d).length = d := by rw [List.length_take, List.length_drop]; exact Nat.min_eq_left (Nat.le_sub_of_add_le' (Nat.le_of_lt hlt))
  generalize hx : (s.drop kk).take d = x at *
  obtain ⟨hw1, hw2, hw3, ha1, ha2, ha3, ha4, ha5, ha6, ha7, ha8, hd0, hsb⟩ := ar_text hs hik hlt hf hol hxl
  have hle1 : ((kk + d : Nat) : Int) ≤ (s.length : Int) := Int.ofNat_le.2 (Nat.le_of_lt hlt)
  have hle1' : kk + d ≤ s.length := Nat.le_of_lt hlt
  have hle2 : (kk : Int) ≤ ((kk + d : Nat) : Int) := Int.ofNat_le.2 (Nat.le_add_right _ _)
  have hle2' : kk ≤ kk + d := Nat.le_add_right _ _
  obtain ⟨hpb, hbp, hge⟩ := ar_pb hn.pz hzb
  obtain ⟨τ1, e1, hb1, hz1, hk1⟩ := run_ws (C := LxX) rfl x hb hbs ha1
  have hn1 := hn.bld hzb hbs hz1 hk1
  have hbs1 : b + 1 ≤ τ1.size := Nat.le_trans hbs hz1
  obtain ⟨τ2, w2, hn2⟩ := hn1.move (kk + d + 1)
  have ho2 := move_oth hn1.rdr w2
  have hbs2 : b + 1 ≤ τ2.size := Nat.le_trans hbs1 ho2.1
  have hb2 : Bld (b + 1) b τ2 (out ++ x) := hb1.stay (ho2.2 b hbs1 hbp) (fun i h1 h2 => ho2.2 i h2 (hge i h1))
  have hr1 := hn1.rdr
  unfold Rdr rcells at hr1
  have hlk : lim LxX 62 [.one (.ptr p 0), .one (.int .i64 0)] τ2 = some (.one (.int .u8 (lookF s (kk + d + 1) 0).toNat), τ2) := eq_look τ2 p s (kk + d + 1) 0 m 0 0 hn2.rdr hsm hlt (by omega)
  have hl39 := u8_eq (c := lookF s (kk + d + 1) 0) 39 (by decide)
  by_cases h39 : lookF s (kk + d + 1) 0 = 39
  ·have hI39 : ((lookF s (kk + d + 1) 0).toNat : Int) = 39 := hl39.1 h39
   have hlt2 := look_pos' h39
   have hq2 : s[kk + d + 1]? = some 39 := by
    unfold lookF at h39
    rw [Nat.add_zero, List.getElem?_eq_getElem hlt2] at h39
    rw [List.getElem?_eq_getElem hlt2]
    exact congrArg some h39
   rw [if_pos hq2] at hB
   obtain ⟨τ3, e3, hb3, hz3, hk3⟩ := run_wb (C := LxX) rfl 39 hb2 hbs2 (by rw [List.length_append]; exact ha2)
   have e3 : lim LxX 65 [.one (.ptr b 0), .one (.int .u8 39)] τ2 = some (.one .nilIface, τ3) := e3
   have hn3 := hn2.bld hzb hbs2 hz3 hk3
   have hbs3 : b + 1 ≤ τ3.size := Nat.le_trans hbs2 hz3
   have hw4 := wr_next hlt2 hsm
   obtain ⟨τ4, w4, hn4⟩ := hn3.move (kk + d + 1 + 1)
   have ho4 := move_oth hn3.rdr w4
   have hbs4 : b + 1 ≤ τ4.size := Nat.le_trans hbs3 ho4.1
   have hb4 : Bld (b + 1) b τ4 (out ++ x ++ [39]) := hb3.stay (ho4.2 b hbs3 hbp) (fun i h1 h2 => ho4.2 i h2 (hge i h1))
   have hr3 := hn3.rdr
   unfold Rdr rcells at hr3
   simp (maxDischargeDepth := 99) [-writeAt, -Int.natCast_add, cLText_0, hlen, f0, f2, f3, f4, hr, hksI, hks, hsub, hidx, hd0, hw1, hw2, hw3, hle1, hle1', hle2, hle2', hsb, hx, e1, hr1, w2, hlk, hI39, e3, hr3, hw4, w4]
   exact ⟨s.length + 1 - (kk + d + 1 + 1), ha3, kk + d + 1 + 1, f', out ++ x ++ [39], rfl, ha4, hlt2, ha5, hB, by rw [List.length_append, List.length_append]; exact ha6, by simp [hlen], by simp [hlen, f0], by simp [hlen, f2], by simp [hlen, f3], by simp [hlen, f4], hn4, hb4, hzb, hbs4⟩
  ·have hI39 : ¬ ((lookF s (kk + d + 1) 0).toNat : Int) = 39 := fun e => h39 (hl39.2 e)
   have hq2 : ¬ s[kk + d + 1]? = some 39 := by
    intro e
    apply h39
    unfold lookF
    rw [Nat.add_zero, e]
    rfl
   rw [if_neg hq2] at hB
   simp (maxDischargeDepth := 99) [-writeAt, -Int.natCast_add, cLText_0, hlen, f0, f2, f3, f4, hr, hksI, hks, hsub, hidx, hd0, hw1, hw2, hw3, hle1, hle1', hle2, hle2', hsb, hx, e1, hr1, w2, hlk, hI39]
   exact hE _ _ ⟨kk + d + 1, out ++ x, ha7, hlt, hB.symm, by rw [List.length_append]; exact ha8, by simp [hlen], by simp [hlen, f0], by simp [hlen, f2], by simp [hlen, f3], by simp [hlen, f4], hn2, hb2, hzb, hbs2⟩
theorem text_ok : TextOk := by
 intro τ p m s i hr hs hi hq
 refine lim_code rfl ((LxX_code _).trans codeLText) rfl ?_
 unfold BodyP
 have hsm : s.length ≤ maxElems := by unfold maxElems; omega
 have hpl := AHeap.get_lt hr
 have hp0 : ¬ p = τ.size := by omega
 have hp1 : ¬ p = τ.size + 1 := by omega
 obtain ⟨τ1, hwz, hn1⟩ := nst_new hr 5
 have hr' := hr
 unfold Rdr rcells at hr'
 unfold zero4 tok4 at hwz
 have hwi := wr_next hi hsm
 obtain ⟨τ2, w2, hn2⟩ := hn1.move (i + 1)
 have hr1 := hn1.rdr
 unfold Rdr rcells at hr1
 simp (maxDischargeDepth := 99) [-writeAt, -Int.natCast_add, cLText, hr', hp0, hp1, hwz, hr1, hwi, w2]
 have hb3 := Bld.new τ2 (τ2.size + 1)
 have hn3 := hn2.keep (τ' := τ2.alloc ⟨[.nilPtr, .nilSlice], .tag bldT true⟩) (by simp) (fun id hid => by simp [hid]; omega)
 have hsz3 : (τ2.alloc ⟨[.nilPtr, .nilSlice], .tag bldT true⟩).size = τ2.size + 1 := by simp
 unfold bldT at hb3 hn3 hsz3
 have hz2 := hn2.sz
 generalize τ2.alloc ⟨[.nilPtr, .nilSlice], .tag 59 true⟩ = τ3 at *
 refine endsi_loop (I := ITx p τ.size τ2.size s i m τ) (fun k fr σ hI => step_text hs hI _ _ ?_ ?_) (k := s.length + 1 - (i + 1)) ?_
 ·rintro fr σ ⟨kk, out, hik, hks, hB, hol, hlen, f0, f2, f3, f4, hn, hb, hzb, hbs⟩
  have hT : textF s i = (⟨5, out, 0, i⟩, kk, if 1024 < out.length ∨ Lib.validD out = false then some 52 else none) := by unfold textF; rw [hB]
  rw [hT]
  have hol2 : out.length ≤ 1099511627776 := Nat.le_trans hol (Nat.le_trans hks (Nat.le_trans hs (by decide)))
  obtain ⟨σ1, e1, hz1, hk1⟩ := run_bs (C := LxX) rfl hb hol2
  have hn1 := hn.bld hzb hbs hz1 (fun i h1 _ _ => hk1 i h1)
  obtain ⟨σ2, w2, hn2⟩ := hn1.put 1 [.str out] (tc' := [.int .i64 5, .str out, .int .i64 0, .int .i64 i]) rfl (by simp [tok4])
  have htok2 := hn2.tok
  have hvl := fun τ => eq_valid τ out hol2
  by_cases h1 : 1024 < out.length
  ·have h1I : (1024 : Int) < (out.length : Int) := by omega
   have hfl := run_fail hn2.rdr 52 i
   simp (maxDischargeDepth := 99) [-writeAt, hlen, f0, f2, f3, f4, e1, w2, htok2, h1I, h1]
   refine hfl.mono ?_
   rintro v σ3 ⟨rfl, hr3, ho3⟩
   have hn3 := hn2.step hr3 ho3
   obtain ⟨σa, wa, ga, hra, hoa⟩ := hn3.out rfl
   have htok3 := hn3.tok
   simp (maxDischargeDepth := 99) [-writeAt, hlen, f2, f3, htok3, wa, ga]
   exact ptk_ok hoa hra rfl (fun e => by cases e) (fun x e => by cases e; exact ⟨rfl, rfl, by decide⟩)
  ·have h1I : ¬ (1024 : Int) < (out.length : Int) := by omega
   cases hv : Lib.validD out with
   | false =>
    rw [hv] at hvl
    have hfl := run_fail hn2.rdr 52 i
    simp (maxDischargeDepth := 99) [-writeAt, hlen, f0, f2, f3, f4, e1, w2, htok2, h1I, h1, hvl]
    refine hfl.mono ?_
    rintro v σ3 ⟨rfl, hr3, ho3⟩
    have hn3 := hn2.step hr3 ho3
    obtain ⟨σa, wa, ga, hra, hoa⟩ := hn3.out rfl
    have htok3 := hn3.tok
    simp (maxDischargeDepth := 99) [-writeAt, hlen, f2, f3, htok3, wa, ga]
    exact ptk_ok hoa hra rfl (fun e => by cases e) (fun x e => by cases e; exact ⟨rfl, rfl, by decide⟩)
   | true =>
    rw [hv] at hvl
    obtain ⟨σa, wa, ga, hra, hoa⟩ := hn2.out rfl
    simp (maxDischargeDepth := 99) [-writeAt, hlen, f0, f2, f3, f4, e1, w2, htok2, h1I, h1, hvl, wa, ga]
    exact ptk_ok hoa hra rfl (fun _ => ⟨rfl, rfl, rfl, hik, hks⟩) (fun x e => by cases e)
 ·rintro fr σ ⟨tc, hlen, f2, hg, h4, hP⟩
  simp [f2, hg, h4]
  rw [List.take_of_length_le (by omega)]
  exact hP
 ·exact ⟨i + 1, s.length + 1, [], rfl, Nat.lt_succ_self _, hi, by omega, rfl, Nat.zero_le _, by simp, by simp, by simp, by simp, by simp, hn3, hb3, hz2, by omega⟩
theorem next_all : NextOk := next_ok num_ok text_ok end_ok
end Go.Proofs.YtepankcnleeakaaGreatDoor.Ab
namespace Go.Proofs.YtepankcnleeakaaGreatDoor.Ab
open Go
set_option maxRecDepth 20000
set_option maxHeartbeats 8000000
set_option linter.unusedSimpArgs false
theorem frzLT_id (F : SV → Option (SV × List Nat)) : ∀ {l : List SV}, (∀ s ∈ l, F s = some (s, [])) → frzLW F l = some (l, [])
 | [], _ => rfl
 | s :: l, h => by simp [frzLW, h s (by simp), frzLT_id F (fun x hx => h x (List.mem_cons_of_mem _ hx))]
theorem frzET_id (F : SV → Option (SV × List Nat)) : ∀ {l : List (List SV)}, (∀ e ∈ l, frzLW F e = some (e, [])) → frzEW F l = some (l, [])
 | [], _ => rfl
 | e :: l, h => by simp [frzEW, h e (by simp), frzET_id F (fun x hx => h x (List.mem_cons_of_mem _ hx))]
theorem BodyP.mono {C : Ctx} {F : AFunc} {args : List AV} {σ : AHeap} {Z Z' : Tok → AV → AHeap → Prop} (h : BodyP C F args σ Z) (hz : ∀ t v τ, Z t v τ → Z' t v τ) : BodyP C F args σ Z' := by
 obtain ⟨x, fr, σ', h1, h2⟩ := h
 refine ⟨x, fr, σ', h1, ?_⟩
 cases x with
 | normal =>
  obtain ⟨vs, h4, h5⟩ := h2
  exact ⟨vs, h4, hz _ _ _ h5⟩
 | exit i => exact h2.elim
 | ret =>
  obtain ⟨vs, h4, h5⟩ := h2
  exact ⟨vs, h4, hz _ _ _ h5⟩
theorem tchunks : ∀ l : List LTok, chunks 4 l.length (tcells l) = l.map LTok.cells
 | [] => rfl
 | o :: l => by
  have h1 : tcells (o :: l) = o.cells ++ tcells l := by simp [tcells]
  have h4 : o.cells.length = 4 := rfl
  rw [List.length_cons, chunks, h1, List.take_append_of_le_length (by rw [h4]; exact Nat.le_refl _), List.drop_append_of_le_length (by rw [h4]; exact Nat.le_refl _)]
  rw [List.take_of_length_le (by rw [h4]; exact Nat.le_refl _), List.drop_eq_nil_of_le (by rw [h4]; exact Nat.le_refl _), List.nil_append, tchunks l]
  rfl
theorem tcells_len : ∀ l : List LTok, (tcells l).length = l.length * 4
 | [] => rfl
 | o :: l => by
  have h1 : tcells (o :: l) = o.cells ++ tcells l := by simp [tcells]
  have h4 : o.cells.length = 4 := rfl
  rw [h1, List.length_append, h4, tcells_len l, List.length_cons]
  omega
theorem frz_toks (F : SV → Option (SV × List Nat)) (hi : ∀ k n, F (.int k n) = some (.int k n, [])) (hs : ∀ s, F (.str s) = some (.str s, [])) (l : List LTok) : frzEW F (l.map LTok.cells) = some (l.map LTok.cells, []) := by
 refine frzET_id F (fun e he => ?_)
 obtain ⟨o, _, rfl⟩ := List.mem_map.1 he
 refine frzLT_id F (fun s hs' => ?_)
 simp only [LTok.cells, tokC, List.mem_cons, List.not_mem_nil, or_false] at hs'
 rcases hs' with rfl | rfl | rfl | rfl <;> first | exact hi _ _ | exact hs _
theorem frzD_own {f : Nat} {σ : AHeap} {id off esz len : Nat} {cap : Option Nat} {cs : List SV} {es : List (List SV)} {ids : List Nat} (hg : σ.get id = some ⟨cs, .own⟩) (hl : off + len * esz ≤ cs.length)
  (he : frzEW (frzD f σ) (chunks esz len (cs.drop off)) = some (es, ids)) : frzD (f + 1) σ (.slice id off esz len cap) = some (.lst es, id :: ids) := by
 have hb : Nat.ble (off + len * esz) cs.length = true := Nat.ble_eq_true_of_le hl
 rw [frzD]
 simp only [hg, hb, he]
theorem frz_tout {τ : AHeap} {b : Nat} {s : SV} {l : List LTok} (h : OutSl b τ 4 (.one s) (tcells l) l.length) : ∃ ids, frzD 9 τ s = some (.lst (l.map LTok.cells), ids) := by
 rcases h.2 with ⟨h1, h2⟩ | ⟨q, h1, h2, h3, h4⟩
 ·cases h1
  have : l = [] := List.length_eq_zero_iff.1 h2
  subst this
  exact ⟨[], rfl⟩
 ·cases h1
  have hf := frz_toks (frzD 8 τ) (fun _ _ => rfl) (fun _ => rfl) l
  exact ⟨[q], frzD_own (cap := none) (f := 8) (off := 0) (esz := 4) (len := l.length) h4 (by rw [tcells_len]; omega) (by rw [List.drop_zero, tchunks]; exact hf)⟩
def lexA (s : List UInt8) : List LTok × Int × Int := lexF s (s.length + 1) 0 []
theorem eq_lex (σ : AHeap) (s : List UInt8) (hs : s.length ≤ 67108864) :
  lim LxX 13 [.one (.str s)] σ = some (.tup [.one (.lst ((lexA s).1.map LTok.cells)), .one (.int .i64 (lexA s).2.1), .one (.int .i64 (lexA s).2.2)], σ) := by
 have ha : frzDAs frzDepth σ [.one (.str s)] = some ([.one (.str s)], []) := rfl
 have h := lim_mv (C := LxX) (f := 13) (F := cLLex) (σ := σ) (args := [.one (.str s)]) rfl ((LxX_code _).trans codeLLex) rfl ha
  (V := .tup [.one (.lst ((lexA s).1.map LTok.cells)), .one (.int .i64 (lexA s).2.1), .one (.int .i64 (lexA s).2.2)]) ?_
 ·exact h
 ·refine BodyP.mono (lex_body next_all hs) ?_
  rintro t v τ' ⟨sl, rfl, hsl⟩
  obtain ⟨ids, hf⟩ := frz_tout hsl
  refine ⟨ids ++ ([] ++ ([] ++ [])), ?_⟩
  have e1 : ∀ n : Int, frzD 9 τ' (.int .i64 n) = some (.int .i64 n, []) := fun n => rfl
  simp only [frzDA, frzDAs, frzDepth, hf, e1]
  rfl
end Go.Proofs.YtepankcnleeakaaGreatDoor.Ab
