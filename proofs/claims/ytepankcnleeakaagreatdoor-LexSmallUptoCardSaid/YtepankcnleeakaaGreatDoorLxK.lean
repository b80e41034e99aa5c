/- LexSmall walked. -/
import Derived.Test.YtepankcnleeakaaGreatDoorLxB
import Derived.Test.YtepankcnleeakaaGreatDoorLitLx1
namespace Go.Proofs.YtepankcnleeakaaGreatDoor.Ab
open Go
set_option maxRecDepth 20000
set_option maxHeartbeats 8000000
set_option linter.unusedSimpArgs false

theorem primOk_limL {P : Program} [IsProg P] {C : Ctx} (hC : C.Good P) (f : Nat) : PrimOk P f (fun args σ => lim C f args σ) := fun args σ v σ' h => by
  obtain ⟨n, hn⟩ := lim_iff.1 h
  exact sound hC n f args σ v σ' hn
noncomputable def lwPrims : List (Nat × Prim) := [(8, pWords), (12, pBool true), (13, fun args σ => lim LxC 13 args σ)]
noncomputable def LxW : Ctx := ⟨codeOf, primAt lwPrims, fun _ => .no⟩
theorem LxW_good : LxW.Good Tryz.prog where
  code := fun f F h => codeOf_good h
  prim := fun f p h => primAt_ok (l := lwPrims) (fun g p hm => by
    simp only [lwPrims, List.mem_cons, Prod.mk.injEq, List.not_mem_nil, or_false] at hm
    rcases hm with ⟨rfl, rfl⟩ | ⟨rfl, rfl⟩ | ⟨rfl, rfl⟩
    · exact primOk_words
    · exact primOk_closed LxM_good awake05
    · exact primOk_limL LxC_good _) f p h
theorem LxW_words (σ : AHeap) : lim LxW 8 [] σ = some (.one (.slice σ.size 0 1 58 none), σ.alloc ⟨wordsL.map SV.str, .own⟩) := (lim_prim (p := pWords) rfl).trans rfl
theorem LxW_awake (σ : AHeap) : lim LxW 12 [] σ = some (.one (.bool true), σ) := (lim_prim (p := pBool true) rfl).trans rfl
theorem LxW_lex (σ : AHeap) (args : List AV) : lim LxW 13 args σ = lim LxC 13 args σ := lim_prim (p := fun args σ => lim LxC 13 args σ) rfl
theorem LxW_refWords (σ : AHeap) : lim LxW 9 [] σ = some (.one (.slice σ.size 0 1 58 (some 58)), σ.alloc ⟨wordsL.map SV.str, .own⟩) :=
  lim_iff.2 ⟨20, by kernel_rfl⟩

theorem wr8 {n : Int} (h1 : 0 ≤ n) (h2 : n ≤ 255) : wr .u8 n = n := by simp [wr, h1, h2]
/-- The cells, so many letters made great. -/
def upTo (x : List UInt8) (i : Nat) : List SV := ((x.take i).map upB ++ x.drop i).map byteCell
theorem upTo_len (x : List UInt8) (i : Nat) : (upTo x i).length = x.length := by
  simp [upTo]; omega
theorem upTo_get {x : List UInt8} {i : Nat} (h : i < x.length) : (upTo x i)[i]? = some (byteCell x[i]) := by
  unfold upTo
  rw [List.getElem?_map, List.getElem?_append_right (by simp; omega)]
  have : i - ((x.take i).map upB).length = 0 := by simp; omega
  rw [this, List.getElem?_drop, Nat.add_zero, List.getElem?_eq_getElem h]
  rfl
theorem splice_mid (A B : List SV) (c v : SV) {i : Nat} (h : A.length = i) : splice (A ++ c :: B) i [v] = A ++ v :: B := by
  subst h
  simp [splice]
theorem upTo_write {τ : AHeap} {q : Nat} {x : List UInt8} {i : Nat} (hg : τ.get q = some ⟨upTo x i, .own⟩) (h : i < x.length) (hb : 97 ≤ x[i].toNat ∧ x[i].toNat ≤ 122) :
    writeAt τ q i [.int .u8 ((x[i].toNat : Int) - 32)] = some (τ.put q ⟨upTo x (i + 1), .own⟩) := by
  have hs : splice (upTo x i) i [SV.int .u8 ((x[i].toNat : Int) - 32)] = upTo x (i + 1) := by
    unfold upTo
    have e2 : x.drop i = x[i] :: x.drop (i + 1) := List.drop_eq_getElem_cons h
    have e3 : x.take (i + 1) = x.take i ++ [x[i]] := List.take_succ_eq_append_getElem h
    have e4 : byteCell (upB x[i]) = SV.int .u8 ((x[i].toNat : Int) - 32) := by
      unfold byteCell upB
      have : (UInt8.ofNat (x[i].toNat - 32)).toNat = x[i].toNat - 32 := by
        rw [UInt8.toNat_ofNat']
        omega
      rw [this]
      congr 1
      omega
    rw [e3, e2]
    simp only [List.map_append, List.map_cons, List.map_nil, List.append_assoc, List.cons_append, List.nil_append]
    rw [e4]
    exact splice_mid _ _ _ _ (by simp; omega)
  unfold writeAt
  rw [hg]
  have : Nat.ble (i + [SV.int .u8 ((x[i].toNat : Int) - 32)].length) (upTo x i).length = true := by rw [upTo_len]; simp; omega
  simp only [this, hs]
theorem unbytes_up : ∀ l : List UInt8, unbytes (l.map byteCell) = some l
  | [] => rfl
  | b :: l => by
    have h := unbytes_up l
    rw [List.map_cons]
    show unbytes (SV.int .u8 b.toNat :: l.map byteCell) = _
    unfold unbytes
    rw [h]
    simp

theorem tmod_small (N : Int) : -58 < N.tmod 58 ∧ N.tmod 58 < 58 := by
  have h := Int.natAbs_tmod N 58
  have h2 : N.natAbs % (58 : Int).natAbs < 58 := Nat.mod_lt _ (by decide)
  omega
theorem tmod_two (N : Int) : 0 ≤ (N.tmod 58 + 58).tmod 58 ∧ (N.tmod 58 + 58).tmod 58 < 58 := by
  have h := tmod_small N
  rw [Int.tmod_eq_emod_of_nonneg (by omega)]
  omega
theorem low8 {b : UInt8} (hb : 97 ≤ b.toNat ∧ b.toNat ≤ 122) : wr .u8 ((b.toNat : Int) - 32) = (b.toNat : Int) - 32 := wr8 (by omega) (by omega)
theorem cat_ok {a b : List UInt8} (h : a.length + b.length ≤ 1000) : sbin .add a b = some (.str (a ++ b)) := by
  have : Nat.ble (a.length + b.length) maxStr = true := Nat.ble_eq_true_of_le (Nat.le_trans h (by decide))
  simp only [sbin, this]
/-- How the line is put together. -/
theorem line_ok {x : List UInt8} (h : x.length ≤ 20) : ∃ s1 s2 s3 s4 s5 s6, sbin .add x (bytes [32]) = some (.str s1) ∧ sbin .add s1 (x.map upB) = some (.str s2) ∧ sbin .add s2 (bytes [32]) = some (.str s3) ∧
    sbin .add s3 x = some (.str s4) ∧ sbin .add s4 (bytes [95, 32]) = some (.str s5) ∧ sbin .add s5 (bytes [95]) = some (.str s6) ∧ sbin .add s6 x = some (.str (txOf x)) := by
  have e : txOf x = ((((((x ++ bytes [32]) ++ x.map upB) ++ bytes [32]) ++ x) ++ bytes [95, 32]) ++ bytes [95]) ++ x := by simp [txOf, bytes]
  rw [e]
  refine ⟨_, _, _, _, _, _, cat_ok ?_, cat_ok ?_, cat_ok ?_, cat_ok ?_, cat_ok ?_, cat_ok ?_, cat_ok ?_⟩ <;> simp [bytes] <;> omega
theorem name_ok {x : List UInt8} (h : x.length ≤ 20) : sbin .add x (bytes [95]) = some (.str (x ++ [95])) := cat_ok (by simp [bytes]; omega)
/-- Ahead of the i-th letter. -/
def ISm (x : List UInt8) (q : Nat) (i : Nat) (fr : List AV) (τ : AHeap) : Prop :=
  fr.length = 116 ∧ getSlot fr 4 = .one (.str x) ∧ getSlot fr 5 = .one (.slice q 0 1 x.length none) ∧ getSlot fr 6 = .one (.int .i64 i) ∧ τ.get q = some ⟨upTo x i, .own⟩

theorem law_small (N : Int) (h1 : -9223372036854775808 ≤ N) (h2 : N ≤ 9223372036854775807) : ∃ σ', lim LxW 7 [.one (.int .i64 N)] emptyH = some (.one (.bool true), σ') := by
  have key : OptP (lim LxW 7 [.one (.int .i64 N)] emptyH) (fun _ v _ => v = .one (.bool true)) := by
    refine lim_code rfl (show codeOf 7 = _ from codeLawSmall) rfl ?_
    unfold BodyP
    have ht1 := tmod_small N
    have ht2 := tmod_two N
    have hw : wr .i64 (N.tmod 58 + 58) = N.tmod 58 + 58 := wr64 (by omega) (by omega)
    obtain ⟨k, hk, hk2⟩ : ∃ k : Nat, (N.tmod 58 + 58).tmod 58 = (k : Int) ∧ k < 58 := ⟨((N.tmod 58 + 58).tmod 58).toNat, by omega, by omega⟩
    have hwl : wordsL.length = 58 := rfl
    obtain ⟨x, hx⟩ : ∃ x, wordsL[k]? = some x := ⟨wordsL[k]'(by omega), List.getElem?_eq_getElem (by omega)⟩
    have hmem : x ∈ wordsL := List.mem_of_getElem? hx
    have hcell : (wordsL.map SV.str)[k]? = some (.str x) := by rw [List.getElem?_map, hx]; rfl
    have hlow := words_low x hmem
    have hlen20 := words_len x hmem
    have hlex := fun σ => (LxW_lex σ _).trans (lex_small x hmem σ)
    have hkI : (k : Int) < 58 := by omega
    obtain ⟨ws, hws⟩ : ∃ ws, wordsL.map SV.str = ws := ⟨_, rfl⟩
    rw [hws] at hcell
    have hW := LxW_words
    have hR := LxW_refWords
    rw [hws] at hW hR
    simp (maxDischargeDepth := 99) [cLawSmall, hW, hR, hw, hk, hkI, hk2, hcell]
    obtain ⟨σ0, hσ0⟩ : ∃ σ0, σ0 = ((emptyH.alloc ⟨ws, .own⟩).alloc ⟨ws, .own⟩).alloc ⟨x.map byteCell, .own⟩ := ⟨_, rfl⟩
    have hg0 : σ0.get (emptyH.size + 1 + 1) = some ⟨upTo x 0, .own⟩ := by rw [hσ0]; simp [upTo]
    rw [← hσ0]
    have hxm : x.length ≤ maxElems := by unfold maxElems; omega
    refine endsi_to 0 (ISm x (emptyH.size + 1 + 1) x.length) ?_ ?_
    · refine endsi_range x.length (ISm x (emptyH.size + 1 + 1)) ?_ ?_ ?_
      · exact ⟨rfl, rfl, rfl, rfl, hg0⟩
      · rintro i fr τ hlt ⟨hlen, f4, f5, f6, hg⟩
        have hwn := wr_next hlt hxm
        have hlti : (i : Int) < (x.length : Int) := Int.ofNat_lt.2 hlt
        have hrd := upTo_get hlt
        have hb := hlow x[i] (List.getElem_mem hlt)
        have hw8 : wr .u8 ((x[i].toNat : Int) - 32) = (x[i].toNat : Int) - 32 := low8 hb
        have hwr := upTo_write hg hlt hb
        have hql := AHeap.get_lt hg
        have hg1 : (τ.put (emptyH.size + 1 + 1) ⟨upTo x (i + 1), .own⟩).get (emptyH.size + 1 + 1) = some ⟨upTo x (i + 1), .own⟩ := by simp [hql]
        generalize τ.put (emptyH.size + 1 + 1) ⟨upTo x (i + 1), .own⟩ = τ1 at hwr hg1
        simp only [byteCell] at hrd
        simp (maxDischargeDepth := 99) [-writeAt, cLawSmall_0, hlen, f5, f6, hlti, hlt, hg, hrd, hw8, hwr, hwn]
        exact ⟨by simp [hlen], by simp [hlen, f4], by simp [hlen, f5], by simp [hlen], hg1⟩
      · rintro fr τ ⟨hlen, f4, f5, f6, hg⟩
        simp (maxDischargeDepth := 99) [cLawSmall_0, hlen, f5, f6]
        exact ⟨by simp [hlen], by simp [hlen, f4], by simp [hlen, f5], by simp [hlen, f6], hg⟩
    · rintro fr τ ⟨hlen, f4, f5, f6, hg⟩
      have hup : upTo x x.length = (x.map upB).map byteCell := by simp [upTo]
      rw [hup] at hg
      have hub := unbytes_up (x.map upB)
      have htk : ((x.map upB).map byteCell).take x.length = (x.map upB).map byteCell := List.take_of_length_le (by simp)
      have hll : ((x.map upB).map byteCell).length = x.length := by simp
      generalize (x.map upB).map byteCell = cs at hg hub htk hll
      obtain ⟨s1, s2, s3, s4, s5, s6, c1, c2, c3, c4, c5, c6, c7⟩ := line_ok hlen20
      have c8 := name_ok hlen20
      have c9 : ∀ l, sbin .eql l l = some (.bool true) := fun l => by simp [sbin, beqL_refl]
      generalize txOf x = s7 at hlex c7
      generalize x.map upB = X at hub c2
      simp only [toksOf, tokC] at hlex
      simp (maxDischargeDepth := 99) [hlen, f4, f5, hg, srcLen, srcCells, isStr, hub, htk, hll, c1, c2, c3, c4, c5, c6, c7, c8, c9, hlex, beqL_refl, LxW_awake]
  obtain ⟨v, σ', h1, rfl⟩ := key
  exact ⟨σ', h1⟩
end Go.Proofs.YtepankcnleeakaaGreatDoor.Ab
