/- Several of my texts in one: LxV0, LxV1, LxV2, LxV3, LxV4. -/
import Derived.Test.YtepankcnleeakaaGreatDoorLxF
import Derived.Lib.Replace
import Derived.Lib.CountLaws
import Derived.Test.YtepankcnleeakaaGreatDoorLxNA
import Derived.Test.YtepankcnleeakaaGreatDoorLxEC
namespace Go.Proofs.YtepankcnleeakaaGreatDoor.Ab
open Go
set_option linter.unusedVariables false
def quoteF : List UInt8 → List UInt8
  | [] => []
  | c :: l => if c = 39 then 39 :: 39 :: quoteF l else c :: quoteF l
theorem no_quote {b : UInt8} {l : List UInt8} (hb : ¬ b = 39) : ([39] : List UInt8).isPrefixOf (b :: l) = false := by
  have : ((39 : UInt8) == b) = false := by simpa using fun e => hb e.symm
  simp [List.isPrefixOf, this]
theorem quote_miss : ∀ {s : List UInt8}, Lib.index s [39] = -1 → quoteF s = s
  | [], _ => rfl
  | b :: l, h => by
    have hg := Lib.index_ge l [39]
    unfold Lib.index at h
    by_cases hb : b = 39
    · subst hb
      simp at h
    · have hp : ([39] : List UInt8).isPrefixOf (b :: l) = false := no_quote hb
      rw [hp] at h
      simp only [Bool.false_eq_true, if_false] at h
      unfold quoteF
      rw [if_neg hb]
      by_cases hi : Lib.index l [39] = -1
      · rw [quote_miss hi]
      · rw [if_neg (by simpa using hi)] at h
        omega
theorem quote_hit : ∀ {s : List UInt8} {i : Nat}, Lib.index s [39] = (i : Int) → quoteF s = s.take i ++ [39, 39] ++ quoteF (s.drop (i + 1))
  | [], i, h => by
    unfold Lib.index at h
    simp at h
  | b :: l, i, h => by
    have hg := Lib.index_ge l [39]
    unfold Lib.index at h
    by_cases hb : b = 39
    · subst hb
      have hp : ([39] : List UInt8).isPrefixOf (39 :: l) = true := by simp
      rw [hp, if_pos rfl] at h
      obtain rfl : i = 0 := by omega
      rw [quoteF, if_pos rfl]
      simp
    · have hp : ([39] : List UInt8).isPrefixOf (b :: l) = false := no_quote hb
      rw [hp] at h
      simp only [Bool.false_eq_true, if_false] at h
      by_cases hi : Lib.index l [39] = -1
      · rw [if_pos (by simpa using hi)] at h
        omega
      · rw [if_neg (by simpa using hi)] at h
        obtain ⟨i', rfl⟩ : ∃ i', i = i' + 1 := ⟨i - 1, by omega⟩
        have ih := quote_hit (s := l) (i := i') (by omega)
        rw [quoteF, if_neg hb, ih]
        simp
theorem quote_count : ∀ (n : Nat) (s : List UInt8), Lib.count s [39] = n → Lib.replaceK [39] [39, 39] n s = quoteF s
  | 0, s, h => by
    have hi : Lib.index s [39] = -1 := by
      by_cases hi : Lib.index s [39] = -1
      · exact hi
      · have hg := Lib.index_ge s [39]
        have := Lib.count_hit (s := s) (sub := [39]) (i := (Lib.index s [39]).toNat) (by simp) (by omega)
        omega
    rw [quote_miss hi]
    rfl
  | n + 1, s, h => by
    obtain ⟨i, hi⟩ := Lib.index_of_count (s := s) (old := [39]) (by omega)
    have hc := Lib.count_hit (s := s) (sub := [39]) (i := i) (by simp) hi
    rw [Lib.replaceK_hit _ _ _ _ _ hi, quote_hit hi]
    have := quote_count n (s.drop (i + 1)) (by
      have e : ([39] : List UInt8).length = 1 := rfl
      rw [e] at hc
      omega)
    have e : ([39] : List UInt8).length = 1 := rfl
    rw [e, this]
theorem replace_quote (s : List UInt8) : Lib.replaceAll s [39] [39, 39] = quoteF s := by
  unfold Lib.replaceAll Lib.replace
  rw [if_neg (by decide)]
  unfold Lib.replaceNum
  rw [if_pos (.inl (by decide))]
  exact quote_count _ s rfl
end Go.Proofs.YtepankcnleeakaaGreatDoor.Ab
namespace Go.Proofs.YtepankcnleeakaaGreatDoor.Ab
open Go
set_option maxRecDepth 20000
set_option maxHeartbeats 8000000
set_option linter.unusedSimpArgs false
set_option linter.unusedVariables false
theorem primOk_limV {P : Program} [IsProg P] {C : Ctx} (hC : C.Good P) (f : Nat) : PrimOk P f (fun args σ => lim C f args σ) := fun args σ v σ' h => by
  obtain ⟨n, hn⟩ := lim_iff.1 h
  exact sound hC n f args σ v σ' hn
noncomputable def lvPrims : List (Nat × Prim) := [(25, pItoa), (70, fun args σ => lim LxU 70 args σ), (71, pTrimR), (63, pRepeat), (47, pReplace), (66, pValid), (19, pJoin), (13, fun args σ => lim LxX 13 args σ)]
def lvHint (f : Nat) : Hint := match Nat.beq f 44, Nat.beq f 46, Nat.beq f 24, Nat.beq f 17, Nat.beq f 18, Nat.beq f 10 with
  | true, _, _, _, _, _ => .rd
  | _, true, _, _, _, _ => .rd
  | _, _, true, _, _, _ => .rd
  | _, _, _, true, _, _ => .rd
  | _, _, _, _, true, _ => .rd
  | _, _, _, _, _, true => .rd
  | _, _, _, _, _, _ => .no
noncomputable def LxV : Ctx := ⟨codeOf, primAt lvPrims, lvHint⟩
theorem LxV_good : LxV.Good Tryz.prog where
  code := fun f F h => codeOf_good h
  prim := fun f p h => primAt_ok (l := lvPrims) (fun g p hm => by
    simp only [lvPrims, List.mem_cons, Prod.mk.injEq, List.not_mem_nil, or_false] at hm
    rcases hm with ⟨rfl, rfl⟩ | ⟨rfl, rfl⟩ | ⟨rfl, rfl⟩ | ⟨rfl, rfl⟩ | ⟨rfl, rfl⟩ | ⟨rfl, rfl⟩ | ⟨rfl, rfl⟩ | ⟨rfl, rfl⟩
    · exact primOk_itoa
    · exact primOk_limV LxU_good _
    · exact primOk_trimR
    · exact primOk_repeat
    · exact primOk_replace
    · exact primOk_valid
    · exact primOk_join
    · exact primOk_limV LxX_good _) f p h
theorem LxV_code (f : Nat) : LxV.code f = codeOf f := by kernel_rfl
theorem LxV_lex (σ : AHeap) (s : List UInt8) (hs : s.length ≤ 67108864) :
    lim LxV 13 [.one (.str s)] σ = some (.tup [.one (.lst ((lexA s).1.map LTok.cells)), .one (.int .i64 (lexA s).2.1), .one (.int .i64 (lexA s).2.2)], σ) :=
  (lim_prim (p := fun args σ => lim LxX 13 args σ) rfl).trans (eq_lex σ s hs)
theorem LxV_itoa (σ : AHeap) (n : Int) (h0 : -9223372036854775808 ≤ n) (h1 : n ≤ 9223372036854775807) : lim LxV 25 [.one (.int .i64 n)] σ = some (.one (.str (Lib.itoa n)), σ) := by
  refine (lim_prim (p := pItoa) rfl).trans ?_
  have hb : (decide (-9223372036854775808 ≤ n) && decide (n ≤ 9223372036854775807)) = true := by simp [h0, h1]
  simp only [pItoa, hb]
theorem LxV_fu (σ : AHeap) (u : Nat) (hu : u < 18446744073709551616) : lim LxV 70 [.one (.int .u64 u), .one (.int .i64 10)] σ = some (.one (.str (Lib.decDigits u)), σ) :=
  (lim_prim (p := fun args σ => lim LxU 70 args σ) rfl).trans (eq_fu σ u hu)
theorem LxV_trim (σ : AHeap) (s : List UInt8) (h : s.length ≤ 1000) : lim LxV 71 [.one (.str s), .one (.str (bytes [48]))] σ = some (.one (.str (Lib.trimRightB s 48)), σ) := by
  refine (lim_prim (p := pTrimR) rfl).trans ?_
  have hb : (Nat.blt (48 : UInt8).toNat 128 && Nat.ble s.length 1099511627776) = true := by rw [Nat.ble_eq_true_of_le (by omega)]; rfl
  show pTrimR [.one (.str s), .one (.str [48])] σ = _
  simp only [pTrimR, hb]
theorem LxV_repeat (σ : AHeap) (k : Nat) (hk : k ≤ 4) : lim LxV 63 [.one (.str (bytes [48])), .one (.int .i64 k)] σ = some (.one (.str (List.replicate k 48)), σ) := by
  refine (lim_prim (p := pRepeat) rfl).trans ?_
  have hb : Nat.ble k 1000000 = true := Nat.ble_eq_true_of_le (by omega)
  show pRepeat [.one (.str [48]), .one (.int .i64 (.ofNat k))] σ = _
  simp only [pRepeat, hb]
theorem LxV_replace (σ : AHeap) (s : List UInt8) (h : s.length ≤ 1024) : lim LxV 47 [.one (.str s), .one (.str (bytes [39])), .one (.str (bytes [39, 39]))] σ = some (.one (.str (quoteF s)), σ) := by
  rw [← replace_quote]
  refine (lim_prim (p := pReplace) rfl).trans ?_
  have hc : Lib.countB ⟨s.toArray⟩ ⟨[(39 : UInt8)].toArray⟩ ≤ s.length + 1 := Lib.count_le s [39]
  have hb : (Nat.ble s.length 4294967280 && Nat.ble 1 [(39 : UInt8)].length && Nat.ble (s.length + Lib.countB ⟨s.toArray⟩ ⟨[(39 : UInt8)].toArray⟩ * [(39 : UInt8), 39].length) 140737488355328) = true := by
    rw [Nat.ble_eq_true_of_le (by omega), Nat.ble_eq_true_of_le (by decide), Nat.ble_eq_true_of_le (by show _ + _ * 2 ≤ _; omega)]
    rfl
  show pReplace [.one (.str s), .one (.str [39]), .one (.str [39, 39])] σ = _
  simp only [pReplace, hb]
theorem LxV_valid (τ : AHeap) (s : List UInt8) (h : s.length ≤ 1099511627776) : lim LxV 66 [.one (.str s)] τ = some (.one (.bool (Lib.validD s)), τ) := by
  refine (lim_prim (p := pValid) rfl).trans ?_
  have hb : Nat.ble s.length 1099511627776 = true := Nat.ble_eq_true_of_le h
  simp only [pValid, hb]
theorem frz_val (σ : AHeap) (k n : Int) (s : List UInt8) : frzDAs frzDepth σ [.agg [.int .i64 k, .int .i64 n, .str s]] = some ([.agg [.int .i64 k, .int .i64 n, .str s]], [] ++ []) := rfl
theorem eq_check_num (σ : AHeap) (k n : Int) (hk : k = 2 ∨ k = 3) : lim LxV 44 [.agg [.int .i64 k, .int .i64 n, .str []]] σ = some (.one (.int .i64 0), σ) := by
  refine lim_rd (args' := [.agg [.int .i64 k, .int .i64 n, .str []]]) (ids := [] ++ []) rfl ((LxV_code _).trans codeLCheck) rfl (frz_val σ k n []) ?_ rfl
  unfold BodyP
  rcases hk with rfl | rfl <;> simp (maxDischargeDepth := 99) [cLCheck, sbin, bytes, beqL]
theorem eq_check_text (σ : AHeap) (s : List UInt8) (hs : s.length ≤ 1099511627776) : lim LxV 44 [.agg [.int .i64 4, .int .i64 0, .str s]] σ = some (.one (.int .i64 (if s.length ≤ 1024 ∧ Lib.validD s = true then 0 else 1)), σ) := by
  refine lim_rd (args' := [.agg [.int .i64 4, .int .i64 0, .str s]]) (ids := [] ++ []) rfl ((LxV_code _).trans codeLCheck) rfl (frz_val σ 4 0 s) ?_ rfl
  unfold BodyP
  have hv := fun τ => LxV_valid τ s hs
  by_cases hl : s.length ≤ 1024
  · have hlI : (s.length : Int) ≤ 1024 := by omega
    cases hb : Lib.validD s with
    | true =>
      rw [hb] at hv
      simp (maxDischargeDepth := 99) [cLCheck, hlI, hl, hv]
    | false =>
      rw [hb] at hv
      simp (maxDischargeDepth := 99) [cLCheck, hlI, hl, hv]
  · have hlI : ¬ (s.length : Int) ≤ 1024 := by omega
    simp (maxDischargeDepth := 99) [cLCheck, hlI, hl]
end Go.Proofs.YtepankcnleeakaaGreatDoor.Ab
namespace Go.Proofs.YtepankcnleeakaaGreatDoor.Ab
open Go
set_option maxRecDepth 20000
set_option maxHeartbeats 8000000
set_option linter.unusedSimpArgs false
set_option linter.unusedVariables false
def decPart (r : Nat) : List UInt8 := if Lib.trimRightB (List.replicate (4 - (Lib.decDigits r).length) 48 ++ Lib.decDigits r) 48 = [] then [48] else Lib.trimRightB (List.replicate (4 - (Lib.decDigits r).length) 48 ++ Lib.decDigits r) 48
def decF (n : Int) : List UInt8 := ((if n < 0 then [45] else []) ++ Lib.decDigits (n.natAbs / 10000)) ++ [46] ++ decPart (n.natAbs % 10000)
theorem cat1 {a b : List UInt8} (h : a.length + b.length ≤ 1099511627776) : sbin .add a b = some (.str (a ++ b)) := by
  have : Nat.ble (a.length + b.length) maxStr = true := Nat.ble_eq_true_of_le (Nat.le_trans h (by decide))
  simp only [sbin, this]
theorem digs4 {r : Nat} (h : r < 10000) : (Lib.decDigits r).length ≤ 4 := by
  rw [Lib.decDigits_length]
  by_cases h1 : r < 10
  · rw [Lib.nDigits_small h1]; omega
  · by_cases h2 : r < 100
    · rw [Lib.nDigits_unique 1 r (by omega) (by omega)]; omega
    · by_cases h3 : r < 1000
      · rw [Lib.nDigits_unique 2 r (by omega) (by omega)]; omega
      · rw [Lib.nDigits_unique 3 r (by omega) (by omega)]; omega
theorem digs20 {u : Nat} (h : u < 18446744073709551616) : (Lib.decDigits u).length ≤ 20 := by
  rw [Lib.decDigits_length]
  by_cases h1 : 1 ≤ u
  · exact nd20 h1 h
  · rw [Lib.nDigits_small (by omega)]; omega
theorem trim_len (s : List UInt8) (c : UInt8) : (Lib.trimRightB s c).length ≤ s.length := by
  unfold Lib.trimRightB
  rw [List.length_reverse]
  have := List.IsSuffix.length_le (List.dropWhile_suffix (l := s.reverse) (· == c))
  simpa using this
theorem part_len {r : Nat} (h : r < 10000) : (decPart r).length ≤ 4 := by
  have h1 := digs4 h
  have h2 := trim_len (List.replicate (4 - (Lib.decDigits r).length) 48 ++ Lib.decDigits r) 48
  simp only [List.length_append, List.length_replicate] at h2
  unfold decPart
  split
  · simp
  · omega
theorem wr64u {m : Nat} (h : m < 18446744073709551616) : wr .u64 (m : Int) = (m : Int) := by
  unfold wr
  simp only
  rw [if_pos (by omega)]
theorem eq_decimal (σ : AHeap) (n : Int) (h0 : -9223372036854775808 ≤ n) (h1 : n ≤ 9223372036854775807) : lim LxV 46 [.one (.int .i64 n)] σ = some (.one (.str (decF n)), σ) := by
  refine lim_rd (args' := [.one (.int .i64 n)]) (ids := [] ++ []) rfl ((LxV_code _).trans codeLDecimal) rfl rfl ?_ rfl
  unfold BodyP decF
  obtain ⟨u, hu⟩ : ∃ u, n.natAbs = u := ⟨_, rfl⟩
  have hu64 : u < 18446744073709551616 := by omega
  rw [hu]
  have hrlt : u % 10000 < 10000 := Nat.mod_lt _ (by decide)
  have hr : (u : Int).tmod 10000 = ((u % 10000 : Nat) : Int) := by rw [Int.tmod_eq_emod_of_nonneg (by omega)]; omega
  have hq : (u : Int).tdiv 10000 = ((u / 10000 : Nat) : Int) := by rw [Int.tdiv_eq_ediv_of_nonneg (by omega)]; omega
  have hq' : (u : Int) / 10000 = ((u / 10000 : Nat) : Int) := by omega
  have hr' : (u : Int) % 10000 = ((u % 10000 : Nat) : Int) := by omega
  have hwr : ∀ m : Nat, m < 18446744073709551616 → wr .u64 (m : Int) = (m : Int) := fun m hm => wr64u hm
  have hwq := hwr (u / 10000) (by omega)
  have hwr1 := hwr (u % 10000) (by omega)
  have hf1 := fun σ => LxV_fu σ (u % 10000) (by omega)
  have hf2 := fun σ => LxV_fu σ (u / 10000) (by omega)
  have hl1 := digs4 hrlt
  have hl2 := digs20 (u := u / 10000) (by omega)
  have hpl := part_len hrlt
  unfold decPart at hpl ⊢
  clear hwr hrlt
  generalize u % 10000 = R at *
  generalize u / 10000 = Q at *
  generalize Lib.decDigits R = d at *
  generalize Lib.decDigits Q = q at *
  have hsub : wr .i64 (4 - (d.length : Int)) = ((4 - d.length : Nat) : Int) := by rw [wr64 (by omega) (by omega)]; omega
  have hrep := fun σ => LxV_repeat σ (4 - d.length) (by omega)
  have hc1 : sbin .add (List.replicate (4 - d.length) 48) d = some (.str (List.replicate (4 - d.length) 48 ++ d)) := cat1 (by rw [List.length_replicate]; omega)
  have htr := fun σ => LxV_trim σ (List.replicate (4 - d.length) 48 ++ d) (by rw [List.length_append, List.length_replicate]; omega)
  generalize List.replicate (4 - d.length) (48 : UInt8) ++ d = e at *
  generalize Lib.trimRightB e 48 = t at *
  have hb48 : bytes [48] = [48] := rfl
  have hb45 : bytes [45] = [45] := rfl
  have hb46 : bytes [46] = [46] := rfl
  have hbn : bytes [] = [] := rfl
  rw [hb48] at htr hrep
  have fin : ∀ (sg : List UInt8), sg.length ≤ 1 → sbin .add sg q = some (.str (sg ++ q)) ∧ sbin .add (sg ++ q) [46] = some (.str (sg ++ q ++ [46])) ∧ sbin .add (sg ++ q ++ [46]) (if t = [] then [48] else t) = some (.str (sg ++ q ++ [46] ++ if t = [] then [48] else t)) := fun sg hs => by
    refine ⟨cat1 (by omega), cat1 (by simp; omega), cat1 ?_⟩
    simp only [List.length_append, List.length_cons, List.length_nil]
    omega
  have he0 : ∀ l : List UInt8, l ≠ [] → beqL l [] = false := fun l h => by cases l with | nil => exact absurd rfl h | cons => rfl
  by_cases hneg : n < 0
  · obtain ⟨f1, f2, f3⟩ := fin [45] (by simp)
    have hw0 : wr .u64 n = n + 18446744073709551616 := by
      unfold wr
      simp only
      rw [if_neg (by omega), IntKind.wrap_u64]; omega
    have hw1 : wr .u64 (-(n + 18446744073709551616)) = (u : Int) := by
      unfold wr
      simp only
      rw [if_neg (by omega), IntKind.wrap_u64]; omega
    rw [if_pos hneg]
    by_cases ht : t = []
    · subst ht
      rw [if_pos rfl] at f3 ⊢
      have hq1 : sbin .eql ([] : List UInt8) [] = some (.bool true) := rfl
      generalize ([45] : List UInt8) ++ q = a1 at *
      generalize a1 ++ [46] = a2 at *
      generalize a2 ++ [48] = a3 at *
      simp (maxDischargeDepth := 99) [cLDecimal, hneg, hw0, hw1, hr, hr', hq, hq', hwq, hwr1, hf1, hf2, hsub, hrep, hc1, htr, hb48, hb45, hb46, hbn, hq1, f1, f2, f3]
    · rw [if_neg ht] at f3 ⊢
      have hq1 : sbin .eql t [] = some (.bool false) := by simp only [sbin, he0 t ht]
      generalize ([45] : List UInt8) ++ q = a1 at *
      generalize a1 ++ [46] = a2 at *
      generalize a2 ++ t = a3 at *
      simp (maxDischargeDepth := 99) [cLDecimal, hneg, hw0, hw1, hr, hr', hq, hq', hwq, hwr1, hf1, hf2, hsub, hrep, hc1, htr, hb48, hb45, hb46, hbn, hq1, f1, f2, f3]
  · obtain ⟨f1, f2, f3⟩ := fin [] (by simp)
    have hnu : n = (u : Int) := by omega
    have hw0 : wr .u64 n = (u : Int) := by rw [hnu]; exact wr64u (by omega)
    rw [if_neg hneg]
    by_cases ht : t = []
    · subst ht
      rw [if_pos rfl] at f3 ⊢
      have hq1 : sbin .eql ([] : List UInt8) [] = some (.bool true) := rfl
      generalize ([] : List UInt8) ++ q = a1 at *
      generalize a1 ++ [46] = a2 at *
      generalize a2 ++ [48] = a3 at *
      simp (maxDischargeDepth := 99) [cLDecimal, hneg, hw0, hr, hr', hq, hq', hwq, hwr1, hf1, hf2, hsub, hrep, hc1, htr, hb48, hb45, hb46, hbn, hq1, f1, f2, f3]
    · rw [if_neg ht] at f3 ⊢
      have hq1 : sbin .eql t [] = some (.bool false) := by simp only [sbin, he0 t ht]
      generalize ([] : List UInt8) ++ q = a1 at *
      generalize a1 ++ [46] = a2 at *
      generalize a2 ++ t = a3 at *
      simp (maxDischargeDepth := 99) [cLDecimal, hneg, hw0, hr, hr', hq, hq', hwq, hwr1, hf1, hf2, hsub, hrep, hc1, htr, hb48, hb45, hb46, hbn, hq1, f1, f2, f3]
end Go.Proofs.YtepankcnleeakaaGreatDoor.Ab
namespace Go.Proofs.YtepankcnleeakaaGreatDoor.Ab
open Go
set_option maxRecDepth 20000
set_option maxHeartbeats 8000000
set_option linter.unusedSimpArgs false
set_option linter.unusedVariables false
theorem vshow_int (σ : AHeap) (n : Int) (h0 : -9223372036854775808 ≤ n) (h1 : n ≤ 9223372036854775807) : lim LxV 24 [.agg [.int .i64 2, .int .i64 n, .str []]] σ = some (.one (.str (Lib.itoa n)), σ) := by
  refine lim_rd (args' := [.agg [.int .i64 2, .int .i64 n, .str []]]) (ids := [] ++ []) rfl ((LxV_code _).trans codeLVShow) rfl (frz_val σ 2 n []) ?_ rfl
  unfold BodyP
  have hc := fun σ => eq_check_num σ 2 n (.inl rfl)
  have hi := fun σ => LxV_itoa σ n h0 h1
  simp (maxDischargeDepth := 99) [cLVShow, hc, hi]
theorem vshow_dec (σ : AHeap) (n : Int) (h0 : -9223372036854775808 ≤ n) (h1 : n ≤ 9223372036854775807) : lim LxV 24 [.agg [.int .i64 3, .int .i64 n, .str []]] σ = some (.one (.str (decF n)), σ) := by
  refine lim_rd (args' := [.agg [.int .i64 3, .int .i64 n, .str []]]) (ids := [] ++ []) rfl ((LxV_code _).trans codeLVShow) rfl (frz_val σ 3 n []) ?_ rfl
  unfold BodyP
  have hc := fun σ => eq_check_num σ 3 n (.inr rfl)
  have hi := fun σ => eq_decimal σ n h0 h1
  simp (maxDischargeDepth := 99) [cLVShow, hc, hi]
def textQ (s : List UInt8) : List UInt8 := if s.length ≤ 1024 ∧ Lib.validD s = true then [39] ++ quoteF s ++ [39] else []
theorem quote_len : ∀ s : List UInt8, (quoteF s).length ≤ 2 * s.length
  | [] => Nat.le_refl _
  | c :: l => by
    have := quote_len l
    unfold quoteF
    split <;> (simp only [List.length_cons]; omega)
theorem vshow_text (σ : AHeap) (s : List UInt8) (hs : s.length ≤ 1099511627776) : lim LxV 24 [.agg [.int .i64 4, .int .i64 0, .str s]] σ = some (.one (.str (textQ s)), σ) := by
  refine lim_rd (args' := [.agg [.int .i64 4, .int .i64 0, .str s]]) (ids := [] ++ []) rfl ((LxV_code _).trans codeLVShow) rfl (frz_val σ 4 0 s) ?_ rfl
  unfold BodyP textQ
  have hc := fun σ => eq_check_text σ s hs
  by_cases h : s.length ≤ 1024 ∧ Lib.validD s = true
  · rw [if_pos h] at hc
    rw [if_pos h]
    have hr := fun σ => LxV_replace σ s h.1
    have hl := quote_len s
    have hb1 : bytes [39] = [39] := rfl
    have hb2 : bytes [39, 39] = [39, 39] := rfl
    have h1 := h.1
    have hc1 : sbin .add [39] (quoteF s) = some (.str ([39] ++ quoteF s)) := cat1 (by simp; omega)
    have hc2 : sbin .add ([39] ++ quoteF s) [39] = some (.str ([39] ++ quoteF s ++ [39])) := cat1 (by simp; omega)
    rw [hb1, hb2] at hr
    clear h h1
    generalize ([39] : List UInt8) ++ quoteF s = a at *
    generalize a ++ [39] = b at *
    simp (maxDischargeDepth := 99) [cLVShow, hc, hb1, hb2, hr, hc1, hc2]
  · rw [if_neg h] at hc
    rw [if_neg h]
    clear h
    have hbn : bytes [] = [] := rfl
    simp (maxDischargeDepth := 99) [cLVShow, hc, hbn]
def shownF (t : LTok) : List UInt8 := if t.k = 1 ∨ t.k = 2 ∨ t.k = 6 then t.s else if t.k = 3 then Lib.itoa t.n else if t.k = 4 then decF t.n else if t.k = 5 then textQ t.s else if t.k = 7 then Lib.itoa t.n ++ [109, 115] else []
def LTok.fine (t : LTok) : Prop := (-9223372036854775808 ≤ t.n ∧ t.n ≤ 9223372036854775807) ∧ t.s.length ≤ 1048576
theorem itoa_len {n : Int} (h0 : -9223372036854775808 ≤ n) (h1 : n ≤ 9223372036854775807) : (Lib.itoa n).length ≤ 21 := by
  unfold Lib.itoa
  split
  · have := digs20 (u := n.natAbs) (by omega)
    simp only [List.length_cons]
    omega
  · have := digs20 (u := n.toNat) (by omega)
    omega
theorem dec_len {n : Int} (h0 : -9223372036854775808 ≤ n) (h1 : n ≤ 9223372036854775807) : (decF n).length ≤ 26 := by
  have h2 := digs20 (u := n.natAbs / 10000) (by omega)
  have h3 := part_len (r := n.natAbs % 10000) (Nat.mod_lt _ (by decide))
  unfold decF
  split <;> (simp only [List.length_append, List.length_cons, List.length_nil]; omega)
theorem shown_len {t : LTok} (h : t.fine) : (shownF t).length ≤ 1048700 := by
  obtain ⟨⟨h0, h1⟩, h2⟩ := h
  have a := itoa_len h0 h1
  have b := dec_len h0 h1
  have c := quote_len t.s
  unfold shownF textQ
  split
  · omega
  · split
    · omega
    · split
      · omega
      · split
        · split
          · simp only [List.length_append, List.length_cons, List.length_nil]; omega
          · simp
        · split
          · simp only [List.length_append, List.length_cons, List.length_nil]; omega
          · simp
theorem frz_tok (σ : AHeap) (t : LTok) : frzDAs frzDepth σ [.agg t.cells] = some ([.agg t.cells], [] ++ []) := rfl
theorem eq_shown (σ : AHeap) (t : LTok) (h : t.fine) : lim LxV 17 [.agg t.cells] σ = some (.one (.str (shownF t)), σ) := by
  refine lim_rd (args' := [.agg t.cells]) (ids := [] ++ []) rfl ((LxV_code _).trans codeLShown) rfl (frz_tok σ t) ?_ rfl
  unfold BodyP
  obtain ⟨⟨h0, h1⟩, h2⟩ := h
  have hi := fun σ => vshow_int σ t.n h0 h1
  have hd := fun σ => vshow_dec σ t.n h0 h1
  have ht := fun σ => vshow_text σ t.s (by omega)
  have hn := fun σ => LxV_itoa σ t.n h0 h1
  have hl := itoa_len h0 h1
  have hc : sbin .add (Lib.itoa t.n) [109, 115] = some (.str (Lib.itoa t.n ++ [109, 115])) := cat1 (by simp; omega)
  have hbm : bytes [109, 115] = [109, 115] := rfl
  have hbn : bytes [] = [] := rfl
  unfold shownF LTok.cells tokC
  obtain ⟨k, s, n, p⟩ := t
  simp only at *
  generalize Lib.itoa n = I at *
  generalize decF n = D at *
  generalize textQ s = Q at *
  generalize I ++ [109, 115] = M at *
  by_cases k1 : k = 1
  · subst k1
    simp (maxDischargeDepth := 99) [cLShown, splice]
  · by_cases k2 : k = 2
    · subst k2
      simp (maxDischargeDepth := 99) [cLShown, splice]
    · by_cases k6 : k = 6
      · subst k6
        simp (maxDischargeDepth := 99) [cLShown, splice]
      · by_cases k3 : k = 3
        · subst k3
          simp (maxDischargeDepth := 99) [cLShown, splice, hi]
        · by_cases k4 : k = 4
          · subst k4
            simp (maxDischargeDepth := 99) [cLShown, splice, hd]
          · by_cases k5 : k = 5
            · subst k5
              simp (maxDischargeDepth := 99) [cLShown, splice, ht]
            · by_cases k7 : k = 7
              · subst k7
                simp (maxDischargeDepth := 99) [cLShown, splice, hn, hbm, hc]
              · simp (maxDischargeDepth := 99) [cLShown, splice, k1, k2, k3, k4, k5, k6, k7, hbn]
end Go.Proofs.YtepankcnleeakaaGreatDoor.Ab
namespace Go.Proofs.YtepankcnleeakaaGreatDoor.Ab
open Go
set_option maxRecDepth 20000
set_option maxHeartbeats 8000000
set_option linter.unusedSimpArgs false
set_option linter.unusedVariables false
theorem toksV_lo : ∀ l : List LTok, loE 0 (l.map LTok.cells) = true
  | [] => rfl
  | t :: l => by
    have h := toksV_lo l
    simp only [List.map_cons, loE, h, Bool.and_true]
    rfl
theorem toksV_frz (σ : AHeap) (l : List LTok) : frzDA frzDepth σ (.one (.lst (l.map LTok.cells))) = some (.one (.lst (l.map LTok.cells)), []) := by
  have h := toksV_lo l
  simp only [frzDA, frzDepth, frzD, SV.lo, h]
def IEq (k : Int) (s : List UInt8) (n p k' : Int) (s' : List UInt8) (n' p' : Int) (i : Nat) (fr : List AV) (τ : AHeap) : Prop :=
  fr.length = 26 ∧ getSlot fr 0 = .one (.lst [[.int .i64 k, .str s, .int .i64 n, .int .i64 p]]) ∧ getSlot fr 1 = .one (.lst [[.int .i64 k', .str s', .int .i64 n', .int .i64 p']]) ∧ getSlot fr 12 = .one (.int .i64 1) ∧ getSlot fr 13 = .one (.int .i64 i) ∧
    (i = 1 → k = k' ∧ s = s' ∧ n = n' ∧ p = p')
def FEq (k : Int) (s : List UInt8) (n p k' : Int) (s' : List UInt8) (n' p' : Int) (fr : List AV) (τ : AHeap) : Prop := fr.length = 26 ∧ k = k' ∧ s = s' ∧ n = n' ∧ p = p'
theorem eq_equal (σ : AHeap) (l : List LTok) (x : AV) (t : LTok) (ids : List Nat) (hx : frzDA frzDepth σ x = some (.one (.lst [t.cells]), ids)) :
    lim LxV 18 [.one (.lst (l.map LTok.cells)), x] σ = some (.one (.bool (decide (l = [t]))), σ) := by
  refine lim_rd (args' := [.one (.lst (l.map LTok.cells)), .one (.lst [t.cells])]) (ids := [] ++ (ids ++ [])) rfl ((LxV_code _).trans codeLEqual) rfl (by simp only [frzDAs, toksV_frz, hx]) ?_ rfl
  unfold BodyP
  match l with
  | [] => simp (maxDischargeDepth := 99) [cLEqual]
  | a :: b :: r =>
    have h1 : ¬ ((((a :: b :: r).map LTok.cells).length : Nat) : Int) = 1 := by simp; omega
    have h2 : ¬ ((r.length : Int) + 1 + 1 = 1) := by omega
    simp (maxDischargeDepth := 99) [cLEqual, h1, h2]
  | [a] =>
    obtain ⟨k, s, n, p⟩ := a
    obtain ⟨k', s', n', p'⟩ := t
    simp (maxDischargeDepth := 99) [cLEqual, LTok.cells, tokC]
    refine endsi_to 0 (FEq k s n p k' s' n' p') ?_ ?_
    · refine endsi_range 1 (IEq k s n p k' s' n' p') ?_ ?_ ?_
      · exact ⟨by simp, by simp, by simp, by simp, by simp, fun h => by cases h⟩
      · rintro i fr τ hlt ⟨hlen, f0, f1, f12, f13, _⟩
        obtain rfl : i = 0 := by omega
        have f13 : getSlot fr 13 = .one (.int .i64 0) := f13
        by_cases e1 : k = k'
        · by_cases e2 : s = s'
          · by_cases e3 : n = n'
            · by_cases e4 : p = p'
              · subst e1; subst e2; subst e3; subst e4
                have hw1 : wr .i64 (1 : Int) = 1 := rfl
                simp (maxDischargeDepth := 99) [cLEqual_0, hlen, f0, f1, f12, f13, beqL_refl, hw1]
                exact ⟨by simp [hlen], by simp [hlen, f0], by simp [hlen, f1], by simp [hlen, f12], by simp [hlen], fun _ => ⟨rfl, rfl, rfl, rfl⟩⟩
              · subst e1; subst e2; subst e3
                simp (maxDischargeDepth := 99) [cLEqual_0, hlen, f0, f1, f12, f13, beqL_refl, e4]
            · subst e1; subst e2
              simp (maxDischargeDepth := 99) [cLEqual_0, hlen, f0, f1, f12, f13, beqL_refl, e3]
          · subst e1
            have hb : beqL s s' = false := by
              cases hb : beqL s s' with
              | false => rfl
              | true => rw [beqL_iff] at hb; exact absurd (by simpa using hb) e2
            simp (maxDischargeDepth := 99) [cLEqual_0, hlen, f0, f1, f12, f13, hb, e2]
        · simp (maxDischargeDepth := 99) [cLEqual_0, hlen, f0, f1, f12, f13, e1]
      · rintro fr τ ⟨hlen, f0, f1, f12, f13, he⟩
        have f13 : getSlot fr 13 = .one (.int .i64 1) := f13
        simp (maxDischargeDepth := 99) [cLEqual_0, hlen, f12, f13]
        exact ⟨by simp [hlen], he rfl⟩
    · rintro fr τ ⟨hlen, rfl, rfl, rfl, rfl⟩
      simp (maxDischargeDepth := 99) [hlen]
def okT (t : LTok) : Prop := (lexA (shownF t)).1 = [⟨t.k, t.s, t.n, 0⟩]
instance (t : LTok) : Decidable (okT t) := by unfold okT; exact inferInstance
def showF (l : List LTok) : List UInt8 := if ∀ t ∈ l, okT t then Lib.join (l.map shownF) [32] else []
theorem strsOf_map : ∀ l : List (List UInt8), strsOf (l.map SV.str) = some l
  | [] => rfl
  | x :: l => by
    rw [List.map_cons]
    unfold strsOf
    rw [strsOf_map l]
theorem LxV_join {b : Nat} {τ : AHeap} {sv : SV} {xs : List (List UInt8)} (h : OutSl b τ 1 (.one sv) (xs.map SV.str) xs.length) (h1 : xs.length ≤ 16777216) (h2 : (Lib.join xs [32]).length ≤ 1000000000) :
    lim LxV 19 [.one sv, .one (.str [32])] τ = some (.one (.str (Lib.join xs [32])), τ) := by
  refine (lim_prim (p := pJoin) rfl).trans ?_
  rcases h.2 with ⟨e, h0⟩ | ⟨q, e, h0, _, hg⟩
  · cases e
    have : xs = [] := List.length_eq_zero_iff.1 h0
    subst this
    rfl
  · cases e
    obtain ⟨n, hn⟩ : ∃ n, xs.length = n + 1 := ⟨xs.length - 1, by omega⟩
    have htk : ((xs.map SV.str).drop 0).take (n + 1) = xs.map SV.str := by
      rw [List.drop_zero]
      exact List.take_of_length_le (by rw [List.length_map]; omega)
    have hb : (Nat.beq xs.length (n + 1) && Nat.ble (n + 1) 16777216 && Nat.ble (Lib.join xs [32]).length 1000000000) = true := by
      rw [hn, Nat.beq_refl, Nat.ble_eq_true_of_le (by omega), Nat.ble_eq_true_of_le h2]
      rfl
    rw [hn]
    simp only [pJoin, hg, htk, strsOf_map, hb]
def ISh (l : List LTok) (i : Nat) (fr : List AV) (τ : AHeap) : Prop := fr.length = 37 ∧ getSlot fr 10 = .one (.lst (l.map LTok.cells)) ∧ getSlot fr 11 = .one (.int .i64 l.length) ∧ getSlot fr 12 = .one (.int .i64 i) ∧
  OutSl 0 τ 1 (getSlot fr 3) (((l.take i).map shownF).map SV.str) i ∧ ∀ t ∈ l.take i, okT t
def FSh (l : List LTok) (fr : List AV) (τ : AHeap) : Prop := fr.length = 37 ∧ OutSl 0 τ 1 (getSlot fr 3) ((l.map shownF).map SV.str) l.length ∧ ∀ t ∈ l, okT t
theorem eq_show (σ : AHeap) (l : List LTok) (hf : ∀ t ∈ l, t.fine) (hm : l.length ≤ 16777216) (hj : (Lib.join (l.map shownF) [32]).length ≤ 1000000000) : lim LxV 10 [.one (.lst (l.map LTok.cells))] σ = some (.one (.str (showF l)), σ) := by
  refine lim_rd (args' := [.one (.lst (l.map LTok.cells))]) (ids := [] ++ []) rfl ((LxV_code _).trans codeLShow) rfl (by simp only [frzDAs, toksV_frz]) ?_ rfl
  unfold BodyP
  have hme : l.length ≤ maxElems := by unfold maxElems; omega
  have hb32 : bytes [32] = [32] := rfl
  have hbn : bytes [] = [] := rfl
  obtain ⟨Z, hZ⟩ : ∃ Z, showF l = Z := ⟨_, rfl⟩
  rw [hZ]
  simp (maxDischargeDepth := 99) [cLShow, hbn]
  refine endsi_to 0 (FSh l) ?_ ?_
  · refine endsi_range l.length (ISh l) ?_ ?_ ?_
    · exact ⟨by simp, by simp, by simp, by simp, OutSl.nil _ _ _, fun t h => by simp at h⟩
    · rintro i fr τ hlt ⟨hlen, f10, f11, f12, f3, hall⟩
      have hw := wr_next hlt hme
      obtain ⟨o, ho⟩ : ∃ o, l[i] = o := ⟨_, rfl⟩
      have hom : o ∈ l := by rw [← ho]; exact List.getElem_mem hlt
      have hof := hf o hom
      have hlti : (i : Int) < (l.length : Int) := by omega
      obtain ⟨sl, hsl⟩ : ∃ sl, getSlot fr 3 = sl := ⟨_, rfl⟩
      rw [hsl] at f3
      have hsh := fun σ => eq_shown σ o hof
      have hlex := fun σ => LxV_lex σ (shownF o) (Nat.le_trans (shown_len hof) (by decide))
      obtain ⟨τ1, hτ1⟩ : ∃ τ1, τ1 = τ.alloc ⟨[.int .i64 0, .str [], .int .i64 0, .int .i64 0], .own⟩ := ⟨_, rfl⟩
      have hg1 : τ1.get τ.size = some ⟨[.int .i64 0, .str [], .int .i64 0, .int .i64 0], .own⟩ := by rw [hτ1]; simp
      have hk1 : Keeps τ τ1 := by rw [hτ1]; exact (Keeps.refl τ).alloc
      have hz1 : τ1.size = τ.size + 1 := by rw [hτ1]; simp
      obtain ⟨τ2, w2, g2, o2, z2⟩ := put_ok (vs := o.cells) (cs' := o.cells) 0 hg1 rfl (by simp [LTok.cells, tokC])
      obtain ⟨o0, ho0⟩ : ∃ o0 : LTok, o0 = ⟨o.k, o.s, o.n, 0⟩ := ⟨_, rfl⟩
      obtain ⟨τ3, w3, g3, o3, z3⟩ := put_ok (vs := [.int .i64 0]) (cs' := o0.cells) 3 g2 (by rw [ho0]; rfl) (by simp [LTok.cells, tokC])
      obtain ⟨τ4, hτ4⟩ : ∃ τ4, τ4 = τ3.alloc ⟨o0.cells, .own⟩ := ⟨_, rfl⟩
      have hg4 : τ4.get τ3.size = some ⟨o0.cells, .own⟩ := by rw [hτ4]; simp
      have hk4 : Keeps τ3 τ4 := by rw [hτ4]; exact (Keeps.refl τ3).alloc
      have hz4 : τ4.size = τ3.size + 1 := by rw [hτ4]; simp
      have hfz : ∃ ids, frzDA frzDepth τ4 (.one (.slice τ3.size 0 4 1 (some 1))) = some (.one (.lst [o0.cells]), ids) := by
        have h5 := frzD_own (cap := some 1) (f := 8) (off := 0) (esz := 4) (len := 1) (es := [o0.cells]) (ids := []) hg4 (by simp [LTok.cells, tokC]) (by
          have := frz_toks (frzD 8 τ4) (fun _ _ => rfl) (fun _ => rfl) [o0]
          exact this)
        exact ⟨[τ3.size], by simp only [frzDA, frzDepth, h5]⟩
      obtain ⟨ids, hfz⟩ := hfz
      have heq := eq_equal τ4 (lexA (shownF o)).1 _ o0 ids hfz
      have hcl : o.cells.length = 4 := rfl
      have hcl0 : o0.cells.length = 4 := rfl
      have htk : List.take 4 o.cells = o.cells := rfl
      have htk0 : List.take 4 o0.cells = o0.cells := rfl
      obtain ⟨L, hL⟩ : ∃ L, (lexA (shownF o)).1 = L := ⟨_, rfl⟩
      obtain ⟨S, hS⟩ : ∃ S, shownF o = S := ⟨_, rfl⟩
      have hokE : okT o ↔ L = [o0] := by unfold okT; rw [hL, ho0]
      rw [hL] at heq hlex
      rw [hS] at hsh hlex
      by_cases hok : L = [o0]
      · rw [decide_eq_true hok] at heq
        obtain ⟨τ5, hτ5⟩ : ∃ τ5, τ5 = τ4.alloc ⟨[.str S], .own⟩ := ⟨_, rfl⟩
        have hg5 : τ5.get τ4.size = some ⟨[.str S], .own⟩ := by rw [hτ5]; simp
        have hk5 : Keeps τ4 τ5 := by rw [hτ5]; exact (Keeps.refl τ4).alloc
        have hsl5 : OutSl 0 τ5 1 sl (((l.take i).map shownF).map SV.str) i := f3.stay (fun id _ h => by rw [hk5.2 id (by omega), hk4.2 id (by omega), o3 id (by omega), o2 id (by omega), hk1.2 id h])
        have hap := append_out (bytes := 16) (vs := [.str S]) hsl5 (Nat.zero_le _) (by omega) rfl (by omega) (by decide)
        simp (maxDischargeDepth := 99) [-writeAt, -List.map_map, cLShow_0, hlen, f10, hsl, f11, f12, hlti, hlt, ho, ← hτ1, hcl, hcl0, htk, htk0, w2, hsh, w3, hlex, g2, g3, repeatCells, splice, ← hτ4, heq, ← hτ5, srcLen, srcCells, hg5]
        refine hap.mono ?_
        rintro v τ6 ⟨q1, q2, q3⟩
        have htc : ((l.take i).map shownF).map SV.str ++ [.str S] = ((l.take (i + 1)).map shownF).map SV.str := by
          rw [List.take_succ_eq_append_getElem hlt, ho]
          simp [hS]
        rw [htc] at q1
        have hall' : ∀ t ∈ l.take (i + 1), okT t := by
          intro t ht
          rw [List.take_succ_eq_append_getElem hlt, ho, List.mem_append] at ht
          rcases ht with ht | ht
          · exact hall t ht
          · simp at ht
            subst ht
            exact hokE.2 hok
        simp (maxDischargeDepth := 99) [-writeAt, -List.map_map, -Int.natCast_add, hlen, f12, hw]
        exact ⟨by simp [hlen], by simp [hlen, f10], by simp [hlen, f11], by simp [hlen], by simp only [getSlot_setSlot]; simpa [hlen] using q1, hall'⟩
      · rw [decide_eq_false hok] at heq
        have hZ0 : Z = [] := by
          rw [← hZ]
          unfold showF
          rw [if_neg (fun h => hok (hokE.1 (h o hom)))]
        simp (maxDischargeDepth := 99) [-writeAt, -List.map_map, cLShow_0, hlen, f10, hsl, f11, f12, hlti, hlt, ho, ← hτ1, hcl, hcl0, htk, htk0, w2, hsh, w3, hlex, g2, g3, repeatCells, splice, ← hτ4, heq, hbn, hZ0]
    · rintro fr τ ⟨hlen, f10, f11, f12, f3, hall⟩
      simp (maxDischargeDepth := 99) [cLShow_0, hlen, f11, f12]
      rw [List.take_of_length_le (Nat.le_refl _)] at f3 hall
      have e : ∀ x, getSlot (setSlot fr 13 x) 3 = getSlot fr 3 := fun x => by simp [hlen]
      exact ⟨by simp [hlen], by rw [e]; exact f3, hall⟩
  · rintro fr τ ⟨hlen, f3, hall⟩
    obtain ⟨sv, hsv⟩ : ∃ sv, getSlot fr 3 = .one sv := by
      rcases f3.2 with ⟨h1, _⟩ | ⟨q, h1, _⟩
      · exact ⟨_, h1⟩
      · exact ⟨_, h1⟩
    rw [hsv] at f3
    have hl : l.length = (l.map shownF).length := by simp
    rw [hl] at f3
    have hjn := LxV_join f3 (by rw [List.length_map]; exact hm) hj
    have hZ1 : Z = Lib.join (l.map shownF) [32] := by
      rw [← hZ]
      unfold showF
      rw [if_pos hall]
    rw [← hZ1] at hjn
    simp (maxDischargeDepth := 99) [hlen, hsv, hb32, hjn]
end Go.Proofs.YtepankcnleeakaaGreatDoor.Ab
