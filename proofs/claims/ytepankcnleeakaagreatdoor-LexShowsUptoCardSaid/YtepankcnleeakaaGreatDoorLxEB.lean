/- Several of my texts in one: LxE6, LxE7, LxE8, LxE9. -/
import Derived.Test.YtepankcnleeakaaGreatDoorLxEA
namespace Go.Proofs.YtepankcnleeakaaGreatDoor.Ab
open Go
set_option maxRecDepth 20000
set_option maxHeartbeats 8000000
set_option linter.unusedSimpArgs false
def PNx (p q : Nat) (s : List UInt8) (i : Nat) (τ0 : AHeap) (v : AV) (τ : AHeap) : Prop :=
 Oth p τ0 τ ∧ match skipF s (s.length + 1) i with
  | (j, false) => ∃ tc ok k, tc.length = 4 ∧ v = .tup [.agg tc, .one (.bool ok)] ∧ Rdr τ p s k (.map q) 50 j
  | (j, true) => if s.length ≤ j then v = .tup [.agg (tokC 0 [] 0 0), .one (.bool false)] ∧ Rdr τ p s j (.map q) 0 0
   else match tokF s j with
    | (t, k, none) => v = .tup [.agg t.cells, .one (.bool true)] ∧ Rdr τ p s k (.map q) 0 0 ∧ i < k ∧ k ≤ s.length
    | (_, _, some e) => ∃ tc ok k, tc.length = 4 ∧ v = .tup [.agg tc, .one (.bool ok)] ∧ Rdr τ p s k (.map q) e j ∧ e ≠ 0
def NextOk : Prop := ∀ (τ : AHeap) (p q : Nat) (s : List UInt8) (i : Nat), Rdr τ p s i (.map q) 0 0 → WMap τ q → q ≠ p → s.length ≤ 67108864 → i ≤ s.length →
 OptP (lim LxX 21 [.one (.ptr p 0)] τ) (fun _ v τ' => PNx p q s i τ v τ')
theorem append_one {b : Nat} {τ : AHeap} {esz bytes : Nat} {s : AV} {cells vs : List SV} {n : Nat} (h : OutSl b τ esz s cells n) (hb : b ≤ τ.size) (he : 0 < esz)
  (hv : vs.length = esz) (hn : n + 1 ≤ maxElems) (hby : bytes ≤ maxBytes) :
  OptP (appendA τ esz bytes s 1 vs) (fun _ s' τ' => OutSl b τ' esz s' (cells ++ vs) (n + 1) ∧ τ'.size = τ.size + 1 ∧ s' = .one (.slice τ.size 0 esz (n + 1) none) ∧
   ∀ id, id < τ.size → (∀ o e k c, s ≠ .one (.slice id o e k c)) → τ'.get id = τ.get id) := by
 obtain ⟨hc, h⟩ := h
 rcases h with ⟨rfl, rfl⟩ | ⟨q, rfl, h0, hq, hg⟩
 ·have h1 : 1 ≤ maxElems := by decide
  have hc0 : cells = [] := by simpa using hc
  subst hc0
  simp [appendA, appendK, h1, hby]
  refine ⟨⟨by simpa using hv, .inr ⟨τ.size, rfl, by omega, hb, by simp⟩⟩, fun id hid hid' => by omega⟩
 ·have hlt := AHeap.get_lt hg
  have h2 : ¬ ((n + 1) * esz ≤ cells.length) := by rw [hc, Nat.succ_mul]; omega
  simp [appendA, appendK, hn, hby, hg, h2, hc.symm]
  have hmul : cells.length + esz = (n + 1) * esz := by rw [hc, Nat.succ_mul]
  refine ⟨⟨by simp [hv, hmul], .inr ⟨τ.size, rfl, by omega, hb, by simp⟩⟩, fun id hid hne => ?_⟩
  have e1 : ¬ (id = q ∧ q < τ.size) := fun e => hne 0 esz n none e.1.symm rfl rfl rfl rfl
  rw [if_neg (by omega), if_neg e1]
def tcells (l : List LTok) : List SV := (l.map LTok.cells).flatten
def ILx (p q b : Nat) (s : List UInt8) (k : Nat) (fr : List AV) (τ : AHeap) : Prop :=
 ∃ i l sl f, k = s.length + 1 - i ∧ i ≤ s.length ∧ fr.length = 52 ∧ getSlot fr 5 = .one (.ptr p 0) ∧ getSlot fr 8 = sl ∧ OutSl b τ 4 sl (tcells l) l.length ∧ l.length ≤ i ∧
  Rdr τ p s i (.map q) 0 0 ∧ WMap τ q ∧ q ≠ p ∧ p < b ∧ q < b ∧ b ≤ τ.size ∧ s.length - i < f ∧ lexF s f i l = lexF s (s.length + 1) 0 []
def PLx (b : Nat) (s : List UInt8) (v : AV) (τ : AHeap) : Prop :=
 ∃ sl, v = .tup [.one sl, .one (.int .i64 (lexF s (s.length + 1) 0 []).2.1), .one (.int .i64 (lexF s (s.length + 1) 0 []).2.2)] ∧ OutSl b τ 4 (.one sl) (tcells (lexF s (s.length + 1) 0 []).1) (lexF s (s.length + 1) 0 []).1.length
theorem step_lex (hN : NextOk) {p q b : Nat} {s : List UInt8} (hs : s.length ≤ 67108864) {k : Nat} {fr : List AV} {τ : AHeap} (hI : ILx p q b s k fr τ) (E : KE) (R : KN)
  (hR : ∀ fr τ sl, fr.length = 52 → getSlot fr 2 = .one sl → getSlot fr 3 = .one (.int .i64 (lexF s (s.length + 1) 0 []).2.1) → getSlot fr 4 = .one (.int .i64 (lexF s (s.length + 1) 0 []).2.2) →
   OutSl b τ 4 (.one sl) (tcells (lexF s (s.length + 1) 0 []).1) (lexF s (s.length + 1) 0 []).1.length → R .go fr τ) :
  EndsI .go (lim LxX) cLLex_1 fr τ (fun _ fr τ => ∃ k', k' < k ∧ ILx p q b s k' fr τ) E R := by
 obtain ⟨i, l, sl, f, rfl, hi, hlen, f5, f8, hsl, hli, hr, hw, hqp, hpb, hqb, hb, hf, hF⟩ := hI
 obtain ⟨f, rfl⟩ : ∃ f', f = f' + 1 := ⟨f - 1, by omega⟩
 have hnx := hN τ p q s i hr hw hqp hs hi
 simp (maxDischargeDepth := 99) [-writeAt, cLLex_1, hlen, f5]
 refine hnx.mono ?_
 rintro v τ1 ⟨ho, hp⟩
 have hpz : p < τ1.size := Nat.lt_of_lt_of_le (Nat.lt_of_lt_of_le hpb hb) ho.1
 have hps : ¬ p = τ1.size := Nat.ne_of_lt hpz
 have hst : ∀ tc : List SV, tc.length = 4 → ∃ τ2, writeAt (τ1.alloc ⟨[.int .i64 0, .str [], .int .i64 0, .int .i64 0], .own⟩) τ1.size 0 tc = some τ2 ∧ τ2.get τ1.size = some ⟨tc, .own⟩ ∧ (∀ j, j ≠ τ1.size → τ2.get j = (τ1.alloc ⟨[.int .i64 0, .str [], .int .i64 0, .int .i64 0], .own⟩).get j) ∧ τ2.size = τ1.size + 1 := by
  intro tc ht
  obtain ⟨τ2, h1, h2, h3, h4⟩ := put_ok (τ := τ1.alloc ⟨[.int .i64 0, .str [], .int .i64 0, .int .i64 0], .own⟩) (id := τ1.size) (cs := [.int .i64 0, .str [], .int .i64 0, .int .i64 0]) (vs := tc) (cs' := tc) 0 (by simp) (by
   match tc, ht with
   | [a, b, c, d], _ => rfl) (by simp [ht])
  exact ⟨τ2, h1, h2, h3, by rw [h4]; simp⟩
 have hold : ∀ j, j < τ1.size → (τ1.alloc ⟨[.int .i64 0, .str [], .int .i64 0, .int .i64 0], .own⟩).get j = τ1.get j := fun j hj => by simp [hj]; omega
 rw [lexF] at hF
 cases hsk : skipF s (s.length + 1) i with
 | mk j good =>
  rw [hsk] at hF hp
  cases good with
  | false =>
   obtain ⟨tc, ok, k, htc, rfl, hr1⟩ := hp
   simp only at hF
   obtain ⟨τ2, w2, g2, o2, z2⟩ := hst tc htc
   have hr2 : Rdr τ2 p s k (.map q) 50 j := by unfold Rdr; rw [o2 p hps, hold p hpz]; exact hr1
   unfold Rdr rcells at hr2
   rw [← hF] at hR
   simp (maxDischargeDepth := 99) [-writeAt, hlen, f5, htc, w2, hr2]
   exact hR _ _ .nilSlice (by simp [hlen]) (by simp [hlen]) (by simp [hlen]) (by simp [hlen]) (OutSl.nil _ _ _)
  | true =>
   simp only at hF hp
   by_cases hend : s.length ≤ j
   ·rw [if_pos hend] at hF hp
    obtain ⟨rfl, hr1⟩ := hp
    obtain ⟨τ2, w2, g2, o2, z2⟩ := hst (tokC 0 [] 0 0) rfl
    have hr2 : Rdr τ2 p s j (.map q) 0 0 := by unfold Rdr; rw [o2 p hps, hold p hpz]; exact hr1
    unfold Rdr rcells at hr2
    rw [← hF] at hR
    have hsl2 : OutSl b τ2 4 sl (tcells l) l.length := hsl.stay (fun id h1 h2 => by rw [o2 id (by have := ho.1; omega), hold id (Nat.lt_of_lt_of_le h2 ho.1), ho.2 id h2 (by omega)])
    simp only [tokC] at w2
    obtain ⟨sv, rfl⟩ : ∃ sv, sl = .one sv := by
     rcases hsl.2 with ⟨h1, _⟩ | ⟨q', h1, _⟩
     ·exact ⟨_, h1⟩
     ·exact ⟨_, h1⟩
    simp (maxDischargeDepth := 99) [-writeAt, hlen, f5, f8, tokC, w2, hr2]
    exact hR _ _ sv (by simp [hlen]) (by simp [hlen]) (by simp [hlen]) (by simp [hlen]) hsl2
   ·rw [if_neg hend] at hF hp
    cases htk : tokF s j with
    | mk t r =>
     obtain ⟨k, er⟩ := r
     rw [htk] at hF hp
     cases er with
     | some e =>
      obtain ⟨tc, ok, k', htc, rfl, hr1, he⟩ := hp
      simp only at hF
      obtain ⟨τ2, w2, g2, o2, z2⟩ := hst tc htc
      have hr2 : Rdr τ2 p s k' (.map q) e j := by unfold Rdr; rw [o2 p hps, hold p hpz]; exact hr1
      unfold Rdr rcells at hr2
      rw [← hF] at hR
      simp (maxDischargeDepth := 99) [-writeAt, hlen, f5, htc, w2, hr2, he]
      exact hR _ _ .nilSlice (by simp [hlen]) (by simp [hlen]) (by simp [hlen]) (by simp [hlen]) (OutSl.nil _ _ _)
     | none =>
      obtain ⟨rfl, hr1, hik, hks⟩ := hp
      simp only at hF
      obtain ⟨τ2, w2, g2, o2, z2⟩ := hst t.cells rfl
      have hr2 : Rdr τ2 p s k (.map q) 0 0 := by unfold Rdr; rw [o2 p hps, hold p hpz]; exact hr1
      have hw2 : WMap τ2 q := by
       obtain ⟨cs, c, es, h1, h2⟩ := hw
       have hq1 := AHeap.get_lt h1
       exact ⟨cs, c, es, by rw [o2 q (by have := ho.1; omega), hold q (by have := ho.1; omega), ho.2 q hq1 hqp]; exact h1, h2⟩
      have hsl2 : OutSl b τ2 4 sl (tcells l) l.length := hsl.stay (fun id h1 h2 => by rw [o2 id (by have := ho.1; omega), hold id (Nat.lt_of_lt_of_le h2 ho.1), ho.2 id h2 (by omega)])
      obtain ⟨τ3, hτ3⟩ : ∃ τ3, τ3 = τ2.alloc ⟨t.cells, .own⟩ := ⟨_, rfl⟩
      have hk3 : Keeps τ2 τ3 := by rw [hτ3]; exact (Keeps.refl τ2).alloc
      have hg3 : τ3.get τ2.size = some ⟨t.cells, .own⟩ := by rw [hτ3]; simp
      have hsl3 := hsl2.stay (τ' := τ3) (fun id _ h2 => hk3.2 id h2)
      have hbt : b ≤ τ3.size := by have := hk3.1; have := ho.1; omega
      have hap := append_one (bytes := 40) (vs := t.cells) hsl3 hbt (by omega) rfl (by unfold maxElems; omega) (by decide)
      have hr2' := hr2
      unfold Rdr rcells at hr2'
      have hcl : t.cells.length = 4 := rfl
      have htk4 : List.take 4 t.cells = t.cells := rfl
      simp (maxDischargeDepth := 99) [-writeAt, hlen, f5, f8, hcl, w2, hr2', g2, repeatCells, splice, htk4, ← hτ3, srcLen, srcCells, hg3]
      refine hap.mono ?_
      rintro v τ4 ⟨q1, q2, rfl, q3⟩
      have hnot : ∀ id, id < b → ∀ o e k c, sl ≠ .one (.slice id o e k c) := by
       intro id hid o e k c he
       rcases hsl.2 with ⟨h1, _⟩ | ⟨q', h1, _, h2, _⟩
       ·rw [he] at h1; cases h1
       ·rw [he] at h1; cases h1; omega
      have hkeep : ∀ id, id < b → τ4.get id = τ2.get id := fun id hid => by rw [q3 id (by omega) (hnot id hid)]; exact hk3.2 id (by have := ho.1; omega)
      have htc : tcells l ++ t.cells = tcells (l ++ [t]) := by simp [tcells]
      rw [htc] at q1
      have hll : (l ++ [t]).length = l.length + 1 := by simp
      simp (maxDischargeDepth := 99) [-writeAt, hlen]
      refine ⟨s.length + 1 - k, by omega, k, l ++ [t], _, f, rfl, hks, by simp [hlen], by simp [hlen, f5], by simp [hlen]; rfl, by rw [hll]; exact q1, by rw [hll]; omega, ?_, ?_, hqp, hpb, hqb, by have := hk3.1; have := ho.1; omega, by omega, hF⟩
      ·unfold Rdr
       rw [hkeep p hpb]
       exact hr2
      ·obtain ⟨cs, c, es, h1, h2⟩ := hw2
       exact ⟨cs, c, es, by rw [hkeep q hqb]; exact h1, h2⟩
end Go.Proofs.YtepankcnleeakaaGreatDoor.Ab
namespace Go.Proofs.YtepankcnleeakaaGreatDoor.Ab
open Go
set_option maxRecDepth 20000
set_option maxHeartbeats 8000000
set_option linter.unusedSimpArgs false
theorem lex_body (hN : NextOk) {s : List UInt8} (hs : s.length ≤ 67108864) : BodyP LxX cLLex [.one (.str s)] emptyH (fun _ v τ' => PLx (emptyH.size + 3) s v τ') := by
 obtain ⟨τ, hτ⟩ : ∃ τ : AHeap, emptyH = τ := ⟨_, rfl⟩
 rw [hτ]
 unfold BodyP
 obtain ⟨τ1, hτ1⟩ : ∃ τ1, τ1 = ((τ.alloc ⟨[], .map 0 []⟩).alloc ⟨rcells s 0 (.map τ.size) 0 0, .own⟩).alloc ⟨wordsL.map SV.str, .own⟩ := ⟨_, rfl⟩
 have hW := LxX_words
 have hz1 : τ1.size = τ.size + 3 := by rw [hτ1]; simp
 have hq1 : τ1.get τ.size = some ⟨[], .map 0 []⟩ := by rw [hτ1]; simp; omega
 have hr1 : Rdr τ1 (τ.size + 1) s 0 (.map τ.size) 0 0 := by unfold Rdr; rw [hτ1]; simp
 have hw1 : τ1.get (τ.size + 2) = some ⟨wordsL.map SV.str, .own⟩ := by rw [hτ1]; simp
 have hrc : [SV.str s, .int .i64 0, .map τ.size, .int .i64 0, .int .i64 0] = rcells s 0 (.map τ.size) 0 0 := rfl
 simp (maxDischargeDepth := 99) [-writeAt, cLLex, hW, repeatCells, splice, hrc, ← hτ1]
 refine endsi_to 0 (IMp (τ.size + 1) τ.size (τ.size + 2) s 58) ?_ ?_
 ·refine endsi_range 58 (IMp (τ.size + 1) τ.size (τ.size + 2) s) ?_ ?_ ?_
  ·exact ⟨by simp, by simp, by simp, by simp, by simp, hr1, hw1, hq1, by omega, by omega⟩
  ·intro j fr σ hlt hI
   exact step_map hlt hI _ _
  ·rintro fr σ ⟨hlen, f5, f15, f16, f17, hI⟩
   simp (maxDischargeDepth := 99) [-writeAt, cLLex_0, hlen, f16, f17]
   exact ⟨by simp [hlen], by simp [hlen, f5], by simp [hlen, f15], by simp [hlen, f16], by simp [hlen, f17], hI⟩
 ·rintro fr σ ⟨hlen, f5, f15, f16, f17, hr, hw, hq, hpq, hrq⟩
  have hwm : WMap σ τ.size := wmap_ents (by rw [show wordsL.take 58 = wordsL from rfl] at hq; exact hq)
  have hsz : τ.size + 3 ≤ σ.size := by have := AHeap.get_lt hw; omega
  simp (maxDischargeDepth := 99) [-writeAt, hlen]
  refine endsi_loop (I := ILx (τ.size + 1) τ.size (τ.size + 3) s) (fun k fr σ hI => step_lex hN hs hI _ _ ?_) (k := s.length + 1) ?_
  ·intro fr σ sl h1 h2 h3 h4 h5
   exact ⟨sl, by rw [h2, h3, h4], h5⟩
  ·exact ⟨0, [], .one .nilSlice, s.length + 1, by omega, Nat.zero_le _, by simp [hlen], by simp [hlen, f5], by simp [hlen], OutSl.nil _ _ _, Nat.zero_le _, hr, hwm, by omega, by omega, by omega, hsz, by omega, rfl⟩
end Go.Proofs.YtepankcnleeakaaGreatDoor.Ab
namespace Go.Proofs.YtepankcnleeakaaGreatDoor.Ab
open Go
set_option maxRecDepth 20000
set_option maxHeartbeats 8000000
set_option linter.unusedSimpArgs false
set_option linter.unusedVariables false
def PTk (p : Nat) (m : SV) (s : List UInt8) (i : Nat) (r : LTok × Nat × Option Int) (τ0 : AHeap) (v : AV) (τ : AHeap) : Prop :=
 Oth p τ0 τ ∧ match r with
  | (t, k, none) => v = .agg t.cells ∧ Rdr τ p s k m 0 0 ∧ i < k ∧ k ≤ s.length
  | (_, _, some e) => ∃ tc k, tc.length = 4 ∧ v = .agg tc ∧ Rdr τ p s k m e i ∧ e ≠ 0
def NumOk : Prop := ∀ (τ : AHeap) (p : Nat) (m : SV) (s : List UInt8) (i : Nat), Rdr τ p s i m 0 0 → s.length ≤ 67108864 → i < s.length → digB (lookF s i 0) = true →
 OptP (lim LxX 40 [.one (.ptr p 0)] τ) (fun _ v τ' => PTk p m s i (numF s i) τ v τ')
def TextOk : Prop := ∀ (τ : AHeap) (p : Nat) (m : SV) (s : List UInt8) (i : Nat), Rdr τ p s i m 0 0 → s.length ≤ 67108864 → i < s.length → lookF s i 0 = 39 →
 OptP (lim LxX 41 [.one (.ptr p 0)] τ) (fun _ v τ' => PTk p m s i (textF s i) τ v τ')
def endF (s : List UInt8) (i : Nat) : Int := match findF [42, 47] s (s.length + 1) i with
 | some k => (k : Int) - i
 | none => -1
def EndOk : Prop := ∀ (σ : AHeap) (s : List UInt8) (i : Nat), s.length ≤ 67108864 → i ≤ s.length →
 lim LxX 35 [.one (.str (s.drop i)), .one (.str [42, 47])] σ = some (.one (.int .i64 (endF s i)), σ)
def INx (p q r : Nat) (s : List UInt8) (i0 : Nat) (τ0 : AHeap) (k : Nat) (fr : List AV) (τ : AHeap) : Prop :=
 ∃ i f, k = s.length + 1 - i ∧ i0 ≤ i ∧ i ≤ s.length ∧ s.length - i < f ∧ skipF s f i = skipF s (s.length + 1) i0 ∧ fr.length = 125 ∧ getSlot fr 0 = .one (.ptr p 0) ∧ getSlot fr 2 = .one (.ptr r 0) ∧
  Rdr τ p s i (.map q) 0 0 ∧ WMap τ q ∧ τ.get r = some ⟨[.int .i64 0, .str [], .int .i64 0, .int .i64 0], .own⟩ ∧ Oth p τ0 τ ∧ τ0.size ≤ r
theorem findF_spec {t s : List UInt8} : ∀ {f i k : Nat}, findF t s f i = some k → i ≤ k ∧ t.isPrefixOf (s.drop k) = true
 | 0, i, k, h => by cases h
 | f + 1, i, k, h => by
  rw [findF] at h
  split at h
  ·rename_i hp
   cases h
   exact ⟨Nat.le_refl _, hp⟩
  ·have := findF_spec h
   exact ⟨by omega, this.2⟩
def FNx (p q r : Nat) (s : List UInt8) (i0 : Nat) (τ0 : AHeap) (fr : List AV) (τ : AHeap) : Prop :=
 ∃ tc ok, fr.length = 125 ∧ getSlot fr 2 = .one (.ptr r 0) ∧ getSlot fr 3 = .one (.bool ok) ∧ τ.get r = some ⟨tc, .own⟩ ∧ tc.length = 4 ∧ PNx p q s i0 τ0 (.tup [.agg tc, .one (.bool ok)]) τ
theorem step_next (hNum : NumOk) (hText : TextOk) (hEnd : EndOk) {p q r : Nat} {s : List UInt8} (hs : s.length ≤ 67108864) (hpr : p ≠ r) (hqp : q ≠ p) {i0 k : Nat} {τ0 : AHeap} (hp0 : p < τ0.size) {fr : List AV} {τ : AHeap} (hI : INx p q r s i0 τ0 k fr τ) (E : KE) (R : KN)
  (hR : ∀ fr τ, FNx p q r s i0 τ0 fr τ → R .go fr τ) : EndsI .go (lim LxX) cLNext_0 fr τ (fun _ fr τ => ∃ k', k' < k ∧ INx p q r s i0 τ0 k' fr τ) E R := by
 obtain ⟨i, f, rfl, hi0, hi, hf, hsk, hlen, f0, f2, hr, hw, hz, ho, hrz⟩ := hI
 obtain ⟨f, rfl⟩ : ∃ f', f = f' + 1 := ⟨f - 1, by omega⟩
 rw [skipF] at hsk
 have hr' := hr
 unfold Rdr rcells at hr
 by_cases hend : s.length ≤ i
 ·have hge : (s.length : Int) ≤ (i : Int) := Int.ofNat_le.2 hend
  rw [List.getElem?_eq_none hend] at hsk
  simp only at hsk
  obtain ⟨τ1, w1, g1, o1, z1⟩ := put_ok (vs := [.int .i64 0, .str [], .int .i64 0, .int .i64 0]) (cs' := [.int .i64 0, .str [], .int .i64 0, .int .i64 0]) 0 hz rfl (by simp)
  have hr1 : Rdr τ1 p s i (.map q) 0 0 := by unfold Rdr; rw [o1 p hpr]; exact hr'
  have ho1 : Oth p τ0 τ1 := ⟨by have := ho.1; omega, fun id h1 h2 => (o1 id (by omega)).trans (ho.2 id h1 h2)⟩
  simp (maxDischargeDepth := 99) [-writeAt, cLNext_0, hlen, f0, f2, hr, hge, w1]
  refine hR _ _ ⟨_, false, by simp [hlen], by simp [hlen, f2], by simp [hlen], g1, rfl, ho1, ?_⟩
  rw [← hsk]
  simp only
  rw [if_pos hend]
  exact ⟨rfl, hr1⟩
 ·have hlt : i < s.length := by omega
  have hlti : (i : Int) < (s.length : Int) := Int.ofNat_lt.2 hlt
  have hge : ¬ (s.length : Int) ≤ (i : Int) := by omega
  obtain ⟨c, hc⟩ : ∃ c, s[i]? = some c := ⟨_, List.getElem?_eq_getElem hlt⟩
  have hc' : s[i] = c := (List.getElem?_eq_some_iff.1 hc).2
  rw [hc] at hsk
  simp only at hsk
  have hI' : ∀ (i' : Nat) (fr' : List AV) (τ' : AHeap), i < i' → i' ≤ s.length → skipF s f i' = skipF s (s.length + 1) i0 → fr'.length = 125 → getSlot fr' 0 = .one (.ptr p 0) → getSlot fr' 2 = .one (.ptr r 0) → Rdr τ' p s i' (.map q) 0 0 → Oth p τ τ' →
    ∃ k', k' < s.length + 1 - i ∧ INx p q r s i0 τ0 k' fr' τ' := by
   intro i' fr' τ' h1 h2 h3 h4 h5 h6 h7 h8
   have hrl := AHeap.get_lt hz
   exact ⟨s.length + 1 - i', by omega, i', f, rfl, by omega, h2, by omega, h3, h4, h5, h6, h7, hw.stay h8 hqp, by rw [h8.2 r hrl (fun e => hpr e.symm)]; exact hz, ho.trans h8, hrz⟩
  by_cases hbl : c = 9 ∨ c = 10 ∨ c = 13 ∨ c = 32
  ·rw [if_pos hbl] at hsk
   obtain ⟨τ1, w1, hr1, ho1⟩ := hr'.wAt (i + 1)
   have hwi := wr_next hlt (show s.length ≤ maxElems by unfold maxElems; omega)
   rcases hbl with rfl | rfl | rfl | rfl
   all_goals
    simp (maxDischargeDepth := 99) [-writeAt, -Int.natCast_add, cLNext_0, hlen, f0, f2, hr, hge, hlti, hlt, hc, hc', hwi, w1]
    exact hI' (i + 1) _ _ (by omega) hlt hsk (by simp [hlen]) (by simp [hlen, f0]) (by simp [hlen, f2]) hr1 ho1
  ·rw [if_neg hbl] at hsk
   have hcn : ∀ n : Nat, n < 256 → c ≠ UInt8.ofNat n → ¬ ((c.toNat : Int) = (n : Int)) := by
    intro n hn h e
    apply h
    have : c.toNat = n := by omega
    rw [← this]
    simp
   have n9 : ¬ (c.toNat : Int) = 9 := hcn 9 (by omega) (fun e => hbl (.inl e))
   have n10 : ¬ (c.toNat : Int) = 10 := hcn 10 (by omega) (fun e => hbl (.inr (.inl e)))
   have n13 : ¬ (c.toNat : Int) = 13 := hcn 13 (by omega) (fun e => hbl (.inr (.inr (.inl e))))
   have n32 : ¬ (c.toNat : Int) = 32 := hcn 32 (by omega) (fun e => hbl (.inr (.inr (.inr e))))
   have hle : (i : Int) ≤ (s.length : Int) := by omega
   have hsub : (s.drop i).take (s.length - i) = s.drop i := List.take_of_length_le (by simp)
   have hpre1 := fun σ => eq_prefix σ (s.drop i) [45, 45]
   have hpre2 := fun σ => eq_prefix σ (s.drop i) [47, 42]
   cases hb1 : List.isPrefixOf [45, 45] (s.drop i) with
   | true =>
    rw [hb1] at hsk hpre1
    simp only [if_true] at hsk
    have hwh := run_while (g := 34) (pb := fun c => c != 10) hr' (show s.length ≤ maxElems by unfold maxElems; omega) hi eq_next1
    simp (maxDischargeDepth := 99) [-writeAt, -Int.natCast_add, cLNext_0, hlen, f0, f2, hr, hge, hlti, hlt, hc, hc', n9, n10, n13, n32, hle, hi, hsub, bytes, hpre1]
    refine hwh.mono ?_
    rintro v τ1 ⟨rfl, hr1, ho1⟩
    have hpos : 0 < (runF (fun c => c != 10) s i).length := by
     have h1 := List.isPrefixOf_iff_prefix.1 hb1
     rw [List.drop_eq_getElem_cons hlt, hc'] at h1
     have h2 : c = 45 := (List.cons_prefix_cons.1 h1).1.symm
     unfold runF
     rw [List.drop_eq_getElem_cons hlt, hc', h2]
     simp
    have hle2 : i + (runF (fun c => c != 10) s i).length ≤ s.length := by
     have := List.IsPrefix.length_le (List.takeWhile_prefix (p := fun c : UInt8 => c != 10) (l := s.drop i))
     rw [List.length_drop] at this
     unfold runF
     omega
    simp (maxDischargeDepth := 99) [-writeAt, hlen]
    exact hI' _ _ _ (by omega) hle2 hsk (by simp [hlen]) (by simp [hlen, f0]) (by simp [hlen, f2]) hr1 ho1
   | false =>
    rw [hb1] at hsk hpre1
    simp only [Bool.false_eq_true, if_false] at hsk
    cases hb2 : List.isPrefixOf [47, 42] (s.drop i) with
    | true =>
     rw [hb2] at hsk hpre2
     simp only [if_true] at hsk
     have hi2 : i + 2 ≤ s.length := by
      have := List.IsPrefix.length_le (List.isPrefixOf_iff_prefix.1 hb2)
      rw [List.length_drop] at this
      simp at this
      omega
     have hw2 : wr .i64 ((i : Int) + 2) = ((i + 2 : Nat) : Int) := by rw [wr64 (by omega) (by omega)]; omega
     have hle2 : ((i + 2 : Nat) : Int) ≤ (s.length : Int) := Int.ofNat_le.2 hi2
     have hsub2 : (s.drop (i + 2)).take (s.length - (i + 2)) = s.drop (i + 2) := List.take_of_length_le (by simp)
     have hend2 := fun σ => hEnd σ s (i + 2) hs hi2
     unfold endF at hend2
     cases hfd : findF [42, 47] s (s.length + 1) (i + 2) with
     | none =>
      rw [hfd] at hend2 hsk
      simp only at hend2 hsk
      have hfl := run_fail hr' 50 i
      simp (maxDischargeDepth := 99) [-writeAt, -Int.natCast_add, cLNext_0, hlen, f0, f2, hr, hge, hlti, hlt, hc, hc', n9, n10, n13, n32, hle, hi, hsub, bytes, hpre1, hpre2, hw2, hle2, hi2, hsub2, hend2]
      refine hfl.mono ?_
      rintro v τ1 ⟨rfl, hr1, ho1⟩
      rw [if_pos rfl, if_pos rfl] at hr1
      have hz1 : τ1.get r = some ⟨[.int .i64 0, .str [], .int .i64 0, .int .i64 0], .own⟩ := by rw [ho1.2 r (AHeap.get_lt hz) (fun e => hpr e.symm)]; exact hz
      obtain ⟨τ2, w2, g2, o2, z2⟩ := put_ok (vs := [.int .i64 0, .str [], .int .i64 0, .int .i64 0]) (cs' := [.int .i64 0, .str [], .int .i64 0, .int .i64 0]) 0 hz1 rfl (by simp)
      have hr2 : Rdr τ2 p s i (.map q) 50 i := by unfold Rdr; rw [o2 p hpr]; exact hr1
      have ho2 : Oth p τ0 τ2 := ⟨by have := ho.1; have := ho1.1; omega, fun id h1 h2 => (o2 id (by omega)).trans ((ho.trans ho1).2 id h1 h2)⟩
      simp (maxDischargeDepth := 99) [-writeAt, hlen, f2, w2]
      refine hR _ _ ⟨_, false, by simp [hlen], by simp [hlen, f2], by simp [hlen], g2, rfl, ho2, ?_⟩
      rw [← hsk]
      exact ⟨_, _, _, rfl, rfl, hr2⟩
     | some k =>
      rw [hfd] at hend2 hsk
      simp only at hend2 hsk
      obtain ⟨k1, k2⟩ := findF_spec hfd
      have k3 : k + 2 ≤ s.length := by
       have := List.IsPrefix.length_le (List.isPrefixOf_iff_prefix.1 k2)
       rw [List.length_drop] at this
       simp at this
       omega
      have hneg : ¬ ((k : Int) - ((i + 2 : Nat) : Int) < 0) := by omega
      have hneg' : ¬ ((k : Int) < ((i + 2 : Nat) : Int)) := by omega
      have hwa : wr .i64 ((k : Int) - ((i + 2 : Nat) : Int) + 4) = ((k + 2 - i : Nat) : Int) := by rw [wr64 (by omega) (by omega)]; omega
      have hwb : wr .i64 ((i : Int) + ((k + 2 - i : Nat) : Int)) = ((k + 2 : Nat) : Int) := by rw [wr64 (by omega) (by omega)]; omega
      obtain ⟨τ1, w1, hr1, ho1⟩ := hr'.wAt (k + 2)
      simp (maxDischargeDepth := 99) [-writeAt, -Int.natCast_add, cLNext_0, hlen, f0, f2, hr, hge, hlti, hlt, hc, hc', n9, n10, n13, n32, hle, hi, hsub, bytes, hpre1, hpre2, hw2, hle2, hi2, hsub2, hend2, hneg, hneg', hwa, hwb, w1]
      exact hI' (k + 2) _ _ (by omega) k3 hsk (by simp [hlen]) (by simp [hlen, f0]) (by simp [hlen, f2]) hr1 ho1
    | false =>
     rw [hb2] at hsk hpre2
     simp only [Bool.false_eq_true, if_false] at hsk
     have hlk : lookF s i 0 = c := by unfold lookF; rw [Nat.add_zero, hc]; rfl
     have hlet := fun σ => eq_letter σ c
     have hdig := fun σ => eq_digit σ c
     have hnn : ¬ s.length ≤ i := hend
     have fin : ∀ (r3 : LTok × Nat × Option Int) (v : AV) (τ1 : AHeap), tokF s i = r3 → PTk p (.map q) s i r3 τ v τ1 → ∃ tc τ2, v = .agg tc ∧ tc.length = 4 ∧ writeAt τ1 r 0 tc = some τ2 ∧ τ2.get r = some ⟨tc, .own⟩ ∧
       PNx p q s i0 τ0 (.tup [.agg tc, .one (.bool true)]) τ2 := by
      rintro ⟨t, k, er⟩ v τ1 ht ⟨ho1, hp⟩
      have hz1 : τ1.get r = some ⟨[.int .i64 0, .str [], .int .i64 0, .int .i64 0], .own⟩ := by rw [ho1.2 r (AHeap.get_lt hz) (fun e => hpr e.symm)]; exact hz
      have hw4 : ∀ tc : List SV, tc.length = 4 → ∃ τ2, writeAt τ1 r 0 tc = some τ2 ∧ τ2.get r = some ⟨tc, .own⟩ ∧ (∀ j, j ≠ r → τ2.get j = τ1.get j) ∧ τ2.size = τ1.size := by
       intro tc htc
       exact put_ok (vs := tc) (cs' := tc) 0 hz1 (by
        match tc, htc with
        | [a, b, c, d], _ => rfl) (by simp [htc])
      cases er with
      | none =>
       obtain ⟨rfl, hr1, hk1, hk2⟩ := hp
       obtain ⟨τ2, w2, g2, o2, z2⟩ := hw4 t.cells rfl
       refine ⟨_, τ2, rfl, rfl, w2, g2, ⟨by have := ho.1; have := ho1.1; omega, fun id h1 h2 => (o2 id (by omega)).trans ((ho.trans ho1).2 id h1 h2)⟩, ?_⟩
       rw [← hsk]
       simp only
       rw [if_neg hnn, ht]
       exact ⟨rfl, by unfold Rdr; rw [o2 p hpr]; exact hr1, by omega, hk2⟩
      | some e =>
       obtain ⟨tc, k', htc, rfl, hr1, he⟩ := hp
       obtain ⟨τ2, w2, g2, o2, z2⟩ := hw4 tc htc
       refine ⟨_, τ2, rfl, htc, w2, g2, ⟨by have := ho.1; have := ho1.1; omega, fun id h1 h2 => (o2 id (by omega)).trans ((ho.trans ho1).2 id h1 h2)⟩, ?_⟩
       rw [← hsk]
       simp only
       rw [if_neg hnn, ht]
       exact ⟨tc, true, k', htc, rfl, by unfold Rdr; rw [o2 p hpr]; exact hr1, he⟩
     have hsm : s.length ≤ maxElems := by unfold maxElems; omega
     cases hl : letB c with
     | true =>
      rw [hl] at hlet
      have hT : tokF s i = (nameF s i, i + (runF ldB s i).length, none) := by
       unfold tokF nameF
       simp [hlk, hl]
      have hnm := run_name hr' hw hqp hsm hi
      have hpos : 0 < (runF ldB s i).length := by
       unfold runF
       rw [List.drop_eq_getElem_cons hlt, hc']
       simp [ldB, hl]
      have hle2 : i + (runF ldB s i).length ≤ s.length := by
       have := List.IsPrefix.length_le (List.takeWhile_prefix (p := ldB) (l := s.drop i))
       rw [List.length_drop] at this
       unfold runF
       omega
      simp (maxDischargeDepth := 99) [-writeAt, -Int.natCast_add, cLNext_0, hlen, f0, f2, hr, hge, hlti, hlt, hc, hc', n9, n10, n13, n32, hle, hi, hsub, bytes, hpre1, hpre2, hlet]
      refine hnm.mono ?_
      rintro v τ1 ⟨rfl, hr1, ho1⟩
      obtain ⟨tc, τ2, e1, htc, w2, g2, hP⟩ := fin _ _ τ1 hT ⟨ho1, rfl, hr1, by omega, hle2⟩
      cases e1
      simp (maxDischargeDepth := 99) [-writeAt, hlen, f2, htc, w2]
      exact hR _ _ ⟨_, true, by simp [hlen], by simp [hlen, f2], by simp [hlen], g2, htc, hP⟩
     | false =>
      rw [hl] at hlet
      cases hd : digB c with
      | true =>
       rw [hd] at hdig
       have hT : tokF s i = numF s i := by
        unfold tokF
        simp [hlk, hl, hd]
       have hnm := hNum τ p (.map q) s i hr' hs hlt (by rw [hlk]; exact hd)
       simp (maxDischargeDepth := 99) [-writeAt, -Int.natCast_add, cLNext_0, hlen, f0, f2, hr, hge, hlti, hlt, hc, hc', n9, n10, n13, n32, hle, hi, hsub, bytes, hpre1, hpre2, hlet, hdig]
       refine hnm.mono ?_
       intro v τ1 hP1
       obtain ⟨tc, τ2, rfl, htc, w2, g2, hP⟩ := fin _ v τ1 hT hP1
       simp (maxDischargeDepth := 99) [-writeAt, hlen, f2, htc, w2]
       exact hR _ _ ⟨_, true, by simp [hlen], by simp [hlen, f2], by simp [hlen], g2, htc, hP⟩
      | false =>
       rw [hd] at hdig
       by_cases hq : c = 39
       ·have hT : tokF s i = textF s i := by
         unfold tokF
         rw [hq] at hl hd
         simp [hlk, hl, hd, hq]
        have h39 : (c.toNat : Int) = 39 := by rw [hq]; rfl
        simp only [h39] at hlet hdig
        have hnm := hText τ p (.map q) s i hr' hs hlt (by rw [hlk]; exact hq)
        simp (maxDischargeDepth := 99) [-writeAt, -Int.natCast_add, cLNext_0, hlen, f0, f2, hr, hge, hlti, hlt, hc, hc', n9, n10, n13, n32, hle, hi, hsub, bytes, hpre1, hpre2, hlet, hdig, h39]
        refine hnm.mono ?_
        intro v τ1 hP1
        obtain ⟨tc, τ2, rfl, htc, w2, g2, hP⟩ := fin _ v τ1 hT hP1
        simp (maxDischargeDepth := 99) [-writeAt, hlen, f2, htc, w2]
        exact hR _ _ ⟨_, true, by simp [hlen], by simp [hlen, f2], by simp [hlen], g2, htc, hP⟩
       ·have n39 : ¬ (c.toNat : Int) = 39 := hcn 39 (by omega) hq
        have hT : tokF s i = match signF s i with
          | some x => (⟨6, x, 0, i⟩, i + x.length, none)
          | none => (⟨0, [], 0, 0⟩, i, some 50) := by
         unfold tokF
         simp [hlk, hl, hd, hq]
         cases signF s i <;> rfl
        have hnm := run_sign hr' hsm hi
        simp (maxDischargeDepth := 99) [-writeAt, -Int.natCast_add, cLNext_0, hlen, f0, f2, hr, hge, hlti, hlt, hc, hc', n9, n10, n13, n32, hle, hi, hsub, bytes, hpre1, hpre2, hlet, hdig, n39]
        refine hnm.mono ?_
        rintro v τ1 ⟨ho1, hP1⟩
        have hP2 : PTk p (.map q) s i (tokF s i) τ v τ1 := by
         rw [hT]
         cases hsg : signF s i with
         | none =>
          rw [hsg] at hP1
          exact ⟨ho1, _, i, rfl, hP1.1, hP1.2, by decide⟩
         | some x =>
          rw [hsg] at hP1
          have hx := List.find?_some hsg
          have hxm := List.mem_of_find?_eq_some hsg
          have hx1 : 0 < x.length := by
           have : ∀ x ∈ signsL, 0 < x.length := by decide
           exact this x hxm
          have hx2 := List.IsPrefix.length_le (List.isPrefixOf_iff_prefix.1 hx)
          rw [List.length_drop] at hx2
          exact ⟨ho1, hP1.1, hP1.2, by omega, by omega⟩
        obtain ⟨tc, τ2, rfl, htc, w2, g2, hP⟩ := fin _ v τ1 rfl hP2
        simp (maxDischargeDepth := 99) [-writeAt, hlen, f2, htc, w2]
        exact hR _ _ ⟨_, true, by simp [hlen], by simp [hlen, f2], by simp [hlen], g2, htc, hP⟩
theorem next_ok (hNum : NumOk) (hText : TextOk) (hEnd : EndOk) : NextOk := by
 intro τ p q s i hr hw hqp hs hi
 refine lim_code rfl ((LxX_code _).trans codeLNext) rfl ?_
 unfold BodyP
 have hpl := AHeap.get_lt hr
 have hpr : p ≠ τ.size := Nat.ne_of_lt hpl
 obtain ⟨τ1, hτ1⟩ : ∃ τ1, τ1 = τ.alloc ⟨[.int .i64 0, .str [], .int .i64 0, .int .i64 0], .own⟩ := ⟨_, rfl⟩
 have hk1 : Keeps τ τ1 := by rw [hτ1]; exact (Keeps.refl τ).alloc
 have hg1 : τ1.get τ.size = some ⟨[.int .i64 0, .str [], .int .i64 0, .int .i64 0], .own⟩ := by rw [hτ1]; simp
 have hr1 : Rdr τ1 p s i (.map q) 0 0 := by unfold Rdr; rw [hk1.2 p hpl]; exact hr
 have ho1 : Oth p τ τ1 := ⟨hk1.1, fun id h1 _ => hk1.2 id h1⟩
 have hw1 := hw.stay ho1 hqp
 simp (maxDischargeDepth := 99) [-writeAt, cLNext, ← hτ1]
 refine endsi_loop (I := INx p q τ.size s i τ) (fun k fr σ hI => step_next hNum hText hEnd hs hpr hqp hpl hI _ _ ?_) (k := s.length + 1 - i) ?_
 ·rintro fr σ ⟨tc, ok, h1, h2, h3, h4, h5, h6⟩
  simp [h2, h3, h4, h5]
  rw [List.take_of_length_le (by omega)]
  exact h6
 ·exact ⟨i, s.length + 1, rfl, Nat.le_refl _, hi, by omega, rfl, by simp, by simp, by simp, hr1, hw1, hg1, ho1, Nat.le_refl _⟩
end Go.Proofs.YtepankcnleeakaaGreatDoor.Ab
namespace Go.Proofs.YtepankcnleeakaaGreatDoor.Ab
open Go
set_option maxRecDepth 20000
set_option maxHeartbeats 8000000
set_option linter.unusedSimpArgs false
theorem findF_none {t s : List UInt8} (ht : t ≠ []) : ∀ (f i : Nat), s.length ≤ i → findF t s f i = none
 | 0, _, _ => rfl
 | f + 1, i, h => by
  rw [findF, List.drop_eq_nil_of_le h]
  have : t.isPrefixOf [] = false := by
   cases t with
   | nil => exact absurd rfl ht
   | cons => rfl
  rw [this]
  simp only [Bool.false_eq_true, if_false]
  exact findF_none ht f (i + 1) (by omega)
theorem index_find {t s : List UInt8} (ht : t ≠ []) : ∀ (f i : Nat), i ≤ s.length → s.length - i < f → Lib.index (s.drop i) t = match findF t s f i with
  | some k => (k : Int) - i
  | none => -1
 | 0, _, _, h => absurd h (by omega)
 | f + 1, i, hi, hf => by
  rw [findF]
  by_cases he : i = s.length
  ·subst he
   rw [List.drop_eq_nil_of_le (Nat.le_refl _)]
   have : t.isPrefixOf ([] : List UInt8) = false := by
    cases t with
    | nil => exact absurd rfl ht
    | cons => rfl
   rw [this]
   simp only [Bool.false_eq_true, if_false]
   rw [findF_none ht f _ (by omega)]
   unfold Lib.index
   cases t with
   | nil => exact absurd rfl ht
   | cons => rfl
  ·have hlt : i < s.length := by omega
   have hd := List.drop_eq_getElem_cons hlt
   have ih := index_find ht f (i + 1) hlt (by omega)
   rw [hd]
   unfold Lib.index
   cases hp : t.isPrefixOf (s[i] :: s.drop (i + 1)) with
   | true => simp
   | false =>
    simp only [Bool.false_eq_true, if_false]
    rw [ih]
    cases hfd : findF t s f (i + 1) with
    | none => simp
    | some k =>
     have hk := (findF_spec hfd).1
     simp only
     have : ¬ ((k : Int) - ((i + 1 : Nat) : Int) = -1) := by omega
     rw [if_neg (by simpa using this)]
     omega
theorem end_ok : EndOk := by
 intro σ s i hs hi
 refine (lim_prim (p := pIndex) rfl).trans ?_
 have hb : Nat.ble (s.drop i).length 4294967280 = true := Nat.ble_eq_true_of_le (by rw [List.length_drop]; omega)
 simp only [pIndex, hb]
 rw [index_find (by decide) (s.length + 1) i hi (by omega)]
 rfl
def AtoiR (x : List UInt8) (n : Int) (ev : SV) : Prop := (valF x ≤ mostN ∧ n = valF x ∧ ev = .nilIface) ∨ (¬ valF x ≤ mostN ∧ n = 9223372036854775807 ∧ ∃ t c, ev = .iface t false c)
theorem run_atoi (τ : AHeap) (x : List UInt8) (h0 : x ≠ []) (hd : ∀ c ∈ x, digB c = true) (hl : x.length ≤ 1099511627776) :
  ∃ n ev τ', lim LxX 60 [.one (.str x)] τ = some (.tup [.one (.int .i64 n), .one ev], τ') ∧ τ.size ≤ τ'.size ∧ (∀ id, id < τ.size → τ'.get id = τ.get id) ∧ AtoiR x n ev := by
 have hb : digsB x = true := by
  simp only [digsB, Bool.and_eq_true, Bool.not_eq_true', List.all_eq_true]
  refine ⟨⟨?_, hd⟩, Nat.ble_eq_true_of_le hl⟩
  cases x with
  | nil => exact absurd rfl h0
  | cons => rfl
 have e : lim LxX 60 [.one (.str x)] τ = pAtoi [.one (.str x)] τ := lim_prim (p := pAtoi) rfl
 rw [e]
 by_cases hv : valF x ≤ mostN
 ·have hv' : Nat.ble (valF x) mostN = true := Nat.ble_eq_true_of_le hv
  refine ⟨_, _, τ, by simp only [pAtoi, hb, hv'], Nat.le_refl _, fun _ _ => rfl, .inl ⟨hv, rfl, rfl⟩⟩
 ·have hv' : Nat.ble (valF x) mostN = false := by
   cases h : Nat.ble (valF x) mostN with
   | false => rfl
   | true => exact absurd (Nat.le_of_ble_eq_true h) hv
  refine ⟨9223372036854775807, .iface (Tryz.laysAtoi_ren.t 168) false [.ptr τ.size 0], τ.alloc ⟨[], .dead⟩, by simp only [pAtoi, hb, hv'], by simp, fun id hid => by simp [hid]; omega, .inr ⟨hv, rfl, _, _, rfl⟩⟩
theorem eq_repeat0 (τ : AHeap) (k : Nat) (hk : k ≤ 4) : lim LxX 63 [.one (.str (bytes [48])), .one (.int .i64 k)] τ = some (.one (.str (List.replicate k 48)), τ) := by
 refine (lim_prim (p := pRepeat) rfl).trans ?_
 have hb : Nat.ble k 1000000 = true := Nat.ble_eq_true_of_le (by omega)
 show pRepeat [.one (.str [48]), .one (.int .i64 (.ofNat k))] τ = _
 simp only [pRepeat, hb]
theorem unitOf_ok {s : List UInt8} {i : Nat} : ∀ {l : List (List UInt8 × Nat)}, (∀ x ∈ l, 0 < x.2 ∧ x.2 ≤ 86400000) → 0 < (unitOf s i l).2 → 0 < (unitOf s i l).1 ∧ (unitOf s i l).1 ≤ 86400000 ∧ i + (unitOf s i l).2 ≤ s.length
 | [], _, h => absurd h (by simp [unitOf])
 | (u, n) :: l, hl, h => by
  unfold unitOf at h ⊢
  split
  ·rename_i hp
   rw [if_pos hp] at h
   have h1 := hl (u, n) (by simp)
   simp only [Bool.and_eq_true] at hp
   have := List.IsPrefix.length_le (List.isPrefixOf_iff_prefix.1 hp.1.1)
   rw [List.length_drop] at this
   simp only at h
   exact ⟨h1.1, h1.2, by simp only; omega⟩
  ·rename_i hp
   rw [if_neg hp] at h
   exact unitOf_ok (fun x hx => hl x (by simp [hx])) h
theorem unit_ok {s : List UInt8} {i : Nat} (h : 0 < (unitF s i).2) : 0 < (unitF s i).1 ∧ (unitF s i).1 ≤ 86400000 ∧ i + (unitF s i).2 ≤ s.length :=
 unitOf_ok (by decide) h
theorem unit_le {s : List UInt8} {i : Nat} : (unitF s i).1 ≤ 86400000 ∧ (unitF s i).2 ≤ 2 := by
 have : ∀ l : List (List UInt8 × Nat), (∀ x ∈ l, x.2 ≤ 86400000 ∧ x.1.length ≤ 2) → (unitOf s i l).1 ≤ 86400000 ∧ (unitOf s i l).2 ≤ 2 := by
  intro l
  induction l with
  | nil => intro _; simp [unitOf]
  | cons x l ih =>
   intro h
   obtain ⟨u, n⟩ := x
   unfold unitOf
   have h1 := h (u, n) (by simp)
   split
   ·exact ⟨h1.1, h1.2⟩
   ·exact ih (fun y hy => h y (by simp [hy]))
 exact this unitsL (by decide)
theorem run_digs {s : List UInt8} {i : Nat} : ∀ c ∈ runF digB s i, digB c = true := fun c hc => List.all_eq_true.1 (List.all_takeWhile (p := digB) (l := s.drop i)) c hc
theorem run_le {pb : UInt8 → Bool} {s : List UInt8} {i : Nat} (hi : i ≤ s.length) : i + (runF pb s i).length ≤ s.length := by
 have := List.IsPrefix.length_le (List.takeWhile_prefix (p := pb) (l := s.drop i))
 rw [List.length_drop] at this
 unfold runF
 omega
end Go.Proofs.YtepankcnleeakaaGreatDoor.Ab
