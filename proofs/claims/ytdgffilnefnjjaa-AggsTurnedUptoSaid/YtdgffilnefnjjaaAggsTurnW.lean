/- The law AggsTurned, run. -/
import Derived.Test.YtdgffilnefnjjaaAggsTurnP
import Derived.Test.YtdgffilnefnjjaaLitAggsL
namespace Go.Proofs.Ytdgffilnefnjjaa.Ab
open Go
set_option maxRecDepth 20000
set_option maxHeartbeats 4000000
set_option linter.unusedSimpArgs false

theorem C26_9 (n : Nat) (args : List AV) (σ : AHeap) : evCall C26 (n + 1) 9 args σ = p9 args σ := evCall_prim (by kernel_rfl) _ _ _
theorem C26_10' (n : Nat) (args : List AV) (σ : AHeap) : evCall C26 (n + 1) 10 args σ = pBool true args σ := evCall_prim (by kernel_rfl) _ _ _

def nm3 : Nat → List UInt8
  | 0 => sCount
  | 1 => sSum
  | _ => sAvg

theorem run3 (σ : AHeap) (s : AV) (dist : Bool) (l : List V) (hl : slVals σ s = some l) (hin : (l.all fun v => inI v.n) = true) : OptP (evCall C26 (l.length + 8) 3 [s, .one (.bool dist)] σ) (fun _ v _ => v = .one (.bool true)) := by
  refine evCall_code (by kernel_rfl) code3 ?_
  have hm : l.length ≤ maxElems := by
    rcases slVals_spec hl with ⟨_, rfl⟩ | ⟨_, _, _, _, _, h⟩
    · exact Nat.zero_le _
    · exact h
  have hmb : maxElems = 4294967296 := rfl
  have hev : ∃ σ', True ∧ σ' = σ := ⟨σ, trivial, rfl⟩
  have hs : s = .one .nilSlice ∧ l = [] ∨ ∃ id off cap, s = .one (.slice id off 3 l.length cap) ∧ (∀ i (h : i < l.length), rd (σ.get id) (some 3) (off + i * 3) = some l[i].av) := by
    rcases slVals_spec hl with ⟨rfl, rfl⟩ | ⟨id, off, cap, rfl, hr, _⟩
    · exact .inl ⟨rfl, rfl⟩
    · exact .inr ⟨id, off, cap, rfl, hr⟩
  have hw0 : wr .i64 ((l.length : Int) - 1) = (l.length : Int) - 1 := wr64 (by omega) (by omega)
  have n1 : bytes [99, 111, 117, 110, 116] = sCount := rfl
  have n2 : bytes [115, 117, 109] = sSum := rfl
  have n3 : bytes [97, 118, 103] = sAvg := rfl
  have start : ∀ (K : Prop), (s = .one .nilSlice ∧ l = [] → K) → (∀ id off cap, s = .one (.slice id off 3 l.length cap) → (∀ i (h : i < l.length), rd (σ.get id) (some 3) (off + i * 3) = some l[i].av) → K) → K := by
    intro K h1 h2
    rcases hs with h | ⟨id, off, cap, h3, h4⟩
    · exact h1 h
    · exact h2 id off cap h3 h4
  have main : ∀ (fr : List AV), fr.length = 62 → getSlot fr 0 = s → getSlot fr 1 = .one (.bool dist) → getSlot fr 5 = .one .nilSlice → getSlot fr 6 = .one (.int .i64 ((l.length : Int) - 1)) →
      ∀ (call : CallF) (N : KN) (R : KN) (E : KE), (∀ fr τ, fr.length = 62 → Keeps σ τ → getSlot fr 0 = s → getSlot fr 1 = .one (.bool dist) → OutSl σ.size τ 3 (getSlot fr 5) (vcells l.reverse) l.length → E 0 .go fr τ) →
      EndsC .go call (l.length + 7) (.loop c3_0) fr σ N E R := by
    intro fr hlen0 f0 f1 f5 f6 call N R E hE
    refine ends_to 0 (fun fr τ => fr.length = 62 ∧ Keeps σ τ ∧ getSlot fr 0 = s ∧ getSlot fr 1 = .one (.bool dist) ∧ OutSl σ.size τ 3 (getSlot fr 5) (vcells l.reverse) l.length) ?_ (fun fr τ h => hE fr τ h.1 h.2.1 h.2.2.1 h.2.2.2.1 h.2.2.2.2)
    refine ends_loop (I := fun k fr τ => k ≤ l.length ∧ fr.length = 62 ∧ Keeps σ τ ∧ getSlot fr 0 = s ∧ getSlot fr 1 = .one (.bool dist) ∧ getSlot fr 6 = .one (.int .i64 ((k : Int) - 1)) ∧
        OutSl σ.size τ 3 (getSlot fr 5) (vcells (l.drop k).reverse) (l.length - k)) ?_ (k := l.length) ?_ (by omega)
    · rintro k fr τ ⟨hk, hlen, hke, f0, f1, f6, hO⟩
      cases k with
      | zero =>
        simp (maxDischargeDepth := 99) [c3_0, hlen, f6]
        exact ⟨hke, f0, f1, by simpa using hO⟩
      | succ k =>
        have hge : (0 : Int) ≤ ((k + 1 : Nat) : Int) - 1 := by omega
        have hlt : k < l.length := by omega
        refine start _ (fun h => ?_) (fun id off cap h1 hr => ?_)
        · rw [h.2] at hlt; simp at hlt
        · subst h1
          have hid : id < σ.size := rd_lt (hr k hlt)
          have hrd := hr k hlt
          rw [← hke.2 id hid] at hrd
          have hdr : (l.drop k).reverse = (l.drop (k + 1)).reverse ++ [l[k]] := by
            rw [List.drop_eq_getElem_cons hlt, List.reverse_cons]
          have hn1 : l.length - k = l.length - (k + 1) + 1 := by omega
          generalize l[k] = v at hrd hdr
          obtain ⟨vk, vn, vs⟩ := v
          have app : OptP (appendA (τ.alloc ⟨[.int .i64 vk, .int .i64 vn, .str vs], .own⟩) 3 32 (getSlot fr 5) 1 [.int .i64 vk, .int .i64 vn, .str vs]) (fun _ s' τ2 =>
              OutSl σ.size τ2 3 s' (vcells (l.drop k).reverse) (l.length - k) ∧ Keeps σ τ2) := by
            have hO2 : OutSl σ.size (τ.alloc ⟨[.int .i64 vk, .int .i64 vn, .str vs], .own⟩) 3 (getSlot fr 5) (vcells (l.drop (k + 1)).reverse) (l.length - (k + 1)) :=
              hO.stay (fun id h1 h2 => by rw [AHeap.get_alloc, if_neg (by omega)])
            refine (append_out (bytes := 32) (vs := [.int .i64 vk, .int .i64 vn, .str vs]) hO2 (by rw [AHeap.size_alloc]; have := hke.1; omega) (by omega) rfl (by omega) (by decide)).mono ?_
            rintro s' τ2 ⟨k1, k2, k3⟩
            rw [AHeap.size_alloc] at k2
            refine ⟨by rw [hdr, hn1]; simpa [vcells_append, vcells, V.cells] using k1, ⟨by have := hke.1; omega, fun id hid => ?_⟩⟩
            rw [k3 id hid, AHeap.get_alloc, if_neg (by have := hke.1; omega), hke.2 id hid]
          have hi1 : ((k + 1 : Nat) : Int) - 1 = (k : Int) := by omega
          have hw : wr .i64 ((k : Int) - 1) = (k : Int) - 1 := wr64 (by omega) (by omega)
          rw [hi1] at f6
          have hk2 : k + 1 ≤ l.length := hlt
          simp (maxDischargeDepth := 99) [c3_0, hlen, f0, f1, f6, hlt, hrd, V.av, srcLen, srcCells]
          refine app.mono ?_
          rintro s' τ2 ⟨q1, q2⟩
          simp (maxDischargeDepth := 99) [hlen, f0, f1, f6, hw]
          exact ⟨k, by omega, by omega, q2, rfl, q1⟩
    · refine ⟨Nat.le_refl _, hlen0, Keeps.refl _, f0, f1, f6, ?_⟩
      rw [f5]
      simpa [vcells] using OutSl.nil _ _ _
  have hrev : (l.reverse.all fun v => inI v.n) = true := by rw [List.all_reverse]; exact hin
  -- what one name gives
  have e9 : ∀ (s' : AV) (l' : List V), (l'.all fun v => inI v.n) = true → ∀ τ', slVals τ' s' = some l' → ∀ nm, p9 [.agg [.str nm, .bool dist, .bool false], s'] τ' = some (.tup [(ofV nm dist false l').1.av, .one (.int .i64 (ofV nm dist false l').2)], τ') := by
    intro s' l' hok τ' hsl nm
    unfold p9
    simp only
    rw [hsl]
    simp only
    rw [if_pos hok]
  have rest : ∀ (fr : List AV) (τ : AHeap), fr.length = 62 → Keeps σ τ → getSlot fr 0 = s → getSlot fr 1 = .one (.bool dist) → OutSl σ.size τ 3 (getSlot fr 5) (vcells l.reverse) l.length →
      ∀ (cap : Option Nat), getSlot fr 7 = .one (.slice τ.size 0 1 3 cap) → getSlot fr 8 = .one (.int .i64 0) → ∀ (N : KN) (R : KN) (E : KE), (∀ fr τ, fr.length = 62 → E 2 .go fr τ) →
      EndsC .go (evCall C26 (l.length + 7)) (l.length + 7) (.loop c3_1) fr (τ.alloc ⟨[.str sCount, .str sSum, .str sAvg], .own⟩) N E R := by
    intro fr τ hlen0 hke f0 f1 hO cap f7 f8 N R E hE
    have hslT : slVals τ (getSlot fr 5) = some l.reverse := slVals_out (by simpa using hO) (by simpa using hm)
    have hslS : slVals τ (getSlot fr 0) = some l := by rw [f0]; exact slVals_keeps hke hl
    obtain ⟨sT, hT⟩ : ∃ sT, sT = getSlot fr 5 := ⟨_, rfl⟩
    rw [← hT] at hslT
    rw [f0] at hslS
    obtain ⟨τ1, hτ1⟩ : ∃ τ1, τ1 = τ.alloc ⟨[.str sCount, .str sSum, .str sAvg], .own⟩ := ⟨_, rfl⟩
    rw [← hτ1]
    have hk1 : Keeps τ τ1 := by rw [hτ1]; exact Keeps.alloc (Keeps.refl _)
    have hg1 : τ1.get τ.size = some ⟨[.str sCount, .str sSum, .str sAvg], .own⟩ := by rw [hτ1, AHeap.get_alloc, if_pos rfl]
    have hsz1 : τ.size < τ1.size := AHeap.get_lt hg1
    refine ends_to 2 (fun fr τ => fr.length = 62) ?_ (fun fr τ h => hE fr τ h)
    refine ends_loop (I := fun k fr τ' => ∃ j, k = 3 - j ∧ j ≤ 3 ∧ fr.length = 62 ∧ Keeps τ1 τ' ∧ getSlot fr 0 = s ∧ getSlot fr 1 = .one (.bool dist) ∧ getSlot fr 5 = sT ∧
        getSlot fr 7 = .one (.slice τ.size 0 1 3 cap) ∧ getSlot fr 8 = .one (.int .i64 (j : Int))) ?_ (k := 3) ?_ (by omega)
    · rintro k fr τ' ⟨j, rfl, hj, hlen, hke', f0, f1, f5, f7, f8⟩
      have hg' : τ'.get τ.size = some ⟨[.str sCount, .str sSum, .str sAvg], .own⟩ := by rw [hke'.2 _ hsz1, hg1]
      have hkk : Keeps τ τ' := hk1.trans hke'
      by_cases hj3 : j < 3
      · have hrd : rd (τ'.get τ.size) none j = some (.one (.str (nm3 j))) := by
          rw [hg']
          match j, hj3 with
          | 0, _ => rfl
          | 1, _ => rfl
          | 2, _ => rfl
        have hnm : nm3 j = sCount ∨ nm3 j = sSum ∨ nm3 j = sAvg := by
          match j, hj3 with
          | 0, _ => exact .inl rfl
          | 1, _ => exact .inr (.inl rfl)
          | 2, _ => exact .inr (.inr rfl)
        have hT9 := ofV_turned (nm3 j) hnm dist false l
        have aS := fun τ'' (hk : Keeps τ τ'') => e9 s l hin τ'' (slVals_keeps hk hslS) (nm3 j)
        have aT := fun τ'' (hk : Keeps τ τ'') => e9 sT l.reverse hrev τ'' (slVals_keeps hk hslT) (nm3 j)
        rw [hT9] at aT
        generalize ofV (nm3 j) dist false l = r at aS aT
        obtain ⟨⟨rk, rn, rs⟩, re⟩ := r
        simp only [V.av] at aS aT
        have hw : wr .i64 ((j : Int) + 1) = ((j + 1 : Nat) : Int) := by rw [wr64 (by omega) (by omega)]; simp
        have hsz' : τ.size ≤ τ'.size := hkk.1
        have hsz2 : τ.size ≤ τ'.size + 1 := by omega
        have hsz3 : τ.size ≤ τ'.size + 1 + 1 := by omega
        have hsz4 : τ1.size ≤ τ'.size := hke'.1
        have hsz5 : τ1.size ≤ τ'.size + 1 := by omega
        have hsz6 : τ1.size ≤ τ'.size + 1 + 1 := by omega
        have hjlt : (j : Int) < 3 := by omega
        have hjlt' : ((j : Nat) < 3) := hj3
        generalize nm3 j = nm at hrd aS aT
        simp (maxDischargeDepth := 99) [c3_1, hlen, f0, f1, f5, f7, f8, hjlt, hjlt', hrd, C26_9, aS, aT, hkk, hke', hsz', hsz2, hsz3, hsz4, hsz5, hsz6, ar1, ar2, ar3, ar4, ar5, ar6, ar7, ar8, ar9, ar10, ar11, ar12, beqL_refl, hw]
        exact ⟨3 - (j + 1), by omega, j + 1, rfl, by omega, by simp⟩
      · have hj3' : ¬ (j : Int) < 3 := by omega
        simp (maxDischargeDepth := 99) [c3_1, hlen, f7, f8, hj3']
    · refine ⟨0, rfl, by omega, hlen0, Keeps.refl _, f0, f1, hT.symm, f7, f8⟩
  rcases hs with ⟨rfl, rfl⟩ | ⟨id, off, cap, rfl, hr⟩
  · have hm1 : wr .i64 (-1) = -1 := by decide
    simp (maxDischargeDepth := 99) [c3, n1, n2, n3, hm1]
    refine main _ (by simp) (by simp) (by simp) (by simp) (by simp) _ _ _ _ ?_
    intro fr τ hlen hke f0 f1 hO
    simp (maxDischargeDepth := 99) [hlen, n1, n2, n3]
    refine rest _ τ (by simp [hlen]) hke (by simp [f0]) (by simp [f1]) (by simpa using hO) (some 3) (by simp [hlen]) (by simp [hlen]) _ _ _ ?_
    intro fr τ' hlen
    simp (maxDischargeDepth := 99) [hlen, C26_10', pBool]
  · simp (maxDischargeDepth := 99) [c3, n1, n2, n3, hw0]
    refine main _ (by simp) (by simp) (by simp) (by simp) (by simp) _ _ _ _ ?_
    intro fr τ hlen hke f0 f1 hO
    simp (maxDischargeDepth := 99) [hlen, n1, n2, n3]
    refine rest _ τ (by simp [hlen]) hke (by simp [f0]) (by simp [f1]) (by simpa using hO) (some 3) (by simp [hlen]) (by simp [hlen]) _ _ _ ?_
    intro fr τ' hlen
    simp (maxDischargeDepth := 99) [hlen, C26_10', pBool]
end Go.Proofs.Ytdgffilnefnjjaa.Ab
