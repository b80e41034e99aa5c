/- The law AggsBounds, run. -/
import Derived.Test.YtdgffilnefnjjaaAggsBndP
import Derived.Test.YtdgffilnefnjjaaLitAggsL
namespace Go.Proofs.Ytdgffilnefnjjaa.Ab
open Go
set_option maxRecDepth 20000
set_option maxHeartbeats 4000000
set_option linter.unusedSimpArgs false

/-! ### whole -/
def p12 : Prim := fun args σ => match args with
  | [.one (.int .i64 s), .one (.int .i64 n)] => if n = 0 then none else some (.one (.int .i64 (wholeZ s n)), σ)
  | _ => none
theorem ok12 : PrimOk Try.prog 12 p12 := primOk_pure C26_good fun args σ v σ' h => by
  unfold p12 at h
  split at h
  · rename_i s n
    split at h
    · cases h
    · rename_i hn
      cases h
      refine ⟨rfl, rfl, 4, evCall_code (by kernel_rfl) code12 ?_⟩
      simp (maxDischargeDepth := 99) [c12, hn, wholeZ]
  · cases h
noncomputable def C27 : Ctx := C26.lay 12 p12
theorem C27_good : C27.Good Try.prog := Ctx.lay_good C26_good ok12
theorem C27_9 (n : Nat) (args : List AV) (σ : AHeap) : evCall C27 (n + 1) 9 args σ = p9 args σ := evCall_prim (by kernel_rfl) _ _ _
theorem C27_10 (n : Nat) (args : List AV) (σ : AHeap) : evCall C27 (n + 1) 10 args σ = pBool true args σ := evCall_prim (by kernel_rfl) _ _ _
theorem C27_11 (n : Nat) (args : List AV) (σ : AHeap) : evCall C27 (n + 1) 11 args σ = p11 args σ := evCall_prim (by kernel_rfl) _ _ _
theorem C27_12 (n : Nat) (args : List AV) (σ : AHeap) : evCall C27 (n + 1) 12 args σ = p12 args σ := evCall_prim (by kernel_rfl) _ _ _

/-- The law's values. -/
def clamped (l : List Int) : List V := l.map fun n => ⟨2, clampZ n, []⟩
theorem clamped_ok (l : List Int) : ∀ v ∈ clamped l, okV v := by
  intro v hv
  obtain ⟨n, _, rfl⟩ := List.mem_map.1 hv
  exact ⟨rfl, rfl, (clampZ_bd n).1, (clampZ_bd n).2⟩
theorem sum_next (l : List Int) (n : Int) (hl : l.length < 100) : wr .i64 (sumZ (clamped l) + clampZ n) = sumZ (clamped (l ++ [n])) := by
  have h := sum_bd _ (clamped_ok l)
  have h2 := clampZ_bd n
  have e : clamped (l ++ [n]) = clamped l ++ [⟨2, clampZ n, []⟩] := by simp [clamped]
  have hlen : (clamped l).length = l.length := by simp [clamped]
  rw [e, sumZ_append, wr64 (by omega) (by omega)]
  simp [sumZ]

theorem ev_len {s : AV} {σ : AHeap} {l : List Int} (hl : slInts σ s = some l) : s = .one .nilSlice ∧ l.length = 0 ∨ ∃ id off cap, s = .one (.slice id off 1 l.length cap) := by
  rcases slInts_spec hl with ⟨rfl, rfl⟩ | ⟨id, off, cap, rfl, _, _⟩
  · exact .inl ⟨rfl, rfl⟩
  · exact .inr ⟨id, off, cap, rfl⟩

theorem run4 (σ : AHeap) (s : AV) (l : List Int) (hl : slInts σ s = some l) (hm : l.length ≤ maxElems) : OptP (evCall C27 (l.length + 4) 4 [s] σ) (fun _ v _ => v = .one (.bool true)) := by
  refine evCall_code (by kernel_rfl) code4 ?_
  simp [c4]
  refine ends_to 0 (fun fr τ => ∃ i, i ≤ l.length ∧ i ≤ 100 ∧ (l.length = i ∨ i = 100) ∧ fr.length = 156 ∧ Keeps σ τ ∧ getSlot fr 4 = .one (.int .i64 (sumZ (clamped (l.take i)))) ∧
      OutSl σ.size τ 3 (getSlot fr 3) (vcells (clamped (l.take i))) i) ?_ ?_
  · refine ends_loop (I := fun k fr τ => ∃ i, k = l.length - i ∧ i ≤ l.length ∧ i ≤ 100 ∧ fr.length = 156 ∧ Keeps σ τ ∧ getSlot fr 0 = s ∧ getSlot fr 5 = .one (.int .i64 i) ∧
      getSlot fr 4 = .one (.int .i64 (sumZ (clamped (l.take i)))) ∧ OutSl σ.size τ 3 (getSlot fr 3) (vcells (clamped (l.take i))) i) ?_ (k := l.length) ?_ (by omega)
    · rintro k fr τ ⟨i, rfl, hi, hi2, hlen, hk, f0, f5, f4, hO⟩
      by_cases hlt : i < l.length
      · have hlt2 : (i : Int) < (l.length : Int) := by omega
        by_cases hc : i < 100
        · have hc2 : (i : Int) < 100 := by omega
          rcases slInts_spec hl with ⟨rfl, rfl⟩ | ⟨id, off, cap, rfl, hr, _⟩
          · simp at hlt
          · have hid : id < σ.size := rd_lt (hr i hlt)
            have hrd := hr i hlt
            rw [← hk.2 id hid] at hrd
            have hts : l.take (i + 1) = l.take i ++ [l[i]] := by rw [List.take_add_one, List.getElem?_eq_getElem hlt]; rfl
            have hsn := sum_next (l.take i) l[i] (by rw [List.length_take]; omega)
            rw [← hts] at hsn
            have hcl : clamped (l.take (i + 1)) = clamped (l.take i) ++ [⟨2, clampZ l[i], []⟩] := by rw [hts]; simp only [clamped, List.map_append, List.map_cons, List.map_nil]
            have hw := wr_next hlt hm
            generalize l[i] = z at hrd hsn hcl
            have hcz : mm true (-1099511627776) (mm false z 1099511627776) = clampZ z := rfl
            have app : OptP (appendA (τ.alloc ⟨[.int .i64 2, .int .i64 (clampZ z), .str []], .own⟩) 3 32 (getSlot fr 3) 1 [.int .i64 2, .int .i64 (clampZ z), .str []]) (fun _ s' τ2 =>
                OutSl σ.size τ2 3 s' (vcells (clamped (l.take (i + 1)))) (i + 1) ∧ Keeps σ τ2) := by
              have hO2 : OutSl σ.size (τ.alloc ⟨[.int .i64 2, .int .i64 (clampZ z), .str []], .own⟩) 3 (getSlot fr 3) (vcells (clamped (l.take i))) i :=
                hO.stay (fun id h1 h2 => by rw [AHeap.get_alloc, if_neg (by omega)])
              refine (append_out (bytes := 32) (vs := [.int .i64 2, .int .i64 (clampZ z), .str []]) hO2 (by rw [AHeap.size_alloc]; have := hk.1; omega) (by omega) rfl (by omega) (by decide)).mono ?_
              rintro s' τ2 ⟨k1, k2, k3⟩
              rw [AHeap.size_alloc] at k2
              refine ⟨by rw [hcl]; simpa [vcells_append, vcells, V.cells] using k1, ⟨by have := hk.1; omega, fun id hid => ?_⟩⟩
              rw [k3 id hid, AHeap.get_alloc, if_neg (by have := hk.1; omega), hk.2 id hid]
            simp (maxDischargeDepth := 99) [c4_0, hlen, f0, f5, f4, hlt, hlt2, hc, hc2, hrd, mms, hcz, C27_11, p11, srcLen, srcCells]
            refine app.mono ?_
            rintro s' τ2 ⟨q1, q2⟩
            simp (maxDischargeDepth := 99) [hlen, f0, f5, f4, hsn, hw]
            exact ⟨l.length - (i + 1), by omega, i + 1, rfl, by omega, by omega, q2, by simp, rfl, q1⟩
        · have hc2 : ¬ (i : Int) < 100 := by omega
          rcases ev_len hl with ⟨rfl, h0⟩ | ⟨id, off, cap, rfl⟩
          · omega
          · simp (maxDischargeDepth := 99) [c4_0, hlen, f0, f5, f4, hlt, hlt2, hc, hc2]
            exact ⟨i, hi, hi2, by omega, hk, rfl, hO⟩
      · have hlt2 : ¬ (i : Int) < (l.length : Int) := by omega
        rcases ev_len hl with ⟨rfl, h0⟩ | ⟨id, off, cap, rfl⟩
        · obtain rfl : i = 0 := by omega
          simp (maxDischargeDepth := 99) [c4_0, hlen, f0, f5, f4]
          exact ⟨0, hi, hi2, by omega, hk, rfl, hO⟩
        · simp (maxDischargeDepth := 99) [c4_0, hlen, f0, f5, f4, hlt, hlt2]
          exact ⟨i, hi, hi2, by omega, hk, rfl, hO⟩
    · simp
      exact ⟨0, by omega, by omega, by omega, by simpa [clamped, sumZ, vcells] using OutSl.nil _ _ _⟩

  · rintro fr τ ⟨i, hi, hi2, hi3, hlen, hk, f4, hO⟩
    have e0 : ∀ (vals : List V), (∀ v ∈ vals, okV v) → ∀ τ', slVals τ' (getSlot fr 3) = some vals → ∀ nm, p9 [.agg [.str nm, .bool false, .bool false], getSlot fr 3] τ' = some (.tup [(ofV nm false false vals).1.av, .one (.int .i64 (ofV nm false false vals).2)], τ') := by
      intro vals hok τ' hsl nm
      unfold p9
      simp only
      rw [hsl]
      simp only
      rw [if_pos (inI_ok vals hok)]
    have hvl : (clamped (l.take i)).length = i := by simp [clamped]; omega
    have hok := clamped_ok (l.take i)
    have hsl0 : ∀ τ', Keeps τ τ' → slVals τ' (getSlot fr 3) = some (clamped (l.take i)) := fun τ' hk' => slVals_keeps hk' (slVals_out (by rw [hvl]; exact hO) (by rw [hvl]; omega))
    have e9 := fun nm τ' hk' => e0 _ hok τ' (hsl0 τ' hk') nm
    clear e0
    have n1 : bytes [99, 111, 117, 110, 116] = sCount := rfl
    have n2 : bytes [115, 117, 109] = sSum := rfl
    have n3 : bytes [97, 118, 103] = sAvg := rfl
    have n4 : bytes [109, 105, 110] = sMin := rfl
    have n5 : bytes [109, 97, 120] = sMax := rfl
    have eb : beqL ([] : List UInt8) [] = true := rfl
    generalize hvals : clamped (l.take i) = vals at f4 hO hvl hok e9
    have f3 : getSlot fr 3 = .one .nilSlice ∧ i = 0 ∨ ∃ q, getSlot fr 3 = .one (.slice q 0 3 i none) ∧ 0 < i := by
      rcases hO.2 with ⟨h1, h2⟩ | ⟨q, h1, h2, _⟩
      · exact .inl ⟨h1, h2⟩
      · exact .inr ⟨q, h1, h2⟩
    rcases f3 with ⟨f3, rfl⟩ | ⟨q, f3, hpos⟩
    · have hnil : vals = [] := List.eq_nil_of_length_eq_zero hvl
      subst hnil
      rw [f3] at e9
      have a1 := fun τ' hk' => e9 sAvg τ' hk'
      simp only [of_avg0, zeroV, V.av] at a1
      simp (maxDischargeDepth := 99) [hlen, f3, f4, C27_9, n3, a1, eb, C27_10, pBool]
    · obtain ⟨v, rest, rfl⟩ : ∃ v rest, vals = v :: rest := by
        cases vals with
        | nil => simp at hvl; omega
        | cons v rest => exact ⟨v, rest, rfl⟩
      rw [f3] at e9
      have hl100 : (v :: rest).length ≤ 100 := by omega
      obtain ⟨lo, b4, ok4, le4⟩ := of_min v rest hok
      obtain ⟨hi', b5, ok5, le5⟩ := of_max v rest hok
      have b1 := of_count (v :: rest) hok
      have b2 := of_sum v rest hok hl100
      have b3 := of_avg v rest hok hl100
      have hsb := sum_bd _ hok
      have hge := sum_ge lo.n _ le4
      have hle := sum_le hi'.n _ le5
      have hgo := wholeZ_ok (sumZ (v :: rest)) (v :: rest).length (by simp) (by omega) (by omega)
      have hav1 : lo.n * 10000 ≤ (sumZ (v :: rest) * 10000).tdiv ((v :: rest).length : Nat) := tdiv_ge (by simp) (by
        have : lo.n * 10000 * ((v :: rest).length : Int) = lo.n * ((v :: rest).length : Int) * 10000 := by rw [Int.mul_assoc, Int.mul_comm 10000, ← Int.mul_assoc]
        omega)
      have hav2 : (sumZ (v :: rest) * 10000).tdiv ((v :: rest).length : Nat) ≤ hi'.n * 10000 := tdiv_le (by simp) (by
        have : hi'.n * 10000 * ((v :: rest).length : Int) = hi'.n * ((v :: rest).length : Int) * 10000 := by rw [Int.mul_assoc, Int.mul_comm 10000, ← Int.mul_assoc]
        omega)
      rw [hvl] at b1 b3 hgo hav1 hav2
      obtain ⟨lk, ln, ls⟩ := lo
      obtain ⟨hk', hn', hs'⟩ := hi'
      obtain ⟨rfl, rfl, ok4a, ok4b⟩ := ok4
      obtain ⟨rfl, rfl, ok5a, ok5b⟩ := ok5
      simp only at hav1 hav2 ok4a ok4b ok5a ok5b
      have w1 : wr .i64 (ln * 10000) = ln * 10000 := wr64 (by omega) (by omega)
      have w2 : wr .i64 (hn' * 10000) = hn' * 10000 := wr64 (by omega) (by omega)
      generalize sumZ (v :: rest) = T at f4 b2 b3 hgo hav1 hav2
      generalize hA : (T * 10000).tdiv (i : Nat) = A at b3 hgo hav1 hav2
      have a1 := fun τ' hk' => e9 sCount τ' hk'
      have a2 := fun τ' hk' => e9 sSum τ' hk'
      have a3 := fun τ' hk' => e9 sAvg τ' hk'
      have a4 := fun τ' hk' => e9 sMin τ' hk'
      have a5 := fun τ' hk' => e9 sMax τ' hk'
      simp only [b1, V.av] at a1
      simp only [b2, V.av] at a2
      simp only [b3, V.av] at a3
      simp only [b4, V.av] at a4
      simp only [b5, V.av] at a5
      have hi0 : ¬ (i = 0) := by omega
      have hi0' : ¬ ((i : Int) = 0) := by omega
      have hget : ∀ q', q' < τ.size → ∀ τ', Keeps τ τ' → τ'.get q' = τ.get q' := fun q' h τ' hk => hk.2 q' h
      simp (maxDischargeDepth := 99) [hlen, f3, f4, hi0, hi0', ar1, ar2, ar3, ar4, ar5, ar6, ar7, ar8, ar9, ar10, ar11, ar12, C27_9, n1, n2, n3, n4, n5, a1, a2, a3, a4, a5]
      refine ends_draw ?_
      simp (maxDischargeDepth := 99) [hlen, f3, f4, ar1, ar2, ar3, ar4, ar5, ar6, ar7, ar8, ar9, ar10, ar11, ar12, C27_11, C27_12, p11, p12, hi0, hi0', hgo, w1, w2, hav1, hav2, eb, C27_10, pBool]
end Go.Proofs.Ytdgffilnefnjjaa.Ab
