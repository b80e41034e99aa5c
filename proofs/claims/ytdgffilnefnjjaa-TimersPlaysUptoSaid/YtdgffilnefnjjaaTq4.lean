/- Timers: the document's own wheel. -/
import Derived.Test.YtdgffilnefnjjaaTq3
import Derived.Test.YtdgffilnefnjjaaTim8
namespace Go.Proofs.Ytdgffilnefnjjaa.Ab
open Go
set_option maxRecDepth 20000
set_option maxHeartbeats 1000000
set_option linter.unusedSimpArgs false

theorem tcells_get' : ∀ (l : List T) (i : Nat), i < l.length → (tcells l)[i * 3]? = some (.int .i64 (tAt l i).at') ∧ (tcells l)[i * 3 + 1]? = some (.int .i64 (tAt l i).stmt) ∧ (tcells l)[i * 3 + 2]? = some (.int .i64 (tAt l i).seq)
  | [], i, h => absurd h (Nat.not_lt_zero _)
  | p :: l, 0, _ => ⟨rfl, rfl, rfl⟩
  | p :: l, i + 1, h => by
    have ih := tcells_get' l i (by simpa using h)
    have e : (i + 1) * 3 = i * 3 + 1 + 1 + 1 := by omega
    rw [e]
    simpa [tcells, T.cells, tAt] using ih

def RWh (τ : AHeap) (ir : Nat) (M : List T) (seq : Int) (qr : Nat) : Prop :=
  ∃ sl, τ.get ir = some ⟨[sl, .int .i64 seq], .own⟩ ∧ ((sl = .nilSlice ∧ M = [] ∧ qr = ir) ∨ (sl = .slice qr 0 3 M.length none ∧ qr ≠ ir ∧ τ.get qr = some ⟨tcells M, .own⟩))
theorem RWh.lt {σ : AHeap} {id q : Nat} {L : List T} {seq : Int} (h : RWh σ id L seq q) : id < σ.size ∧ q < σ.size := by
  obtain ⟨sl, hg, hs⟩ := h
  refine ⟨AHeap.get_lt hg, ?_⟩
  rcases hs with ⟨_, _, rfl⟩ | ⟨h1, h2, h3⟩
  · exact AHeap.get_lt hg
  · exact AHeap.get_lt h3
theorem RWh.keeps {σ τ : AHeap} {id q : Nat} {L : List T} {seq : Int} (h : RWh σ id L seq q) (hk : Keeps σ τ) : RWh τ id L seq q := by
  obtain ⟨sl, hg, hs⟩ := h
  refine ⟨sl, by rw [hk.2 id (AHeap.get_lt hg), hg], ?_⟩
  rcases hs with h | ⟨h1, h2, h3⟩
  · exact .inl h
  · exact .inr ⟨h1, h2, by rw [hk.2 q (AHeap.get_lt h3), h3]⟩
theorem RWh.fr {σ τ : AHeap} {id q id' q' : Nat} {L : List T} {seq : Int} (h : RWh σ id L seq q) (hk : Fr σ τ id' q') (n1 : id ≠ id') (n2 : id ≠ q') (n3 : q ≠ id') (n4 : q ≠ q') : RWh τ id L seq q := by
  obtain ⟨sl, hg, hs⟩ := h
  refine ⟨sl, by rw [hk.2 id (AHeap.get_lt hg) n1 n2, hg], ?_⟩
  rcases hs with h | ⟨h1, h2, h3⟩
  · exact .inl h
  · exact .inr ⟨h1, h2, by rw [hk.2 q (AHeap.get_lt h3) n3 n4, h3]⟩
theorem RWh.put {σ : AHeap} {id q i : Nat} {L : List T} {seq : Int} {o : AObj} (h : RWh σ id L seq q) (h1 : i ≠ id) (h2 : i ≠ q) : RWh (σ.put i o) id L seq q := by
  obtain ⟨sl, hg, hs⟩ := h
  refine ⟨sl, by rw [AHeap.get_put', if_neg (by omega), hg], ?_⟩
  rcases hs with h | ⟨k1, k2, k3⟩
  · exact .inl h
  · exact .inr ⟨k1, k2, by rw [AHeap.get_put', if_neg (by omega), k3]⟩

theorem qw0 (a b : SV) : partA [a, b] none 0 = some (.one a) := rfl
theorem qw1 (a b : SV) : partA [a, b] none 1 = some (.one b) := rfl
theorem write20 {τ : AHeap} {i : Nat} {a b : SV} (h : τ.get i = some ⟨[a, b], .own⟩) (x : SV) : writeAt τ i 0 [x] = some (τ.put i ⟨[x, b], .own⟩) := by
  simp only [writeAt, h]; rfl
theorem write21 {τ : AHeap} {i : Nat} {a b : SV} (h : τ.get i = some ⟨[a, b], .own⟩) (x : SV) : writeAt τ i 1 [x] = some (τ.put i ⟨[a, x], .own⟩) := by
  simp only [writeAt, h]; rfl

/-- Next -/
theorem run28 (σ : AHeap) (id q : Nat) (L : List T) (seq : Int) (h : RWh σ id L seq q) (f : Nat) (hf : 4 ≤ f) : OptP (evCall D3 f 28 [.one (.ptr id 0)] σ) (fun _ v τ => v = nextT L ∧ Keeps σ τ) := by
  obtain ⟨f, rfl⟩ : ∃ k, f = k + 1 := ⟨f - 1, by omega⟩
  refine evCall_code (by kernel_rfl) ((D3_code 28).trans code28) ?_
  have hlt := h.lt
  obtain ⟨sl, hg, hs⟩ := h
  have n1 : ¬ id = σ.size := by omega
  have n2 : ¬ q = σ.size := by omega
  rcases hs with ⟨rfl, rfl, rfl⟩ | ⟨rfl, hne, hq⟩
  · simp (maxDischargeDepth := 99) [-partA, qw0, qw1, pw3, c28, hg, n1, nextT, T.av, T.cells, t0]
  · cases L with
    | nil => simp (maxDischargeDepth := 99) [-partA, qw0, qw1, pw3, c28, hg, n1, nextT, T.av, T.cells, t0]
    | cons t L =>
      have hrd := tcells_part (t :: L) 0 (by simp)
      rw [Nat.zero_mul] at hrd
      have e : tAt (t :: L) 0 = t := rfl
      rw [e] at hrd
      have hpos : ¬ (((t :: L).length : Int) = 0) := by simp only [List.length_cons]; omega
      have hpos' : ¬ (t :: L).length = 0 := by simp
      have hlt' : 0 < (t :: L).length := by simp
      generalize (t :: L).length = n at hg hpos hpos' hlt'
      obtain ⟨m, hm⟩ : ∃ m, m = t :: L := ⟨_, rfl⟩
      rw [← hm] at hq hrd
      simp (maxDischargeDepth := 99) [-partA, qw0, qw1, pw3, c28, hg, hq, n1, n2, hpos, hpos', hlt', hrd, nextT, T.av, T.cells, t0]

/-! ### without -/
def keepT (a s : Int) (t : T) : Bool := !decide (t.seq = a) && (decide (0 < a) || !decide (t.stmt = s))
def I46 (σ : AHeap) (ir : Nat) (M : List T) (a s : Int) (k : Nat) (fr : List AV) (τ : AHeap) : Prop :=
  ∃ i out, k = M.length - i ∧ i ≤ M.length ∧ out = (M.take i).filter (keepT a s) ∧ out.length ≤ i ∧ fr.length = 68 ∧ getSlot fr 0 = .one (.ptr ir 0) ∧ getSlot fr 1 = .one (.int .i64 a) ∧ getSlot fr 2 = .one (.int .i64 s) ∧
    getSlot fr 8 = .one (.int .i64 (i : Int)) ∧ OutSl σ.size τ 3 (getSlot fr 7) (tcells out) out.length ∧ Keeps σ τ
def O46 (σ : AHeap) (ir : Nat) (M : List T) (a s : Int) (fr : List AV) (τ : AHeap) : Prop :=
  fr.length = 68 ∧ getSlot fr 0 = .one (.ptr ir 0) ∧ OutSl σ.size τ 3 (getSlot fr 7) (tcells (M.filter (keepT a s))) (M.filter (keepT a s)).length ∧ Keeps σ τ
theorem run46 (σ : AHeap) (ir qr : Nat) (M : List T) (seq a s : Int) (h : RWh σ ir M seq qr) (hM : M.length ≤ 1048576) (f : Nat) (hf : M.length + 20 ≤ f) :
    OptP (evCall D3 f 46 [.one (.ptr ir 0), .one (.int .i64 a), .one (.int .i64 s)] σ) (fun _ v τ => v = .one (.int .i64 ((M.length : Int) - ((M.filter (keepT a s)).length : Int))) ∧ (∃ q', RWh τ ir (M.filter (keepT a s)) seq q' ∧ (q' = ir ∨ σ.size ≤ q')) ∧ Fr σ τ ir ir) := by
  obtain ⟨f, rfl⟩ : ∃ k, f = k + 1 := ⟨f - 1, by omega⟩
  refine evCall_code (by kernel_rfl) ((D3_code 46).trans code46) ?_
  have hlt := h.lt
  obtain ⟨sl, hg, hs⟩ := h
  simp (maxDischargeDepth := 99) [c46]
  refine ends_to 0 (O46 σ ir M a s) ?_ ?_
  · refine ends_loop (I := I46 σ ir M a s) ?_ (k := M.length) ?_ (by omega)
    · rintro k fr τ ⟨i, out, rfl, hi, hout, hol, hlen, f0, f1, f2, f8, hO, hk⟩
      have hgi : τ.get ir = some ⟨[sl, .int .i64 seq], .own⟩ := by rw [hk.2 ir hlt.1, hg]
      by_cases hlt2 : i < M.length
      · obtain ⟨rfl, hne, hq⟩ : sl = .slice qr 0 3 M.length none ∧ qr ≠ ir ∧ σ.get qr = some ⟨tcells M, .own⟩ := by
          rcases hs with ⟨_, rfl, _⟩ | h
          · simp at hlt2
          · exact h
        have hgq : τ.get qr = some ⟨tcells M, .own⟩ := by rw [hk.2 qr hlt.2, hq]
        obtain ⟨p1, p2, p3⟩ := tcells_get' M i hlt2
        have hrd := tcells_part M i hlt2
        have pp2 : partA (tcells M) none (i * 3 + 1) = some (.one (.int .i64 (tAt M i).stmt)) := by simp [partA, p2]
        have pp3 : partA (tcells M) none (i * 3 + 2) = some (.one (.int .i64 (tAt M i).seq)) := by simp [partA, p3]
        have hw := wr_next hlt2 (by unfold maxElems; omega)
        have htk : (M.take (i + 1)).filter (keepT a s) = out ++ (if keepT a s (tAt M i) = true then [tAt M i] else []) := by
          rw [List.take_add_one, List.filter_append, ← hout]
          have e2 : M[i]?.toList = [tAt M i] := by simp [tAt, List.getD, hlt2]
          rw [e2]
          cases hpj : keepT a s (tAt M i) <;> simp [hpj]
        have hle := hk.1
        have app : ∀ t : T, OptP (appendA (τ.alloc ⟨[.int .i64 t.at', .int .i64 t.stmt, .int .i64 t.seq], .own⟩) 3 24 (getSlot fr 7) 1 [.int .i64 t.at', .int .i64 t.stmt, .int .i64 t.seq]) (fun _ s' τ3 =>
            OutSl σ.size τ3 3 s' (tcells (out ++ [t])) (out.length + 1) ∧ Keeps σ τ3) := by
          intro t
          have hO2 : OutSl σ.size (τ.alloc ⟨[.int .i64 t.at', .int .i64 t.stmt, .int .i64 t.seq], .own⟩) 3 (getSlot fr 7) (tcells out) out.length :=
            hO.stay (fun j h1 h2 => by rw [AHeap.get_alloc, if_neg (by omega)])
          refine (append_out (bytes := 24) (vs := [.int .i64 t.at', .int .i64 t.stmt, .int .i64 t.seq]) hO2 (by rw [AHeap.size_alloc]; omega) (by omega) rfl (by unfold maxElems; omega) (by decide)).mono ?_
          rintro s' τ3 ⟨q1, q2, q3⟩
          rw [AHeap.size_alloc] at q2
          refine ⟨by simpa [tcells_append, tcells, T.cells] using q1, by omega, fun j hj => ?_⟩
          rw [q3 j hj, AHeap.get_alloc, if_neg (by omega), hk.2 j hj]
        have hskip : keepT a s (tAt M i) = false → ∀ fr', fr'.length = 68 → getSlot fr' 0 = .one (.ptr ir 0) → getSlot fr' 1 = .one (.int .i64 a) → getSlot fr' 2 = .one (.int .i64 s) → getSlot fr' 7 = getSlot fr 7 → getSlot fr' 8 = .one (.int .i64 ((i + 1 : Nat) : Int)) →
            ∃ j, j < M.length - i ∧ I46 σ ir M a s j fr' τ := by
          intro hkp fr' k1 k2 k3 k4 k5 k6
          rw [hkp] at htk
          simp only [Bool.false_eq_true, if_false, List.append_nil] at htk
          exact ⟨M.length - (i + 1), st1 hlt2, i + 1, out, rfl, hlt2, htk.symm, by omega, k1, k2, k3, k4, k6, by rw [k5]; exact hO, hk⟩
        by_cases h1 : (tAt M i).seq = a
        · have hkp : keepT a s (tAt M i) = false := by simp [keepT, h1]
          have hs2 := hskip hkp
          generalize tAt M i = t at p1 p2 p3 hrd h1
          subst h1
          simp (maxDischargeDepth := 99) [c46_0, hlen, f0, f1, f2, f8, hgi, hgq, hlt2, p1, p2, p3, hw]
          exact hs2 _ (by simp [hlen]) (by simp [hlen, f0]) (by simp [hlen, f1]) (by simp [hlen, f2]) (by simp [hlen]) (by simp [hlen])
        · have htrue : keepT a s (tAt M i) = true → ∃ j, True := fun _ => ⟨0, trivial⟩
          by_cases h2 : 0 < a
          · have hkp : keepT a s (tAt M i) = true := by simp [keepT, h1, h2]
            rw [hkp] at htk
            simp only [if_true] at htk
            have happ := app (tAt M i)
            generalize tAt M i = t at pp2 pp3 hrd h1 happ htk
            simp (maxDischargeDepth := 99) [-partA, qw0, c46_0, hlen, f0, f1, f2, f8, hgi, hgq, hlt2, pp2, pp3, hrd, h1, h2, T.av, T.cells, srcLen, srcCells]
            refine happ.mono ?_
            rintro s' τ3 ⟨q1, q2⟩
            simp (maxDischargeDepth := 99) [hlen, f0, f1, f2, f8, hw]
            exact ⟨M.length - (i + 1), st1 hlt2, i + 1, out ++ [t], rfl, hlt2, htk.symm, by simp; omega, by simp [hlen], by simp [hlen, f0], by simp [hlen, f1], by simp [hlen, f2], by simp [hlen], by simpa [hlen] using q1, q2⟩
          · by_cases h3 : (tAt M i).stmt = s
            · have hkp : keepT a s (tAt M i) = false := by simp [keepT, h1, h2, h3]
              have hs2 := hskip hkp
              generalize tAt M i = t at p1 p2 p3 hrd h1 h3
              subst h3
              simp (maxDischargeDepth := 99) [c46_0, hlen, f0, f1, f2, f8, hgi, hgq, hlt2, p1, p2, p3, h1, h2, hw]
              exact hs2 _ (by simp [hlen]) (by simp [hlen, f0]) (by simp [hlen, f1]) (by simp [hlen, f2]) (by simp [hlen]) (by simp [hlen])
            · have hkp : keepT a s (tAt M i) = true := by simp [keepT, h1, h3]
              rw [hkp] at htk
              simp only [if_true] at htk
              have happ := app (tAt M i)
              generalize tAt M i = t at pp2 pp3 hrd h1 happ htk h3
              simp (maxDischargeDepth := 99) [-partA, qw0, c46_0, hlen, f0, f1, f2, f8, hgi, hgq, hlt2, pp2, pp3, hrd, h1, h2, h3, T.av, T.cells, srcLen, srcCells]
              refine happ.mono ?_
              rintro s' τ3 ⟨q1, q2⟩
              simp (maxDischargeDepth := 99) [hlen, f0, f1, f2, f8, hw]
              exact ⟨M.length - (i + 1), st1 hlt2, i + 1, out ++ [t], rfl, hlt2, htk.symm, by simp; omega, by simp [hlen], by simp [hlen, f0], by simp [hlen, f1], by simp [hlen, f2], by simp [hlen], by simpa [hlen] using q1, q2⟩
      · obtain rfl : i = M.length := by omega
        rw [List.take_length] at hout
        subst hout
        rcases hs with ⟨rfl, rfl, rfl⟩ | ⟨rfl, hne, hq⟩
        · simp (maxDischargeDepth := 99) [c46_0, hlen, f0, f8, hgi]
          exact ⟨by simp [hlen], by simp [hlen, f0], by simpa [hlen] using hO, hk⟩
        · simp (maxDischargeDepth := 99) [c46_0, hlen, f0, f8, hgi]
          exact ⟨by simp [hlen], by simp [hlen, f0], by simpa [hlen] using hO, hk⟩
    · exact ⟨0, [], rfl, Nat.zero_le _, by simp, Nat.le_refl _, by simp, by simp, by simp, by simp, by simp, by simpa [tcells] using OutSl.nil _ _ _, Keeps.refl _⟩
  · rintro fr τ ⟨hlen, f0, hO, hk⟩
    have hgi : τ.get ir = some ⟨[sl, .int .i64 seq], .own⟩ := by rw [hk.2 ir hlt.1, hg]
    have hFle : (M.filter (keepT a s)).length ≤ M.length := List.length_filter_le _ _
    generalize M.filter (keepT a s) = F at hO hFle ⊢
    have hwf : wr .i64 ((M.length : Int) - (F.length : Int)) = (M.length : Int) - (F.length : Int) := wr64 (by omega) (by omega)
    have hil : ir < τ.size := AHeap.get_lt hgi
    obtain ⟨so, hso⟩ : ∃ so, getSlot fr 7 = .one so ∧ ((so = .nilSlice ∧ F.length = 0) ∨ ∃ q, so = .slice q 0 3 F.length none ∧ 0 < F.length ∧ σ.size ≤ q ∧ τ.get q = some ⟨tcells F, .own⟩) := by
      rcases hO.2 with ⟨h1, h2⟩ | ⟨q, h1, h2, h3, h4⟩
      · exact ⟨_, h1, .inl ⟨rfl, h2⟩⟩
      · exact ⟨_, h1, .inr ⟨q, rfl, h2, h3, h4⟩⟩
    obtain ⟨f7, hso⟩ := hso
    have hwz := write20 hgi so
    have hlenM : ∀ (X : Prop), (sl = .nilSlice ∧ M.length = 0 → X) → (sl = .slice qr 0 3 M.length none → X) → X := fun X h1 h2 => by
      rcases hs with ⟨e1, e2, _⟩ | ⟨e1, _, _⟩
      · exact h1 ⟨e1, by rw [e2]; rfl⟩
      · exact h2 e1
    have hfin : Fr σ (τ.put ir ⟨[so, .int .i64 seq], .own⟩) ir ir := (hk.fr ir ir).put (.inl rfl)
    have hR : ∃ q', RWh (τ.put ir ⟨[so, .int .i64 seq], .own⟩) ir F seq q' ∧ (q' = ir ∨ σ.size ≤ q') := by
      rcases hso with ⟨e1, e2⟩ | ⟨q, e1, e2, e3, e4⟩
      · exact ⟨ir, ⟨so, by rw [AHeap.get_put', if_pos ⟨rfl, hil⟩], .inl ⟨e1, List.length_eq_zero_iff.1 e2, rfl⟩⟩, .inl rfl⟩
      · exact ⟨q, ⟨so, by rw [AHeap.get_put', if_pos ⟨rfl, hil⟩], .inr ⟨e1, by omega, by rw [AHeap.get_put', if_neg (by omega), e4]⟩⟩, .inr e3⟩
    have hF0 : F.length = 0 → (M.length : Int) - (F.length : Int) = (M.length : Int) := fun e => by omega
    refine hlenM _ (fun e => ?_) (fun e => ?_)
    · obtain ⟨e1, e2⟩ := e
      subst e1
      have hFz : F.length = 0 := by omega
      have hw0 : wr .i64 0 = 0 := by decide
      rcases hso with ⟨rfl, _⟩ | ⟨q, _, e4, _⟩
      · simp (maxDischargeDepth := 99) [-partA, -writeAt, qw0, qw1, hlen, f0, f7, hgi, hwz, hw0, e2, hFz]
        exact ⟨hR, hfin⟩
      · omega
    · subst e
      rcases hso with ⟨rfl, e3⟩ | ⟨q, rfl, _⟩
      · rw [e3] at hwf ⊢
        simp only [Int.natCast_zero, Int.sub_zero] at hwf
        have hwf' : wr .i64 (M.length : Int) = (M.length : Int) := hwf
        simp (maxDischargeDepth := 99) [-partA, -writeAt, qw0, qw1, hlen, f0, f7, hgi, hwz, hwf']
        exact ⟨hR, hfin⟩
      · simp (maxDischargeDepth := 99) [-partA, -writeAt, qw0, qw1, hlen, f0, f7, hgi, hwz, hwf]
        exact ⟨hR, hfin⟩
end Go.Proofs.Ytdgffilnefnjjaa.Ab
