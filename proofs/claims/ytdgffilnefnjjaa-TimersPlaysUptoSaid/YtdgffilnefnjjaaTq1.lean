/- Timers: the library's IndexFunc and DeleteFunc over timers. -/
import Derived.Test.YtdgffilnefnjjaaTim7
namespace Go.Proofs.Ytdgffilnefnjjaa.Ab
open Go
set_option maxRecDepth 20000
set_option maxHeartbeats 1000000
set_option linter.unusedSimpArgs false

/-- A closure that tells by one captured number. -/
def Tells (fn b : Nat) (x : Int) (pr : T → Bool) : Prop := ∀ (τ : AHeap), τ.get b = some ⟨[.int .i64 x], .own⟩ → ∀ (f : Nat) (t : T), evCall D3 (f + 1) fn [.agg [.int .i64 t.at', .int .i64 t.stmt, .int .i64 t.seq], .one (.ptr b 0)] τ = some (.one (.bool (pr t)), τ)
theorem tells45 (b : Nat) (x : Int) : Tells 45 b x (fun t => decide (t.seq = x)) := fun τ h f t => by
  rw [D3_45]; simp [pPred, h]
theorem tells48 (b : Nat) (x : Int) : Tells 48 b x (fun t => decide (t.stmt = x)) := fun τ h f t => by
  rw [D3_48]; simp [pPred, h]

theorem run79 (σ : AHeap) (q n b fn : Nat) (x : Int) (pr : T → Bool) (hp : Tells fn b x pr) (m : List T) (hg : σ.get q = some ⟨tcells m, .own⟩) (hb : σ.get b = some ⟨[.int .i64 x], .own⟩) (hn : n ≤ m.length) (hm : n ≤ maxElems) (f : Nat) (hf : n + 8 ≤ f) :
    OptP (evCall D3 f 79 [.one (.slice q 0 3 n none), .one (.func fn [.ptr b 0])] σ) (fun _ v τ => τ = σ ∧ ((∃ i, i < n ∧ v = .one (.int .i64 (i : Int)) ∧ pr (tAt m i) = true ∧ ∀ j, j < i → pr (tAt m j) = false) ∨ (v = .one (.int .i64 (-1)) ∧ ∀ j, j < n → pr (tAt m j) = false))) := by
  obtain ⟨f, rfl⟩ : ∃ k, f = k + 2 := ⟨f - 2, by omega⟩
  refine evCall_code (by kernel_rfl) ((D3_code 79).trans code79) ?_
  simp (maxDischargeDepth := 99) [c79]
  refine ends_loop (I := fun k fr τ => ∃ i, k = n - i ∧ i ≤ n ∧ τ = σ ∧ fr.length = 19 ∧ getSlot fr 0 = .one (.slice q 0 3 n none) ∧ getSlot fr 1 = .one (.func fn [.ptr b 0]) ∧ getSlot fr 7 = .one (.int .i64 (n : Int)) ∧ getSlot fr 8 = .one (.int .i64 (i : Int)) ∧ ∀ j, j < i → pr (tAt m j) = false) ?_ (k := n) ?_ (by omega)
  · rintro k fr τ ⟨i, rfl, hi, rfl, hlen, f0, f1, f7, f8, hall⟩
    by_cases hlt : i < n
    · have hrd := tcells_part m i (by omega)
      have hw := wr_next hlt hm
      have hc := hp τ hb f (tAt m i)
      have hnext : pr (tAt m i) = false → ∀ j, j < i + 1 → pr (tAt m j) = false := fun h j hj => by
        by_cases e : j = i
        · subst e; exact h
        · exact hall j (by omega)
      cases hpr : pr (tAt m i) with
      | true =>
        rw [hpr] at hc
        generalize ht : tAt m i = t at hrd hc
        simp (maxDischargeDepth := 99) [-partA, c79_0, hlen, f0, f1, f7, f8, hlt, hg, hrd, T.av, T.cells, hc]
        exact ⟨i, hlt, rfl, hpr, hall⟩
      | false =>
        rw [hpr] at hc
        have hn2 := hnext hpr
        generalize tAt m i = t at hrd hc
        simp (maxDischargeDepth := 99) [-partA, c79_0, hlen, f0, f1, f7, f8, hlt, hg, hrd, T.av, T.cells, hc, hw]
        exact ⟨n - (i + 1), by omega, i + 1, rfl, by omega, by simp, hn2⟩
    · obtain rfl : i = n := by omega
      simp (maxDischargeDepth := 99) [c79_0, hlen, f7, f8]
      exact hall
  · exact ⟨0, rfl, Nat.zero_le _, rfl, by simp, by simp, by simp, by simp, by simp, fun j hj => absurd hj (Nat.not_lt_zero _)⟩

theorem tAt_right (P R : List T) (y : T) : tAt (P ++ y :: R) P.length = y := by simp [tAt, List.getD]
theorem set_shift (A X R : List T) (v : T) : ∃ X', (A ++ X ++ v :: R).set A.length v = (A ++ [v]) ++ X' ++ R ∧ X'.length = X.length := by
  cases X with
  | nil => exact ⟨[], by simp, rfl⟩
  | cons x X1 => exact ⟨X1 ++ [v], by simp, by simp⟩
theorem repeat_t0 : ∀ k : Nat, repeatCells [.int .i64 0, .int .i64 0, .int .i64 0] k = tcells (List.replicate k t0)
  | 0 => rfl
  | k + 1 => by simp [repeatCells, List.replicate_succ, tcells, T.cells, t0]; exact repeat_t0 k
theorem splice_mid (A X R : List T) (Z : List T) (h : Z.length = X.length) : splice (tcells (A ++ X ++ R)) (A.length * 3) (tcells Z) = tcells (A ++ Z ++ R) := by
  unfold splice
  rw [tcells_append, tcells_append, tcells_append, tcells_append]
  have hA : (tcells A).length = A.length * 3 := tcells_length A
  have hX : (tcells X).length = X.length * 3 := tcells_length X
  have hZ : (tcells Z).length = X.length * 3 := by rw [tcells_length, h]
  have e1 : (tcells A ++ tcells X ++ tcells R).take (A.length * 3) = tcells A := by
    rw [List.append_assoc, ← hA, List.take_left]
  have e2 : (tcells A ++ tcells X ++ tcells R).drop (A.length * 3 + (tcells Z).length) = tcells R := by
    have : A.length * 3 + (tcells Z).length = (tcells A ++ tcells X).length := by rw [List.length_append, hA, hX, hZ]
    rw [this, List.drop_left]
  rw [e1, e2]

theorem len_mid (A X R : List T) (y : T) : (A ++ X).length < (A ++ X ++ y :: R).length := by simp only [List.length_append, List.length_cons]; omega
theorem st1 {n j : Nat} (h : j < n) : n - (j + 1) < n - j := by omega
theorem st1' {n j : Nat} (h : j < n) : j + 1 ≤ n := h
theorem st2 {A X : List T} {t : T} {j : Nat} (h : A.length + X.length = j) : A.length + (X ++ [t]).length = j + 1 := by simp; omega
theorem st3 {A X X' : List T} {t : T} {j : Nat} (h : A.length + X.length = j) (k : X'.length = X.length) : (A ++ [t]).length + X'.length = j + 1 := by simp; omega
theorem st4 {A X : List T} {n j : Nat} (h : A.length + X.length = j) (k : j < n) : A.length < n := by omega
def I65 (pr : T → Bool) (l junk : List T) (q b fn : Nat) (τ : AHeap) (k : Nat) (fr : List AV) (τ' : AHeap) : Prop :=
  ∃ j A X, k = l.length - j ∧ j ≤ l.length ∧ A = (l.take j).filter (fun t => !pr t) ∧ A.length + X.length = j ∧ fr.length = 42 ∧ getSlot fr 0 = .one (.slice q 0 3 l.length none) ∧ getSlot fr 1 = .one (.func fn [.ptr b 0]) ∧
    getSlot fr 5 = .one (.int .i64 (A.length : Int)) ∧ getSlot fr 6 = .one (.int .i64 (j : Int)) ∧ τ'.get q = some ⟨tcells (A ++ X ++ (l ++ junk).drop j), .own⟩ ∧ τ.size ≤ τ'.size ∧ ∀ j, j < τ.size → j ≠ q → τ'.get j = τ.get j
def O65 (pr : T → Bool) (l junk : List T) (q : Nat) (τ : AHeap) (fr : List AV) (τ' : AHeap) : Prop :=
  ∃ X, fr.length = 42 ∧ getSlot fr 0 = .one (.slice q 0 3 l.length none) ∧ getSlot fr 5 = .one (.int .i64 ((l.filter (fun t => !pr t)).length : Int)) ∧ (l.filter (fun t => !pr t)).length + X.length = l.length ∧
    τ'.get q = some ⟨tcells (l.filter (fun t => !pr t) ++ X ++ junk), .own⟩ ∧ τ.size ≤ τ'.size ∧ ∀ j, j < τ.size → j ≠ q → τ'.get j = τ.get j
/-- slices.DeleteFunc -/
theorem run65 (σ : AHeap) (q b fn : Nat) (x : Int) (pr : T → Bool) (hp : Tells fn b x pr) (l junk : List T) (hg : σ.get q = some ⟨tcells (l ++ junk), .own⟩) (hb : σ.get b = some ⟨[.int .i64 x], .own⟩) (hqb : b ≠ q) (hm : l.length ≤ maxElems) (f : Nat) (hf : l.length + 20 ≤ f) :
    OptP (evCall D3 f 65 [.one (.slice q 0 3 l.length none), .one (.func fn [.ptr b 0])] σ) (fun _ v τ => v = .one (.slice q 0 3 (l.filter (fun t => !pr t)).length none) ∧
      (∃ junk', τ.get q = some ⟨tcells (l.filter (fun t => !pr t) ++ junk'), .own⟩) ∧ σ.size ≤ τ.size ∧ ∀ j, j < σ.size → j ≠ q → τ.get j = σ.get j) := by
  obtain ⟨f, rfl⟩ : ∃ k, f = k + 1 := ⟨f - 1, by omega⟩
  refine evCall_code (by kernel_rfl) ((D3_code 65).trans code65) ?_
  have hql := AHeap.get_lt hg
  have hbl := AHeap.get_lt hb
  have hix := run79 σ q l.length b fn x pr hp (l ++ junk) hg hb (by rw [List.length_append]; omega) hm f (by omega)
  simp (maxDischargeDepth := 99) [c65]
  refine hix.mono ?_
  rintro v τ ⟨rfl, ⟨i0, hi0, rfl, hpi, hall⟩ | ⟨rfl, hall⟩⟩
  · have hne1 : ¬ ((i0 : Int) = -1) := by omega
    have hw0 : wr .i64 ((i0 : Int) + 1) = ((i0 + 1 : Nat) : Int) := wr_next hi0 hm
    have hpi' : pr (tAt l i0) = true := by rw [← tAt_append (m := junk) hi0]; exact hpi
    have hsplit0 : l.drop i0 = tAt l i0 :: l.drop (i0 + 1) := by
      rw [List.drop_eq_getElem_cons hi0]; simp [tAt, List.getD, hi0]
    have hF0 : (l.take (i0 + 1)).filter (fun t => !pr t) = l.take i0 := by
      rw [List.take_add_one, List.filter_append]
      have e1 : (l.take i0).filter (fun t => !pr t) = l.take i0 := by
        rw [List.filter_eq_self]
        intro t ht
        obtain ⟨j, hj, rfl⟩ := List.mem_iff_getElem.1 ht
        rw [List.length_take] at hj
        have := hall j (by omega)
        rw [tAt_append (by omega)] at this
        have hjl : j < l.length := by omega
        simpa [tAt, List.getD, hjl] using this
      have e2 : l[i0]?.toList = [tAt l i0] := by simp [tAt, List.getD, hi0]
      rw [e1, e2]
      simp [hpi']
    have hm0 : l ++ junk = l.take i0 ++ [tAt l i0] ++ (l ++ junk).drop (i0 + 1) := by
      have e3 : (l ++ junk).drop (i0 + 1) = l.drop (i0 + 1) ++ junk := List.drop_append_of_le_length (by omega)
      rw [e3]
      conv => lhs; rw [← List.take_append_drop i0 l, hsplit0]
      simp
    simp (maxDischargeDepth := 99) [hne1, hw0]
    refine ends_to 0 (O65 pr l junk q τ) ?_ ?_
    · refine ends_loop (I := I65 pr l junk q b fn τ) ?_ (k := l.length - (i0 + 1)) ?_ (by omega)
      · rintro k fr τ' ⟨j, A, X, rfl, hj, hA, hAX, hlen, f0, f1, f5, f6, hgq, hsz, hfr⟩
        by_cases hlt : j < l.length
        · have hlJ : j < (l ++ junk).length := by rw [List.length_append]; omega
          have hdr : (l ++ junk).drop j = tAt l j :: (l ++ junk).drop (j + 1) := by
            rw [List.drop_eq_getElem_cons hlJ]
            simp [tAt, List.getD, hlt]
          have hgb : τ'.get b = some ⟨[.int .i64 x], .own⟩ := by rw [hfr b hbl hqb, hb]
          rw [hdr] at hgq
          have hrd := tcells_part (A ++ X ++ tAt l j :: (l ++ junk).drop (j + 1)) (A ++ X).length (len_mid A X _ _)
          rw [tAt_right, List.length_append, hAX] at hrd
          obtain ⟨m, hmd⟩ : ∃ m, m = A ++ X ++ tAt l j :: (l ++ junk).drop (j + 1) := ⟨_, rfl⟩
          have hmlen : A.length < m.length := by rw [hmd]; have := len_mid A X ((l ++ junk).drop (j + 1)) (tAt l j); rw [List.length_append] at this; omega
          rw [← hmd] at hgq hrd
          have hw := wr_next hlt hm
          have htk : (l.take (j + 1)).filter (fun t => !pr t) = A ++ (if pr (tAt l j) = true then [] else [tAt l j]) := by
            rw [List.take_add_one, List.filter_append, ← hA]
            have e2 : l[j]?.toList = [tAt l j] := by simp [tAt, List.getD, hlt]
            rw [e2]
            cases hpj : pr (tAt l j) <;> simp [hpj]
          have hqb' : ¬ b = q := hqb
          have hq' : q < τ'.size := AHeap.get_lt hgq
          have hb' : b < τ'.size := AHeap.get_lt hgb
          have nq : ¬ q = τ'.size := by omega
          have nb : ¬ b = τ'.size := by omega
          obtain ⟨τ2, hτ2⟩ : ∃ τ2, τ2 = (τ'.alloc ⟨[.int .i64 0, .int .i64 0, .int .i64 0], .own⟩).put τ'.size ⟨[.int .i64 (tAt l j).at', .int .i64 (tAt l j).stmt, .int .i64 (tAt l j).seq], .own⟩ := ⟨_, rfl⟩
          have hst : ∀ i, i < τ'.size → τ2.get i = τ'.get i := fun i hi => by rw [hτ2, AHeap.get_put', if_neg (by omega), AHeap.get_alloc, if_neg (by omega)]
          have hg2q := (hst q hq').trans hgq
          have hg2b := (hst b hb').trans hgb
          have hg2n : τ2.get τ'.size = some ⟨[.int .i64 (tAt l j).at', .int .i64 (tAt l j).stmt, .int .i64 (tAt l j).seq], .own⟩ := by
            rw [hτ2, AHeap.get_put', if_pos ⟨rfl, by rw [AHeap.size_alloc]; omega⟩]
          have hs2 : τ2.size = τ'.size + 1 := by rw [hτ2]; rfl
          have hc := hp τ2 hg2b (f - 1) (tAt l j)
          rw [show f - 1 + 1 = f by omega] at hc
          have hfr2 : ∀ i, i < τ.size → i ≠ q → τ2.get i = τ.get i := fun i h1 h2 => by rw [hst i (by omega), hfr i h1 h2]
          have hwz := write3 (τ := τ'.alloc ⟨[.int .i64 0, .int .i64 0, .int .i64 0], .own⟩) (i := τ'.size) (a := .int .i64 0) (b := .int .i64 0) (c := .int .i64 0) (by rw [AHeap.get_alloc, if_pos rfl]) (.int .i64 (tAt l j).at') (.int .i64 (tAt l j).stmt) (.int .i64 (tAt l j).seq)
          rw [← hτ2] at hwz
          cases hpj : pr (tAt l j) with
          | true =>
            rw [hpj] at hc htk
            simp only [if_true, List.append_nil] at htk
            generalize tAt l j = t at hrd hc hgq hg2q hg2n hτ2 hwz hmd htk
            simp (maxDischargeDepth := 99) [-partA, -writeAt, pw3, c65_0, hlen, f0, f1, f5, f6, hlt, hgq, hrd, T.av, T.cells, hwz, hg2n, hc, hw]
            refine ⟨l.length - (j + 1), st1 hlt, j + 1, A, X ++ [t], rfl, st1' hlt, htk.symm, st2 hAX, by simp [hlen], by simp [hlen, f0], by simp [hlen, f1], by simp [hlen, f5], by simp [hlen], ?_, by omega, hfr2⟩
            rw [hg2q, hmd]; simp
          | false =>
            rw [hpj] at hc htk
            simp only [Bool.false_eq_true, if_false] at htk
            obtain ⟨X', hX1, hX2⟩ := set_shift A X ((l ++ junk).drop (j + 1)) (tAt l j)
            have hAl : A.length < l.length := st4 hAX hlt
            have hws := write_ts (τ := τ2) hg2q (i := A.length) hmlen (tAt l j)
            rw [hmd, hX1] at hws
            obtain ⟨m2, hm2⟩ : ∃ m2, m2 = A ++ [tAt l j] ++ X' ++ (l ++ junk).drop (j + 1) := ⟨_, rfl⟩
            rw [← hm2] at hws
            have hwA : wr .i64 ((A.length : Int) + 1) = ((A.length + 1 : Nat) : Int) := wr_next hAl hm
            generalize tAt l j = t at hrd hc hgq hg2q hg2n hτ2 hwz hws htk hm2 hmd
            simp (maxDischargeDepth := 99) [-partA, -writeAt, pw3, c65_0, hlen, f0, f1, f5, f6, hlt, hgq, hrd, T.av, T.cells, hwz, hg2n, hc, hw, hAl, hws, hwA]
            refine ⟨l.length - (j + 1), st1 hlt, j + 1, A ++ [t], X', rfl, st1' hlt, htk.symm, st3 hAX hX2, by simp [hlen], by simp [hlen, f0], by simp [hlen, f1], by simp [hlen], by simp [hlen], ?_, by rw [AHeap.size_put, hs2]; omega, fun i h1 h2 => ?_⟩
            · rw [AHeap.get_put', if_pos ⟨rfl, by omega⟩, hm2]
            · rw [AHeap.get_put', if_neg (by omega), hfr2 i h1 h2]
        · obtain rfl : j = l.length := by omega
          rw [List.take_length] at hA
          subst hA
          simp (maxDischargeDepth := 99) [c65_0, hlen, f0, f6]
          refine ⟨X, by simp [hlen], by simp [hlen, f0], by simp [hlen, f5], hAX, ?_, hsz, hfr⟩
          rw [hgq, List.drop_left]
      · refine ⟨i0 + 1, l.take i0, [tAt l i0], rfl, by omega, hF0.symm, by simp; omega, by simp, by simp, by simp, ?_, by simp, ?_, Nat.le_refl _, fun _ _ _ => rfl⟩
        · simp; omega
        · rw [← hm0, hg]
    · rintro fr τ' ⟨X, hlen, f0, f5, hFX, hgq, hsz, hfr⟩
      generalize l.filter (fun t => !pr t) = F at f5 hFX hgq ⊢
      have hcl : (tcells (F ++ X ++ junk)).length = (l.length + junk.length) * 3 := by rw [tcells_length, List.length_append, List.length_append, hFX]
      have hFl : F.length ≤ l.length := by omega
      have hb1 : l.length * 3 ≤ (l.length + junk.length) * 3 := Nat.mul_le_mul_right 3 (by omega)
      have hb2 : F.length * 3 ≤ (l.length + junk.length) * 3 := Nat.mul_le_mul_right 3 (by omega)
      have hk : l.length - F.length = X.length := by omega
      have hwr : writeAt τ' q (F.length * 3) (repeatCells [.int .i64 0, .int .i64 0, .int .i64 0] X.length) = some (τ'.put q ⟨tcells (F ++ List.replicate X.length t0 ++ junk), .own⟩) := by
        have e4 : Nat.ble (F.length * 3 + (tcells (List.replicate X.length t0)).length) (tcells (F ++ X ++ junk)).length = true := by
          rw [hcl, tcells_length, List.length_replicate, Nat.ble_eq, ← hFX]
          omega
        simp only [writeAt, hgq, repeat_t0, e4]
        rw [splice_mid F X junk (List.replicate X.length t0) (by simp)]
      have hqlt : q < τ'.size := AHeap.get_lt hgq
      generalize hXk : X.length = k at hk hwr
      obtain ⟨m, hmd⟩ : ∃ m, m = F ++ X ++ junk := ⟨_, rfl⟩
      obtain ⟨m2, hmd2⟩ : ∃ m2, m2 = F ++ List.replicate k t0 ++ junk := ⟨_, rfl⟩
      rw [← hmd] at hgq hcl
      rw [← hmd2] at hwr
      have hcl2 : (tcells m2).length = (l.length + junk.length) * 3 := by
        rw [hmd2, tcells_length, List.length_append, List.length_append, List.length_replicate, ← hFX, hXk]
      by_cases hk0 : k = 0
      · subst hk0
        simp (maxDischargeDepth := 99) [-writeAt, hlen, f0, f5, hgq, hcl, hFl, hb1, hb2, hk]
        exact ⟨⟨X ++ junk, by rw [hmd, List.append_assoc]⟩, hsz, hfr⟩
      · simp (maxDischargeDepth := 99) [-writeAt, -repeatCells, hlen, f0, f5, hgq, hcl, hFl, hb1, hb2, hk, hk0, hwr, hqlt, hcl2]
        refine ⟨⟨List.replicate k t0 ++ junk, by rw [hmd2, List.append_assoc]⟩, hsz, fun j h1 h2 => ?_⟩
        rw [if_neg (by omega), hfr j h1 h2]
  · have hF : l.filter (fun t => !pr t) = l := by
      rw [List.filter_eq_self]
      intro t ht
      obtain ⟨j, hj, rfl⟩ := List.mem_iff_getElem.1 ht
      have := hall j hj
      rw [tAt_append hj] at this
      simpa [tAt, List.getD, hj] using this
    rw [hF]
    simp (maxDischargeDepth := 99) []
    exact ⟨junk, hg⟩
end Go.Proofs.Ytdgffilnefnjjaa.Ab
