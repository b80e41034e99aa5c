/- Timers: the document's own Set. -/
import Derived.Test.YtdgffilnefnjjaaTq5
namespace Go.Proofs.Ytdgffilnefnjjaa.Ab
open Go
set_option maxRecDepth 20000
set_option maxHeartbeats 2000000
set_option linter.unusedSimpArgs false

def O20 (M : List T) (t : T) (ir b6 b7 : Nat) (τ1 : AHeap) (fr : List AV) (τ : AHeap) : Prop :=
  ∃ i, i ≤ M.length ∧ (∀ j, j < i → lessT (tAt M j) t = true) ∧ (i < M.length → lessT (tAt M i) t = false) ∧ τ = τ1 ∧ fr.length = 68 ∧ getSlot fr 0 = .one (.ptr ir 0) ∧ getSlot fr 6 = .one (.ptr b6 0) ∧ getSlot fr 7 = .one (.ptr b7 0) ∧ getSlot fr 8 = .one (.int .i64 (i : Int))
def I20 (M : List T) (t : T) (ir b6 b7 : Nat) (τ1 : AHeap) (k : Nat) (fr : List AV) (τ : AHeap) : Prop :=
  ∃ i, k = M.length - i ∧ i ≤ M.length ∧ (∀ j, j < i → lessT (tAt M j) t = true) ∧ τ = τ1 ∧ fr.length = 68 ∧ getSlot fr 0 = .one (.ptr ir 0) ∧ getSlot fr 6 = .one (.ptr b6 0) ∧ getSlot fr 7 = .one (.ptr b7 0) ∧ getSlot fr 8 = .one (.int .i64 (i : Int))

/-- The document's wheel behind a setting of t. -/
def P20 (σ : AHeap) (ir : Nat) (M : List T) (t : T) (seq : Int) (τ : AHeap) : Prop :=
  ∃ i q', i ≤ M.length ∧ (∀ j, j < i → lessT (tAt M j) t = true) ∧ (i < M.length → lessT (tAt M i) t = false) ∧ RWh τ ir (M.take i ++ t :: M.drop i) seq q' ∧ σ.size ≤ q' ∧ Fr σ τ ir ir
theorem st5 {P : Nat → Prop} {i : Nat} (h : ∀ j, j < i → P j) (k : P i) : ∀ j, j < i + 1 → P j := fun j hj => by
  by_cases e : j = i
  · subst e; exact k
  · exact h j (by omega)

theorem run20 (σ : AHeap) (ir qr : Nat) (M : List T) (seq at' stmt : Int) (h : RWh σ ir M seq qr) (hM : M.length + 1 ≤ 1048576) (hs1 : 0 ≤ seq) (hs2 : seq ≤ 4294967296) (f : Nat) (hf : M.length + 30 ≤ f) :
    OptP (evCall D3 f 20 [.one (.ptr ir 0), .one (.int .i64 at'), .one (.int .i64 stmt)] σ) (fun _ v τ => v = T.av ⟨at', stmt, seq + 1⟩ ∧ P20 σ ir M ⟨at', stmt, seq + 1⟩ (seq + 1) τ) := by
  obtain ⟨f, rfl⟩ : ∃ k, f = k + 2 := ⟨f - 2, by omega⟩
  refine evCall_code (by kernel_rfl) ((D3_code 20).trans code20) ?_
  have hlt := h.lt
  obtain ⟨sl, hg, hs⟩ := h
  have hw : wr .i64 (seq + 1) = seq + 1 := wr64 (by omega) (by omega)
  have n1 : ¬ ir = σ.size := by omega
  have n2 : ¬ ir = σ.size + 1 := by omega
  have n3 : ¬ σ.size = ir := by omega
  have n4 : ¬ σ.size + 1 = ir := by omega
  have hid1 : ir < σ.size + 1 := by omega
  have hid2 : ir < σ.size + 1 + 1 := by omega
  obtain ⟨σ1, hσ1⟩ : ∃ σ1, σ1 = (((σ.alloc ⟨[.int .i64 0, .int .i64 0, .int .i64 0], .own⟩).put ir ⟨[sl, .int .i64 (seq + 1)], .own⟩).alloc ⟨[.int .i64 0, .int .i64 0, .int .i64 0], .own⟩).put (σ.size + 1) ⟨[.int .i64 at', .int .i64 stmt, .int .i64 (seq + 1)], .own⟩ := ⟨_, rfl⟩
  simp (maxDischargeDepth := 99) [c20, hg, n1, n2, n3, n4, hid1, hid2, hw]
  rw [← hσ1]
  have hold : ∀ j, j < σ.size → j ≠ ir → σ1.get j = σ.get j := fun j hj hji => by
    rw [hσ1, AHeap.get_put', if_neg (by omega), AHeap.get_alloc, if_neg (by rw [AHeap.size_put, AHeap.size_alloc]; omega), AHeap.get_put', if_neg (by omega), AHeap.get_alloc, if_neg (by omega)]
  have hgir : σ1.get ir = some ⟨[sl, .int .i64 (seq + 1)], .own⟩ := by
    rw [hσ1, AHeap.get_put', if_neg (by omega), AHeap.get_alloc, if_neg (by rw [AHeap.size_put, AHeap.size_alloc]; omega), AHeap.get_put', if_pos ⟨rfl, by rw [AHeap.size_alloc]; omega⟩]
  have hg6 : σ1.get σ.size = some ⟨[.int .i64 0, .int .i64 0, .int .i64 0], .own⟩ := by
    rw [hσ1, AHeap.get_put', if_neg (by omega), AHeap.get_alloc, if_neg (by rw [AHeap.size_put, AHeap.size_alloc]; omega), AHeap.get_put', if_neg (by omega), AHeap.get_alloc, if_pos rfl]
  have hg7 : σ1.get (σ.size + 1) = some ⟨[.int .i64 at', .int .i64 stmt, .int .i64 (seq + 1)], .own⟩ := by
    rw [hσ1, AHeap.get_put', if_pos ⟨rfl, by rw [AHeap.size_alloc, AHeap.size_put, AHeap.size_alloc]; omega⟩]
  have hsz1 : σ1.size = σ.size + 2 := by rw [hσ1]; rfl
  have hsM : (sl = .nilSlice ∧ M = []) ∨ (sl = .slice qr 0 3 M.length none ∧ σ1.get qr = some ⟨tcells M, .own⟩ ∧ qr < σ.size ∧ qr ≠ ir) := by
    rcases hs with ⟨a, b, _⟩ | ⟨a, b, c⟩
    · exact .inl ⟨a, b⟩
    · exact .inr ⟨a, by rw [hold qr hlt.2 b, c], hlt.2, b⟩
  clear hσ1 hs
  obtain ⟨t, ht⟩ : ∃ t : T, t = ⟨at', stmt, seq + 1⟩ := ⟨_, rfl⟩
  have ht1 : t.at' = at' := by rw [ht]
  have ht2 : t.stmt = stmt := by rw [ht]
  have ht3 : t.seq = seq + 1 := by rw [ht]
  rw [← ht1, ← ht2, ← ht3] at hg7
  refine ends_to 0 (O20 M t ir σ.size (σ.size + 1) σ1) ?_ ?_
  · refine ends_loop (I := I20 M t ir σ.size (σ.size + 1) σ1) ?_ (k := M.length) ?_ (by omega)
    · rintro k fr τ ⟨i, rfl, hi, hall, rfl, hlen, f0, f6, f7, f8⟩
      rcases hsM with ⟨rfl, rfl⟩ | ⟨rfl, hgq, hqlt, hne⟩
      · have hi0 : i = 0 := by simpa using hi
        subst hi0
        simp (maxDischargeDepth := 99) [-partA, qw0, qw1, c20_0, hlen, f0, f6, f7, f8, hgir]
        exact ⟨0, Nat.le_refl _, fun j hj => absurd hj (Nat.not_lt_zero _), fun h => absurd h (Nat.lt_irrefl _), rfl, by simp [hlen], by simp [hlen, f0], by simp [hlen, f6], by simp [hlen, f7], by simp [hlen, f8]⟩
      · by_cases hlt2 : i < M.length
        · have hrd := tcells_part M i hlt2
          have hw2 := wr_next hlt2 (by unfold maxElems; omega)
          have hn := st5 (P := fun j => lessT (tAt M j) t = true) hall
          cases hls : lessT (tAt M i) t with
          | true =>
            have hn2 := hn hls
            generalize hu : tAt M i = u at hrd hls
            have hls' : lessT ⟨u.at', u.stmt, u.seq⟩ ⟨t.at', t.stmt, t.seq⟩ = true := hls
            simp (maxDischargeDepth := 99) [-partA, qw0, qw1, pw3, c20_0, hlen, f0, f6, f7, f8, hgir, hgq, hlt2, hrd, hg7, T.av, T.cells, D3_43, p41, hls', hw2]
            exact ⟨M.length - (i + 1), st1 hlt2, i + 1, rfl, hlt2, hn2, rfl, by simp [hlen], by simp [hlen, f0], by simp [hlen, f6], by simp [hlen, f7], by simp [hlen]⟩
          | false =>
            generalize hu : tAt M i = u at hrd hls
            have hls' : lessT ⟨u.at', u.stmt, u.seq⟩ ⟨t.at', t.stmt, t.seq⟩ = false := hls
            simp (maxDischargeDepth := 99) [-partA, qw0, qw1, pw3, c20_0, hlen, f0, f6, f7, f8, hgir, hgq, hlt2, hrd, hg7, T.av, T.cells, D3_43, p41, hls']
            exact ⟨i, hi, hall, fun _ => by rw [hu]; exact hls, rfl, by simp [hlen], by simp [hlen, f0], by simp [hlen, f6], by simp [hlen, f7], by simp [hlen, f8]⟩
        · obtain rfl : i = M.length := by omega
          simp (maxDischargeDepth := 99) [-partA, qw0, qw1, c20_0, hlen, f0, f6, f7, f8, hgir]
          exact ⟨M.length, Nat.le_refl _, hall, fun h => absurd h (Nat.lt_irrefl _), rfl, by simp [hlen], by simp [hlen, f0], by simp [hlen, f6], by simp [hlen, f7], by simp [hlen, f8]⟩
    · exact ⟨0, rfl, Nat.zero_le _, fun j hj => absurd hj (Nat.not_lt_zero _), rfl, by simp, by simp, by simp, by simp, by simp⟩
  · rintro fr τ ⟨i, hi, hall, hnot, rfl, hlen, f0, f6, f7, f8⟩
    have hO0 : OutSl τ.size τ 3 (.one .nilSlice) [] 0 := OutSl.nil _ _ _
    have ap1 := append_many (bytes := 24) (vs := tcells (M.take i)) (k := i) hO0 (Nat.le_refl _) (by omega) (by rw [tcells_length, List.length_take, Nat.min_eq_left hi]) (by unfold maxElems; omega) (by decide)
    rcases hsM with ⟨rfl, hM0⟩ | ⟨rfl, hgq, hqlt, hne⟩
    · have hi0 : i = 0 := by rw [hM0] at hi; simpa using hi
      subst hM0
      subst hi0
      have c1 : srcCells τ 3 0 (.one .nilSlice) = some [] := rfl
      have e0 : tcells (([] : List T).take 0) = [] := rfl
      rw [e0] at ap1
      simp (maxDischargeDepth := 99) [-partA, qw0, qw1, pw3, hlen, f0, f6, f7, f8, hgir, srcLen, c1]
      refine ap1.mono ?_
      rintro v1 τ1 ⟨o1, z1, k1⟩
      have ap2 : OptP (appendA (τ1.alloc ⟨[.int .i64 t.at', .int .i64 t.stmt, .int .i64 t.seq], .own⟩) 3 24 v1 1 [.int .i64 t.at', .int .i64 t.stmt, .int .i64 t.seq]) (fun _ s' τ3 =>
          OutSl τ.size τ3 3 s' (tcells (([] : List T) ++ [t])) 1 ∧ τ1.size ≤ τ3.size ∧ ∀ j, j < τ.size → τ3.get j = τ.get j) := by
        have hO2 : OutSl τ.size (τ1.alloc ⟨[.int .i64 t.at', .int .i64 t.stmt, .int .i64 t.seq], .own⟩) 3 v1 (tcells (([] : List T))) 0 := by
          simp only [List.nil_append, Nat.zero_add] at o1
          exact o1.stay (fun j h1 h2 => by rw [AHeap.get_alloc, if_neg (by omega)])
        refine (append_out (bytes := 24) (vs := [.int .i64 t.at', .int .i64 t.stmt, .int .i64 t.seq]) hO2 (by rw [AHeap.size_alloc]; omega) (by omega) rfl (by decide) (by decide)).mono ?_
        rintro s' τ3 ⟨q1, q2, q3⟩
        rw [AHeap.size_alloc] at q2
        refine ⟨by simpa [tcells_append, tcells, T.cells] using q1, by omega, fun j hj => ?_⟩
        rw [q3 j hj, AHeap.get_alloc, if_neg (by omega), k1 j hj]
      have g7 : τ1.get (σ.size + 1) = some ⟨[.int .i64 t.at', .int .i64 t.stmt, .int .i64 t.seq], .own⟩ := by rw [k1 _ (by omega), hg7]
      simp (maxDischargeDepth := 99) [-partA, qw0, qw1, pw3, hlen, f0, f6, f7, f8, g7, srcLen, srcCells]
      refine ap2.mono ?_
      rintro v2 τ2 ⟨o2, z2, k2⟩
      have gir2 : τ2.get ir = some ⟨[.nilSlice, .int .i64 (seq + 1)], .own⟩ := by rw [k2 _ (by omega), hgir]
      have g72 : τ2.get (σ.size + 1) = some ⟨[.int .i64 t.at', .int .i64 t.stmt, .int .i64 t.seq], .own⟩ := by rw [k2 _ (by omega), hg7]
      have g62 : τ2.get σ.size = some ⟨[.int .i64 0, .int .i64 0, .int .i64 0], .own⟩ := by rw [k2 _ (by omega), hg6]
      have ap3 := append_many (bytes := 24) (vs := tcells (([] : List T))) (k := 0) o2 (by omega) (by omega) rfl (by decide) (by decide)
      have hcells : tcells (([] : List T) ++ [t]) ++ tcells (([] : List T)) = tcells (([] : List T) ++ t :: ([] : List T)) := by rw [← tcells_append]; simp
      have hcount : 1 + 0 = (([] : List T) ++ t :: ([] : List T)).length := rfl
      rw [hcells, hcount] at ap3
      have e00 : tcells ([] : List T) = [] := rfl
      rw [e00] at ap3
      have hNpos : 0 < (([] : List T) ++ t :: ([] : List T)).length := by rw [← hcount]; omega
      obtain ⟨N, hN⟩ : ∃ N, N = ([] : List T) ++ t :: ([] : List T) := ⟨_, rfl⟩
      rw [← hN] at ap3 hNpos
      have c3 : srcCells τ2 3 0 (.one .nilSlice) = some [] := rfl
      simp (maxDischargeDepth := 99) [-partA, qw0, qw1, pw3, hlen, f0, f6, f7, f8, gir2, srcLen, c3]
      refine ap3.mono ?_
      rintro v3 τ3 ⟨o3, z3, k3⟩
      obtain ⟨q3, rfl, hq3, g3⟩ : ∃ q, v3 = .one (.slice q 0 3 N.length none) ∧ τ.size ≤ q ∧ τ3.get q = some ⟨tcells N, .own⟩ := by
        rcases o3.2 with ⟨_, h0⟩ | ⟨q, h1, _, h2, h3⟩
        · omega
        · exact ⟨q, h1, h2, h3⟩
      have gir3 : τ3.get ir = some ⟨[.nilSlice, .int .i64 (seq + 1)], .own⟩ := by rw [k3 _ (by omega), gir2]
      have g73 : τ3.get (σ.size + 1) = some ⟨[.int .i64 t.at', .int .i64 t.stmt, .int .i64 t.seq], .own⟩ := by rw [k3 _ (by omega), g72]
      have g63 : τ3.get σ.size = some ⟨[.int .i64 0, .int .i64 0, .int .i64 0], .own⟩ := by rw [k3 _ (by omega), g62]
      have hi3' : ir < τ3.size := AHeap.get_lt gir3
      have hi63 : σ.size < τ3.size := AHeap.get_lt g63
      have wA := write20 gir3 (.slice q3 0 3 N.length none)
      obtain ⟨τ4, hτ4⟩ : ∃ τ4, τ4 = τ3.put ir ⟨[.slice q3 0 3 N.length none, .int .i64 (seq + 1)], .own⟩ := ⟨_, rfl⟩
      rw [← hτ4] at wA
      have g74 : τ4.get (σ.size + 1) = some ⟨[.int .i64 t.at', .int .i64 t.stmt, .int .i64 t.seq], .own⟩ := by rw [hτ4, AHeap.get_put', if_neg (by omega), g73]
      have g64 : τ4.get σ.size = some ⟨[.int .i64 0, .int .i64 0, .int .i64 0], .own⟩ := by rw [hτ4, AHeap.get_put', if_neg (by omega), g63]
      have gir4 : τ4.get ir = some ⟨[.slice q3 0 3 N.length none, .int .i64 (seq + 1)], .own⟩ := by rw [hτ4, AHeap.get_put', if_pos ⟨rfl, hi3'⟩]
      have g34 : τ4.get q3 = some ⟨tcells N, .own⟩ := by rw [hτ4, AHeap.get_put', if_neg (by omega), g3]
      have wB := write3 g64 (.int .i64 t.at') (.int .i64 t.stmt) (.int .i64 t.seq)
      have hs4 : τ4.size = τ3.size := by rw [hτ4, AHeap.size_put]
      have hi64 : σ.size < τ4.size := by omega
      have hF : Fr σ (τ4.put σ.size ⟨[.int .i64 t.at', .int .i64 t.stmt, .int .i64 t.seq], .own⟩) ir ir := by
        refine ⟨by rw [AHeap.size_put]; omega, fun j h1 h2 _ => ?_⟩
        rw [AHeap.get_put', if_neg (by omega), hτ4, AHeap.get_put', if_neg (by omega), k3 j (by omega), k2 j (by omega), hold j h1 h2]
      have hR : RWh (τ4.put σ.size ⟨[.int .i64 t.at', .int .i64 t.stmt, .int .i64 t.seq], .own⟩) ir N (seq + 1) q3 := by
        refine ⟨_, by rw [AHeap.get_put', if_neg (by omega), gir4], .inr ⟨rfl, by omega, ?_⟩⟩
        rw [AHeap.get_put', if_neg (by omega), g34]
      have hfin : P20 σ ir [] ⟨at', stmt, seq + 1⟩ (seq + 1) (τ4.put σ.size ⟨[.int .i64 t.at', .int .i64 t.stmt, .int .i64 t.seq], .own⟩) := by
        rw [← ht]
        exact ⟨0, q3, Nat.le_refl _, fun j hj => absurd hj (Nat.not_lt_zero _), fun h => absurd h (Nat.lt_irrefl _), by rw [List.take_nil, List.drop_nil, ← hN]; exact hR, by omega, hF⟩
      simp (maxDischargeDepth := 99) [-partA, -writeAt, qw0, qw1, pw3, hlen, f0, f6, f7, f8, wA, g74, wB, hi64]
      exact ⟨by simp [T.av, T.cells, ht1, ht2, ht3], hfin⟩
    · have hcl : (tcells M).length = M.length * 3 := tcells_length M
      have hi3 : i * 3 ≤ M.length * 3 := Nat.mul_le_mul_right 3 hi
      have s1 := srcCells_pre hgq hi
      simp (maxDischargeDepth := 99) [-partA, qw0, qw1, pw3, hlen, f0, f6, f7, f8, hgir, hgq, hcl, hi, hi3, srcLen, s1]
      refine ap1.mono ?_
      rintro v1 τ1 ⟨o1, z1, k1⟩
      have ap2 : OptP (appendA (τ1.alloc ⟨[.int .i64 t.at', .int .i64 t.stmt, .int .i64 t.seq], .own⟩) 3 24 v1 1 [.int .i64 t.at', .int .i64 t.stmt, .int .i64 t.seq]) (fun _ s' τ3 =>
          OutSl τ.size τ3 3 s' (tcells (M.take i ++ [t])) (i + 1) ∧ τ1.size ≤ τ3.size ∧ ∀ j, j < τ.size → τ3.get j = τ.get j) := by
        have hO2 : OutSl τ.size (τ1.alloc ⟨[.int .i64 t.at', .int .i64 t.stmt, .int .i64 t.seq], .own⟩) 3 v1 (tcells (M.take i)) i := by
          simp only [List.nil_append, Nat.zero_add] at o1
          exact o1.stay (fun j h1 h2 => by rw [AHeap.get_alloc, if_neg (by omega)])
        refine (append_out (bytes := 24) (vs := [.int .i64 t.at', .int .i64 t.stmt, .int .i64 t.seq]) hO2 (by rw [AHeap.size_alloc]; omega) (by omega) rfl (by unfold maxElems; omega) (by decide)).mono ?_
        rintro s' τ3 ⟨q1, q2, q3⟩
        rw [AHeap.size_alloc] at q2
        refine ⟨by simpa [tcells_append, tcells, T.cells] using q1, by omega, fun j hj => ?_⟩
        rw [q3 j hj, AHeap.get_alloc, if_neg (by omega), k1 j hj]
      have g7 : τ1.get (σ.size + 1) = some ⟨[.int .i64 t.at', .int .i64 t.stmt, .int .i64 t.seq], .own⟩ := by rw [k1 _ (by omega), hg7]
      simp (maxDischargeDepth := 99) [-partA, qw0, qw1, pw3, hlen, f0, f6, f7, f8, g7, srcLen, srcCells]
      refine ap2.mono ?_
      rintro v2 τ2 ⟨o2, z2, k2⟩
      have gir2 : τ2.get ir = some ⟨[.slice qr 0 3 M.length none, .int .i64 (seq + 1)], .own⟩ := by rw [k2 _ (by omega), hgir]
      have g72 : τ2.get (σ.size + 1) = some ⟨[.int .i64 t.at', .int .i64 t.stmt, .int .i64 t.seq], .own⟩ := by rw [k2 _ (by omega), hg7]
      have g62 : τ2.get σ.size = some ⟨[.int .i64 0, .int .i64 0, .int .i64 0], .own⟩ := by rw [k2 _ (by omega), hg6]
      have gq2 : τ2.get qr = some ⟨tcells M, .own⟩ := by rw [k2 _ (by omega), hgq]
      have ap3 := append_many (bytes := 24) (vs := tcells (M.drop i)) (k := M.length - i) o2 (by omega) (by omega) (by rw [tcells_length, List.length_drop]) (by unfold maxElems; omega) (by decide)
      have hcells : tcells (M.take i ++ [t]) ++ tcells (M.drop i) = tcells (M.take i ++ t :: M.drop i) := by rw [← tcells_append]; simp
      have hcount : i + 1 + (M.length - i) = (M.take i ++ t :: M.drop i).length := by rw [List.length_append, List.length_cons, List.length_take, List.length_drop]; omega
      rw [hcells, hcount] at ap3
      have hNpos : 0 < (M.take i ++ t :: M.drop i).length := by rw [← hcount]; omega
      obtain ⟨N, hN⟩ : ∃ N, N = M.take i ++ t :: M.drop i := ⟨_, rfl⟩
      rw [← hN] at ap3 hNpos
      have s3 := srcCells_suf gq2 hi
      simp (maxDischargeDepth := 99) [-partA, qw0, qw1, pw3, hlen, f0, f6, f7, f8, gir2, gq2, hcl, hi, hi3, srcLen, s3]
      refine ap3.mono ?_
      rintro v3 τ3 ⟨o3, z3, k3⟩
      obtain ⟨q3, rfl, hq3, g3⟩ : ∃ q, v3 = .one (.slice q 0 3 N.length none) ∧ τ.size ≤ q ∧ τ3.get q = some ⟨tcells N, .own⟩ := by
        rcases o3.2 with ⟨_, h0⟩ | ⟨q, h1, _, h2, h3⟩
        · omega
        · exact ⟨q, h1, h2, h3⟩
      have gir3 : τ3.get ir = some ⟨[.slice qr 0 3 M.length none, .int .i64 (seq + 1)], .own⟩ := by rw [k3 _ (by omega), gir2]
      have g73 : τ3.get (σ.size + 1) = some ⟨[.int .i64 t.at', .int .i64 t.stmt, .int .i64 t.seq], .own⟩ := by rw [k3 _ (by omega), g72]
      have g63 : τ3.get σ.size = some ⟨[.int .i64 0, .int .i64 0, .int .i64 0], .own⟩ := by rw [k3 _ (by omega), g62]
      have hi3' : ir < τ3.size := AHeap.get_lt gir3
      have hi63 : σ.size < τ3.size := AHeap.get_lt g63
      have wA := write20 gir3 (.slice q3 0 3 N.length none)
      obtain ⟨τ4, hτ4⟩ : ∃ τ4, τ4 = τ3.put ir ⟨[.slice q3 0 3 N.length none, .int .i64 (seq + 1)], .own⟩ := ⟨_, rfl⟩
      rw [← hτ4] at wA
      have g74 : τ4.get (σ.size + 1) = some ⟨[.int .i64 t.at', .int .i64 t.stmt, .int .i64 t.seq], .own⟩ := by rw [hτ4, AHeap.get_put', if_neg (by omega), g73]
      have g64 : τ4.get σ.size = some ⟨[.int .i64 0, .int .i64 0, .int .i64 0], .own⟩ := by rw [hτ4, AHeap.get_put', if_neg (by omega), g63]
      have gir4 : τ4.get ir = some ⟨[.slice q3 0 3 N.length none, .int .i64 (seq + 1)], .own⟩ := by rw [hτ4, AHeap.get_put', if_pos ⟨rfl, hi3'⟩]
      have g34 : τ4.get q3 = some ⟨tcells N, .own⟩ := by rw [hτ4, AHeap.get_put', if_neg (by omega), g3]
      have wB := write3 g64 (.int .i64 t.at') (.int .i64 t.stmt) (.int .i64 t.seq)
      have hs4 : τ4.size = τ3.size := by rw [hτ4, AHeap.size_put]
      have hi64 : σ.size < τ4.size := by omega
      have hF : Fr σ (τ4.put σ.size ⟨[.int .i64 t.at', .int .i64 t.stmt, .int .i64 t.seq], .own⟩) ir ir := by
        refine ⟨by rw [AHeap.size_put]; omega, fun j h1 h2 _ => ?_⟩
        rw [AHeap.get_put', if_neg (by omega), hτ4, AHeap.get_put', if_neg (by omega), k3 j (by omega), k2 j (by omega), hold j h1 h2]
      have hR : RWh (τ4.put σ.size ⟨[.int .i64 t.at', .int .i64 t.stmt, .int .i64 t.seq], .own⟩) ir N (seq + 1) q3 := by
        refine ⟨_, by rw [AHeap.get_put', if_neg (by omega), gir4], .inr ⟨rfl, by omega, ?_⟩⟩
        rw [AHeap.get_put', if_neg (by omega), g34]
      have hfin : P20 σ ir M ⟨at', stmt, seq + 1⟩ (seq + 1) (τ4.put σ.size ⟨[.int .i64 t.at', .int .i64 t.stmt, .int .i64 t.seq], .own⟩) := by
        rw [← ht]
        exact ⟨i, q3, hi, hall, hnot, by rw [← hN]; exact hR, by omega, hF⟩
      simp (maxDischargeDepth := 99) [-partA, -writeAt, qw0, qw1, pw3, hlen, f0, f6, f7, f8, wA, g74, wB, hi64]
      exact ⟨by simp [T.av, T.cells, ht1, ht2, ht3], hfin⟩
end Go.Proofs.Ytdgffilnefnjjaa.Ab
