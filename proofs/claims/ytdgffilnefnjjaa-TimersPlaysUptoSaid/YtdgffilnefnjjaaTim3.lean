/- Timers: what is put into the heap. -/
import Derived.Test.YtdgffilnefnjjaaTim2
namespace Go.Proofs.Ytdgffilnefnjjaa.Ab
open Go
set_option maxRecDepth 20000
set_option maxHeartbeats 400000
set_option linter.unusedSimpArgs false

def swapL (l : List T) (i j : Nat) : List T := (l.set i (tAt l j)).set j (tAt l i)
theorem swapL_length (l : List T) (i j : Nat) : (swapL l i j).length = l.length := by simp [swapL]
def upL (l : List T) (i : Nat) : List T :=
  if h : i = 0 then l else if lessT (tAt l i) (tAt l ((i - 1) / 2)) = true then upL (swapL l i ((i - 1) / 2)) ((i - 1) / 2) else l
termination_by i
decreasing_by omega
def pushL (l : List T) (x : T) : List T := upL (l ++ [x]) l.length
theorem tAt_append {l m : List T} {i : Nat} (h : i < l.length) : tAt (l ++ m) i = tAt l i := by
  simp [tAt, List.getD, List.getElem?_append_left h]
theorem swapL_append {l m : List T} {i j : Nat} (hi : i < l.length) (hj : j < l.length) : swapL (l ++ m) i j = swapL l i j ++ m := by
  unfold swapL
  rw [tAt_append hi, tAt_append hj, List.set_append_left _ _ hi, List.set_append_left _ _ (by simpa using hj)]
theorem upL_append (m : List T) : ∀ (i : Nat) (l : List T), i < l.length → upL (l ++ m) i = upL l i ++ m := by
  intro i
  induction i using Nat.strongRecOn with
  | _ i ih =>
    intro l hi
    rw [upL]
    conv => rhs; rw [upL]
    split
    · rfl
    · rename_i h0
      have hup : (i - 1) / 2 < l.length := by omega
      rw [tAt_append hi, tAt_append hup]
      split
      · rw [swapL_append hi hup, ih _ (by omega) _ (by rw [swapL_length]; exact hup)]
      · rfl
theorem upL_length : ∀ (i : Nat) (l : List T), (upL l i).length = l.length := by
  intro i
  induction i using Nat.strongRecOn with
  | _ i ih =>
    intro l
    rw [upL]
    split
    · rfl
    · split
      · rw [ih _ (by omega), swapL_length]
      · rfl
theorem pushL_length (l : List T) (x : T) : (pushL l x).length = l.length + 1 := by simp [pushL, upL_length]

/-- A wheel: its object, its heap's slice and what lies in it. -/
def Whl (τ : AHeap) (id : Nat) (L : List T) (seq : Int) (q : Nat) : Prop :=
  ∃ sl, τ.get id = some ⟨[sl, .func 41 [], .int .i64 seq], .own⟩ ∧
    ((sl = .nilSlice ∧ L = [] ∧ q = id) ∨ ∃ junk, sl = .slice q 0 3 L.length none ∧ q ≠ id ∧ τ.get q = some ⟨tcells (L ++ junk), .own⟩)
/-- All but two objects as they were. -/
def Fr (σ τ : AHeap) (id q : Nat) : Prop := σ.size ≤ τ.size ∧ ∀ j, j < σ.size → j ≠ id → j ≠ q → τ.get j = σ.get j
theorem Fr.refl (σ : AHeap) (id q : Nat) : Fr σ σ id q := ⟨Nat.le_refl _, fun _ _ _ _ => rfl⟩
theorem Fr.alloc {σ τ : AHeap} {id q : Nat} {o : AObj} (h : Fr σ τ id q) : Fr σ (τ.alloc o) id q :=
  ⟨by rw [AHeap.size_alloc]; have := h.1; omega, fun j h1 h2 h3 => by rw [AHeap.get_alloc, if_neg (by have := h.1; omega), h.2 j h1 h2 h3]⟩
theorem Fr.put {σ τ : AHeap} {id q i : Nat} {o : AObj} (h : Fr σ τ id q) (hi : i = id ∨ i = q ∨ σ.size ≤ i) : Fr σ (τ.put i o) id q :=
  ⟨h.1, fun j h1 h2 h3 => by rw [AHeap.get_put', if_neg (by omega), h.2 j h1 h2 h3]⟩
theorem Fr.trans {a b c : AHeap} {id q q' : Nat} (h : Fr a b id q) (k : Fr b c id q') (hq : q' = q ∨ a.size ≤ q') : Fr a c id q :=
  ⟨Nat.le_trans h.1 k.1, fun j h1 h2 h3 => by rw [k.2 j (Nat.lt_of_lt_of_le h1 h.1) h2 (by omega), h.2 j h1 h2 h3]⟩

theorem append_whl {τ : AHeap} {id : Nat} {L : List T} {q : Nat} {sl : SV} (x : T)
    (h : (sl = .nilSlice ∧ L = [] ∧ q = id) ∨ ∃ junk, sl = .slice q 0 3 L.length none ∧ q ≠ id ∧ τ.get q = some ⟨tcells (L ++ junk), .own⟩) (hid : id < τ.size) (hL : L.length + 1 ≤ maxElems) :
    OptP (appendA τ 3 24 (.one sl) 1 [.int .i64 x.at', .int .i64 x.stmt, .int .i64 x.seq]) (fun _ s' τ2 => ∃ q' junk', s' = .one (.slice q' 0 3 (L.length + 1) none) ∧ q' ≠ id ∧ τ2.get q' = some ⟨tcells (L ++ x :: junk'), .own⟩ ∧
      (q' = q ∨ τ.size ≤ q') ∧ τ.size ≤ τ2.size ∧ ∀ j, j < τ.size → (q = id ∨ j ≠ q) → τ2.get j = τ.get j) := by
  have hby : (24 : Nat) ≤ maxBytes := by decide
  rcases h with ⟨rfl, rfl, rfl⟩ | ⟨junk, rfl, hne, hg⟩
  · have h1 : 1 ≤ maxElems := by decide
    have e : appendA τ 3 24 (.one .nilSlice) 1 [.int .i64 x.at', .int .i64 x.stmt, .int .i64 x.seq] = some (.one (.slice τ.size 0 3 1 none), τ.alloc ⟨x.cells, .own⟩) := by
      simp [appendA, appendK, h1, hby, T.cells]
    rw [e, optP_some]
    refine ⟨τ.size, [], rfl, by omega, by rw [AHeap.get_alloc, if_pos rfl]; simp [tcells], .inr (Nat.le_refl _), by rw [AHeap.size_alloc]; omega, fun j hj _ => by rw [AHeap.get_alloc, if_neg (by omega)]⟩
  · have hlen : (tcells (L ++ junk)).length = (L.length + junk.length) * 3 := by rw [tcells_length, List.length_append]
    cases junk with
    | nil =>
      have h2 : ¬ ((L.length + 1) * 3 ≤ L.length * 3) := by omega
      simp only [List.append_nil] at hg hlen
      simp only [List.length_nil, Nat.add_zero] at hlen
      have hq := AHeap.get_lt hg
      have e : appendA τ 3 24 (.one (.slice q 0 3 L.length none)) 1 [.int .i64 x.at', .int .i64 x.stmt, .int .i64 x.seq] =
          some (.one (.slice τ.size 0 3 (L.length + 1) none), (τ.put q ⟨tcells L, .dead⟩).alloc ⟨tcells L ++ x.cells, .own⟩) := by
        simp [appendA, appendK, hL, hby, hg, hlen, h2, T.cells]
      rw [e, optP_some]
      refine ⟨τ.size, [], rfl, by omega, ?_, .inr (Nat.le_refl _), by rw [AHeap.size_alloc, AHeap.size_put]; omega, fun j hj hj2 => ?_⟩
      · rw [AHeap.get_alloc, if_pos (by rw [AHeap.size_put]), tcells_append]; simp [tcells]
      · rw [AHeap.get_alloc, if_neg (by rw [AHeap.size_put]; omega), AHeap.get_put', if_neg (by omega)]
    | cons y junk =>
      have h2 : (L.length + 1) * 3 ≤ (tcells (L ++ y :: junk)).length := by rw [hlen, List.length_cons]; omega
      have h3 : L.length * 3 + 3 ≤ (tcells (L ++ y :: junk)).length := by omega
      have hsp := tcells_splice (L ++ y :: junk) L.length x (by simp)
      have hset : (L ++ y :: junk).set L.length x = L ++ x :: junk := by simp
      rw [hset] at hsp
      have hq := AHeap.get_lt hg
      have e : appendA τ 3 24 (.one (.slice q 0 3 L.length none)) 1 [.int .i64 x.at', .int .i64 x.stmt, .int .i64 x.seq] =
          some (.one (.slice q 0 3 (L.length + 1) none), τ.put q ⟨tcells (L ++ x :: junk), .own⟩) := by
        have hw : writeAt τ q (L.length * 3) [.int .i64 x.at', .int .i64 x.stmt, .int .i64 x.seq] = some (τ.put q ⟨tcells (L ++ x :: junk), .own⟩) := by
          have h4 : Nat.ble (L.length * 3 + 3) (tcells (L ++ y :: junk)).length = true := by simpa using h3
          simp only [writeAt, hg, List.length_cons, List.length_nil, h4, hsp]
        simp [-writeAt, appendA, appendK, hL, hby, hg, h2, hw]
      rw [e, optP_some]
      refine ⟨q, junk, rfl, hne, by rw [AHeap.get_put', if_pos ⟨rfl, hq⟩], .inl rfl, by rw [AHeap.size_put]; omega, fun j hj hj2 => ?_⟩
      rw [AHeap.get_put', if_neg (by omega)]

theorem pw0 (a b c : SV) : partA [a, b, c] none 0 = some (.one a) := rfl
theorem pw1 (a b c : SV) : partA [a, b, c] none 1 = some (.one b) := rfl
theorem pw2 (a b c : SV) : partA [a, b, c] none 2 = some (.one c) := rfl
theorem pw3 (a b c : SV) : partA [a, b, c] (some 3) 0 = some (.agg [a, b, c]) := rfl
theorem write_ts {τ : AHeap} {q : Nat} {m : List T} (hg : τ.get q = some ⟨tcells m, .own⟩) {i : Nat} (hi : i < m.length) (t : T) :
    writeAt τ q (i * 3) [.int .i64 t.at', .int .i64 t.stmt, .int .i64 t.seq] = some (τ.put q ⟨tcells (m.set i t), .own⟩) := by
  have h4 : Nat.ble (i * 3 + 3) (tcells m).length = true := by
    have : i * 3 + 3 ≤ (tcells m).length := by rw [tcells_length]; omega
    simpa using this
  simp only [writeAt, hg, List.length_cons, List.length_nil, h4, tcells_splice m i t hi]
theorem lessT_eta (a b : T) : lessT ⟨a.at', a.stmt, a.seq⟩ ⟨b.at', b.stmt, b.seq⟩ = lessT a b := rfl

/-- heap.push -/
theorem run42 (σ : AHeap) (id q : Nat) (L : List T) (seq : Int) (x : T) (h : Whl σ id L seq q) (hL : L.length + 1 ≤ maxElems) (n : Nat) (hn : L.length + 8 ≤ n) :
    OptP (evCall D3 n 42 [.one (.ptr id 0), .agg [.int .i64 x.at', .int .i64 x.stmt, .int .i64 x.seq]] σ) (fun _ _ τ => ∃ q', Whl τ id (pushL L x) seq q' ∧ (q' = q ∨ σ.size ≤ q') ∧ Fr σ τ id q) := by
  obtain ⟨n, rfl⟩ : ∃ k, n = k + 2 := ⟨n - 2, by omega⟩
  refine evCall_code (by kernel_rfl) ((D3_code 42).trans code42) ?_
  obtain ⟨sl, hg, hs⟩ := h
  have hid := AHeap.get_lt hg
  have hql : q < σ.size := by
    rcases hs with ⟨_, _, rfl⟩ | ⟨_, _, _, h3⟩
    · exact hid
    · exact AHeap.get_lt h3
  have n1 : id ≠ σ.size := by omega
  have n2 : id < σ.size + 1 + 1 := by omega
  have n3 : id ≠ σ.size + 1 := by omega
  obtain ⟨σ1, hσ1⟩ : ∃ σ1, σ1 = (σ.alloc ⟨[.int .i64 x.at', .int .i64 x.stmt, .int .i64 x.seq], .own⟩).alloc ⟨[.int .i64 x.at', .int .i64 x.stmt, .int .i64 x.seq], .own⟩ := ⟨_, rfl⟩
  have hs1 : (sl = .nilSlice ∧ L = [] ∧ q = id) ∨ ∃ junk, sl = .slice q 0 3 L.length none ∧ q ≠ id ∧ σ1.get q = some ⟨tcells (L ++ junk), .own⟩ := by
    rcases hs with h | ⟨junk, h1, h2, h3⟩
    · exact .inl h
    · refine .inr ⟨junk, h1, h2, ?_⟩
      rw [hσ1, AHeap.get_alloc, if_neg (by rw [AHeap.size_alloc]; omega), AHeap.get_alloc, if_neg (by omega), h3]
  have app := append_whl x hs1 (by rw [hσ1, AHeap.size_alloc, AHeap.size_alloc]; omega) hL
  have hgx : σ1.get (σ.size + 1) = some ⟨[.int .i64 x.at', .int .i64 x.stmt, .int .i64 x.seq], .own⟩ := by
    rw [hσ1, AHeap.get_alloc, if_pos (by rw [AHeap.size_alloc])]
  simp (maxDischargeDepth := 99) [c42, hg, n1, n2, n3, srcLen, srcCells, ← hσ1, hgx]
  refine app.mono ?_
  rintro s' σ2 ⟨q', junk', rfl, hne, hg', hq', hsz, hfr⟩
  have hsz1 : σ1.size = σ.size + 2 := by rw [hσ1, AHeap.size_alloc, AHeap.size_alloc]
  have hold : ∀ j, j < σ.size → σ1.get j = σ.get j := fun j hj => by
    rw [hσ1, AHeap.get_alloc, if_neg (by rw [AHeap.size_alloc]; omega), AHeap.get_alloc, if_neg (by omega)]
  have hgid : σ2.get id = some ⟨[sl, .func 41 [], .int .i64 seq], .own⟩ := by
    rw [hfr id (by omega) (by rcases hs with ⟨_, _, h⟩ | ⟨_, _, h, _⟩ <;> omega), hold id hid, hg]
  have hid2 : id < σ2.size := AHeap.get_lt hgid
  obtain ⟨σ3, hσ3⟩ : ∃ σ3, σ3 = σ2.put id ⟨[.slice q' 0 3 (L.length + 1) none, .func 41 [], .int .i64 seq], .own⟩ := ⟨_, rfl⟩
  have hg3 : σ3.get id = some ⟨[.slice q' 0 3 (L.length + 1) none, .func 41 [], .int .i64 seq], .own⟩ := by rw [hσ3, AHeap.get_put', if_pos ⟨rfl, hid2⟩]
  have hq3 : σ3.get q' = some ⟨tcells (L ++ x :: junk'), .own⟩ := by rw [hσ3, AHeap.get_put', if_neg (by omega), hg']
  have hq'' : q' = q ∨ σ.size ≤ q' := by omega
  have hfr3 : Fr σ σ3 id q := by
    refine ⟨by rw [hσ3, AHeap.size_put]; omega, fun j h1 h2 h3 => ?_⟩
    rw [hσ3, AHeap.get_put', if_neg (by omega), hfr j (by omega) (by omega), hold j h1]
  have hmb : maxElems = 4294967296 := rfl
  have hw0 : wr .i64 (L.length : Int) = (L.length : Int) := wr64 (by omega) (by omega)
  simp (maxDischargeDepth := 99) [hgid, hid2, ← hσ3, hg3, hw0]
  have hfin : ∀ (fr : List AV) (τ : AHeap), τ.get id = some ⟨[.slice q' 0 3 (L.length + 1) none, .func 41 [], .int .i64 seq], .own⟩ → τ.get q' = some ⟨tcells (upL (L ++ x :: junk') L.length), .own⟩ → Fr σ τ id q →
      ∃ q', Whl τ id (pushL L x) seq q' ∧ (q' = q ∨ σ.size ≤ q') ∧ Fr σ τ id q := by
    intro fr τ h1 h2 h3
    refine ⟨q', ⟨_, h1, .inr ⟨junk', by rw [pushL_length], hne, ?_⟩⟩, hq'', h3⟩
    have : L ++ x :: junk' = (L ++ [x]) ++ junk' := by simp
    rw [h2, this, upL_append _ _ _ (by simp)]
    rfl
  refine ends_loop (I := fun k fr τ => ∃ m, k ≤ L.length ∧ fr.length = 74 ∧ getSlot fr 0 = .one (.ptr id 0) ∧ getSlot fr 4 = .one (.int .i64 (k : Int)) ∧
      τ.get id = some ⟨[.slice q' 0 3 (L.length + 1) none, .func 41 [], .int .i64 seq], .own⟩ ∧ τ.get q' = some ⟨tcells m, .own⟩ ∧ L.length < m.length ∧ Fr σ τ id q ∧ upL m k = upL (L ++ x :: junk') L.length) ?_ (k := L.length) ?_ (by omega)
  · rintro i fr τ ⟨m, hi, hlen, f0, f4, hgi, hgq, hm, hF, hup⟩
    by_cases h0 : i = 0
    · subst h0
      simp (maxDischargeDepth := 99) [c42_0, hlen, f4]
      rw [upL, dif_pos rfl] at hup
      subst hup
      exact hfin fr τ hgi hgq hF
    · have hi0 : (0 : Int) < (i : Int) := by omega
      have hi0' : 0 < i := by omega
      have hw1 : wr .i64 ((i : Int) - 1) = ((i - 1 : Nat) : Int) := by rw [wr64 (by omega) (by omega)]; omega
      have hw2 : wr .i64 ((((i - 1 : Nat) : Int)).tdiv 2) = (((i - 1) / 2 : Nat) : Int) := by
        have e : (((i - 1 : Nat) : Int)).tdiv 2 = (((i - 1) / 2 : Nat) : Int) := Int.ofNat_tdiv (i - 1) 2
        rw [e, wr64 (by omega) (by omega)]
      have hw2' : wr .i64 ((((i - 1 : Nat) : Int)) / 2) = (((i - 1) / 2 : Nat) : Int) := by
        have e : (((i - 1 : Nat) : Int)) / 2 = (((i - 1) / 2 : Nat) : Int) := by omega
        rw [e, wr64 (by omega) (by omega)]
      rw [upL, dif_neg h0] at hup
      have hupl : (i - 1) / 2 < i := by omega
      generalize (i - 1) / 2 = u at hw2 hw2' hup hupl
      have hrd1 := tcells_part m i (by omega)
      have hrd2 := tcells_part m u (by omega)
      have hil : i < L.length + 1 := by omega
      have hul : u < L.length + 1 := by omega
      have hsw1 : writeAt τ q' (i * 3) [.int .i64 (tAt m u).at', .int .i64 (tAt m u).stmt, .int .i64 (tAt m u).seq] = some (τ.put q' ⟨tcells (m.set i (tAt m u)), .own⟩) := by
        exact write_ts hgq (by omega) _
      have hql : q' < τ.size := AHeap.get_lt hgq
      have hidl : id < τ.size := AHeap.get_lt hgi
      have hsw2 := write_ts (τ := τ.put q' ⟨tcells (m.set i (tAt m u)), .own⟩) (q := q') (m := m.set i (tAt m u)) (by rw [AHeap.get_put', if_pos ⟨rfl, hql⟩]) (i := u) (by rw [List.length_set]; omega) (tAt m i)
      have hswl : (m.set i (tAt m u)).set u (tAt m i) = swapL m i u := rfl
      rw [hswl] at hsw2
      have hml : (swapL m i u).length = m.length := swapL_length m i u
      have hne' : ¬ id = q' := fun e => hne e.symm
      generalize swapL m i u = m2 at hup hsw2 hml
      generalize ht : tAt m i = t at hrd1 hup hsw2
      generalize hu : tAt m u = w at hrd2 hup hsw1 hsw2
      by_cases hls : lessT t w = true
      · have hls' : lessT ⟨t.at', t.stmt, t.seq⟩ ⟨w.at', w.stmt, w.seq⟩ = true := by simpa using hls
        rw [if_pos hls] at hup
        simp (maxDischargeDepth := 99) [-partA, -writeAt, pw0, pw1, c42_0, hlen, f0, f4, hi0, hi0', hw1, hw2, hw2', hgi, hgq, hil, hul, hrd1, hrd2, T.av, T.cells, D3_41, p41, hls', hsw1, hsw2, hne', hne, hidl, hql]
        exact ⟨u, hupl, by omega, rfl, m2, rfl, by omega, (hF.put (.inr hq'')).put (.inr hq''), hup⟩
      · have hls' : lessT ⟨t.at', t.stmt, t.seq⟩ ⟨w.at', w.stmt, w.seq⟩ = false := by simpa using hls
        rw [if_neg hls] at hup
        simp (maxDischargeDepth := 99) [-partA, pw0, pw1, c42_0, hlen, f0, f4, hi0, hi0', hw1, hw2, hw2', hgi, hgq, hil, hul, hrd1, hrd2, T.av, T.cells, D3_41, p41, hls']
        rw [hup] at hgq
        exact hfin fr τ hgi hgq hF
  · refine ⟨L ++ x :: junk', Nat.le_refl _, by simp, by simp, by simp, hg3, hq3, by simp, hfr3, rfl⟩
end Go.Proofs.Ytdgffilnefnjjaa.Ab
