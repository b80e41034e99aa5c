/- The law TimersPlays, run: what both wheels tell, and the whole. -/
import Derived.Test.YtdgffilnefnjjaaTq7
namespace Go.Proofs.Ytdgffilnefnjjaa.Ab
open Go
set_option maxRecDepth 20000
set_option maxHeartbeats 2000000
set_option linter.unusedSimpArgs false

theorem St6.keeps {σ τ τ' : AHeap} {fr fr' : List AV} {s : AV} {iw qw ir qr : Nat} {L M : List T} {n : Int} (h : St6 σ τ fr s iw qw ir qr L M n) (hk : Keeps τ τ')
    (hl : fr'.length = 137) (g0 : getSlot fr' 0 = getSlot fr 0) (g3 : getSlot fr' 3 = getSlot fr 3) (g4 : getSlot fr' 4 = getSlot fr 4) : St6 σ τ' fr' s iw qw ir qr L M n :=
  h.move hl g0 g3 g4 (h.k.trans hk) (h.w.keeps hk) (h.r.keeps hk) h.rel h.n2 h.n3 h.n4 h.o2 h.o4

theorem slTs_ref {τ : AHeap} {q : Nat} {M : List T} (h : τ.get q = some ⟨tcells M, .own⟩) (hm : M.length ≤ maxElems) : slTs τ (.one (.slice q 0 3 M.length none)) = some M :=
  slTs_at [] (by rw [List.append_nil]; exact h) (.inl rfl) hm

theorem tail6 (σ τ : AHeap) (fr : List AV) (s : AV) (iw qw ir qr : Nat) (L M : List T) (n : Int) (i : Nat) (h : St6 σ τ fr s iw qw ir qr L M n) (f5 : getSlot fr 5 = .one (.int .i64 (i : Int))) (f7 : getSlot fr 7 = .one (.bool true)) (hL : L.length ≤ 1048576)
    (f : Nat) (hf : 40 ≤ f) (N : KN) (E : KE) (R : KN) (k : ∀ fr' τ', St6 σ τ' fr' s iw qw ir qr L M n → getSlot fr' 5 = .one (.int .i64 (i : Int)) → N .go fr' τ') : EndsC .go (evCall D3 f) f c6_t fr τ N E R := by
  have e1 := h.len
  have e3 := h.f3
  have e4 := h.f4
  have hML := h.rel.len
  have hlw := h.w.lt
  have hlr := h.r.lt
  have hnx := h.rel.next
  -- what Next tells
  obtain ⟨nt, nb, hnt⟩ : ∃ (nt : T) (nb : Bool), nextT L = .tup [nt.av, .one (.bool nb)] := by
    cases L with
    | nil => exact ⟨t0, false, rfl⟩
    | cons t L => exact ⟨t, true, rfl⟩
  have p1 := run27 τ iw qw L n h.w f (by omega)
  rw [hnt] at p1
  simp (maxDischargeDepth := 99) [c6_t, e1, e3]
  refine p1.mono ?_
  rintro v1 τ1 ⟨rfl, k1⟩
  obtain ⟨τ2, hτ2⟩ : ∃ τ2, τ2 = (τ1.alloc ⟨[.int .i64 0, .int .i64 0, .int .i64 0], .own⟩).put τ1.size ⟨[.int .i64 nt.at', .int .i64 nt.stmt, .int .i64 nt.seq], .own⟩ := ⟨_, rfl⟩
  have k2 : Keeps τ1 τ2 := by rw [hτ2]; exact (Keeps.alloc (Keeps.refl _)).put (Nat.le_refl _)
  have hz : τ2.get τ1.size = some ⟨[.int .i64 nt.at', .int .i64 nt.stmt, .int .i64 nt.seq], .own⟩ := by rw [hτ2, AHeap.get_put', if_pos ⟨rfl, by rw [AHeap.size_alloc]; omega⟩]
  have hwz := write3 (τ := τ1.alloc ⟨[.int .i64 0, .int .i64 0, .int .i64 0], .own⟩) (i := τ1.size) (a := .int .i64 0) (b := .int .i64 0) (c := .int .i64 0) (by rw [AHeap.get_alloc, if_pos rfl]) (.int .i64 nt.at') (.int .i64 nt.stmt) (.int .i64 nt.seq)
  rw [← hτ2] at hwz
  have k12 := k1.trans k2
  have p2 := run28 τ2 ir qr M n (h.r.keeps k12) f (by omega)
  rw [hnx, hnt] at p2
  simp (maxDischargeDepth := 99) [-partA, -writeAt, e1, e4, T.av, T.cells, hwz]
  refine p2.mono ?_
  rintro v2 τ3 ⟨rfl, k3⟩
  have hz3 : τ3.get τ1.size = some ⟨[.int .i64 nt.at', .int .i64 nt.stmt, .int .i64 nt.seq], .own⟩ := by rw [k3.2 _ (AHeap.get_lt hz), hz]
  obtain ⟨τ4, hτ4⟩ : ∃ τ4, τ4 = (τ3.alloc ⟨[.int .i64 0, .int .i64 0, .int .i64 0], .own⟩).put τ3.size ⟨[.int .i64 nt.at', .int .i64 nt.stmt, .int .i64 nt.seq], .own⟩ := ⟨_, rfl⟩
  have k4 : Keeps τ3 τ4 := by rw [hτ4]; exact (Keeps.alloc (Keeps.refl _)).put (Nat.le_refl _)
  have hz4 : τ4.get τ1.size = some ⟨[.int .i64 nt.at', .int .i64 nt.stmt, .int .i64 nt.seq], .own⟩ := by rw [k4.2 _ (AHeap.get_lt hz3), hz3]
  have hy4 : τ4.get τ3.size = some ⟨[.int .i64 nt.at', .int .i64 nt.stmt, .int .i64 nt.seq], .own⟩ := by rw [hτ4, AHeap.get_put', if_pos ⟨rfl, by rw [AHeap.size_alloc]; omega⟩]
  have hwy := write3 (τ := τ3.alloc ⟨[.int .i64 0, .int .i64 0, .int .i64 0], .own⟩) (i := τ3.size) (a := .int .i64 0) (b := .int .i64 0) (c := .int .i64 0) (by rw [AHeap.get_alloc, if_pos rfl]) (.int .i64 nt.at') (.int .i64 nt.stmt) (.int .i64 nt.seq)
  rw [← hτ4] at hwy
  have k14 := (k12.trans k3).trans k4
  have hw4 := h.w.keeps k14
  have hr4 := h.r.keeps k14
  have p3 := run30 τ4 iw qw L n hw4 hL h.rel.nd f (by omega)
  rw [h.rel.sorted] at p3
  simp (maxDischargeDepth := 99) [-partA, -writeAt, e1, T.av, T.cells, hwy]
  refine ends_draw ?_
  simp (maxDischargeDepth := 99) [-partA, pw3, e1, e3, f7, hz4, hy4]
  refine p3.mono ?_
  rintro v3 τ5 ⟨hs3, k5⟩
  have hr5 := hr4.keeps k5
  have hw5 := hw4.keeps k5
  have p4 := run31 τ5 iw qw L n hw5 f (by omega)
  have k15 := k14.trans k5
  have hmx : M.length ≤ maxElems := by unfold maxElems; omega
  have hcont : ∀ fr', fr'.length = 137 → getSlot fr' 0 = getSlot fr 0 → getSlot fr' 3 = getSlot fr 3 → getSlot fr' 4 = getSlot fr 4 → getSlot fr' 5 = getSlot fr 5 → N .go fr' τ5 := fun fr' a b c d e => k fr' τ5 (h.keeps k15 a b c d) (by rw [e]; exact f5)
  obtain ⟨f, rfl⟩ : ∃ g, f = g + 1 := ⟨f - 1, by omega⟩
  obtain ⟨sl, hg4, hs4⟩ := hr4
  have hg5 : τ5.get ir = some ⟨[sl, .int .i64 n], .own⟩ := by rw [k5.2 ir (AHeap.get_lt hg4), hg4]
  rcases hs4 with ⟨rfl, rfl, rfl⟩ | ⟨rfl, hne, hq4⟩
  · have hL0 : L.length = 0 := by rw [← hML]; rfl
    have hsn : slTs τ5 (.one .nilSlice) = some [] := rfl
    simp (maxDischargeDepth := 99) [-partA, qw0, e1, e3, e4, hg4, hg5, D3_29, p49, hs3, hsn]
    refine p4.mono ?_
    rintro v4 τ6 ⟨rfl, rfl⟩
    simp (maxDischargeDepth := 99) [-partA, qw0, e1, e3, e4, hg4, hg5, hL0]
    exact hcont _ (by simp [e1]) (by simp [e1]) (by simp [e1]) (by simp [e1]) (by simp [e1])
  · have hq5 : τ5.get qr = some ⟨tcells M, .own⟩ := by rw [k5.2 qr (AHeap.get_lt hq4), hq4]
    have hsn := slTs_ref hq5 hmx
    rw [hML] at hg4 hg5 hsn
    simp (maxDischargeDepth := 99) [-partA, qw0, e1, e3, e4, hg4, hg5, D3_29, p49, hs3, hsn]
    refine p4.mono ?_
    rintro v4 τ6 ⟨rfl, rfl⟩
    simp (maxDischargeDepth := 99) [-partA, qw0, e1, e3, e4, hg4, hg5]
    exact hcont _ (by simp [e1]) (by simp [e1]) (by simp [e1]) (by simp [e1]) (by simp [e1])

theorem z1 {i n f : Nat} (h : i < n) (hf : n + 100 ≤ f + 2) : i + 80 ≤ f + 1 := by omega
theorem z2 {i n : Nat} (h : i < n) (hl : n + 1 ≤ 1048576) : i + 1 ≤ 1048576 := by omega
theorem z3 {k i n : Nat} (hk : k ≤ i + 1) (h : i < n) (hl : n + 1 ≤ 1048576) : k ≤ 1048576 := by omega
theorem z4 {n f : Nat} (hf : n + 100 ≤ f + 2) : 40 ≤ f + 1 := by omega
theorem z5 {i : Nat} {n : Int} (h : n ≤ (i : Int) + 1) : n ≤ ((i + 1 : Nat) : Int) := by omega
theorem run6 (σ : AHeap) (s : AV) (l : List T) (hs : Ops σ s l) (hl : l.length + 1 ≤ 1048576) (f : Nat) (hf : l.length + 100 ≤ f) : OptP (evCall D3 f 6 [s] σ) (fun _ v _ => v = .one (.bool true)) := by
  obtain ⟨f, rfl⟩ : ∃ k, f = k + 2 := ⟨f - 2, by omega⟩
  refine evCall_code (by kernel_rfl) ((D3_code 6).trans code6) ?_
  simp (maxDischargeDepth := 99) [c6]
  refine (run18 σ (f + 1) (by omega)).mono ?_
  rintro v1 τ1 ⟨rfl, w1, k1, s1⟩
  simp (maxDischargeDepth := 99) []
  refine ends_to 0 (fun fr _ => fr.length = 137) ?_ ?_
  · refine ends_loop (I := I6 σ s l) ?_ (k := l.length) ?_ (by omega)
    · rintro k fr τ ⟨i, L, M, n, iw, qw, ir, qr, rfl, hi, hL, hn0, hn, f5, h⟩
      have e0 := h.f0
      have e1 := h.len
      by_cases hlt : i < l.length
      · rcases hs with ⟨_, rfl⟩ | ⟨idl, cap, rfl, hg⟩
        · simp at hlt
        have hidl := AHeap.get_lt hg
        have hgl : τ.get idl = some ⟨tcells l, .ro⟩ := by rw [h.k.2 idl hidl, hg]
        have hrd := tcells_part l i hlt
        have hlw := h.w.lt
        have hlr := h.r.lt
        have hw := wr_next hlt (by unfold maxElems; omega)
        generalize tAt l i = o at hrd
        obtain ⟨τ2, hτ2⟩ : ∃ τ2, τ2 = (τ.alloc ⟨[.int .i64 0, .int .i64 0, .int .i64 0], .own⟩).put τ.size ⟨[.int .i64 o.at', .int .i64 o.stmt, .int .i64 o.seq], .own⟩ := ⟨_, rfl⟩
        have k2 : Keeps τ τ2 := by rw [hτ2]; exact (Keeps.alloc (Keeps.refl _)).put (Nat.le_refl _)
        have hb : τ2.get τ.size = some ⟨[.int .i64 o.at', .int .i64 o.stmt, .int .i64 o.seq], .own⟩ := by rw [hτ2, AHeap.get_put', if_pos ⟨rfl, by rw [AHeap.size_alloc]; omega⟩]
        have hwz := write3 (τ := τ.alloc ⟨[.int .i64 0, .int .i64 0, .int .i64 0], .own⟩) (i := τ.size) (a := .int .i64 0) (b := .int .i64 0) (c := .int .i64 0) (by rw [AHeap.get_alloc, if_pos rfl]) (.int .i64 o.at') (.int .i64 o.stmt) (.int .i64 o.seq)
        rw [← hτ2] at hwz
        simp (maxDischargeDepth := 99) [-partA, -writeAt, pw0, c6_0, e1, e0, f5, hlt, hgl, hrd, T.av, T.cells, hwz, hb]
        refine ends_mid (Q6 σ (.one (.slice idl 0 3 l.length cap)) i) ?_ ?_
        · exact sw6 σ τ2 _ _ iw qw ir qr L M n i τ.size o (h.keeps k2 (by simp [e1]) (by simp [e1]) (by simp [e1]) (by simp [e1])) (by simp [e1, f5]) (by simp [e1]) (by simp [e1]) (by simp [e1]) hb (Nat.ne_of_gt hlw.1) (Nat.ne_of_gt hlw.2) (Nat.ne_of_gt hlr.1) (Nat.ne_of_gt hlr.2) hL (z2 hlt hl) hn0 hn (f + 1) (z1 hlt hf) _ _
        · rintro fr' τ' ⟨L', M', n', iw', qw', ir', qr', g7, g5, hL', hn0', hn', h'⟩
          refine tail6 σ τ' fr' _ iw' qw' ir' qr' L' M' n' i h' g5 g7 (z3 hL' hlt hl) (f + 1) (z4 hf) _ _ _ ?_
          intro fr2 τ3 h2 g52
          have e2 := h2.len
          simp (maxDischargeDepth := 99) [e2, g52, hw]
          refine ⟨l.length - (i + 1), st1 hlt, ?_⟩
          exact ⟨i + 1, L', M', n', iw', qw', ir', qr', rfl, hlt, hL', hn0', z5 hn', by simp [e2], h2.keeps (Keeps.refl _) (by simp [e2]) (by simp [e2]) (by simp [e2]) (by simp [e2])⟩
      · obtain rfl : i = l.length := by omega
        rcases hs with ⟨rfl, rfl⟩ | ⟨idl, cap, rfl, hg⟩
        · simp (maxDischargeDepth := 99) [c6_0, e1, e0, f5]
        · simp (maxDischargeDepth := 99) [c6_0, e1, e0, f5]
    · have hl1 := w1.lt
      refine ⟨0, [], [], 0, σ.size, σ.size, τ1.size, τ1.size, rfl, Nat.zero_le _, Nat.le_refl _, Int.le_refl _, by simp, by simp, ?_⟩
      refine ⟨by simp, by simp, by simp, by simp, k1.alloc, w1.keeps (by simp), ⟨_, by rw [AHeap.get_alloc, if_pos rfl], .inl ⟨rfl, rfl, rfl⟩⟩, Rel.nil, by omega, by omega, by omega, by omega, Nat.le_refl _, Nat.le_refl _, by omega, by omega⟩
  · intro fr τ hlen
    simp (maxDischargeDepth := 99) [hlen, D3_32, pBool]
end Go.Proofs.Ytdgffilnefnjjaa.Ab
