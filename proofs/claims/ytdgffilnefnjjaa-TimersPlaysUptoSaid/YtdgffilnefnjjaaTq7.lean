/- The law TimersPlays, run. -/
import Derived.Test.YtdgffilnefnjjaaTq6
import Derived.Test.YtdgffilnefnjjaaTqP
import Derived.Test.YtdgffilnefnjjaaLitTp6
namespace Go.Proofs.Ytdgffilnefnjjaa.Ab
open Go
set_option maxRecDepth 20000
set_option maxHeartbeats 2000000
set_option linter.unusedSimpArgs false

/-- The deeds of a slice that is read alone. -/
def Ops (σ : AHeap) (s : AV) (l : List T) : Prop := (s = .one .nilSlice ∧ l = []) ∨ ∃ id cap, s = .one (.slice id 0 3 l.length cap) ∧ σ.get id = some ⟨tcells l, .ro⟩

structure St6 (σ τ : AHeap) (fr : List AV) (s : AV) (iw qw ir qr : Nat) (L M : List T) (n : Int) : Prop where
  len : fr.length = 137
  f0 : getSlot fr 0 = s
  f3 : getSlot fr 3 = .one (.ptr iw 0)
  f4 : getSlot fr 4 = .one (.ptr ir 0)
  k : Keeps σ τ
  w : Whl τ iw L n qw
  r : RWh τ ir M n qr
  rel : Rel L M n
  n1 : iw ≠ ir
  n2 : iw ≠ qr
  n3 : qw ≠ ir
  n4 : qw ≠ qr
  o1 : σ.size ≤ iw
  o2 : σ.size ≤ qw
  o3 : σ.size ≤ ir
  o4 : σ.size ≤ qr
def I6 (σ : AHeap) (s : AV) (l : List T) (k : Nat) (fr : List AV) (τ : AHeap) : Prop :=
  ∃ i L M n iw qw ir qr, k = l.length - i ∧ i ≤ l.length ∧ L.length ≤ i ∧ 0 ≤ n ∧ n ≤ (i : Int) ∧ getSlot fr 5 = .one (.int .i64 (i : Int)) ∧ St6 σ τ fr s iw qw ir qr L M n

/-- A block runs, and what is ahead of what comes. -/
theorem ends_mid {call : CallF} {m : Nat} {N : KN} {E : KE} {R : KN} {fr : List AV} {σ : AHeap} {c : ACode} (Q : List AV → AHeap → Prop)
    (h : EndsC .go call m c fr σ (fun _ fr σ => Q fr σ) (fun _ _ _ _ => False) (fun _ _ _ => False)) (k : ∀ fr σ, Q fr σ → N .go fr σ) : EndsC .go call m c fr σ N E R := by
  obtain ⟨x, u, v, h1, h2⟩ := h
  refine ⟨x, u, v, h1, ?_⟩
  cases x with
  | normal => exact k u v h2
  | exit j => exact h2.elim
  | ret => exact h2.elim

/-- Behind the switch. -/
def Q6 (σ : AHeap) (s : AV) (i : Nat) (fr : List AV) (τ : AHeap) : Prop :=
  ∃ L M n iw qw ir qr, getSlot fr 7 = .one (.bool true) ∧ getSlot fr 5 = .one (.int .i64 (i : Int)) ∧ L.length ≤ i + 1 ∧ 0 ≤ n ∧ n ≤ (i : Int) + 1 ∧ St6 σ τ fr s iw qw ir qr L M n

theorem St6.move {σ τ τ' : AHeap} {fr fr' : List AV} {s : AV} {iw qw ir qr qw' qr' : Nat} {L M L' M' : List T} {n n' : Int} (h : St6 σ τ fr s iw qw ir qr L M n)
    (hl : fr'.length = 137) (g0 : getSlot fr' 0 = getSlot fr 0) (g3 : getSlot fr' 3 = getSlot fr 3) (g4 : getSlot fr' 4 = getSlot fr 4) (hk : Keeps σ τ') (hw : Whl τ' iw L' n' qw') (hr : RWh τ' ir M' n' qr') (hrel : Rel L' M' n')
    (k1 : iw ≠ qr') (k2 : qw' ≠ ir) (k3 : qw' ≠ qr') (k4 : σ.size ≤ qw') (k5 : σ.size ≤ qr') : St6 σ τ' fr' s iw qw' ir qr' L' M' n' :=
  ⟨hl, by rw [g0]; exact h.f0, by rw [g3]; exact h.f3, by rw [g4]; exact h.f4, hk, hw, hr, hrel, h.n1, k1, k2, k3, h.o1, k4, h.o3, k5⟩

theorem fr_keeps {σ τ τ' : AHeap} {id q : Nat} (h : Keeps σ τ) (hF : Fr τ τ' id q) (h1 : σ.size ≤ id) (h2 : σ.size ≤ q) : Keeps σ τ' :=
  ⟨Nat.le_trans h.1 hF.1, fun j hj => by rw [hF.2 j (Nat.lt_of_lt_of_le hj h.1) (by omega) (by omega), h.2 j hj]⟩

theorem sw6 (σ τ : AHeap) (fr : List AV) (s : AV) (iw qw ir qr : Nat) (L M : List T) (n : Int) (i b6 : Nat) (o : T) (h : St6 σ τ fr s iw qw ir qr L M n) (f5 : getSlot fr 5 = .one (.int .i64 (i : Int))) (f6 : getSlot fr 6 = .one (.ptr b6 0)) (f7 : getSlot fr 7 = .one (.bool true))
    (f32 : getSlot fr 32 = .one (.int .i64 o.at')) (hb : τ.get b6 = some ⟨[.int .i64 o.at', .int .i64 o.stmt, .int .i64 o.seq], .own⟩) (b1 : b6 ≠ iw) (b2 : b6 ≠ qw) (b3 : b6 ≠ ir) (b4 : b6 ≠ qr) (hL : L.length ≤ i) (hi : i + 1 ≤ 1048576) (hn0 : 0 ≤ n) (hn : n ≤ (i : Int))
    (f : Nat) (hf : i + 80 ≤ f) (E : KE) (R : KN) : EndsC .go (evCall D3 f) f c6_sw fr τ (fun _ fr τ => Q6 σ s i fr τ) E R := by
  obtain ⟨ok, oa, ob⟩ := o
  simp only at f32 hb
  have e1 := h.len
  have e3 := h.f3
  have e4 := h.f4
  have hML := h.rel.len
  have hlw := h.w.lt
  have hlr := h.r.lt
  have hlb := AHeap.get_lt hb
  have n1 := h.n1
  have n2 := h.n2
  have n3 := h.n3
  have n4 := h.n4
  have o1 := h.o1
  have o2 := h.o2
  have o3 := h.o3
  have o4 := h.o4
  by_cases c0 : ok = 0
  · subst c0
    have hset := run19 τ iw qw L n oa ob h.w (by unfold maxElems; omega) hn0 (by omega) f (by omega)
    simp (maxDischargeDepth := 99) [c6_sw, e1, f32]
    refine ends_draw ?_
    simp (maxDischargeDepth := 99) [-partA, pw1, pw2, e1, e3, e4, f6, hb]
    refine hset.mono ?_
    rintro v1 τ1 ⟨rfl, qw', k1, k2, k3⟩
    have hb1 : τ1.get b6 = some ⟨[.int .i64 0, .int .i64 oa, .int .i64 ob], .own⟩ := by rw [k3.2 b6 hlb b1 b2, hb]
    have hr1 := h.r.fr k3 n1.symm n3.symm n2.symm n4.symm
    have hset2 := run20 τ1 ir qr M n oa ob hr1 (by omega) hn0 (by omega) f (by omega)
    simp (maxDischargeDepth := 99) [-partA, pw1, pw2, e1, e3, e4, f6, hb1]
    refine hset2.mono ?_
    rintro v2 τ2 ⟨rfl, j, qr', j1, j2, j3, j4, j5, j6⟩
    have hl1 := k1.lt
    have hw2 : Whl τ2 iw (pushL L ⟨oa, ob, n + 1⟩) (n + 1) qw' := k1.fr j6 n1 n1 (by omega) (by omega)
    have hrel := h.rel.set oa ob hn0 j1 j2 j3
    have hK : Keeps σ τ2 := fr_keeps (fr_keeps h.k k3 o1 o2) j6 o3 o3
    have hs1 := k3.1
    have hsz := h.k.1
    simp (maxDischargeDepth := 99) [-partA, e1, hb, hb1, T.av, T.cells]
    exact ⟨_, _, n + 1, iw, qw', ir, qr', by simp [e1], by simp [e1, f5], by rw [pushL_length]; omega, by omega, by omega, h.move (by simp [e1]) (by simp [e1]) (by simp [e1]) (by simp [e1]) hK hw2 j4 hrel (by omega) (by omega) (by omega) (by omega) (by omega)⟩
  · by_cases c1 : ok = 1
    · subst c1
      have hcan := run21 τ iw qw L n oa h.w (by omega) f (by omega)
      simp (maxDischargeDepth := 99) [c6_sw, e1, f32]
      refine ends_draw ?_
      simp (maxDischargeDepth := 99) [-partA, pw1, pw2, e1, e3, e4, f6, hb]
      refine hcan.mono ?_
      rintro v1 τ1 ⟨rfl, k1, k3⟩
      have hb1 : τ1.get b6 = some ⟨[.int .i64 1, .int .i64 oa, .int .i64 ob], .own⟩ := by rw [k3.2 b6 hlb b1 b2, hb]
      have hr1 := h.r.fr k3 n1.symm n3.symm n2.symm n4.symm
      have hcan2 := run22 τ1 ir qr M n oa hr1 (by omega) f (by omega)
      have hs1 := k3.1
      have hsz := h.k.1
      have hK1 : Keeps σ τ1 := fr_keeps h.k k3 o1 o2
      generalize hd1 : decide ((L.filter fun t => !decide (t.seq = oa)).length < L.length) = d1
      simp (maxDischargeDepth := 99) [-partA, pw1, pw2, e1, e3, e4, f6, hb1]
      refine hcan2.mono ?_
      rintro v2 τ2 (⟨ha, rfl, rfl⟩ | ⟨ha, rfl, ⟨qr', j4, j5⟩, j6⟩)
      · obtain ⟨hrel, hlen2⟩ := h.rel.seqNone oa ha
        have hd : d1 = false := by rw [← hd1, hlen2]; simp
        subst hd
        simp (maxDischargeDepth := 99) [-partA, e1, hb, hb1]
        exact ⟨_, _, n, iw, qw, ir, qr, by simp [e1], by simp [e1, f5], by have := hrel.len; omega, hn0, by omega, h.move (by simp [e1]) (by simp [e1]) (by simp [e1]) (by simp [e1]) hK1 k1 hr1 hrel n2 n3 n4 o2 o4⟩
      · obtain ⟨hrel, hlen2⟩ := h.rel.seqDrop oa ha
        have hd : decide ((M.filter (keepT oa 0)).length < M.length) = d1 := by rw [← hd1, hlen2, hML]
        rw [hd]
        have hw2 : Whl τ2 iw (dropL (fun t => decide (t.seq = oa)) L) n qw := k1.fr j6 n1 n1 n3 n3
        have hK : Keeps σ τ2 := fr_keeps hK1 j6 o3 o3
        have hfl : (M.filter (keepT oa 0)).length ≤ M.length := List.length_filter_le _ _
        simp (maxDischargeDepth := 99) [-partA, e1, hb, hb1]
        exact ⟨_, _, n, iw, qw, ir, qr', by simp [e1], by simp [e1, f5], by have := hrel.len; omega, hn0, by omega, h.move (by simp [e1]) (by simp [e1]) (by simp [e1]) (by simp [e1]) hK hw2 j4 hrel (by omega) (by omega) (by omega) (by omega) (by omega)⟩
    · by_cases c2 : ok = 2
      · subst c2
        -- neither is due: what both answer
        have hno : ∀ (hL0 : L = [] ∨ (L ≠ [] ∧ oa < (tAt L 0).at')) (hM0 : M = [] ∨ (M ≠ [] ∧ oa < (tAt M 0).at')), EndsC .go (evCall D3 f) f c6_sw fr τ (fun _ fr τ => Q6 σ s i fr τ) E R := by
          intro hL0 hM0
          have p1 := run23_no τ iw qw L n oa h.w f (by omega) hL0
          simp (maxDischargeDepth := 99) [-partA, pw1, c6_sw, e1, f32, e3, f6, hb]
          refine p1.mono ?_
          rintro v1 τ1 ⟨rfl, k1⟩
          obtain ⟨τ2, hτ2⟩ : ∃ τ2, τ2 = (τ1.alloc ⟨[.int .i64 0, .int .i64 0, .int .i64 0], .own⟩).put τ1.size ⟨[.int .i64 0, .int .i64 0, .int .i64 0], .own⟩ := ⟨_, rfl⟩
          have k2 : Keeps τ1 τ2 := by rw [hτ2]; exact (Keeps.alloc (Keeps.refl _)).put (Nat.le_refl _)
          have k12 := k1.trans k2
          have hz : τ2.get τ1.size = some ⟨[.int .i64 0, .int .i64 0, .int .i64 0], .own⟩ := by rw [hτ2, AHeap.get_put', if_pos ⟨rfl, by rw [AHeap.size_alloc]; omega⟩]
          have hb2 : τ2.get b6 = some ⟨[.int .i64 2, .int .i64 oa, .int .i64 ob], .own⟩ := by rw [k12.2 b6 hlb, hb]
          have p2 := run24_no τ2 ir qr M n oa (h.r.keeps k12) f (by omega) hM0
          have hwz := write3 (τ := τ1.alloc ⟨[.int .i64 0, .int .i64 0, .int .i64 0], .own⟩) (i := τ1.size) (a := .int .i64 0) (b := .int .i64 0) (c := .int .i64 0) (by rw [AHeap.get_alloc, if_pos rfl]) (.int .i64 0) (.int .i64 0) (.int .i64 0)
          rw [← hτ2] at hwz
          simp (maxDischargeDepth := 99) [-partA, -writeAt, pw1, e1, e4, f6, T.av, T.cells, t0, hwz, hb2]
          refine p2.mono ?_
          rintro v2 τ3 ⟨rfl, k3⟩
          have hz3 : τ3.get τ1.size = some ⟨[.int .i64 0, .int .i64 0, .int .i64 0], .own⟩ := by rw [k3.2 _ (AHeap.get_lt hz), hz]
          have k13 := k12.trans k3
          obtain ⟨τ4, hτ4⟩ : ∃ τ4, τ4 = (τ3.alloc ⟨[.int .i64 0, .int .i64 0, .int .i64 0], .own⟩).put τ3.size ⟨[.int .i64 0, .int .i64 0, .int .i64 0], .own⟩ := ⟨_, rfl⟩
          have k4 : Keeps τ3 τ4 := by rw [hτ4]; exact (Keeps.alloc (Keeps.refl _)).put (Nat.le_refl _)
          have k14 := k13.trans k4
          have hz4 : τ4.get τ1.size = some ⟨[.int .i64 0, .int .i64 0, .int .i64 0], .own⟩ := by rw [k4.2 _ (AHeap.get_lt hz3), hz3]
          have hy4 : τ4.get τ3.size = some ⟨[.int .i64 0, .int .i64 0, .int .i64 0], .own⟩ := by rw [hτ4, AHeap.get_put', if_pos ⟨rfl, by rw [AHeap.size_alloc]; omega⟩]
          have hwy := write3 (τ := τ3.alloc ⟨[.int .i64 0, .int .i64 0, .int .i64 0], .own⟩) (i := τ3.size) (a := .int .i64 0) (b := .int .i64 0) (c := .int .i64 0) (by rw [AHeap.get_alloc, if_pos rfl]) (.int .i64 0) (.int .i64 0) (.int .i64 0)
          rw [← hτ4] at hwy
          simp (maxDischargeDepth := 99) [-partA, -writeAt, pw3, e1, e4, f6, T.av, T.cells, t0, hwy, hz4, hy4]
          exact ⟨L, M, n, iw, qw, ir, qr, by simp [e1], by simp [e1, f5], by omega, hn0, by omega, h.move (by simp [e1]) (by simp [e1]) (by simp [e1]) (by simp [e1]) (h.k.trans k14) (h.w.keeps k14) (h.r.keeps k14) h.rel n2 n3 n4 o2 o4⟩
        rcases h.rel.head with ⟨rfl, rfl⟩ | ⟨M', hM', hpos⟩
        · exact hno (.inl rfl) (.inl rfl)
        · have hMne : M ≠ [] := by rw [hM']; simp
          have hLne : L ≠ [] := by intro e; rw [e] at hpos; simp at hpos
          have hM0 : tAt M 0 = tAt L 0 := by rw [hM']; rfl
          by_cases hdue : (tAt L 0).at' ≤ oa
          · have p1 := run23_yes τ iw qw L n oa h.w (by unfold maxElems; omega) f (by omega) hpos hdue
            have hrelM := h.rel
            rw [hM'] at hrelM
            have hrel := hrelM.pop rfl hpos
            have hrM := h.r
            rw [hM'] at hrM
            have hlM : (tAt L 0 :: M').length = L.length := by rw [← hM', hML]
            simp (maxDischargeDepth := 99) [-partA, pw1, c6_sw, e1, f32, e3, f6, hb]
            refine p1.mono ?_
            rintro v1 τ1 ⟨rfl, w1, k1⟩
            generalize tAt L 0 = t at hrel hrM hlM hdue
            obtain ⟨τ2, hτ2⟩ : ∃ τ2, τ2 = (τ1.alloc ⟨[.int .i64 0, .int .i64 0, .int .i64 0], .own⟩).put τ1.size ⟨[.int .i64 t.at', .int .i64 t.stmt, .int .i64 t.seq], .own⟩ := ⟨_, rfl⟩
            have k2 : Keeps τ1 τ2 := by rw [hτ2]; exact (Keeps.alloc (Keeps.refl _)).put (Nat.le_refl _)
            have hz : τ2.get τ1.size = some ⟨[.int .i64 t.at', .int .i64 t.stmt, .int .i64 t.seq], .own⟩ := by rw [hτ2, AHeap.get_put', if_pos ⟨rfl, by rw [AHeap.size_alloc]; omega⟩]
            have hs1 := k1.1
            have hs2 : τ2.size = τ1.size + 1 := by rw [hτ2]; rfl
            have hb1 : τ1.get b6 = some ⟨[.int .i64 2, .int .i64 oa, .int .i64 ob], .own⟩ := by rw [k1.2 b6 hlb b1 b2, hb]
            have hb2 : τ2.get b6 = some ⟨[.int .i64 2, .int .i64 oa, .int .i64 ob], .own⟩ := by rw [k2.2 b6 (AHeap.get_lt hb1), hb1]
            have hr1 := hrM.fr k1 n1.symm n3.symm n2.symm n4.symm
            have p2 := run24_yes τ2 ir qr t M' n oa (hr1.keeps k2) (by omega) f (by omega) hdue
            have hwz := write3 (τ := τ1.alloc ⟨[.int .i64 0, .int .i64 0, .int .i64 0], .own⟩) (i := τ1.size) (a := .int .i64 0) (b := .int .i64 0) (c := .int .i64 0) (by rw [AHeap.get_alloc, if_pos rfl]) (.int .i64 t.at') (.int .i64 t.stmt) (.int .i64 t.seq)
            rw [← hτ2] at hwz
            simp (maxDischargeDepth := 99) [-partA, -writeAt, pw1, e1, e4, f6, T.av, T.cells, hwz, hb2]
            refine p2.mono ?_
            rintro v2 τ3 ⟨rfl, ⟨qr', r3, hq3⟩, k3⟩
            have hlr1 := hr1.lt
            have hz3 : τ3.get τ1.size = some ⟨[.int .i64 t.at', .int .i64 t.stmt, .int .i64 t.seq], .own⟩ := by rw [k3.2 _ (AHeap.get_lt hz) (by omega) (by omega), hz]
            obtain ⟨τ4, hτ4⟩ : ∃ τ4, τ4 = (τ3.alloc ⟨[.int .i64 0, .int .i64 0, .int .i64 0], .own⟩).put τ3.size ⟨[.int .i64 t.at', .int .i64 t.stmt, .int .i64 t.seq], .own⟩ := ⟨_, rfl⟩
            have k4 : Keeps τ3 τ4 := by rw [hτ4]; exact (Keeps.alloc (Keeps.refl _)).put (Nat.le_refl _)
            have hz4 : τ4.get τ1.size = some ⟨[.int .i64 t.at', .int .i64 t.stmt, .int .i64 t.seq], .own⟩ := by rw [k4.2 _ (AHeap.get_lt hz3), hz3]
            have hy4 : τ4.get τ3.size = some ⟨[.int .i64 t.at', .int .i64 t.stmt, .int .i64 t.seq], .own⟩ := by rw [hτ4, AHeap.get_put', if_pos ⟨rfl, by rw [AHeap.size_alloc]; omega⟩]
            have hwy := write3 (τ := τ3.alloc ⟨[.int .i64 0, .int .i64 0, .int .i64 0], .own⟩) (i := τ3.size) (a := .int .i64 0) (b := .int .i64 0) (c := .int .i64 0) (by rw [AHeap.get_alloc, if_pos rfl]) (.int .i64 t.at') (.int .i64 t.stmt) (.int .i64 t.seq)
            rw [← hτ4] at hwy
            have hsz := h.k.1
            have hK : Keeps σ τ4 := (fr_keeps ((fr_keeps h.k k1 o1 o2).trans k2) k3 o3 o3).trans k4
            have hl1 := w1.lt
            have hW4 : Whl τ4 iw (popL L) n qw := ((w1.keeps k2).fr k3 n1 n1 n3 n3).keeps k4
            have hR4 := r3.keeps k4
            simp (maxDischargeDepth := 99) [-partA, -writeAt, pw3, e1, e4, f6, T.av, T.cells, hwy, hz4, hy4]
            exact ⟨_, _, n, iw, qw, ir, qr', by simp [e1], by simp [e1, f5], by rw [popL_length]; omega, hn0, by omega, h.move (by simp [e1]) (by simp [e1]) (by simp [e1]) (by simp [e1]) hK hW4 hR4 hrel (by omega) (by omega) (by omega) (by omega) (by omega)⟩
          · exact hno (.inr ⟨hLne, by omega⟩) (.inr ⟨hMne, by rw [hM0]; omega⟩)
      · by_cases c3 : ok = 3
        · subst c3
          have hdr := run25 τ iw qw L n oa h.w (by omega) f (by omega)
          simp (maxDischargeDepth := 99) [c6_sw, e1, f32]
          refine ends_draw ?_
          simp (maxDischargeDepth := 99) [-partA, pw1, pw2, e1, e3, e4, f6, hb]
          refine hdr.mono ?_
          rintro v1 τ1 ⟨rfl, k1, k3⟩
          have hb1 : τ1.get b6 = some ⟨[.int .i64 3, .int .i64 oa, .int .i64 ob], .own⟩ := by rw [k3.2 b6 hlb b1 b2, hb]
          have hr1 := h.r.fr k3 n1.symm n3.symm n2.symm n4.symm
          have hdr2 := run26 τ1 ir qr M n oa hr1 (by omega) f (by omega)
          have hs1 := k3.1
          have hsz := h.k.1
          have hK1 : Keeps σ τ1 := fr_keeps h.k k3 o1 o2
          obtain ⟨hrel, hlen2⟩ := h.rel.stmtDrop oa
          have hfl : (M.filter (keepT 0 oa)).length ≤ M.length := List.length_filter_le _ _
          rw [hlen2, hML] at hdr2
          generalize (L.length : Int) - ((L.filter fun t => !decide (t.stmt = oa)).length : Int) = d at hdr2 ⊢
          simp (maxDischargeDepth := 99) [-partA, pw1, pw2, e1, e3, e4, f6, hb1]
          refine hdr2.mono ?_
          rintro v2 τ2 ⟨rfl, ⟨qr', j4, j5⟩, j6⟩
          have hw2 : Whl τ2 iw (dropL (fun t => decide (t.stmt = oa)) L) n qw := k1.fr j6 n1 n1 n3 n3
          have hK : Keeps σ τ2 := fr_keeps hK1 j6 o3 o3
          simp (maxDischargeDepth := 99) [-partA, e1, hb, hb1]
          exact ⟨_, _, n, iw, qw, ir, qr', by simp [e1], by simp [e1, f5], by have := hrel.len; omega, hn0, by omega, h.move (by simp [e1]) (by simp [e1]) (by simp [e1]) (by simp [e1]) hK hw2 j4 hrel (by omega) (by omega) (by omega) (by omega) (by omega)⟩
        · simp (maxDischargeDepth := 99) [c6_sw, e1, f32, c0, c1, c2, c3]
          exact ⟨L, M, n, iw, qw, ir, qr, by simp [e1, f7], by simp [e1, f5], by omega, hn0, by omega, h.move (by simp [e1]) (by simp [e1]) (by simp [e1]) (by simp [e1]) h.k h.w h.r h.rel n2 n3 n4 o2 o4⟩
end Go.Proofs.Ytdgffilnefnjjaa.Ab
