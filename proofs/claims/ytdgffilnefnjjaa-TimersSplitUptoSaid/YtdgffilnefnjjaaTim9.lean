/- The law TimersSplit, run: the order, and the whole. -/
import Derived.Test.YtdgffilnefnjjaaTim8
namespace Go.Proofs.Ytdgffilnefnjjaa.Ab
open Go
set_option maxRecDepth 20000
set_option maxHeartbeats 2000000
set_option linter.unusedSimpArgs false

theorem tcells_get : ∀ (l : List T) (i : Nat), i < l.length → (tcells l)[i * 3]? = some (.int .i64 (tAt l i).at') ∧ (tcells l)[i * 3 + 1]? = some (.int .i64 (tAt l i).stmt) ∧ (tcells l)[i * 3 + 2]? = some (.int .i64 (tAt l i).seq)
  | [], i, h => absurd h (Nat.not_lt_zero _)
  | p :: l, 0, _ => ⟨rfl, rfl, rfl⟩
  | p :: l, i + 1, h => by
    have ih := tcells_get l i (by simpa using h)
    have e : (i + 1) * 3 = i * 3 + 1 + 1 + 1 := by omega
    rw [e]
    simpa [tcells, T.cells, tAt] using ih
theorem tAt_mem {l : List T} {i : Nat} (h : i < l.length) : tAt l i ∈ l := by
  have : tAt l i = l[i] := by simp [tAt, List.getD, h]
  rw [this]
  exact List.getElem_mem h

structure St9 (fr : List AV) (b : Int) (iw : Nat) (q : Nat) (n : Nat) : Prop where
  len : fr.length = 185
  f2 : getSlot fr 2 = .one (.int .i64 b)
  f8 : getSlot fr 8 = .one (.ptr iw 0)
  f11 : (getSlot fr 11 = .one .nilSlice ∧ n = 0) ∨ getSlot fr 11 = .one (.slice q 0 3 n none)
def I9 (Y : List T) (b : Int) (iw q : Nat) (τ0 : AHeap) (k : Nat) (fr : List AV) (τ : AHeap) : Prop :=
  ∃ i, k = Y.length - i ∧ i ≤ Y.length ∧ τ = τ0 ∧ getSlot fr 12 = .one (.int .i64 (i : Int)) ∧ St9 fr b iw q Y.length
theorem check8 (Y : List T) (b : Int) (iw q : Nat) (τ : AHeap) (fr : List AV) (h : St9 fr b iw q Y.length) (f12 : getSlot fr 12 = .one (.int .i64 0)) (hq : 0 < Y.length → ∃ md, (md = .own ∨ md = .ro) ∧ τ.get q = some ⟨tcells Y, md⟩)
    (hm : Y.length ≤ 1048576) (hdue : ∀ t ∈ Y, t.at' ≤ b) (hsort : ∀ i, i + 1 < Y.length → lessT (tAt Y i) (tAt Y (i + 1)) = true)
    (f : Nat) (hf : Y.length + 30 ≤ f) (N : KN) (E : KE) (R : KN) (k : ∀ fr, St9 fr b iw q Y.length → E 2 .go fr τ) :
    EndsC .go (evCall D3 f) f (.loop c8_1) fr τ N E R := by
  refine ends_to 2 (fun fr τ' => τ' = τ ∧ St9 fr b iw q Y.length) ?_ (fun fr τ' h => by obtain ⟨rfl, h⟩ := h; exact k fr h)
  refine ends_loop (I := I9 Y b iw q τ) ?_ (k := Y.length) ?_ (by omega)
  · rintro k fr τ' ⟨i, rfl, hi, rfl, f12, h⟩
    have e1 := h.len
    have e2 := h.f2
    have e8 := h.f8
    by_cases hlt : i < Y.length
    · have f11 : getSlot fr 11 = .one (.slice q 0 3 Y.length none) := by
        rcases h.f11 with ⟨_, h0⟩ | h0
        · omega
        · exact h0
      obtain ⟨md, hmd, hg⟩ := hq (by omega)
      obtain ⟨p1, p2, p3⟩ := tcells_get Y i hlt
      have hd := hdue _ (tAt_mem hlt)
      have hnd : ¬ b < (tAt Y i).at' := by omega
      have hw : wr .i64 ((i : Int) + 1) = ((i + 1 : Nat) : Int) := wr_next hlt (by unfold maxElems; omega)
      have hrd : ∀ c, rd (τ'.get q) none c = (match (tcells Y)[c]? with | some s => some (.one s) | none => none) := by
        intro c
        rw [hg]
        rcases hmd with rfl | rfl <;> rfl
      have q1 : rd (τ'.get q) none (i * 3) = some (.one (.int .i64 (tAt Y i).at')) := by rw [hrd, p1]
      have q2 : rd (τ'.get q) none (i * 3 + 1) = some (.one (.int .i64 (tAt Y i).stmt)) := by rw [hrd, p2]
      have q3 : rd (τ'.get q) none (i * 3 + 2) = some (.one (.int .i64 (tAt Y i).seq)) := by rw [hrd, p3]
      have hnext : ∀ fr', fr'.length = 185 → getSlot fr' 12 = .one (.int .i64 ((i + 1 : Nat) : Int)) → getSlot fr' 2 = getSlot fr 2 → getSlot fr' 8 = getSlot fr 8 → getSlot fr' 11 = getSlot fr 11 → ∃ j, j < Y.length - i ∧ I9 Y b iw q τ' j fr' τ' := by
        intro fr' k1 k2 k3 k4 k5
        exact ⟨Y.length - (i + 1), by omega, i + 1, rfl, by omega, rfl, k2, ⟨k1, by rw [k3]; exact e2, by rw [k4]; exact e8, by rw [k5]; exact h.f11⟩⟩
      by_cases h0 : i = 0
      · subst h0
        rw [Nat.zero_mul] at q1
        simp (maxDischargeDepth := 99) [c8_1, e1, e2, f11, f12, hlt, q1, hnd, hw]
        exact hnext _ (by simp [e1]) (by simp [e1]; decide) (by simp [e1]) (by simp [e1]) (by simp [e1])
      · have hpos : (0 : Int) < (i : Int) := by omega
        have hpos' : 0 < i := by omega
        have hw1 : wr .i64 ((i : Int) - 1) = ((i - 1 : Nat) : Int) := by rw [wr64 (by omega) (by omega)]; omega
        have hl1 : i - 1 < Y.length := by omega
        obtain ⟨p4, p5, p6⟩ := tcells_get Y (i - 1) hl1
        have q4 : rd (τ'.get q) none ((i - 1) * 3) = some (.one (.int .i64 (tAt Y (i - 1)).at')) := by rw [hrd, p4]
        have q5 : rd (τ'.get q) none ((i - 1) * 3 + 1) = some (.one (.int .i64 (tAt Y (i - 1)).stmt)) := by rw [hrd, p5]
        have q6 : rd (τ'.get q) none ((i - 1) * 3 + 2) = some (.one (.int .i64 (tAt Y (i - 1)).seq)) := by rw [hrd, p6]
        have hs := hsort (i - 1) (by omega)
        rw [show i - 1 + 1 = i by omega, less_iff] at hs
        generalize tAt Y (i - 1) = u at q4 q5 q6 hs
        generalize tAt Y i = t at q1 q2 q3 hs hnd
        rcases hs with c1 | ⟨c1, c2 | ⟨c2, c3⟩⟩
        · have d1 : ¬ t.at' < u.at' := by omega
          have d2 : ¬ u.at' = t.at' := by omega
          simp (maxDischargeDepth := 99) [c8_1, e1, e2, f11, f12, hlt, q1, hnd, hw, hpos, hpos', hw1, hl1, q4, d1, d2]
          exact hnext _ (by simp [e1]) (by simp [e1]) (by simp [e1]) (by simp [e1]) (by simp [e1])
        · have d3 : ¬ t.stmt < u.stmt := by omega
          have d4 : ¬ u.stmt = t.stmt := by omega
          have d1 : ¬ t.at' < t.at' := by omega
          rw [c1] at q4
          simp (maxDischargeDepth := 99) [c8_1, e1, e2, f11, f12, hlt, q1, q2, hnd, hw, hpos, hpos', hw1, hl1, q4, q5, d1, d3, d4]
          exact hnext _ (by simp [e1]) (by simp [e1]) (by simp [e1]) (by simp [e1]) (by simp [e1])
        · have d5 : ¬ t.seq ≤ u.seq := by omega
          rw [c1] at q4
          rw [c2] at q5
          simp (maxDischargeDepth := 99) [c8_1, e1, e2, f11, f12, hlt, q1, q2, q3, hnd, hw, hpos, hpos', hw1, hl1, q4, q5, q6, d5]
          exact hnext _ (by simp [e1]) (by simp [e1]) (by simp [e1]) (by simp [e1]) (by simp [e1])
    · have hi' : i = Y.length := by omega
      subst hi'
      have hst : ∀ fr', fr'.length = 185 → getSlot fr' 2 = getSlot fr 2 → getSlot fr' 8 = getSlot fr 8 → getSlot fr' 11 = getSlot fr 11 → St9 fr' b iw q Y.length := fun fr' k1 k3 k4 k5 => ⟨k1, by rw [k3]; exact e2, by rw [k4]; exact e8, by rw [k5]; exact h.f11⟩
      rcases h.f11 with ⟨f11, hz⟩ | f11
      · rw [hz] at f12 hst
        simp (maxDischargeDepth := 99) [c8_1, e1, f11, f12]
        rw [hz]
        exact hst _ (by simp [e1]) (by simp [e1]) (by simp [e1]) (by simp [e1])
      · simp (maxDischargeDepth := 99) [c8_1, e1, f11, f12]
        exact hst _ (by simp [e1]) (by simp [e1]) (by simp [e1]) (by simp [e1])
  · exact ⟨0, rfl, Nat.zero_le _, rfl, f12, h⟩

theorem mm_min (a b : Int) : mm false a b ≤ b ∧ mm false a b ≤ a := by
  unfold mm
  simp only
  split <;> omega

theorem run8 (σ : AHeap) (s : AV) (l : List (Int × Int)) (a b : Int) (hs : Prs σ s l) (hl : l.length ≤ 1048576) (f : Nat) (hf : l.length + 60 ≤ f) :
    OptP (evCall D3 f 8 [s, .one (.int .i64 a), .one (.int .i64 b)] σ) (fun _ v _ => v = .one (.bool true)) := by
  obtain ⟨f, rfl⟩ : ∃ k, f = k + 2 := ⟨f - 2, by omega⟩
  refine evCall_code (by kernel_rfl) ((D3_code 8).trans code8) ?_
  have hmb : maxElems = 4294967296 := rfl
  simp (maxDischargeDepth := 99) [c8]
  refine (run18 σ (f + 1) (by omega)).mono ?_
  rintro v1 τ1 ⟨rfl, kW1, kK1, kS1⟩
  simp (maxDischargeDepth := 99) []
  refine (run18 τ1 (f + 1) (by omega)).mono ?_
  rintro v2 τ2 ⟨rfl, kW2, kK2, kS2⟩
  simp (maxDischargeDepth := 99) []
  have hlv := kW1.lt
  refine sets8 σ s l hs hl a b σ.size σ.size τ1.size τ1.size τ2 _ ⟨by simp, by simp, by simp, by simp, by simp, by simp, kK1.trans kK2, kW1.keeps kK2, kW2, by omega, by omega, by omega, by omega, Nat.le_refl _, Nat.le_refl _, by omega, by omega⟩ (by simp) (f + 1) (by omega) _ _ _ ?_
  intro fr τ iv qv iw qw h
  obtain ⟨hheap, hnd, hlen0⟩ := setL_heap l [] 0 (fun j h1 h2 => by simp at h2) (by simp) (fun t ht => by cases ht)
  simp only [List.length_nil, Nat.zero_add] at hlen0
  obtain ⟨L, hLdef⟩ : ∃ L, L = setL [] 0 l := ⟨_, rfl⟩
  rw [← hLdef] at h hheap hnd hlen0
  have e1 := h.len
  have e2 := h.f0
  have e3 := h.f1
  have e4 := h.f2
  have e5 := h.f7
  have e6 := h.f8
  have hlv := h.v.lt
  have hlw := h.w.lt
  have n1 := h.n1
  have n2 := h.n2
  have n3 := h.n3
  have n4 := h.n4
  obtain ⟨a', ha'⟩ : ∃ a', a' = mm false a b := ⟨_, rfl⟩
  have hab : a' ≤ b := by rw [ha']; exact (mm_min a b).1
  simp (maxDischargeDepth := 99) [e1, e2, e3, e4, e5, e6, mms, ← ha']
  -- up to the first time
  refine (run33 τ iv qv L _ a' h.v (by omega) (f + 1) (by omega)).mono ?_
  rintro x1 τ3 ⟨o1, w1, fr1⟩
  have hs3 := fr1.1
  have hp1 := pops_length a' L
  simp (maxDischargeDepth := 99) [e1, e2, e3, e4, e5, e6]
  refine (run33 τ3 iv qv (popsL a' L).2 _ b w1 (by omega) (f + 1) (by omega)).mono ?_
  rintro x2 τ4 ⟨o2, w2, fr2⟩
  have hs4 := fr2.1
  have hp2 := pops_length b (popsL a' L).2
  have o1' : OutSl τ.size τ4 3 x1 (tcells (popsL a' L).1) (popsL a' L).1.length := o1.fr fr2 hlv.1 hlv.2
  have hsrc : srcLen x2 = some (popsL b (popsL a' L).2).1.length ∧ srcCells τ4 3 (popsL b (popsL a' L).2).1.length x2 = some (tcells (popsL b (popsL a' L).2).1) := by
    rcases o2.2 with ⟨rfl, hz⟩ | ⟨q, rfl, hz, _, hg⟩
    · have : (popsL b (popsL a' L).2).1 = [] := List.eq_nil_of_length_eq_zero hz
      rw [this]
      exact ⟨rfl, rfl⟩
    · refine ⟨rfl, ?_⟩
      generalize (popsL b (popsL a' L).2).1 = Z at hg hz
      have e1 : Nat.beq 3 3 = true := rfl
      have e2 : (tcells Z).length = Z.length * 3 := tcells_length Z
      have e3 : Nat.ble (0 + Z.length * 3) (tcells Z).length = true := by rw [e2]; simp
      have e4 : Nat.ble Z.length Z.length = true := by simp
      simp only [srcCells, e1, e4, hg, e3, Bool.and_self, List.drop_zero]
      rw [← e2, List.take_length]
  obtain ⟨hsrc1, hsrc2⟩ := hsrc
  simp (maxDischargeDepth := 99) [e1, e2, e3, e4, e5, e6, hsrc1, hsrc2]
  refine (append_many (bytes := 24) o1' (by omega) (by omega) (by rw [tcells_length]) (by omega) (by decide)).mono ?_
  rintro x τ5 ⟨o3, hs5, hk5⟩
  have hsplit := pops_split hab L
  have hX : tcells (popsL a' L).1 ++ tcells (popsL b (popsL a' L).2).1 = tcells (popsL b L).1 := by rw [hsplit, tcells_append]
  have hXn : (popsL a' L).1.length + (popsL b (popsL a' L).2).1.length = (popsL b L).1.length := by rw [hsplit, List.length_append]
  rw [hX, hXn] at o3
  have hw5 : Whl τ5 iw L (l.length : Int) qw := by
    have k1 := (h.w.fr fr1 n1.symm n3.symm n2.symm n4.symm).fr fr2 n1.symm n3.symm n2.symm n4.symm
    obtain ⟨sl, m1, m2⟩ := k1
    refine ⟨sl, by rw [hk5 iw hlw.1, m1], ?_⟩
    rcases m2 with m2 | ⟨junk, m2, m3, m4⟩
    · exact .inl m2
    · exact .inr ⟨junk, m2, m3, by rw [hk5 qw hlw.2, m4]⟩
  simp (maxDischargeDepth := 99) [e1, e2, e3, e4, e5, e6]
  refine (run33 τ5 iw qw L _ b hw5 (by omega) (f + 1) (by omega)).mono ?_
  rintro y τ6 ⟨o4, w4, fr4⟩
  have hs6 := fr4.1
  have hpb := pops_length b L
  have o3' : OutSl τ.size τ6 3 x (tcells (popsL b L).1) (popsL b L).1.length := o3.fr fr4 hlw.1 hlw.2
  have hsx : slTs τ6 x = some (popsL b L).1 := slTs_out o3' (by omega)
  have hsy : slTs τ6 y = some (popsL b L).1 := slTs_out o4 (by omega)
  obtain ⟨Y, hYdef⟩ : ∃ Y, Y = (popsL b L).1 := ⟨_, rfl⟩
  obtain ⟨R', hRdef⟩ : ∃ R', R' = (popsL b L).2 := ⟨_, rfl⟩
  have hdue := pops_due b L
  have hsort := pops_sorted b L hheap hnd
  have hrest := pops_rest b L
  rw [← hYdef] at hsx hsy hdue hsort hpb o4
  rw [← hRdef] at hpb hrest w4
  have hlw6 := w4.lt
  have hYq : (y = .one .nilSlice ∧ Y.length = 0) ∨ ∃ q, y = .one (.slice q 0 3 Y.length none) ∧ 0 < Y.length ∧ τ6.get q = some ⟨tcells Y, .own⟩ := by
    have h2 := o4.2
    rcases h2 with h2 | ⟨q, h2, h3, _, h4⟩
    · exact .inl h2
    · exact .inr ⟨q, h2, h3, h4⟩
  have hsum : (Y.length : Int) + (R'.length : Int) = (l.length : Int) := by omega
  have hwsum : wr .i64 ((Y.length : Int) + (R'.length : Int)) = (l.length : Int) := by rw [hsum, wr64 (by omega) (by omega)]
  have hsl : (s = .one .nilSlice ∧ l.length = 0) ∨ ∃ idl cap, s = .one (.slice idl 0 2 l.length cap) := by
    rcases hs with ⟨h1, h2⟩ | ⟨idl, cap, h1, _⟩
    · exact .inl ⟨h1, by rw [h2]; rfl⟩
    · exact .inr ⟨idl, cap, h1⟩
  have hR : R' = [] ∨ ∃ t R2, R' = t :: R2 ∧ b < t.at' := by
    cases R' with
    | nil => exact .inl rfl
    | cons t R2 =>
      refine .inr ⟨t, R2, rfl, ?_⟩
      have : ¬ (t.at' ≤ b) := fun e => hrest ⟨by simp, e⟩
      omega
  have hlen31 := run31 τ6 iw qw R' _ w4 (f + 1) (by omega)
  rcases hYq with ⟨rfl, hY0⟩ | ⟨q, rfl, hYp, hgY⟩ <;> rcases hsl with ⟨rfl, hl0⟩ | ⟨idl, cap, rfl⟩
  · have hw0 : wr .i64 (R'.length : Int) = 0 := by rw [wr64 (by omega) (by omega)]; omega
    simp (maxDischargeDepth := 99) [e1, e2, e3, e4, e5, e6, D3_29, p49, hsx, hsy]
    refine hlen31.mono ?_
    rintro n τ7 ⟨rfl, rfl⟩
    simp (maxDischargeDepth := 99) [e1, e2, e3, e4, e5, e6, hw0]
    refine check8 Y b iw 0 τ7 _ ⟨by simp [e1], by simp [e1, e4], by simp [e1, e6], by simp [e1, hY0]⟩ (by simp [e1]) (fun h => absurd h (by omega)) (by omega) hdue hsort (f + 1) (by omega) _ _ _ ?_
    intro fr' h9
    have g1 := h9.len
    have g2 := h9.f2
    have g8 := h9.f8
    have hnx := run27 τ7 iw qw R' _ w4 (f + 1) (by omega)
    simp (maxDischargeDepth := 99) [g1, g2, g8]
    refine hnx.mono ?_
    rintro v τ8 ⟨rfl, hk8⟩
    rcases hR with rfl | ⟨t, R2, rfl, hbt⟩
    · simp (maxDischargeDepth := 99) [g1, g2, g8, nextT, T.av, T.cells, t0, D3_32, pBool]
    · simp (maxDischargeDepth := 99) [g1, g2, g8, nextT, T.av, T.cells, hbt, D3_32, pBool]
  · have hw0 : wr .i64 (R'.length : Int) = (l.length : Int) := by rw [wr64 (by omega) (by omega)]; omega
    simp (maxDischargeDepth := 99) [e1, e2, e3, e4, e5, e6, D3_29, p49, hsx, hsy]
    refine hlen31.mono ?_
    rintro n τ7 ⟨rfl, rfl⟩
    simp (maxDischargeDepth := 99) [e1, e2, e3, e4, e5, e6, hw0]
    refine check8 Y b iw 0 τ7 _ ⟨by simp [e1], by simp [e1, e4], by simp [e1, e6], by simp [e1, hY0]⟩ (by simp [e1]) (fun h => absurd h (by omega)) (by omega) hdue hsort (f + 1) (by omega) _ _ _ ?_
    intro fr' h9
    have g1 := h9.len
    have g2 := h9.f2
    have g8 := h9.f8
    have hnx := run27 τ7 iw qw R' _ w4 (f + 1) (by omega)
    simp (maxDischargeDepth := 99) [g1, g2, g8]
    refine hnx.mono ?_
    rintro v τ8 ⟨rfl, hk8⟩
    rcases hR with rfl | ⟨t, R2, rfl, hbt⟩
    · simp (maxDischargeDepth := 99) [g1, g2, g8, nextT, T.av, T.cells, t0, D3_32, pBool]
    · simp (maxDischargeDepth := 99) [g1, g2, g8, nextT, T.av, T.cells, hbt, D3_32, pBool]
  · exfalso
    omega
  · simp (maxDischargeDepth := 99) [e1, e2, e3, e4, e5, e6, D3_29, p49, hsx, hsy]
    refine hlen31.mono ?_
    rintro n τ7 ⟨rfl, rfl⟩
    simp (maxDischargeDepth := 99) [e1, e2, e3, e4, e5, e6, hwsum]
    refine check8 Y b iw q τ7 _ ⟨by simp [e1], by simp [e1, e4], by simp [e1, e6], by simp [e1]⟩ (by simp [e1]) (fun h => ⟨.own, .inl rfl, hgY⟩) (by omega) hdue hsort (f + 1) (by omega) _ _ _ ?_
    intro fr' h9
    have g1 := h9.len
    have g2 := h9.f2
    have g8 := h9.f8
    have hnx := run27 τ7 iw qw R' _ w4 (f + 1) (by omega)
    simp (maxDischargeDepth := 99) [g1, g2, g8]
    refine hnx.mono ?_
    rintro v τ8 ⟨rfl, hk8⟩
    rcases hR with rfl | ⟨t, R2, rfl, hbt⟩
    · simp (maxDischargeDepth := 99) [g1, g2, g8, nextT, T.av, T.cells, t0, D3_32, pBool]
    · simp (maxDischargeDepth := 99) [g1, g2, g8, nextT, T.av, T.cells, hbt, D3_32, pBool]
end Go.Proofs.Ytdgffilnefnjjaa.Ab
