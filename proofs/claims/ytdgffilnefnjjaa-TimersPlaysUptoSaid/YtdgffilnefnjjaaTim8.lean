/- The law TimersSplit, run. -/
import Derived.Test.YtdgffilnefnjjaaTim7
namespace Go.Proofs.Ytdgffilnefnjjaa.Ab
open Go
set_option maxRecDepth 20000
set_option maxHeartbeats 2000000
set_option linter.unusedSimpArgs false

def pcells : List (Int × Int) → List SV
  | [] => []
  | p :: l => .int .i64 p.1 :: .int .i64 p.2 :: pcells l
theorem pcells_length : ∀ l, (pcells l).length = l.length * 2
  | [] => rfl
  | p :: l => by simp only [pcells, List.length_cons, pcells_length l]; omega
theorem sameCells_plain : ∀ l : List (Int × Int), sameCells (pcells l) (pcells l) = true
  | [] => rfl
  | p :: l => by simp [pcells, sameCells, SV.same, sameCells_plain l]
def pAt (l : List (Int × Int)) (i : Nat) : Int × Int := l.getD i (0, 0)
theorem pcells_get : ∀ (l : List (Int × Int)) (i : Nat), i < l.length → (pcells l)[i * 2]? = some (.int .i64 (pAt l i).1) ∧ (pcells l)[i * 2 + 1]? = some (.int .i64 (pAt l i).2)
  | [], i, h => absurd h (Nat.not_lt_zero _)
  | p :: l, 0, _ => ⟨rfl, rfl⟩
  | p :: l, i + 1, h => by
    have ih := pcells_get l i (by simpa using h)
    have e : (i + 1) * 2 = i * 2 + 1 + 1 := by omega
    rw [e]
    simpa [pcells, pAt] using ih
/-- The pairs of a slice that is read alone. -/
def Prs (σ : AHeap) (s : AV) (l : List (Int × Int)) : Prop := (s = .one .nilSlice ∧ l = []) ∨ ∃ id cap, s = .one (.slice id 0 2 l.length cap) ∧ σ.get id = some ⟨pcells l, .ro⟩

/-- Both wheels behind so many settings. -/
structure St8 (σ τ : AHeap) (fr : List AV) (s : AV) (a b : Int) (iv qv iw qw : Nat) (L : List T) (seq : Int) : Prop where
  len : fr.length = 185
  f0 : getSlot fr 0 = s
  f1 : getSlot fr 1 = .one (.int .i64 a)
  f2 : getSlot fr 2 = .one (.int .i64 b)
  f7 : getSlot fr 7 = .one (.ptr iv 0)
  f8 : getSlot fr 8 = .one (.ptr iw 0)
  k : Keeps σ τ
  v : Whl τ iv L seq qv
  w : Whl τ iw L seq qw
  n1 : iv ≠ iw
  n2 : iv ≠ qw
  n3 : qv ≠ iw
  n4 : qv ≠ qw
  o1 : σ.size ≤ iv
  o2 : σ.size ≤ qv
  o3 : σ.size ≤ iw
  o4 : σ.size ≤ qw

def I8 (σ : AHeap) (s : AV) (l : List (Int × Int)) (a b : Int) (k : Nat) (fr : List AV) (τ : AHeap) : Prop :=
  ∃ i L iv qv iw qw, k = l.length - i ∧ i ≤ l.length ∧ L.length = i ∧ getSlot fr 9 = .one (.int .i64 (i : Int)) ∧ setL L (i : Int) (l.drop i) = setL [] 0 l ∧ St8 σ τ fr s a b iv qv iw qw L (i : Int)
def O8 (σ : AHeap) (s : AV) (l : List (Int × Int)) (a b : Int) (fr : List AV) (τ : AHeap) : Prop :=
  ∃ iv qv iw qw, St8 σ τ fr s a b iv qv iw qw (setL [] 0 l) (l.length : Int)

theorem sets8 (σ : AHeap) (s : AV) (l : List (Int × Int)) (hs : Prs σ s l) (hl : l.length ≤ 1048576) (a b : Int) (iv qv iw qw : Nat) (τ : AHeap) (fr : List AV) (h : St8 σ τ fr s a b iv qv iw qw [] 0) (f9 : getSlot fr 9 = .one (.int .i64 0))
    (f : Nat) (hf : l.length + 30 ≤ f) (N : KN) (E : KE) (R : KN) (k : ∀ fr τ iv qv iw qw, St8 σ τ fr s a b iv qv iw qw (setL [] 0 l) (l.length : Int) → E 0 .go fr τ) :
    EndsC .go (evCall D3 f) f (.loop c8_0) fr τ N E R := by
  have hmb : maxElems = 4294967296 := rfl
  refine ends_to 0 (O8 σ s l a b) ?_ (fun fr τ ⟨iv, qv, iw, qw, h⟩ => k fr τ iv qv iw qw h)
  refine ends_loop (I := I8 σ s l a b) ?_ (k := l.length) ?_ (by omega)
  · rintro k fr τ ⟨i, L, iv, qv, iw, qw, rfl, hi, hL, f9, hset, h⟩
    by_cases hlt : i < l.length
    · rcases hs with ⟨_, rfl⟩ | ⟨idl, cap, rfl, hg⟩
      · simp at hlt
      have hidl : idl < σ.size := AHeap.get_lt hg
      have hgl : τ.get idl = some ⟨pcells l, .ro⟩ := by rw [h.k.2 idl hidl, hg]
      obtain ⟨p1, p2⟩ := pcells_get l i hlt
      have hdr : l.drop i = pAt l i :: l.drop (i + 1) := by
        rw [List.drop_eq_getElem_cons hlt]
        simp [pAt, List.getD, hlt]
      rw [hdr] at hset
      have hkv := run19 τ iv qv L (i : Int) (pAt l i).1 (pAt l i).2 h.v (by omega) (by omega) (by omega) f (by omega)
      have hw := wr_next hlt (by omega)
      have hlv := h.v.lt
      have hlw := h.w.lt
      have e1 := h.len
      have e2 := h.f0
      have e3 := h.f1
      have e4 := h.f2
      have e5 := h.f7
      have e6 := h.f8
      have hno := h.n1
      have hk := h.k
      obtain ⟨pa, pb⟩ : ∃ pa pb, True := ⟨(pAt l i).1, (pAt l i).2, trivial⟩
      simp (maxDischargeDepth := 99) [c8_0, e1, e2, f9, hlt]
      refine ends_draw ?_
      simp (maxDischargeDepth := 99) [e1, e2, e3, e4, e5, e6, f9, hlt, hgl, p1, p2]
      refine hkv.mono ?_
      rintro v1 τ1 ⟨rfl, qv', kv1, kv2, kv3⟩
      have hgl1 : τ1.get idl = some ⟨pcells l, .ro⟩ := by rw [kv3.2 idl (AHeap.get_lt hgl) (by have := h.o1; omega) (by have := h.o2; omega), hgl]
      have hw1 : Whl τ1 iw L (i : Int) qw := h.w.fr kv3 h.n1.symm h.n3.symm h.n2.symm h.n4.symm
      have hkw := run19 τ1 iw qw L (i : Int) (pAt l i).1 (pAt l i).2 hw1 (by omega) (by omega) (by omega) f (by omega)
      simp (maxDischargeDepth := 99) [e1, e2, e3, e4, e5, e6, f9, hlt, hgl, hgl1, p1, p2]
      refine hkw.mono ?_
      rintro v2 τ2 ⟨rfl, qw', kw1, kw2, kw3⟩
      have hk1 : Keeps σ τ1 := ⟨Nat.le_trans h.k.1 kv3.1, fun j hj => by rw [kv3.2 j (Nat.lt_of_lt_of_le hj h.k.1) (by have := h.o1; omega) (by have := h.o2; omega), h.k.2 j hj]⟩
      have hk2 : Keeps σ τ2 := ⟨Nat.le_trans hk1.1 kw3.1, fun j hj => by rw [kw3.2 j (Nat.lt_of_lt_of_le hj hk1.1) (by have := h.o3; omega) (by have := h.o4; omega), hk1.2 j hj]⟩
      have hlv1 := kv1.lt
      have n1 := h.n1
      have n2 := h.n2
      have n3 := h.n3
      have n4 := h.n4
      have o1 := h.o1
      have o2 := h.o2
      have o3 := h.o3
      have o4 := h.o4
      have hsz := h.k.1
      have hsz1 := kv3.1
      have hv2 : Whl τ2 iv (pushL L ⟨(pAt l i).1, (pAt l i).2, (i : Int) + 1⟩) ((i : Int) + 1) qv' := kv1.fr kw3 n1 n2 (by omega) (by omega)
      simp (maxDischargeDepth := 99) [e1, e2, e3, e4, e5, e6, f9, hgl, hgl1, T.av, T.cells, sameCells_plain, hw]
      refine ⟨l.length - (i + 1), by omega, ?_⟩
      unfold I8
      refine ⟨i + 1, pushL L ⟨(pAt l i).1, (pAt l i).2, (i : Int) + 1⟩, iv, qv', iw, qw', rfl, by omega, by rw [pushL_length, hL], by simp [e1], by rw [Int.natCast_add]; exact hset, ?_⟩
      exact ⟨by simp [e1], by simp [e2], by simp [e3], by simp [e4], by simp [e5], by simp [e6], hk2, hv2, kw1, n1, by omega, by omega, by omega, o1, by omega, o3, by omega⟩
    · have e1 := h.len
      have e2 := h.f0
      obtain rfl : i = l.length := by omega
      rw [List.drop_of_length_le (Nat.le_refl _)] at hset
      have hL' : L = setL [] 0 l := hset
      subst hL'
      have hst : ∀ fr', fr'.length = 185 → (∀ t, t < 19 → getSlot fr' t = getSlot fr t) → St8 σ τ fr' s a b iv qv iw qw (setL [] 0 l) (l.length : Int) := fun fr' h1 h2 =>
        ⟨h1, by rw [h2 0 (by omega)]; exact h.f0, by rw [h2 1 (by omega)]; exact h.f1, by rw [h2 2 (by omega)]; exact h.f2, by rw [h2 7 (by omega)]; exact h.f7, by rw [h2 8 (by omega)]; exact h.f8, h.k, h.v, h.w, h.n1, h.n2, h.n3, h.n4, h.o1, h.o2, h.o3, h.o4⟩
      rcases hs with ⟨rfl, rfl⟩ | ⟨idl, cap, rfl, hg⟩
      · simp (maxDischargeDepth := 99) [c8_0, e1, e2, f9]
        exact ⟨iv, qv, iw, qw, hst _ (by simp [e1]) (fun t ht => by
          have t1 : ¬ t = 23 := by omega
          have t2 : ¬ t = 24 := by omega
          have t3 : ¬ t = 25 := by omega
          have t4 : ¬ t = 26 := by omega
          simp [e1, t1, t2, t3, t4])⟩
      · simp (maxDischargeDepth := 99) [c8_0, e1, e2, f9]
        exact ⟨iv, qv, iw, qw, hst _ (by simp [e1]) (fun t ht => by
          have t1 : ¬ t = 23 := by omega
          have t2 : ¬ t = 24 := by omega
          have t3 : ¬ t = 25 := by omega
          have t4 : ¬ t = 26 := by omega
          simp [e1, t1, t2, t3, t4])⟩
  · exact ⟨0, [], iv, qv, iw, qw, rfl, Nat.zero_le _, rfl, f9, rfl, h⟩
end Go.Proofs.Ytdgffilnefnjjaa.Ab
