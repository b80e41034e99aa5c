/- Closures over arrivals: the library's IndexFunc, ContainsFunc; content's some. -/
import Derived.Test.YthjijjkoeoemgaaGreatCt5
namespace Go.Proofs.YthjijjkoeoemgaaGreat.Ab
open Go
set_option maxRecDepth 20000
set_option maxHeartbeats 2000000
set_option linter.unusedSimpArgs false

/-- A closure that tells of arrivals: what was there it leaves as it is. -/
def Tells (σ0 : AHeap) (fn : Nat) (caps : List SV) (K : Nat) (ok : Arr → Prop) (pr : Arr → Bool) : Prop :=
  ∀ τ, Keeps σ0 τ → ∀ f, K ≤ f → ∀ a : Arr, ok a → OptP (evCall D9 f fn (.agg [.int .i64 a.seq, .int .i64 a.time, a.row] :: caps.map AV.one) τ) (fun _ v τ' => v = .one (.bool (pr a)) ∧ Keeps τ τ')
/-- The same with the place. -/
def TellsI (σ0 : AHeap) (fn : Nat) (caps : List SV) (K : Nat) (ok : Arr → Prop) (pr : Nat → Arr → Bool) : Prop :=
  ∀ τ, Keeps σ0 τ → ∀ f, K ≤ f → ∀ (i : Nat) (a : Arr), ok a → OptP (evCall D9 f fn (.one (.int .i64 (i : Int)) :: .agg [.int .i64 a.seq, .int .i64 a.time, a.row] :: caps.map AV.one) τ) (fun _ v τ' => v = .one (.bool (pr i a)) ∧ Keeps τ τ')
theorem Tells.keeps {σ0 σ1 : AHeap} {fn caps K ok pr} (h : Tells σ0 fn caps K ok pr) (hk : Keeps σ0 σ1) : Tells σ1 fn caps K ok pr := fun τ h1 => h τ (hk.trans h1)
theorem TellsI.keeps {σ0 σ1 : AHeap} {fn caps K ok pr} (h : TellsI σ0 fn caps K ok pr) (hk : Keeps σ0 σ1) : TellsI σ1 fn caps K ok pr := fun τ h1 => h τ (hk.trans h1)

theorem run38 (σ : AHeap) (s : AV) (m : List Arr) (fn : Nat) (caps : List SV) (K : Nat) (ok : Arr → Prop) (pr : Arr → Bool) (hp : Tells σ fn caps K ok pr) (h : Arrs σ s m) (hok : ∀ a ∈ m, ok a) (f : Nat) (hf : m.length + K + 8 ≤ f) :
    OptP (evCall D9 f 56 [s, .one (.func fn caps)] σ) (fun _ v τ => Keeps σ τ ∧ ∃ z : Int, v = .one (.int .i64 z) ∧ (decide (0 ≤ z)) = m.any pr) := by
  obtain ⟨f, rfl⟩ : ∃ k, f = k + 1 := ⟨f - 1, by omega⟩
  refine evCall_code (D9_prim 56) ((D9_code 56).trans code38) ?_
  rcases h.rd with ⟨rfl, rfl⟩ | ⟨id, off, cap, rfl, hm, hr⟩
  · simp (maxDischargeDepth := 99) [c38]
    refine ends_loop (I := fun k fr τ => k = 0 ∧ τ = σ ∧ fr.length = 19 ∧ getSlot fr 7 = .one (.int .i64 0) ∧ getSlot fr 8 = .one (.int .i64 0)) ?_ (k := 0) ?_ (by omega)
    · rintro k fr τ ⟨rfl, rfl, hlen, f7, f8⟩
      simp (maxDischargeDepth := 99) [c38_0, hlen, f7, f8]
    · simp
  · simp (maxDischargeDepth := 99) [c38]
    refine ends_loop (I := fun k fr τ => ∃ i, k = m.length - i ∧ i ≤ m.length ∧ Keeps σ τ ∧ fr.length = 19 ∧ getSlot fr 0 = .one (.slice id off 3 m.length cap) ∧ getSlot fr 1 = .one (.func fn caps) ∧ getSlot fr 7 = .one (.int .i64 (m.length : Int)) ∧ getSlot fr 8 = .one (.int .i64 (i : Int)) ∧ ∀ j, j < i → pr (rAt m j) = false) ?_ (k := m.length) ?_ (by omega)
    · rintro k fr τ ⟨i, rfl, hi, hk, hlen, f0, f1, f7, f8, hall⟩
      by_cases hlt : i < m.length
      · obtain ⟨p0, _, _, _⟩ := hr i hlt
        rw [← hk.2 id (rd_lt p0)] at p0
        have hw := wr_next hlt hm
        have hlt' : (i : Int) < (m.length : Int) := by omega
        have hc := hp τ hk f (by omega) (rAt m i) (hok _ (rAt_mem hlt))
        have hany : pr (rAt m i) = true → m.any pr = true := fun h => by
          rw [List.any_eq_true]; exact ⟨_, rAt_mem hlt, h⟩
        have hnext := y2 (P := fun j => pr (rAt m j) = false) hall
        have hi0 : decide (0 ≤ (i : Int)) = true := by rw [decide_eq_true_iff]; omega
        generalize rAt m i = a at p0 hc hany hnext
        simp only [Arr.av, Arr.cells] at p0
        simp (maxDischargeDepth := 99) [c38_0, hlen, f0, f1, f7, f8, hlt, hlt', p0]
        refine hc.mono ?_
        rintro v τ2 ⟨rfl, k2⟩
        cases hpr : pr a with
        | true =>
          have := hany hpr
          simp (maxDischargeDepth := 99) [hlen, hk.trans k2, this]
        | false =>
          simp (maxDischargeDepth := 99) [hlen, f0, f1, f7, f8, hw]
          exact ⟨m.length - (i + 1), y1 hlt, i + 1, rfl, hlt, hk.trans k2, by simp, hnext hpr⟩
      · obtain rfl : i = m.length := by omega
        have hB : m.any pr = false := by
          rw [List.any_eq_false]
          intro a ha
          obtain ⟨j, hj, rfl⟩ := List.mem_iff_getElem.1 ha
          have := hall j hj
          simpa [rAt, List.getD, hj] using this
        simp (maxDischargeDepth := 99) [c38_0, hlen, f0, f1, f7, f8, hk, hB]
    · exact ⟨0, rfl, Nat.zero_le _, Keeps.refl _, by simp, by simp, by simp, by simp, by simp, fun j hj => absurd hj (Nat.not_lt_zero _)⟩
theorem run30 (σ : AHeap) (s : AV) (m : List Arr) (fn : Nat) (caps : List SV) (K : Nat) (ok : Arr → Prop) (pr : Arr → Bool) (hp : Tells σ fn caps K ok pr) (h : Arrs σ s m) (hok : ∀ a ∈ m, ok a) (f : Nat) (hf : m.length + K + 10 ≤ f) :
    OptP (evCall D9 f 38 [s, .one (.func fn caps)] σ) (fun _ v τ => Keeps σ τ ∧ v = .one (.bool (m.any pr))) := by
  obtain ⟨f, rfl⟩ : ∃ k, f = k + 1 := ⟨f - 1, by omega⟩
  refine evCall_code (D9_prim 38) ((D9_code 38).trans code30) ?_
  simp (maxDischargeDepth := 99) [c30]
  refine (run38 σ s m fn caps K ok pr hp h hok f (by omega)).mono ?_
  rintro v τ ⟨hk, z, rfl, hz⟩
  simp (maxDischargeDepth := 99) [hk, ← hz]
/-- Whose number stands in a list. -/
theorem run31 (σ : AHeap) (b : Nat) (x : Arr) (hb : σ.get b = some ⟨[.int .i64 x.seq, .int .i64 x.time, x.row], .own⟩) : Tells σ 39 [.ptr b 0] 5 (fun _ => True) (fun y => decide (y.seq = x.seq)) := by
  intro τ hk f hf a _
  obtain ⟨f, rfl⟩ : ∃ k, f = k + 1 := ⟨f - 1, by omega⟩
  refine evCall_code (D9_prim 39) ((D9_code 39).trans code31) ?_
  have hg := hb
  rw [← hk.2 b (AHeap.get_lt hb)] at hg
  have hlt := AHeap.get_lt hg
  have hne : ¬ b = τ.size := by omega
  simp (maxDischargeDepth := 99) [c31, hg, hne]
  exact eq_comm
theorem run29 (σ : AHeap) (b : Nat) (s : SV) (m : List Arr) (h : Arrs σ (.one s) m) (hb : σ.get b = some ⟨[s], .own⟩) : TellsI σ 37 [.ptr b 0] (m.length + 20) (fun _ => True) (fun _ x => !hasA m x.seq) := by
  intro τ hk f hf i x _
  obtain ⟨f, rfl⟩ : ∃ k, f = k + 1 := ⟨f - 1, by omega⟩
  refine evCall_code (D9_prim 37) ((D9_code 37).trans code29) ?_
  have hg := hb
  rw [← hk.2 b (AHeap.get_lt hb)] at hg
  have hlt := AHeap.get_lt hg
  have hne : ¬ b = τ.size := by omega
  have k2 : Keeps τ (τ.alloc ⟨[.int .i64 x.seq, .int .i64 x.time, x.row], .own⟩) := (Keeps.refl _).alloc
  have hr := run30 (τ.alloc ⟨[.int .i64 x.seq, .int .i64 x.time, x.row], .own⟩) (.one s) m 39 [.ptr τ.size 0] 5 (fun _ => True) _ (run31 _ τ.size x (by simp)) ((h.keeps hk).keeps k2) (fun _ _ => trivial) f (by omega)
  simp (maxDischargeDepth := 99) [c29, hg, hne]
  refine hr.mono ?_
  rintro v τ2 ⟨k3, rfl⟩
  simp (maxDischargeDepth := 99) [k2.trans k3]
  rfl

/-! ### some -/
def fIdx (pr : Nat → Arr → Bool) : Nat → List Arr → List Arr
  | _, [] => []
  | i, a :: l => if pr i a = true then a :: fIdx pr (i + 1) l else fIdx pr (i + 1) l
theorem fIdx_append (pr : Nat → Arr → Bool) : ∀ (l m : List Arr) (i : Nat), fIdx pr i (l ++ m) = fIdx pr i l ++ fIdx pr (i + l.length) m
  | [], m, i => by simp [fIdx]
  | a :: l, m, i => by
    have := fIdx_append pr l m (i + 1)
    simp only [List.cons_append, fIdx, this, List.length_cons]
    have e : i + 1 + l.length = i + (l.length + 1) := by omega
    rw [e]
    split <;> simp
theorem fIdx_len (pr : Nat → Arr → Bool) : ∀ (l : List Arr) (i : Nat), (fIdx pr i l).length ≤ l.length
  | [], i => by simp [fIdx]
  | a :: l, i => by
    have := fIdx_len pr l (i + 1)
    unfold fIdx
    split <;> simp only [List.length_cons] <;> omega
theorem fIdx_mem (pr : Nat → Arr → Bool) : ∀ (l : List Arr) (i : Nat) (x : Arr), x ∈ fIdx pr i l → x ∈ l
  | [], i, x, h => by simp [fIdx] at h
  | a :: l, i, x, h => by
    unfold fIdx at h
    split at h
    · rcases List.mem_cons.1 h with rfl | h
      · simp
      · exact List.mem_cons_of_mem _ (fIdx_mem pr l (i + 1) x h)
    · exact List.mem_cons_of_mem _ (fIdx_mem pr l (i + 1) x h)
theorem fIdx_filter (pr : Arr → Bool) : ∀ (l : List Arr) (i : Nat), fIdx (fun _ => pr) i l = l.filter pr
  | [], i => rfl
  | a :: l, i => by
    unfold fIdx
    rw [fIdx_filter pr l (i + 1), List.filter_cons]
theorem take_next {l : List Arr} {i : Nat} (h : i < l.length) : l.take (i + 1) = l.take i ++ [rAt l i] := by
  rw [List.take_add_one]
  simp [rAt, List.getD, h]
theorem fIdx_next (pr : Nat → Arr → Bool) {l : List Arr} {i : Nat} (h : i < l.length) : fIdx pr 0 (l.take (i + 1)) = fIdx pr 0 (l.take i) ++ fIdx pr i [rAt l i] := by
  rw [take_next h, fIdx_append, List.length_take, Nat.min_eq_left (Nat.le_of_lt h), Nat.zero_add]
theorem fIdx_bound (pr : Nat → Arr → Bool) {l : List Arr} {i : Nat} (h : i < l.length) (hm : l.length ≤ maxElems) : (fIdx pr 0 (l.take i)).length + 1 ≤ maxElems := by
  have := fIdx_len pr (l.take i) 0
  rw [List.length_take] at this
  omega

def I28 (σ : AHeap) (s : AV) (l : List Arr) (fn : Nat) (caps : List SV) (pr : Nat → Arr → Bool) (k : Nat) (fr : List AV) (τ : AHeap) : Prop :=
  ∃ i, k = l.length - i ∧ i ≤ l.length ∧ fr.length = 25 ∧ getSlot fr 1 = .one (.func fn caps) ∧ getSlot fr 8 = s ∧ getSlot fr 9 = .one (.int .i64 (l.length : Int)) ∧ getSlot fr 10 = .one (.int .i64 (i : Int)) ∧
    OutSl σ.size τ 3 (getSlot fr 5) (acells (fIdx pr 0 (l.take i))) (fIdx pr 0 (l.take i)).length ∧ Keeps σ τ
def O28 (σ : AHeap) (m : List Arr) (fr : List AV) (τ : AHeap) : Prop :=
  fr.length = 25 ∧ OutSl σ.size τ 3 (getSlot fr 5) (acells m) m.length ∧ Keeps σ τ
theorem run28 (σ : AHeap) (s : AV) (l : List Arr) (fn : Nat) (caps : List SV) (K : Nat) (ok : Arr → Prop) (pr : Nat → Arr → Bool) (hp : TellsI σ fn caps K ok pr) (h : Arrs σ s l) (hok : ∀ a ∈ l, ok a) (f : Nat) (hf : l.length + K + 8 ≤ f) :
    OptP (evCall D9 f 29 [s, .one (.func fn caps)] σ) (fun _ v τ => OutSl σ.size τ 3 v (acells (fIdx pr 0 l)) (fIdx pr 0 l).length ∧ Keeps σ τ) := by
  obtain ⟨f, rfl⟩ : ∃ k, f = k + 1 := ⟨f - 1, by omega⟩
  refine evCall_code (D9_prim 29) ((D9_code 29).trans code28) ?_
  rcases h.rd with ⟨rfl, rfl⟩ | ⟨id, off, cap, rfl, hm, hr⟩
  · simp (maxDischargeDepth := 99) [c28]
    refine ends_loop (I := fun k fr τ => k = 0 ∧ τ = σ ∧ fr.length = 25 ∧ getSlot fr 5 = .one .nilSlice ∧ getSlot fr 9 = .one (.int .i64 0) ∧ getSlot fr 10 = .one (.int .i64 0)) ?_ (k := 0) ?_ (by omega)
    · rintro k fr τ ⟨rfl, rfl, hlen, f5, f9, f10⟩
      simp (maxDischargeDepth := 99) [c28_0, hlen, f5, f9, f10]
      simpa [fIdx, acells] using OutSl.nil _ _ _
    · simp
  · simp (maxDischargeDepth := 99) [c28]
    refine ends_to 0 (O28 σ (fIdx pr 0 l)) ?_ ?_
    · refine ends_loop (I := I28 σ (.one (.slice id off 3 l.length cap)) l fn caps pr) ?_ (k := l.length) ?_ (by omega)
      · rintro k fr τ ⟨i, rfl, hi, hlen, f1, f8, f9, f10, hO, hk⟩
        by_cases hlt : i < l.length
        · obtain ⟨p0, _, _, _⟩ := hr i hlt
          rw [← hk.2 id (rd_lt p0)] at p0
          have hw := wr_next hlt hm
          have hlt' : (i : Int) < (l.length : Int) := by omega
          have hnx := fIdx_next pr hlt
          have hbd := fIdx_bound pr hlt hm
          have hoka := hok _ (rAt_mem hlt)
          generalize rAt l i = a at p0 hnx hoka
          simp only [Arr.av, Arr.cells] at p0
          obtain ⟨τ2, hτ2⟩ : ∃ τ2, τ2 = (τ.alloc ⟨[.int .i64 0, .int .i64 0, .nilSlice], .own⟩).put τ.size ⟨[.int .i64 a.seq, .int .i64 a.time, a.row], .own⟩ := ⟨_, rfl⟩
          have k2 : Keeps τ τ2 := by rw [hτ2]; exact (Keeps.alloc (Keeps.refl _)).put (Nat.le_refl _)
          have hb : τ2.get τ.size = some ⟨[.int .i64 a.seq, .int .i64 a.time, a.row], .own⟩ := by rw [hτ2, AHeap.get_put', if_pos ⟨rfl, by rw [AHeap.size_alloc]; omega⟩]
          have hwz : writeAt (τ.alloc ⟨[.int .i64 0, .int .i64 0, .nilSlice], .own⟩) τ.size 0 [.int .i64 a.seq, .int .i64 a.time, a.row] = some τ2 := by
            rw [hτ2]
            simp [writeAt, splice]
          have hc := hp τ2 (hk.trans k2) f (by omega) i a hoka
          simp (maxDischargeDepth := 99) [c28_0, hlen, f1, f8, f9, f10, hlt, hlt', p0, hwz, hb, -writeAt]
          refine hc.mono ?_
          rintro v τ3 ⟨rfl, k3⟩
          have hb3 := hb
          rw [← k3.2 τ.size (AHeap.get_lt hb)] at hb3
          have hk3 := (hk.trans k2).trans k3
          have hO3 : OutSl σ.size τ3 3 (getSlot fr 5) (acells (fIdx pr 0 (l.take i))) (fIdx pr 0 (l.take i)).length := (hO.stay (fun j _ h2 => k2.2 j h2)).stay (fun j _ h2 => k3.2 j h2)
          cases hpr : pr i a with
          | true =>
            have hO4 : OutSl σ.size (τ3.alloc ⟨[.int .i64 a.seq, .int .i64 a.time, a.row], .own⟩) 3 (getSlot fr 5) (acells (fIdx pr 0 (l.take i))) (fIdx pr 0 (l.take i)).length :=
              hO3.stay (fun j h1 h2 => by rw [AHeap.get_alloc, if_neg (by omega)])
            have hap := append_out (b := σ.size) (bytes := 40) (vs := [.int .i64 a.seq, .int .i64 a.time, a.row]) hO4 (by rw [AHeap.size_alloc]; have := hk3.1; omega) (by omega) rfl hbd (by decide)
            simp (maxDischargeDepth := 99) [hlen, hb3, srcLen, srcCells]
            refine hap.mono ?_
            rintro s' τ4 ⟨q1, q2, q3⟩
            have k4 : Keeps σ τ4 := ⟨by rw [q2, AHeap.size_alloc]; have := hk3.1; omega, fun j hj => by rw [q3 j hj, AHeap.get_alloc, if_neg (by have := hk3.1; omega)]; exact hk3.2 j hj⟩
            simp (maxDischargeDepth := 99) [hlen, f10, hw]
            refine ⟨l.length - (i + 1), y1 hlt, i + 1, rfl, hlt, by simp [hlen], by simp [hlen, f1], by simp [hlen, f8], by simp [hlen, f9], by simp [hlen], ?_, k4⟩
            rw [hnx]
            simp [hlen, fIdx, hpr, acells_append, acells, Arr.cells]
            exact q1
          | false =>
            simp (maxDischargeDepth := 99) [hlen, f10, hw]
            refine ⟨l.length - (i + 1), y1 hlt, i + 1, rfl, hlt, by simp [hlen], by simp [hlen, f1], by simp [hlen, f8], by simp [hlen, f9], by simp [hlen], ?_, hk3⟩
            rw [hnx]
            simpa [hlen, fIdx, hpr] using hO3
        · obtain rfl : i = l.length := by omega
          rw [List.take_of_length_le (Nat.le_refl _)] at hO
          simp (maxDischargeDepth := 99) [c28_0, hlen, f9, f10]
          exact ⟨by simp [hlen], by simpa [hlen] using hO, hk⟩
      · exact ⟨0, rfl, Nat.zero_le _, by simp, by simp, by simp, by simp, by simp, by simpa [fIdx, acells] using OutSl.nil _ _ _, Keeps.refl _⟩
    · rintro fr τ ⟨hlen, hO, hk⟩
      simp (maxDischargeDepth := 99) [hlen]
      exact ⟨hO, hk⟩
end Go.Proofs.YthjijjkoeoemgaaGreat.Ab
