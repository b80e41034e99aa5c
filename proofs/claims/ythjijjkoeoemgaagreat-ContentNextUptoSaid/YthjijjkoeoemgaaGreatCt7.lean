/- Rows copied, content's Diff and the document's. -/
import Derived.Test.YthjijjkoeoemgaaGreatCt6
namespace Go.Proofs.YthjijjkoeoemgaaGreat.Ab
open Go
set_option maxRecDepth 20000
set_option maxHeartbeats 2000000
set_option linter.unusedSimpArgs false

theorem parts_cells {cs : List SV} : ∀ (l : List V) (off : Nat), (∀ i (h : i < l.length), partA cs (some 3) (off + i * 3) = some l[i].av) → (cs.drop off).take (l.length * 3) = vcells l ∧ (l ≠ [] → off + l.length * 3 ≤ cs.length)
  | [], off, _ => by simp [vcells]
  | v :: l, off, h => by
    have h0 := h 0 (by simp)
    simp only [partA, ble_dec, Nat.zero_mul, Nat.add_zero, List.getElem_cons_zero] at h0
    by_cases hle : off + 3 ≤ cs.length
    · simp only [hle, decide_true, Option.some.injEq, V.av, AV.agg.injEq] at h0
      have ih := parts_cells l (off + 3) (fun i hi => by
        have := h (i + 1) (by simp only [List.length_cons]; omega)
        rw [show off + 3 + i * 3 = off + (i + 1) * 3 by omega]
        simpa using this)
      have e : (cs.drop off).take ((l.length + 1) * 3) = (cs.drop off).take 3 ++ (cs.drop (off + 3)).take (l.length * 3) := by
        rw [show (l.length + 1) * 3 = 3 + l.length * 3 by omega, List.take_add, List.drop_drop]
      refine ⟨?_, fun _ => ?_⟩
      · rw [List.length_cons, e, h0, ih.1]
        rfl
      · rw [List.length_cons]
        cases l with
        | nil => simp only [List.length_nil]; omega
        | cons x l => have := ih.2 (by simp); omega
    · simp [hle] at h0
/-- What a row of values gives to append. -/
theorem slVals_src {σ : AHeap} {s : AV} {l : List V} (h : slVals σ s = some l) (h0 : l ≠ []) : ∃ id off cap, s = .one (.slice id off 3 l.length cap) ∧ id < σ.size ∧ srcCells σ 3 l.length s = some (vcells l) ∧ l.length ≤ maxElems := by
  rcases slVals_spec h with ⟨_, rfl⟩ | ⟨id, off, cap, rfl, hr, hm⟩
  · exact absurd rfl h0
  · have hpos : 0 < l.length := by
      cases l with
      | nil => exact absurd rfl h0
      | cons => simp
    have hid := rd_lt (hr 0 hpos)
    refine ⟨id, off, cap, rfl, hid, ?_, hm⟩
    cases hg : σ.get id with
    | none => have := hr 0 hpos; rw [hg] at this; cases this
    | some o =>
      obtain ⟨cs, md⟩ := o
      have hmd : md = .own ∨ md = .ro := by
        have := hr 0 hpos
        rw [hg] at this
        cases md with
        | own => exact .inl rfl
        | ro => exact .inr rfl
        | dead => cases this
      have hp : ∀ i (h : i < l.length), partA cs (some 3) (off + i * 3) = some l[i].av := fun i hi => by
        have := hr i hi
        rw [hg] at this
        rcases hmd with rfl | rfl
        · exact this
        · exact this
      obtain ⟨e1, e2⟩ := parts_cells l off hp
      have e2 := e2 h0
      rcases hmd with rfl | rfl <;> simp [srcCells, hg, e2, e1]
theorem append_many0 {b : Nat} {τ : AHeap} {q esz bytes k : Nat} {vs : List SV} (hg : τ.get q = some ⟨[], .own⟩) (hb : b ≤ τ.size) (hk : 0 < k) (hv : vs.length = k * esz) (hn : k ≤ maxElems) (hby : bytes ≤ maxBytes) :
    OptP (appendA τ esz bytes (.one (.slice q 0 esz 0 (some 0))) k vs) (fun _ s' τ' => OutSl b τ' esz s' vs k ∧ Keeps τ τ') := by
  obtain ⟨k, rfl⟩ : ∃ j, k = j + 1 := ⟨k - 1, by omega⟩
  simp [appendA, appendK, hg, hn, hby]
  exact ⟨hv, .inr ⟨τ.size, rfl, by omega, hb, by simp⟩⟩
/-- Append by one: only the slice's own old object dies, the new one is the newest. -/
theorem append_one {b : Nat} {τ : AHeap} {esz bytes : Nat} {s : AV} {cells vs : List SV} {n : Nat} (h : OutSl b τ esz s cells n) (hb : b ≤ τ.size) (he : 0 < esz)
    (hv : vs.length = esz) (hn : n + 1 ≤ maxElems) (hby : bytes ≤ maxBytes) :
    OptP (appendA τ esz bytes s 1 vs) (fun _ s' τ' => OutSl b τ' esz s' (cells ++ vs) (n + 1) ∧ τ'.size = τ.size + 1 ∧ s' = .one (.slice τ.size 0 esz (n + 1) none) ∧
      ∀ id, id < τ.size → (∀ o e k c, s ≠ .one (.slice id o e k c)) → τ'.get id = τ.get id) := by
  obtain ⟨hc, h⟩ := h
  rcases h with ⟨rfl, rfl⟩ | ⟨q, rfl, h0, hq, hg⟩
  · have h1 : 1 ≤ maxElems := by decide
    have hc0 : cells = [] := by simpa using hc
    subst hc0
    simp [appendA, appendK, h1, hby]
    refine ⟨⟨by simpa using hv, .inr ⟨τ.size, rfl, by omega, hb, by simp⟩⟩, fun id hid hid' => by omega⟩
  · have hlt := AHeap.get_lt hg
    have h2 : ¬ ((n + 1) * esz ≤ cells.length) := by rw [hc, Nat.succ_mul]; omega
    simp [appendA, appendK, hn, hby, hg, h2, hc.symm]
    have hmul : cells.length + esz = (n + 1) * esz := by rw [hc, Nat.succ_mul]
    refine ⟨⟨by simp [hv, hmul], .inr ⟨τ.size, rfl, by omega, hb, by simp⟩⟩, fun id hid hne => ?_⟩
    have e1 : ¬ (id = q ∧ q < τ.size) := fun e => hne 0 esz n none e.1.symm rfl rfl rfl rfl
    rw [if_neg (by omega), if_neg e1]
/-- slices.Clone of a row that is not empty. -/
theorem run33 (σ : AHeap) (s : AV) (l : List V) (h : slVals σ s = some l) (h0 : l ≠ []) (f : Nat) (hf : 5 ≤ f) :
    OptP (evCall D9 f 28 [s] σ) (fun _ v τ => ∃ q, v = .one (.slice q 0 3 l.length none) ∧ σ.size < q ∧ q < τ.size ∧ slVals τ v = some l ∧ Keeps σ τ) := by
  obtain ⟨f, rfl⟩ : ∃ k, f = k + 1 := ⟨f - 1, by omega⟩
  refine evCall_code (D9_prim 28) ((D9_code 28).trans code33) ?_
  obtain ⟨id, off, cap, rfl, hid, hs, hm⟩ := slVals_src h h0
  have hpos : 0 < l.length := by
    cases l with
    | nil => exact absurd rfl h0
    | cons => simp
  have k1 : Keeps σ (σ.alloc ⟨[], .own⟩) := (Keeps.refl _).alloc
  have hs1 : srcCells (σ.alloc ⟨[], .own⟩) 3 l.length (.one (.slice id off 3 l.length cap)) = some (vcells l) := by
    have hge : (σ.alloc ⟨[], .own⟩).get id = σ.get id := by rw [AHeap.get_alloc, if_neg (by omega)]
    simp only [srcCells, hge] at hs ⊢
    exact hs
  have hap := append_many0 (b := σ.size + 1) (bytes := 32) (esz := 3) (vs := vcells l) (k := l.length) (q := σ.size) (τ := σ.alloc ⟨[], .own⟩) (by simp) (by simp) hpos (vcells_length l) hm (by decide)
  simp (maxDischargeDepth := 99) [c33, srcLen, hs1]
  refine hap.mono ?_
  rintro s' τ ⟨q1, q2⟩
  simp (maxDischargeDepth := 99) [slVals_out q1 hm, k1.trans q2]
  rcases q1.2 with ⟨_, e⟩ | ⟨q, e, _, e2, e3⟩
  · omega
  · exact ⟨q, e, by omega, AHeap.get_lt e3⟩
/-- Rows that lie below an object. -/
def RowsLt (s : AV) (l : List Arr) : Prop := ∀ q o e n c, s = .one (.slice q o e n c) → ∀ a ∈ l, ∃ id off cap, a.row = .slice id off 3 a.vals.length cap ∧ id < q
theorem slVals_get {σ τ : AHeap} {id off n : Nat} {cap : Option Nat} {l : List V} (h : slVals σ (.one (.slice id off 3 n cap)) = some l) (hg : τ.get id = σ.get id) : slVals τ (.one (.slice id off 3 n cap)) = some l := by
  simp only [slVals, hg] at h ⊢
  exact h

/-! ### copied -/
def I23 (σ : AHeap) (s : AV) (l : List Arr) (k : Nat) (fr : List AV) (τ : AHeap) : Prop :=
  ∃ i out, k = l.length - i ∧ i ≤ l.length ∧ out.length = i ∧ out.map Arr.key = (l.take i).map Arr.key ∧ RowsOk τ out ∧ RowsLt (getSlot fr 3) out ∧ (getSlot fr 3 = .one .nilSlice → out = []) ∧ fr.length = 22 ∧ getSlot fr 6 = s ∧ getSlot fr 7 = .one (.int .i64 (l.length : Int)) ∧ getSlot fr 8 = .one (.int .i64 (i : Int)) ∧
    OutSl σ.size τ 3 (getSlot fr 3) (acells out) out.length ∧ Keeps σ τ
def O23 (σ : AHeap) (l : List Arr) (fr : List AV) (τ : AHeap) : Prop :=
  ∃ out, out.length = l.length ∧ out.map Arr.key = l.map Arr.key ∧ RowsOk τ out ∧ fr.length = 22 ∧ OutSl σ.size τ 3 (getSlot fr 3) (acells out) out.length ∧ Keeps σ τ
theorem cp1 {out : List Arr} {n i : Nat} (h : out.length = i) (h2 : i < n) (hm : n ≤ maxElems) : out.length + 1 ≤ maxElems := by omega
theorem run23 (σ : AHeap) (s : AV) (l : List Arr) (h : Arrs σ s l) (hne : ∀ a ∈ l, a.vals ≠ []) (f : Nat) (hf : l.length + 12 ≤ f) :
    OptP (evCall D9 f 16 [s] σ) (fun _ v τ => ∃ out, out.map Arr.key = l.map Arr.key ∧ RowsOk τ out ∧ OutSl σ.size τ 3 v (acells out) out.length ∧ Keeps σ τ) := by
  obtain ⟨f, rfl⟩ : ∃ k, f = k + 1 := ⟨f - 1, by omega⟩
  refine evCall_code (D9_prim 16) ((D9_code 16).trans code23) ?_
  rcases h.rd with ⟨rfl, rfl⟩ | ⟨id, off, cap, rfl, hm, hr⟩
  · simp (maxDischargeDepth := 99) [c23]
    refine ends_loop (I := fun k fr τ => k = 0 ∧ τ = σ ∧ fr.length = 22 ∧ getSlot fr 3 = .one .nilSlice ∧ getSlot fr 7 = .one (.int .i64 0) ∧ getSlot fr 8 = .one (.int .i64 0)) ?_ (k := 0) ?_ (by omega)
    · rintro k fr τ ⟨rfl, rfl, hlen, f3, f7, f8⟩
      simp (maxDischargeDepth := 99) [c23_0, hlen, f3, f7, f8]
      exact ⟨(fun a ha => by cases ha), by simpa [acells] using OutSl.nil _ _ _⟩
    · simp
  · simp (maxDischargeDepth := 99) [c23]
    refine ends_to 0 (O23 σ l) ?_ ?_
    · refine ends_loop (I := I23 σ (.one (.slice id off 3 l.length cap)) l) ?_ (k := l.length) ?_ (by omega)
      · rintro k fr τ ⟨i, out, rfl, hi, hol, hkey, hro, hrl, hrn, hlen, f6, f7, f8, hO, hk⟩
        by_cases hlt : i < l.length
        · obtain ⟨p0, _, _, _⟩ := hr i hlt
          rw [← hk.2 id (rd_lt p0)] at p0
          have hw := wr_next hlt hm
          have hlt' : (i : Int) < (l.length : Int) := by omega
          have htk := take_next hlt
          have hrow := h.2 _ (rAt_mem hlt)
          have hnev := hne _ (rAt_mem hlt)
          generalize rAt l i = a at p0 htk hrow hnev
          simp only [Arr.av, Arr.cells] at p0
          obtain ⟨τ2, hτ2⟩ : ∃ τ2, τ2 = (τ.alloc ⟨[.int .i64 0, .int .i64 0, .nilSlice], .own⟩).put τ.size ⟨[.int .i64 a.seq, .int .i64 a.time, a.row], .own⟩ := ⟨_, rfl⟩
          have k2 : Keeps τ τ2 := by rw [hτ2]; exact (Keeps.alloc (Keeps.refl _)).put (Nat.le_refl _)
          have hb : τ2.get τ.size = some ⟨[.int .i64 a.seq, .int .i64 a.time, a.row], .own⟩ := by rw [hτ2, AHeap.get_put', if_pos ⟨rfl, by rw [AHeap.size_alloc]; omega⟩]
          have hwz : writeAt (τ.alloc ⟨[.int .i64 0, .int .i64 0, .nilSlice], .own⟩) τ.size 0 [.int .i64 a.seq, .int .i64 a.time, a.row] = some τ2 := by
            rw [hτ2]
            simp [writeAt, splice]
          have hc := run33 τ2 (.one a.row) a.vals (slVals_keeps (hk.trans k2) hrow) hnev f (by omega)
          simp (maxDischargeDepth := 99) [c23_0, hlen, f6, f7, f8, hlt, hlt', p0, hwz, hb, -writeAt]
          refine hc.mono ?_
          rintro v τ3 ⟨xq, rfl, hx1, hx2, hv, k3⟩
          obtain ⟨x, hx⟩ : ∃ x : SV, x = .slice xq 0 3 a.vals.length none := ⟨_, rfl⟩
          rw [← hx] at hv ⊢
          have hb3 := hb
          rw [← k3.2 τ.size (AHeap.get_lt hb)] at hb3
          have hk3 := (hk.trans k2).trans k3
          obtain ⟨τ4, hτ4⟩ : ∃ τ4, τ4 = τ3.put τ.size ⟨[.int .i64 a.seq, .int .i64 a.time, x], .own⟩ := ⟨_, rfl⟩
          have hw4 : writeAt τ3 τ.size 2 [x] = some τ4 := by
            rw [hτ4]
            simp [writeAt, splice, hb3]
          have k4 : Keeps τ τ4 := by rw [hτ4]; exact (k2.trans k3).put (Nat.le_refl _)
          have hb4 : τ4.get τ.size = some ⟨[.int .i64 a.seq, .int .i64 a.time, x], .own⟩ := by rw [hτ4, AHeap.get_put', if_pos ⟨rfl, AHeap.get_lt hb3⟩]
          have hkk := hk.trans k4
          have hO4 : OutSl σ.size (τ4.alloc ⟨[.int .i64 a.seq, .int .i64 a.time, x], .own⟩) 3 (getSlot fr 3) (acells out) out.length :=
            (hO.stay (fun j _ h2 => k4.2 j h2)).stay (fun j h1 h2 => by rw [AHeap.get_alloc, if_neg (by omega)])
          have hap := append_one (b := σ.size) (bytes := 40) (vs := [.int .i64 a.seq, .int .i64 a.time, x]) hO4 (by rw [AHeap.size_alloc]; have := hkk.1; omega) (by omega) rfl (cp1 hol hlt hm) (by decide)
          simp (maxDischargeDepth := 99) [hlen, hb3, hw4, hb4, srcLen, srcCells, -writeAt]
          refine hap.mono ?_
          rintro s' τ5 ⟨q1, q2, q4, q3⟩
          rw [AHeap.size_alloc] at q2 q4
          have hst : ∀ j, j < τ4.size → (∀ o e k c, getSlot fr 3 ≠ .one (.slice j o e k c)) → τ5.get j = τ4.get j := fun j hj hne => by
            rw [q3 j (by rw [AHeap.size_alloc]; omega) hne, AHeap.get_alloc, if_neg (by omega)]
          have hlow : ∀ j, j < σ.size → ∀ o e k c, getSlot fr 3 ≠ .one (.slice j o e k c) := fun j hj o e k c he => by
            rcases hO.2 with ⟨e2, _⟩ | ⟨q, e2, _, e3, _⟩
            · rw [e2] at he; cases he
            · rw [e2] at he; cases he; omega
          have k5 : Keeps σ τ5 := ⟨by rw [q2]; have := hkk.1; omega, fun j hj => by rw [hst j (by have := hkk.1; omega) (hlow j hj)]; exact hkk.2 j hj⟩
          have hqlt : ∀ q o e n c, getSlot fr 3 = .one (.slice q o e n c) → q < τ.size := fun q o e n c he => by
            rcases hO.2 with ⟨e2, _⟩ | ⟨q, e2, _, _, e3⟩
            · rw [e2] at he; cases he
            · rw [e2] at he; cases he; exact AHeap.get_lt e3
          have hold : ∀ y ∈ out, ∃ id off cap, y.row = .slice id off 3 y.vals.length cap ∧ id < τ.size ∧ ∀ o e k c, getSlot fr 3 ≠ .one (.slice id o e k c) := fun y hy => by
            rcases hO.2 with ⟨e2, _⟩ | ⟨q, e2, _, _, e3⟩
            · rw [hrn e2] at hy; cases hy
            · obtain ⟨id, off, cap, e4, e5⟩ := hrl q _ _ _ _ e2 y hy
              refine ⟨id, off, cap, e4, by have := AHeap.get_lt e3; omega, fun o e k c he => ?_⟩
              rw [e2] at he; cases he; omega
          have hro5 : RowsOk τ5 (out ++ [⟨a.seq, a.time, x, a.vals⟩]) := by
            intro y hy
            rcases List.mem_append.1 hy with hy | hy
            · obtain ⟨id, off, cap, e4, e5, e6⟩ := hold y hy
              have h1 := slVals_keeps k4 (hro y hy)
              rw [e4] at h1 ⊢
              exact slVals_get h1 (hst id (by have := k4.1; omega) e6)
            · simp only [List.mem_singleton] at hy
              subst hy
              have h4 : τ4.get xq = τ3.get xq := by
                rw [hτ4, AHeap.get_put', if_neg (fun e => by have := e.1; have := k2.1; omega)]
              rw [hx] at hv ⊢
              exact slVals_get hv (by rw [hst xq (by rw [hτ4, AHeap.size_put]; omega) (fun o e k c he => by have := hqlt _ _ _ _ _ he; have := k2.1; omega), h4])
          have hrl5 : RowsLt s' (out ++ [⟨a.seq, a.time, x, a.vals⟩]) := by
            intro q o e n c he y hy
            rw [q4] at he
            cases he
            rcases List.mem_append.1 hy with hy | hy
            · obtain ⟨id, off, cap, e4, e5, e6⟩ := hold y hy
              exact ⟨id, off, cap, e4, by have := k4.1; omega⟩
            · simp only [List.mem_singleton] at hy
              subst hy
              exact ⟨xq, 0, none, hx, by have : τ4.size = τ3.size := by rw [hτ4, AHeap.size_put]
                                         omega⟩
          simp (maxDischargeDepth := 99) [hlen, f8, hw]
          refine ⟨l.length - (i + 1), y1 hlt, i + 1, out ++ [⟨a.seq, a.time, x, a.vals⟩], rfl, hlt, by simp [hol], by rw [htk]; simp [hkey, Arr.key], hro5, by simpa [hlen] using hrl5, by simp [hlen, q4], by simp [hlen], by simp [hlen, f6], by simp [hlen, f7], by simp [hlen], ?_, k5⟩
          simp [hlen, acells_append, acells, Arr.cells]
          exact q1
        · obtain rfl : i = l.length := by omega
          rw [List.take_of_length_le (Nat.le_refl _)] at hkey
          simp (maxDischargeDepth := 99) [c23_0, hlen, f7, f8]
          exact ⟨out, hol, hkey, hro, by simp [hlen], by simpa [hlen] using hO, hk⟩
      · exact ⟨0, [], rfl, Nat.zero_le _, rfl, rfl, (fun a ha => by cases ha), (fun _ _ _ _ _ _ a ha => by cases ha), (fun _ => rfl), by simp, by simp, by simp, by simp, by simpa [acells] using OutSl.nil _ _ _, Keeps.refl _⟩
    · rintro fr τ ⟨out, hol, hkey, hro, hlen, hO, hk⟩
      simp (maxDischargeDepth := 99) [hlen]
      exact ⟨out, hkey, hro, hO, hk⟩
end Go.Proofs.YthjijjkoeoemgaaGreat.Ab
