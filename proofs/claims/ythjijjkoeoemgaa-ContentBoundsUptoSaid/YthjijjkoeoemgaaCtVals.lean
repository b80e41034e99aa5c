/- Values and arrivals, as the machine keeps them. -/
import Derived.Test.YthjijjkoeoemgaaCtInts
namespace Go.Proofs.Ythjijjkoeoemgaa.Ab
open Go
set_option maxRecDepth 20000
set_option linter.unusedSimpArgs false
structure V where
  k : Int
  n : Int
  s : List UInt8
  deriving DecidableEq
def V.av (v : V) : AV := .agg [.int .i64 v.k, .int .i64 v.n, .str v.s]

def inI (n : Int) : Bool := decide (-9223372036854775808 ≤ n) && decide (n ≤ 9223372036854775807)
def avV : AV → Option V
  | .agg [.int .i64 k, .int .i64 n, .str s] => some ⟨k, n, s⟩
  | _ => none
theorem avV_spec {a : AV} {v : V} (h : avV a = some v) : a = v.av := by
  unfold avV at h
  split at h
  · cases h; rfl
  · cases h

theorem rd_lt {σ : AHeap} {id off : Nat} {agg : Option Nat} {a : AV} (h : rd (σ.get id) agg off = some a) : id < σ.size := by
  cases hg : σ.get id with
  | none => rw [hg] at h; cases h
  | some o => exact AHeap.get_lt hg


def valsOf : List AV → Option (List V)
  | [] => some []
  | a :: l => match avV a, valsOf l with
    | some v, some r => some (v :: r)
    | _, _ => none
theorem valsOf_spec : ∀ {l : List AV} {r : List V}, valsOf l = some r → l = r.map V.av
  | [], r, h => by simp [valsOf] at h; subst h; rfl
  | a :: l, r, h => by
    unfold valsOf at h
    split at h
    · rename_i v r' h1 h2
      cases h
      simp [valsOf_spec h2, avV_spec h1]
    · cases h
/-- The values of a slice. -/
def slVals (σ : AHeap) : AV → Option (List V)
  | .one .nilSlice => some []
  | .one (.slice id off e len _) => match Nat.beq e 3 && Nat.ble len maxElems, rdList (σ.get id) (some 3) 3 off len with
    | true, some l => valsOf l
    | _, _ => none
  | _ => none
theorem slVals_spec {σ : AHeap} {s : AV} {l : List V} (h : slVals σ s = some l) : (s = .one .nilSlice ∧ l = []) ∨
    ∃ id off cap, s = .one (.slice id off 3 l.length cap) ∧ (∀ i (h : i < l.length), rd (σ.get id) (some 3) (off + i * 3) = some l[i].av) ∧ l.length ≤ maxElems := by
  unfold slVals at h
  split at h
  · cases h; exact .inl ⟨rfl, rfl⟩
  · rename_i id off e len cap
    split at h
    · rename_i l' he hr
      obtain ⟨k1, k2⟩ := rdList_spec hr
      have := valsOf_spec h
      subst this
      simp at he
      obtain ⟨rfl, hm⟩ := he
      simp only [List.length_map] at k1
      subst k1
      refine .inr ⟨id, off, cap, rfl, fun i hi => ?_, hm⟩
      have := k2 i (by simpa using hi)
      simpa using this
    · cases h
  · cases h


def V.cells (v : V) : List SV := [.int .i64 v.k, .int .i64 v.n, .str v.s]
def vcells : List V → List SV
  | [] => []
  | v :: l => v.cells ++ vcells l
theorem vcells_append : ∀ (l m : List V), vcells (l ++ m) = vcells l ++ vcells m
  | [], m => rfl
  | v :: l, m => by simp [vcells, vcells_append l m]
theorem vcells_length : ∀ l : List V, (vcells l).length = l.length * 3
  | [] => rfl
  | v :: l => by simp [vcells, V.cells, vcells_length l]; omega
theorem vcells_plain : ∀ l : List V, plainL (vcells l) = true
  | [] => rfl
  | v :: l => by simp [vcells, V.cells, plainL, plainS, vcells_plain l]
theorem rdList_vcells (md : Md) (hmd : md = .own ∨ md = .ro) : ∀ (l : List V) (pre suf : List SV), rdList (some ⟨pre ++ vcells l ++ suf, md⟩) (some 3) 3 pre.length l.length = some (l.map V.av)
  | [], pre, suf => rfl
  | v :: l, pre, suf => by
    have ih := rdList_vcells md hmd l (pre ++ v.cells) suf
    have e : pre ++ v.cells ++ vcells l ++ suf = pre ++ vcells (v :: l) ++ suf := by simp [vcells]
    rw [e] at ih
    simp only [List.length_append] at ih
    have e3 : v.cells.length = 3 := rfl
    rw [e3] at ih
    simp only [List.length_cons, rdList, ih]
    have : rd (some ⟨pre ++ vcells (v :: l) ++ suf, md⟩) (some 3) pre.length = some v.av := by
      rcases hmd with rfl | rfl <;> simp [vcells, V.cells, V.av]
    rw [this]
    rfl
theorem valsOf_map : ∀ l : List V, valsOf (l.map V.av) = some l
  | [] => rfl
  | v :: l => by simp [valsOf, V.av, avV, valsOf_map l]
theorem slVals_at {σ : AHeap} {q : Nat} {cap : Option Nat} {md : Md} {l : List V} (h : σ.get q = some ⟨vcells l, md⟩) (hmd : md = .own ∨ md = .ro) (hm : l.length ≤ maxElems) :
    slVals σ (.one (.slice q 0 3 l.length cap)) = some l := by
  have := rdList_vcells md hmd l [] []
  simp at this
  simp [slVals, hm, h, this, valsOf_map]
theorem slVals_out {b : Nat} {τ : AHeap} {s : AV} {l : List V} (h : OutSl b τ 3 s (vcells l) l.length) (hm : l.length ≤ maxElems) : slVals τ s = some l := by
  rcases h.2 with ⟨rfl, h0⟩ | ⟨q, rfl, _, _, hg⟩
  · have : l = [] := List.length_eq_zero_iff.1 h0
    subst this
    rfl
  · exact slVals_at hg (.inl rfl) hm


theorem rdList_none (agg : Option Nat) (esz : Nat) : ∀ (n off : Nat) (l : List AV), rdList none agg esz off n = some l → n = 0
  | 0, _, _, _ => rfl
  | n + 1, off, l, h => by simp [rdList, rd] at h
theorem slVals_keeps {σ τ : AHeap} (hk : Keeps σ τ) {s : AV} {l : List V} (h : slVals σ s = some l) : slVals τ s = some l := by
  unfold slVals at h ⊢
  split at h
  · exact h
  · rename_i id off e len cap
    by_cases hid : id < σ.size
    · simp only [hk.2 id hid]
      exact h
    · have hg : σ.get id = none := AHeap.get_ge (by omega)
      rw [hg] at h
      split at h
      · rename_i l' he hr
        have h0 := rdList_none _ _ _ _ _ hr
        subst h0
        simp only [rdList, Option.some.injEq] at hr
        subst hr
        simp only [he, rdList]
        exact h
      · cases h
  · cases h


section
variable {P : Program} {g : Nat → Option AObj}
theorem rd_val {t ti ts : TypeId} {fs : Array Field} (ht : P.underlying t = some (.struct fs)) (hf : fs.toList.map (·.type) = [ti, ti, ts]) (hi : P.underlying ti = some (.int .i64)) (hs : P.underlying ts = some .string)
    {ss : List SV} {b : Nat} (h : Rd P g t ss b) : ∃ v : V, ss = v.cells ∧ inI v.n = true ∧ inI v.k = true ∧ v.s.length ≤ b := by
  obtain ⟨c, rfl, h'⟩ := rd_struct ht h
  clear h
  rw [hf] at h'
  have h := h'
  clear h'
  obtain ⟨s1, r1, b1, c1, rfl, rfl, h1, h⟩ := rdF_cons h
  obtain ⟨s2, r2, b2, c2, rfl, rfl, h2, h⟩ := rdF_cons h
  obtain ⟨s3, r3, b3, c3, rfl, rfl, h3, h⟩ := rdF_cons h
  obtain ⟨rfl, rfl⟩ := rdF_nil h
  obtain ⟨k, rfl, hk⟩ := rd_int hi h1
  obtain ⟨n, rfl, hn⟩ := rd_int hi h2
  obtain ⟨s, rfl, rfl⟩ := rd_str hs h3
  have e1 := wf64 hk
  have e2 := wf64 hn
  refine ⟨⟨k, n, s⟩, rfl, by simp [inI]; omega, by simp [inI]; omega, by simp only; omega⟩
theorem rdL_vals {t ti ts : TypeId} {fs : Array Field} (ht : P.underlying t = some (.struct fs)) (hf : fs.toList.map (·.type) = [ti, ti, ts]) (hi : P.underlying ti = some (.int .i64)) (hs : P.underlying ts = some .string) :
    ∀ {n : Nat} {ss : List SV} {b : Nat}, RdL P g t ss n b → ∃ l : List V, ss = vcells l ∧ l.length = n ∧ (∀ v ∈ l, inI v.n = true ∧ inI v.k = true ∧ v.s.length ≤ b)
  | 0, _, _, h => by
    obtain ⟨rfl, rfl⟩ := rdL_nil h
    exact ⟨[], rfl, rfl, fun v hv => by cases hv⟩
  | n + 1, _, _, h => by
    obtain ⟨s1, s2, b1, b2, rfl, rfl, h1, h2⟩ := rdL_cons h
    obtain ⟨v, rfl, k1, k2, k3⟩ := rd_val ht hf hi hs h1
    obtain ⟨l, rfl, h4, h5⟩ := rdL_vals ht hf hi hs h2
    refine ⟨v :: l, rfl, by simp [h4], fun x hx => ?_⟩
    cases hx with
    | head => exact ⟨k1, k2, by omega⟩
    | tail _ hx =>
      obtain ⟨q1, q2, q3⟩ := h5 x hx
      exact ⟨q1, q2, by omega⟩
end
theorem rd_slVals {P : Program} {σ : AHeap} {tl t ti ts : TypeId} {fs : Array Field} (htl : P.underlying tl = some (.slice t)) (ht : P.underlying t = some (.struct fs)) (hf : fs.toList.map (·.type) = [ti, ti, ts])
    (hi : P.underlying ti = some (.int .i64)) (hs : P.underlying ts = some .string) (hc : P.cellsOf t = 3) {s : SV} {b : Nat} (h : Rd P σ.get tl [s] b) (hb : b ≤ 1048576) :
    ∃ l : List V, slVals σ (.one s) = some l ∧ (l.all fun v => inI v.n) = true ∧ l.length ≤ b ∧ (∀ v ∈ l, inI v.k = true ∧ v.s.length ≤ b) := by
  rcases rd_slice htl h with h3 | ⟨id, len, c, cap, cells, h3, rfl, hg, hl⟩
  · cases h3
    exact ⟨[], rfl, rfl, Nat.zero_le _, fun v hv => by cases hv⟩
  · cases h3
    have hle := hl.le
    obtain ⟨l, rfl, hlen, h5⟩ := rdL_vals ht hf hi hs hl
    subst hlen
    have hmx : l.length ≤ maxElems := by unfold maxElems; omega
    rw [hc]
    refine ⟨l, slVals_at hg (.inr rfl) hmx, ?_, by omega, fun v hv => ⟨(h5 v hv).2.1, by have := (h5 v hv).2.2; omega⟩⟩
    rw [List.all_eq_true]
    exact fun v hv => (h5 v hv).1

/-! ### arrivals -/
structure Arr where
  seq : Int
  time : Int
  row : SV
  vals : List V
def Arr.cells (a : Arr) : List SV := [.int .i64 a.seq, .int .i64 a.time, a.row]
def Arr.av (a : Arr) : AV := .agg a.cells
def a0 : Arr := ⟨0, 0, .nilSlice, []⟩
def rAt (l : List Arr) (i : Nat) : Arr := l.getD i a0
def acells : List Arr → List SV
  | [] => []
  | a :: l => a.cells ++ acells l
theorem acells_append : ∀ (l m : List Arr), acells (l ++ m) = acells l ++ acells m
  | [], m => rfl
  | v :: l, m => by simp [acells, acells_append l m]
theorem acells_length : ∀ l : List Arr, (acells l).length = l.length * 3
  | [] => rfl
  | v :: l => by simp [acells, Arr.cells, acells_length l]; omega
theorem acells_part : ∀ (l : List Arr) (i : Nat), i < l.length → partA (acells l) (some 3) (i * 3) = some (rAt l i).av
  | [], i, h => absurd h (Nat.not_lt_zero _)
  | v :: l, 0, _ => by
    have e : 3 ≤ (acells (v :: l)).length := by rw [acells_length, List.length_cons]; omega
    simp [partA, e, acells, Arr.cells, rAt, Arr.av]
  | v :: l, i + 1, h => by
    have ih := acells_part l i (by simpa using h)
    simp only [partA, ble_dec] at ih ⊢
    have e : (i + 1) * 3 = i * 3 + 3 := by omega
    have hlt : i < l.length := by simpa using h
    have h1 : i * 3 + 3 ≤ (acells l).length := by rw [acells_length]; omega
    have h2 : (i + 1) * 3 + 3 ≤ (acells (v :: l)).length := by rw [acells_length, List.length_cons]; omega
    simp only [h1, h2, decide_true] at ih ⊢
    have h3 : (acells (v :: l)).drop ((i + 1) * 3) = (acells l).drop (i * 3) := by
      rw [e]
      simp [acells, Arr.cells, List.drop_append]
    rw [h3, ih]
    simp [rAt]
theorem acells_get : ∀ (l : List Arr) (i : Nat), i < l.length → (acells l)[i * 3]? = some (.int .i64 (rAt l i).seq) ∧ (acells l)[i * 3 + 1]? = some (.int .i64 (rAt l i).time) ∧ (acells l)[i * 3 + 2]? = some (rAt l i).row
  | [], i, h => absurd h (Nat.not_lt_zero _)
  | p :: l, 0, _ => ⟨rfl, rfl, rfl⟩
  | p :: l, i + 1, h => by
    have ih := acells_get l i (by simpa using h)
    have e : (i + 1) * 3 = i * 3 + 1 + 1 + 1 := by omega
    rw [e]
    simpa [acells, Arr.cells, rAt] using ih
/-- The rows hold what the arrivals say. -/
def RowsOk (σ : AHeap) (l : List Arr) : Prop := ∀ a ∈ l, slVals σ (.one a.row) = some a.vals
theorem RowsOk.keeps {σ τ : AHeap} {l : List Arr} (h : RowsOk σ l) (hk : Keeps σ τ) : RowsOk τ l := fun a ha => slVals_keeps hk (h a ha)
/-- The arrivals of a slice. -/
def Arrs (σ : AHeap) (s : AV) (l : List Arr) : Prop := ((s = .one .nilSlice ∧ l = []) ∨ ∃ id off cap md, s = .one (.slice id (off * 3) 3 l.length cap) ∧ (md = .own ∨ md = .ro) ∧ l.length ≤ maxElems ∧
  ∃ pre suf, pre.length = off ∧ σ.get id = some ⟨acells (pre ++ l ++ suf), md⟩) ∧ RowsOk σ l
theorem rAt_mem {l : List Arr} {i : Nat} (h : i < l.length) : rAt l i ∈ l := by
  have : rAt l i = l[i] := by simp [rAt, List.getD, h]
  rw [this]
  exact List.getElem_mem h
theorem rAt_mid {pre l suf : List Arr} {i : Nat} (h : i < l.length) : rAt (pre ++ l ++ suf) (pre.length + i) = rAt l i := by
  have h1 : (pre ++ l ++ suf)[pre.length + i]? = l[i]? := by
    rw [List.append_assoc, List.getElem?_append_right (by omega), show pre.length + i - pre.length = i by omega, List.getElem?_append_left h]
  unfold rAt List.getD
  rw [h1]
/-- What a load of the i-th arrival reads, whole and cell by cell. -/
theorem Arrs.rd {σ : AHeap} {s : AV} {l : List Arr} (h : Arrs σ s l) : (s = .one .nilSlice ∧ l = []) ∨ ∃ id off cap, s = .one (.slice id off 3 l.length cap) ∧ l.length ≤ maxElems ∧ ∀ i, i < l.length →
    rd (σ.get id) (some 3) (off + i * 3) = some (rAt l i).av ∧ rd (σ.get id) none (off + i * 3) = some (.one (.int .i64 (rAt l i).seq)) ∧ rd (σ.get id) none (off + i * 3 + 1) = some (.one (.int .i64 (rAt l i).time)) ∧
      rd (σ.get id) none (off + i * 3 + 2) = some (.one (rAt l i).row) := by
  rcases h.1 with h | ⟨id, off, cap, md, h1, h2, h3, pre, suf, h4, h5⟩
  · exact .inl h
  · refine .inr ⟨id, off * 3, cap, h1, h3, fun i hi => ?_⟩
    have hlt : pre.length + i < (pre ++ l ++ suf).length := by simp only [List.length_append]; omega
    have e : off * 3 + i * 3 = (pre.length + i) * 3 := by rw [← h4]; omega
    have q0 := acells_part (pre ++ l ++ suf) (pre.length + i) hlt
    obtain ⟨q1, q2, q3⟩ := acells_get (pre ++ l ++ suf) (pre.length + i) hlt
    rw [rAt_mid hi] at q0 q1 q2 q3
    rw [h5, e]
    generalize acells (pre ++ l ++ suf) = m at q0 q1 q2 q3
    rcases h2 with rfl | rfl
    · exact ⟨q0, by simp [rd_own, partA, q1], by simp [rd_own, partA, q2], by simp [rd_own, partA, q3]⟩
    · exact ⟨q0, by simp [rd_ro, partA, q1], by simp [rd_ro, partA, q2], by simp [rd_ro, partA, q3]⟩
theorem Arrs.keeps {σ τ : AHeap} {s : AV} {l : List Arr} (h : Arrs σ s l) (hk : Keeps σ τ) : Arrs τ s l := by
  refine ⟨?_, h.2.keeps hk⟩
  rcases h.1 with h | ⟨id, off, cap, md, h1, h2, h3, pre, suf, h4, h5⟩
  · exact .inl h
  · exact .inr ⟨id, off, cap, md, h1, h2, h3, pre, suf, h4, by rw [hk.2 id (AHeap.get_lt h5), h5]⟩
/-- Arrivals that were read. -/
theorem rdL_arrs {P : Program} {σ : AHeap} {ta ti tv tV ts : TypeId} {fs gs : Array Field} (ht : P.underlying ta = some (.struct fs)) (hf : fs.toList.map (·.type) = [ti, ti, tv]) (hi : P.underlying ti = some (.int .i64))
    (hv : P.underlying tv = some (.slice tV)) (hV : P.underlying tV = some (.struct gs)) (hg : gs.toList.map (·.type) = [ti, ti, ts]) (hs : P.underlying ts = some .string) (hc : P.cellsOf tV = 3) :
    ∀ {n : Nat} {ss : List SV} {b : Nat}, RdL P σ.get ta ss n b → b ≤ 1048576 → ∃ l : List Arr, ss = acells l ∧ l.length = n ∧ RowsOk σ l ∧ ∀ a ∈ l, (inI a.seq = true ∧ inI a.time = true) ∧ a.vals.length ≤ b ∧ (a.vals.all fun v => inI v.n) = true
  | 0, _, _, h, _ => by
    obtain ⟨rfl, rfl⟩ := rdL_nil h
    exact ⟨[], rfl, rfl, (fun a ha => by cases ha), (fun a ha => by cases ha)⟩
  | n + 1, _, _, h, hb => by
    obtain ⟨s1, s2, b1, b2, rfl, rfl, h1, h2⟩ := rdL_cons h
    obtain ⟨c, rfl, h3⟩ := rd_struct ht h1
    rw [hf] at h3
    obtain ⟨x1, r1, c1, d1, rfl, rfl, k1, h3⟩ := rdF_cons h3
    obtain ⟨x2, r2, c2, d2, rfl, rfl, k2, h3⟩ := rdF_cons h3
    obtain ⟨x3, r3, c3, d3, rfl, rfl, k3, h3⟩ := rdF_cons h3
    obtain ⟨rfl, rfl⟩ := rdF_nil h3
    obtain ⟨q, rfl, hq⟩ := rd_int hi k1
    obtain ⟨t, rfl, htm⟩ := rd_int hi k2
    have hsg : ∃ s, x3 = [s] := by
      rcases rd_slice hv k3 with e | ⟨id, len, c, cap, cells, e, _⟩
      · exact ⟨_, e⟩
      · exact ⟨_, e⟩
    obtain ⟨s, rfl⟩ := hsg
    obtain ⟨vs, hvs, hvi, hvl, _⟩ := rd_slVals hv hV hg hi hs hc k3 (by omega)
    obtain ⟨l, rfl, h4, h5, h6⟩ := rdL_arrs ht hf hi hv hV hg hs hc h2 (by omega)
    have w1 := wf64 hq
    have w2 := wf64 htm
    refine ⟨⟨q, t, s, vs⟩ :: l, rfl, by simp [h4], fun a ha => ?_, fun a ha => ?_⟩
    · cases ha with
      | head => exact hvs
      | tail _ ha => exact h5 a ha
    · cases ha with
      | head => exact ⟨⟨by simp [inI]; omega, by simp [inI]; omega⟩, by simp only; omega, hvi⟩
      | tail _ ha => exact ⟨(h6 a ha).1, by have := (h6 a ha).2.1; omega, (h6 a ha).2.2⟩
theorem rd_arrs {P : Program} {σ : AHeap} {tl ta ti tv tV ts : TypeId} {fs gs : Array Field} (htl : P.underlying tl = some (.slice ta)) (ht : P.underlying ta = some (.struct fs)) (hf : fs.toList.map (·.type) = [ti, ti, tv]) (hi : P.underlying ti = some (.int .i64))
    (hv : P.underlying tv = some (.slice tV)) (hV : P.underlying tV = some (.struct gs)) (hg : gs.toList.map (·.type) = [ti, ti, ts]) (hs : P.underlying ts = some .string) (hc : P.cellsOf tV = 3) (hc2 : P.cellsOf ta = 3)
    {s : SV} {b : Nat} (h : Rd P σ.get tl [s] b) (hb : b ≤ 1048576) : ∃ l : List Arr, Arrs σ (.one s) l ∧ l.length ≤ b ∧ ∀ a ∈ l, (inI a.seq = true ∧ inI a.time = true) ∧ a.vals.length ≤ b ∧ (a.vals.all fun v => inI v.n) = true := by
  rcases rd_slice htl h with h3 | ⟨id, len, c, cap, cells, h3, rfl, hgt, hl⟩
  · cases h3
    exact ⟨[], ⟨.inl ⟨rfl, rfl⟩, (fun a ha => by cases ha)⟩, Nat.zero_le _, (fun a ha => by cases ha)⟩
  · cases h3
    have hle := hl.le
    obtain ⟨l, rfl, hlen, h5, h6⟩ := rdL_arrs ht hf hi hv hV hg hs hc hl (by omega)
    subst hlen
    rw [hc2]
    refine ⟨l, ⟨.inr ⟨id, 0, cap, .ro, rfl, .inr rfl, by unfold maxElems; omega, [], [], rfl, by simpa using hgt⟩, h5⟩, by omega, fun a ha => ⟨(h6 a ha).1, by have := (h6 a ha).2.1; omega, (h6 a ha).2.2⟩⟩

end Go.Proofs.Ythjijjkoeoemgaa.Ab
