/- Timers: their cells, their order, the heap's plain functions. -/
import Derived.Test.YtdgffilnefnjjaaAbClosed
import Derived.Test.YtdgffilnefnjjaaLitTim
namespace Go.Proofs.Ytdgffilnefnjjaa.Ab
open Go
set_option maxRecDepth 20000
set_option maxHeartbeats 4000000
set_option linter.unusedSimpArgs false

structure T where
  at' : Int
  stmt : Int
  seq : Int
  deriving DecidableEq
def T.cells (t : T) : List SV := [.int .i64 t.at', .int .i64 t.stmt, .int .i64 t.seq]
def T.av (t : T) : AV := .agg t.cells
def t0 : T := ⟨0, 0, 0⟩
def tcells : List T → List SV
  | [] => []
  | t :: l => t.cells ++ tcells l
theorem tcells_append : ∀ (l m : List T), tcells (l ++ m) = tcells l ++ tcells m
  | [], m => rfl
  | v :: l, m => by simp [tcells, tcells_append l m]
theorem tcells_length : ∀ l : List T, (tcells l).length = l.length * 3
  | [] => rfl
  | v :: l => by simp [tcells, T.cells, tcells_length l]; omega
theorem tcells_plain : ∀ l : List T, plainL (tcells l) = true
  | [] => rfl
  | v :: l => by simp [tcells, T.cells, plainL, plainS, tcells_plain l]
def tAt (l : List T) (i : Nat) : T := l.getD i t0
theorem tcells_part : ∀ (l : List T) (i : Nat), i < l.length → partA (tcells l) (some 3) (i * 3) = some (tAt l i).av
  | [], i, h => absurd h (Nat.not_lt_zero _)
  | v :: l, 0, _ => by
    have e : 3 ≤ (tcells (v :: l)).length := by rw [tcells_length, List.length_cons]; omega
    simp [partA, e, tcells, T.cells, tAt, T.av]
  | v :: l, i + 1, h => by
    have ih := tcells_part l i (by simpa using h)
    simp only [partA, ble_dec] at ih ⊢
    have e : (i + 1) * 3 = i * 3 + 3 := by omega
    have hlt : i < l.length := by simpa using h
    have h1 : i * 3 + 3 ≤ (tcells l).length := by rw [tcells_length]; omega
    have h2 : (i + 1) * 3 + 3 ≤ (tcells (v :: l)).length := by rw [tcells_length, List.length_cons]; omega
    simp only [h1, h2, decide_true] at ih ⊢
    have h3 : (tcells (v :: l)).drop ((i + 1) * 3) = (tcells l).drop (i * 3) := by
      rw [e]
      simp [tcells, T.cells, List.drop_append]
    rw [h3, ih]
    simp [tAt]
theorem splice_cons (v : T) (l : List T) (i : Nat) (vs : List SV) : splice (tcells (v :: l)) ((i + 1) * 3) vs = v.cells ++ splice (tcells l) (i * 3) vs := by
  have e : (i + 1) * 3 = i * 3 + 3 := by omega
  unfold splice
  have h1 : (tcells (v :: l)).take ((i + 1) * 3) = v.cells ++ (tcells l).take (i * 3) := by
    rw [e]; simp [tcells, T.cells, List.take_append]
  have h2 : (tcells (v :: l)).drop ((i + 1) * 3 + vs.length) = (tcells l).drop (i * 3 + vs.length) := by
    rw [show (i + 1) * 3 + vs.length = i * 3 + vs.length + 3 by omega]; simp [tcells, T.cells, List.drop_append]
  rw [h1, h2]
  simp
theorem tcells_splice : ∀ (l : List T) (i : Nat) (t : T), i < l.length → splice (tcells l) (i * 3) [.int .i64 t.at', .int .i64 t.stmt, .int .i64 t.seq] = tcells (l.set i t)
  | [], i, t, h => absurd h (Nat.not_lt_zero _)
  | v :: l, 0, t, _ => by simp [splice, tcells, T.cells]
  | v :: l, i + 1, t, h => by
    rw [splice_cons, tcells_splice l i t (by simpa using h)]
    simp [tcells]

/-! ### less -/
def lessT (a b : T) : Bool := if a.at' = b.at' then (if a.stmt = b.stmt then decide (a.seq < b.seq) else decide (a.stmt < b.stmt)) else decide (a.at' < b.at')
def p41 : Prim := fun args σ => match args with
  | [.agg [.int .i64 a, .int .i64 b, .int .i64 c], .agg [.int .i64 d, .int .i64 e, .int .i64 f]] => some (.one (.bool (lessT ⟨a, b, c⟩ ⟨d, e, f⟩)), σ)
  | _ => none
theorem ok41 : PrimOk Try.prog 41 p41 := primOk_pure plainC_good fun args σ v σ' h => by
  unfold p41 at h
  split at h
  · rename_i a b c d e f
    cases h
    refine ⟨rfl, rfl, 4, evCall_code (by kernel_rfl) code41 ?_⟩
    unfold lessT
    by_cases h1 : a = d
    · by_cases h2 : b = e
      · simp (maxDischargeDepth := 99) [c41, h1, h2]
      · simp (maxDischargeDepth := 99) [c41, h1, h2]
    · simp (maxDischargeDepth := 99) [c41, h1]
  · cases h

theorem sure_runs : saysTrue (evCall plainC 60 32 [] emptyH) = true := by kernel_rfl
theorem ok32 : PrimOk Try.prog 32 (pBool true) := primOk_closed plainC_good sure_runs

/-! ### Same -/
def tOf : AV → Option T
  | .agg [.int .i64 a, .int .i64 b, .int .i64 c] => some ⟨a, b, c⟩
  | _ => none
theorem tOf_spec {a : AV} {t : T} (h : tOf a = some t) : a = t.av := by
  unfold tOf at h
  split at h
  · cases h; rfl
  · cases h
def tsOf : List AV → Option (List T)
  | [] => some []
  | a :: l => match tOf a, tsOf l with
    | some t, some r => some (t :: r)
    | _, _ => none
theorem tsOf_spec : ∀ {l : List AV} {r : List T}, tsOf l = some r → l = r.map T.av
  | [], r, h => by simp [tsOf] at h; subst h; rfl
  | a :: l, r, h => by
    unfold tsOf at h
    split at h
    · rename_i t r' h1 h2
      cases h
      rw [tOf_spec h1, tsOf_spec h2]
      rfl
    · cases h
theorem tsOf_map : ∀ l : List T, tsOf (l.map T.av) = some l
  | [] => rfl
  | v :: l => by
    have ih := tsOf_map l
    have e : tOf v.av = some v := rfl
    simp only [List.map_cons, tsOf, ih, e]
def slTs (σ : AHeap) : AV → Option (List T)
  | .one .nilSlice => some []
  | .one (.slice id off e len _) => match Nat.beq e 3 && Nat.ble len maxElems, rdList (σ.get id) (some 3) 3 off len with
    | true, some l => tsOf l
    | _, _ => none
  | _ => none
theorem slTs_spec {σ : AHeap} {s : AV} {l : List T} (h : slTs σ s = some l) : (s = .one .nilSlice ∧ l = []) ∨
    ∃ id off cap, s = .one (.slice id off 3 l.length cap) ∧ (∀ i, i < l.length → rd (σ.get id) (some 3) (off + i * 3) = some (tAt l i).av) ∧ l.length ≤ maxElems := by
  unfold slTs at h
  split at h
  · cases h; exact .inl ⟨rfl, rfl⟩
  · rename_i id off e len cap
    split at h
    · rename_i l' he hr
      obtain ⟨k1, k2⟩ := rdList_spec hr
      have := tsOf_spec h
      subst this
      simp at he
      obtain ⟨rfl, hm⟩ := he
      simp only [List.length_map] at k1
      subst k1
      refine .inr ⟨id, off, cap, rfl, fun i hi => ?_, hm⟩
      have := k2 i (by simpa using hi)
      simpa [tAt, List.getD, hi] using this
    · cases h
  · cases h
theorem rdList_tcells (md : Md) (hmd : md = .own ∨ md = .ro) : ∀ (l : List T) (pre suf : List SV), rdList (some ⟨pre ++ tcells l ++ suf, md⟩) (some 3) 3 pre.length l.length = some (l.map T.av)
  | [], pre, suf => rfl
  | v :: l, pre, suf => by
    have ih := rdList_tcells md hmd l (pre ++ v.cells) suf
    have e : pre ++ v.cells ++ tcells l ++ suf = pre ++ tcells (v :: l) ++ suf := by simp [tcells]
    rw [e] at ih
    simp only [List.length_append] at ih
    have e3 : v.cells.length = 3 := rfl
    rw [e3] at ih
    simp only [List.length_cons, rdList, ih]
    have : rd (some ⟨pre ++ tcells (v :: l) ++ suf, md⟩) (some 3) pre.length = some v.av := by
      rcases hmd with rfl | rfl <;> simp [tcells, T.cells, T.av]
    rw [this]
    rfl
theorem slTs_at {σ : AHeap} {q : Nat} {cap : Option Nat} {md : Md} {l : List T} (junk : List T) (h : σ.get q = some ⟨tcells (l ++ junk), md⟩) (hmd : md = .own ∨ md = .ro) (hm : l.length ≤ maxElems) :
    slTs σ (.one (.slice q 0 3 l.length cap)) = some l := by
  have := rdList_tcells md hmd l [] (tcells junk)
  simp only [List.nil_append, List.length_nil, ← tcells_append] at this
  simp [slTs, hm, h, this, tsOf_map]
theorem slTs_keeps {σ τ : AHeap} (hk : Keeps σ τ) {s : AV} {l : List T} (h : slTs σ s = some l) : slTs τ s = some l := by
  unfold slTs at h ⊢
  split at h
  · exact h
  · rename_i id off e len cap
    split at h
    · rename_i l' he hr
      by_cases hid : id < σ.size
      · rw [hk.2 id hid, he, hr]
        exact h
      · have : σ.get id = none := AHeap.get_ge (by omega)
        rw [this] at hr
        cases len with
        | zero =>
          simp only [rdList, Option.some.injEq] at hr
          subst hr
          rw [he]
          simp only [rdList]
          exact h
        | succ n => simp [rdList, rd] at hr
    · cases h
  · cases h
theorem slTs_out {b : Nat} {τ : AHeap} {s : AV} {l : List T} (h : OutSl b τ 3 s (tcells l) l.length) (hm : l.length ≤ maxElems) : slTs τ s = some l := by
  rcases h.2 with ⟨rfl, h0⟩ | ⟨q, rfl, _, _, hg⟩
  · have : l = [] := List.length_eq_zero_iff.1 h0
    subst this
    rfl
  · exact slTs_at [] (by simpa using hg) (.inl rfl) hm

noncomputable def D1 : Ctx := (plainC.lay 41 p41).lay 32 (pBool true)
theorem D1_good : D1.Good Try.prog := Ctx.lay_good (Ctx.lay_good plainC_good ok41) ok32
theorem D1_41 (n : Nat) (args : List AV) (σ : AHeap) : evCall D1 (n + 1) 41 args σ = p41 args σ := evCall_prim (by kernel_rfl) _ _ _
end Go.Proofs.Ytdgffilnefnjjaa.Ab
