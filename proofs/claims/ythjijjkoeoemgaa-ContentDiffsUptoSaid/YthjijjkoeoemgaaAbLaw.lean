/- From a run of the abstract machine over read arguments to what a row asks. -/
import Derived.Test.YthjijjkoeoemgaaAbIn
import Derived.Test.YthjijjkoeoemgaaAbSim3
import Derived.WalkKit
import Derived.JoinedCond
namespace Go.Proofs.Ythjijjkoeoemgaa.Ab
open Go Go.RowKit Go.ChangeShapes Go.WideShapes Go.ChangeAt
set_option linter.unusedSimpArgs false
set_option linter.unusedVariables false

theorem trodAll_length {P : Program} {H : Type} {enc : TypeId × Value → H} {w : World} {base : Nat} {spare : Nat → Bool} {held : Bool} : ∀ {ts : List TypeId} {vs : List Value} {ds : List (DataW H)} {ps : List MemPlace},
    DataW.TrodAll enc P w base spare held ts vs ds ps → ds.length = ts.length
  | [], [], [], _, _ => rfl
  | _ :: ts, _ :: vs, _ :: ds, _, h => by
    obtain ⟨_, _, _, h2, _⟩ := h
    simp [trodAll_length h2]
  | [], [], _ :: _, _, h => h.elim
  | [], _ :: _, _, _, h => h.elim
  | _ :: _, [], _, _, h => h.elim
  | _ :: _, _ :: _, [], _, h => h.elim

theorem law_contract {P : Program} {C : Ctx} (hC : C.Good P) {f : Nat} {fn : Func} {s : ChangeSpec} {T : List TypeId} {tb : TypeId} (hT : plainTs P T = true)
    (hpar : (fn.params.toList.all fun t => T.contains t && P.readableRec t && Nat.blt t P.types.size) = true) (hl : laidOutB P = true) (hbt : fn.resultTypes = #[tb]) (hb : P.underlying tb = some .bool) (hvars : s.vars = [])
    (hfn : ∀ (H : Type) (ds : List (DataW H)), ds.length = fn.params.size → s.fn H (ds ++ []) = { results := [.lit (.bool true)], args := ds })
    (run : ∀ σ avs b, RdA P σ.get fn.params.toList avs b → b ≤ 1048576 → ∃ n σ', evCall C n f avs σ = some (.one (.bool true), σ'))
    (H : Type) (enc : TypeId × Value → H) (W : World) (base : Nat) (args : Array Value) (ds gs : List (DataW H)) (before : List MemPlace)
    (hval : ∀ (j : Nat) t v, fn.params[j]? = some t → args[j]? = some v → Value.okWide P W .any base t v)
    (hW : DataW.Whole enc P fn.params.toList s.vars false W args.toList ds gs before) (hk : Rows.uptoBulkAll (ds ++ gs) ≤ 1048576) :
    Calls P f args W fun e W' => ∃ v, e = .returned v ∧ s.post enc P fn false true false false W args v W' := by
  have hW' := hW
  obtain ⟨p, q, hA, hV, rfl, hfz, hnd⟩ := hW
  have hgs : gs = [] := by
    rw [hvars] at hV
    cases gs with
    | nil => rfl
    | cons => exact hV.elim
  subst hgs
  have hq : q = [] := by
    rw [hvars] at hV
    exact hV
  subst hq
  rw [List.append_nil] at hk
  rw [List.all_eq_true] at hpar
  have hts : ∀ t ∈ fn.params.toList, t ∈ T := by
    intro t ht
    have := hpar t ht
    simp only [Bool.and_eq_true] at this
    simpa using this.1.1
  obtain ⟨ρ, σ, avs, b, _, hin, hvs, hrd, hle⟩ := imports_args (H := H) (enc := enc) (w := W) hT (base := base) fn.params.toList args.toList ds p hts hA
    (fun j t v h1 h2 => hval j t v (by simpa using h1) (by simpa using h2)) noLoc emptyH (In.empty W)
  obtain ⟨n, σ', he⟩ := run σ avs b hrd (by omega)
  have hcalls := law_calls hC he hvs hin.hr hin.noOwn
  have hcalls : Calls P f args W fun e w' => e = .returned (.bool true) ∧ Below W.heap.size W w' := by simpa using hcalls
  refine hcalls.mono fun e W' ⟨he, hbel⟩ => ?_
  subst he
  refine ⟨_, rfl, law_post (tb := tb) hl ?_ hbt hb hvars hW' (hfn H ds ?_) hbel⟩
  · intro t ht
    have := hpar t ht
    simp only [Bool.and_eq_true] at this
    exact ⟨this.1.2, by simpa [Nat.blt_eq] using this.2⟩
  · have := trodAll_length hA
    simpa using this

/-! ### what is read, as lists -/
section
variable {P : Program} {g : Nat → Option AObj}

theorem rd_int {t : TypeId} {k : IntKind} (ht : P.underlying t = some (.int k)) {ss : List SV} {b : Nat} (h : Rd P g t ss b) : ∃ n, ss = [.int k n] ∧ (Lit.int k n).wf = true := by
  cases h with
  | int h1 n hn => rw [ht] at h1; cases h1; exact ⟨n, rfl, hn⟩
  | bool h1 => rw [ht] at h1; cases h1
  | str h1 => rw [ht] at h1; cases h1
  | nilSlice h1 => rw [ht] at h1; cases h1
  | slice h1 => rw [ht] at h1; cases h1
  | struct h1 => rw [ht] at h1; cases h1
  | array h1 => rw [ht] at h1; cases h1
theorem rd_bool {t : TypeId} (ht : P.underlying t = some .bool) {ss : List SV} {b : Nat} (h : Rd P g t ss b) : ∃ n, ss = [.bool n] := by
  cases h with
  | int h1 n hn => rw [ht] at h1; cases h1
  | bool h1 b => exact ⟨b, rfl⟩
  | str h1 => rw [ht] at h1; cases h1
  | nilSlice h1 => rw [ht] at h1; cases h1
  | slice h1 => rw [ht] at h1; cases h1
  | struct h1 => rw [ht] at h1; cases h1
  | array h1 => rw [ht] at h1; cases h1
theorem rd_str {t : TypeId} (ht : P.underlying t = some .string) {ss : List SV} {b : Nat} (h : Rd P g t ss b) : ∃ s, ss = [.str s] ∧ b = s.length + 1 := by
  cases h with
  | int h1 n hn => rw [ht] at h1; cases h1
  | bool h1 b => rw [ht] at h1; cases h1
  | str h1 s => exact ⟨s, rfl, rfl⟩
  | nilSlice h1 => rw [ht] at h1; cases h1
  | slice h1 => rw [ht] at h1; cases h1
  | struct h1 => rw [ht] at h1; cases h1
  | array h1 => rw [ht] at h1; cases h1
theorem rd_slice {t e : TypeId} (ht : P.underlying t = some (.slice e)) {ss : List SV} {b : Nat} (h : Rd P g t ss b) :
    (ss = [.nilSlice]) ∨ ∃ id len c cap cells, ss = [.slice id 0 (P.cellsOf e) len cap] ∧ b = c + 1 ∧ g id = some ⟨cells, .ro⟩ ∧ RdL P g e cells len c := by
  cases h with
  | int h1 n hn => rw [ht] at h1; cases h1
  | bool h1 b => rw [ht] at h1; cases h1
  | str h1 s => rw [ht] at h1; cases h1
  | nilSlice h1 => exact .inl rfl
  | slice h1 id len c cap cells h2 h3 => rw [ht] at h1; cases h1; exact .inr ⟨id, len, c, cap, cells, rfl, rfl, h2, h3⟩
  | struct h1 => rw [ht] at h1; cases h1
  | array h1 => rw [ht] at h1; cases h1
theorem rd_struct {t : TypeId} {fs : Array Field} (ht : P.underlying t = some (.struct fs)) {ss : List SV} {b : Nat} (h : Rd P g t ss b) : ∃ c, b = c + 1 ∧ RdF P g (fs.toList.map (·.type)) ss c := by
  cases h with
  | int h1 n hn => rw [ht] at h1; cases h1
  | bool h1 b => rw [ht] at h1; cases h1
  | str h1 s => rw [ht] at h1; cases h1
  | nilSlice h1 => rw [ht] at h1; cases h1
  | slice h1 => rw [ht] at h1; cases h1
  | struct h1 _ c h2 => rw [ht] at h1; cases h1; exact ⟨c, rfl, h2⟩
  | array h1 => rw [ht] at h1; cases h1
theorem rd_array {t e : TypeId} {n : Nat} (ht : P.underlying t = some (.array n e)) {ss : List SV} {b : Nat} (h : Rd P g t ss b) : ∃ c, b = c + 1 ∧ RdL P g e ss n c := by
  cases h with
  | int h1 n hn => rw [ht] at h1; cases h1
  | bool h1 b => rw [ht] at h1; cases h1
  | str h1 s => rw [ht] at h1; cases h1
  | nilSlice h1 => rw [ht] at h1; cases h1
  | slice h1 => rw [ht] at h1; cases h1
  | struct h1 => rw [ht] at h1; cases h1
  | array h1 _ c h2 => rw [ht] at h1; cases h1; exact ⟨c, rfl, h2⟩
theorem rdF_nil {ss : List SV} {b : Nat} (h : RdF P g [] ss b) : ss = [] ∧ b = 0 := by cases h; exact ⟨rfl, rfl⟩
theorem rdF_cons {t : TypeId} {ts : List TypeId} {ss : List SV} {b : Nat} (h : RdF P g (t :: ts) ss b) : ∃ s1 s2 b1 b2, ss = s1 ++ s2 ∧ b = b1 + b2 ∧ Rd P g t s1 b1 ∧ RdF P g ts s2 b2 := by
  cases h with
  | cons h k => exact ⟨_, _, _, _, rfl, rfl, h, k⟩
theorem rdL_nil {e : TypeId} {ss : List SV} {b : Nat} (h : RdL P g e ss 0 b) : ss = [] ∧ b = 0 := by cases h; exact ⟨rfl, rfl⟩
theorem rdL_cons {e : TypeId} {n : Nat} {ss : List SV} {b : Nat} (h : RdL P g e ss (n + 1) b) : ∃ s1 s2 b1 b2, ss = s1 ++ s2 ∧ b = b1 + b2 ∧ Rd P g e s1 b1 ∧ RdL P g e s2 n b2 := by
  cases h with
  | cons h k => exact ⟨_, _, _, _, rfl, rfl, h, k⟩
theorem rdA_one {t : TypeId} (ha : aggT P t = false) {ts : List TypeId} {avs : List AV} {b : Nat} (h : RdA P g (t :: ts) avs b) : ∃ s l b1 b2, avs = .one s :: l ∧ b = b1 + b2 ∧ Rd P g t [s] b1 ∧ RdA P g ts l b2 := by
  cases h with
  | one _ h k => exact ⟨_, _, _, _, rfl, rfl, h, k⟩
  | agg h1 => rw [ha] at h1; cases h1
theorem rdA_agg {t : TypeId} (ha : aggT P t = true) {ts : List TypeId} {avs : List AV} {b : Nat} (h : RdA P g (t :: ts) avs b) : ∃ s l b1 b2, avs = .agg s :: l ∧ b = b1 + b2 ∧ Rd P g t s b1 ∧ RdA P g ts l b2 := by
  cases h with
  | one h1 => rw [ha] at h1; cases h1
  | agg _ h k => exact ⟨_, _, _, _, rfl, rfl, h, k⟩
theorem rdA_nil {avs : List AV} {b : Nat} (h : RdA P g [] avs b) : avs = [] := by cases h; rfl
theorem Rd.pos : ∀ {t : TypeId} {ss : List SV} {b : Nat}, Rd P g t ss b → 1 ≤ b
  | _, _, _, .bool _ _ => Nat.le_refl _
  | _, _, _, .int _ _ _ => Nat.le_refl _
  | _, _, _, .str _ _ => by omega
  | _, _, _, .nilSlice _ => Nat.le_refl _
  | _, _, _, .slice _ _ _ _ _ _ _ _ => by omega
  | _, _, _, .struct _ _ _ _ => by omega
  | _, _, _, .array _ _ _ _ => by omega
theorem RdL.le : ∀ {n : Nat} {t : TypeId} {ss : List SV} {b : Nat}, RdL P g t ss n b → n ≤ b
  | 0, _, _, _, _ => Nat.zero_le _
  | n + 1, _, _, _, h => by
    obtain ⟨s1, s2, b1, b2, rfl, rfl, h1, h2⟩ := rdL_cons h
    have := h1.pos
    have := RdL.le h2
    omega

/-- Ints, one behind the other. -/
theorem rdL_ints {e : TypeId} {k : IntKind} (he : P.underlying e = some (.int k)) : ∀ {n : Nat} {ss : List SV} {b : Nat}, RdL P g e ss n b → ∃ l : List Int, l.length = n ∧ ss = l.map (SV.int k) ∧ ∀ x ∈ l, (Lit.int k x).wf = true
  | 0, _, _, h => by
    obtain ⟨rfl, rfl⟩ := rdL_nil h
    exact ⟨[], rfl, rfl, fun x hx => by cases hx⟩
  | n + 1, _, _, h => by
    obtain ⟨s1, s2, b1, b2, rfl, rfl, h1, h2⟩ := rdL_cons h
    obtain ⟨x, rfl, hx⟩ := rd_int he h1
    obtain ⟨l, h3, rfl, h4⟩ := rdL_ints he h2
    exact ⟨x :: l, by simp [h3], rfl, fun y hy => by
      cases hy with
      | head => exact hx
      | tail _ hy => exact h4 y hy⟩
end

theorem wf64 {n : Int} (h : (Lit.int .i64 n).wf = true) : -9223372036854775808 ≤ n ∧ n ≤ 9223372036854775807 := by
  have e1 : IntKind.i64.min = -9223372036854775808 := by decide
  have e2 : IntKind.i64.max = 9223372036854775807 := by decide
  simpa [Lit.wf, e1, e2] using h

theorem rdList_one (md : Md) (hmd : md = .own ∨ md = .ro) : ∀ (l pre suf : List SV), rdList (some ⟨pre ++ l ++ suf, md⟩) none 1 pre.length l.length = some (l.map AV.one)
  | [], pre, suf => rfl
  | v :: l, pre, suf => by
    have ih := rdList_one md hmd l (pre ++ [v]) suf
    have e : pre ++ [v] ++ l ++ suf = pre ++ (v :: l) ++ suf := by simp
    rw [e] at ih
    simp only [List.length_append, List.length_cons, List.length_nil, Nat.zero_add] at ih
    simp only [List.length_cons, rdList, ih]
    have : rd (some ⟨pre ++ (v :: l) ++ suf, md⟩) none pre.length = some (.one v) := by
      rcases hmd with rfl | rfl <;> simp
    rw [this]
    rfl
end Go.Proofs.Ythjijjkoeoemgaa.Ab
