/- The operations that look into no memory: what they answer in whatever world. -/
import Derived.Test.YthjijjkoeoemgaaAbOp1
import Derived.Laws.Slices
import Derived.Laws.StructEq
namespace Go.Proofs.Ythjijjkoeoemgaa.Ab
open Go
set_option linter.unusedSimpArgs false
set_option linter.unusedVariables false

/-- An operation that reads and writes no memory, and makes none. -/
def AOp.memless : AOp → Bool
  | .mov _ | .pick .. | .nilck _ | .bin .. | .eqv .. | .eqvS .. | .un .. | .conv .. | .build .. | .mkfn .. | .slice .. | .slstr .. | .slarr .. | .faddr .. | .field ..
  | .iaddr .. | .iaddrA .. | .idxS .. | .idxA .. | .extract .. | .len _ | .lenS _ | .cap _ | .minmax .. => true
  | _ => false

def LenRel (ρ : Loc) (g : Nat → Option AObj) : Prop := ∀ id B o, ρ id = some B → g id = some o → o.cells.length = B.clen ∧ B.base + B.clen ≤ B.n

theorem HR.lenRel {ρ : Loc} {g : Nat → Option AObj} {w : World} (h : HR ρ g w) : LenRel ρ g := by
  intro id B o h1 h2
  obtain ⟨o', k1, k2, _⟩ := h.dom id B h1
  rw [h2] at k1; cases k1
  exact ⟨k2.len, k2.fit⟩

section
variable {P : Program} {ρ : Loc}

theorem addr_add (b o n : Nat) : (⟨b, o, none⟩ : Addr).add n = ⟨b, o + n, none⟩ := by
  unfold Addr.add
  split <;> simp_all

/-! ### '==' -/
theorem eKind_run {t : TypeId} {k : EK} (h : eKind P t = some k) : ∃ td, P.underlying t = some td ∧ match k with
    | .bool => td = .bool
    | .int => ∃ i, td = .int i
    | .str => td = .string
    | .ptr => ∃ e, td = .pointer e
    | .slice => ∃ e, td = .slice e
    | .func => ∃ a b c, td = .func a b c := by
  unfold eKind at h
  split at h <;> cases h <;> refine ⟨_, ‹_›, ?_⟩ <;> first | rfl | exact ⟨_, rfl⟩ | exact ⟨_, _, _, rfl⟩

theorem eqS_cases {k : EK} {x y : SV} {b : Bool} (h : eqS k x y = some b) :
    (k = .bool ∧ ∃ a c, x = .bool a ∧ y = .bool c ∧ b = (a == c)) ∨
    (k = .int ∧ ∃ i a c, x = .int i a ∧ y = .int i c ∧ b = decide (a = c)) ∨
    (k = .str ∧ ∃ a c, x = .str a ∧ y = .str c ∧ b = beqL a c) ∨
    (k = .ptr ∧ ((x = .nilPtr ∧ y = .nilPtr ∧ b = true) ∨ (x = .nilPtr ∧ (∃ i o, y = .ptr i o) ∧ b = false) ∨ ((∃ i o, x = .ptr i o) ∧ y = .nilPtr ∧ b = false))) ∨
    (k = .slice ∧ ((x = .nilSlice ∧ y = .nilSlice ∧ b = true) ∨ (x = .nilSlice ∧ (∃ i o e l c, y = .slice i o e l c) ∧ b = false) ∨ ((∃ i o e l c, x = .slice i o e l c) ∧ y = .nilSlice ∧ b = false))) ∨
    (k = .func ∧ ((x = .nilFunc ∧ y = .nilFunc ∧ b = true) ∨ (x = .nilFunc ∧ (∃ f c, y = .func f c) ∧ b = false) ∨ ((∃ f c, x = .func f c) ∧ y = .nilFunc ∧ b = false))) := by
  unfold eqS at h
  split at h
  · cases h; exact .inl ⟨rfl, _, _, rfl, rfl, rfl⟩
  · rename_i k1 a k2 c
    split at h
    · rename_i hk
      have : k1 = k2 := of_decide_eq_true hk
      subst this
      cases h
      exact .inr (.inl ⟨rfl, _, _, _, rfl, rfl, rfl⟩)
    · cases h
  · cases h; exact .inr (.inr (.inl ⟨rfl, _, _, rfl, rfl, rfl⟩))
  · cases h; exact .inr (.inr (.inr (.inl ⟨rfl, .inl ⟨rfl, rfl, rfl⟩⟩)))
  · cases h; exact .inr (.inr (.inr (.inl ⟨rfl, .inr (.inl ⟨rfl, ⟨_, _, rfl⟩, rfl⟩)⟩)))
  · cases h; exact .inr (.inr (.inr (.inl ⟨rfl, .inr (.inr ⟨⟨_, _, rfl⟩, rfl, rfl⟩)⟩)))
  · cases h; exact .inr (.inr (.inr (.inr (.inl ⟨rfl, .inl ⟨rfl, rfl, rfl⟩⟩))))
  · cases h; exact .inr (.inr (.inr (.inr (.inl ⟨rfl, .inr (.inl ⟨rfl, ⟨_, _, _, _, _, rfl⟩, rfl⟩)⟩))))
  · cases h; exact .inr (.inr (.inr (.inr (.inl ⟨rfl, .inr (.inr ⟨⟨_, _, _, _, _, rfl⟩, rfl, rfl⟩)⟩))))
  · cases h; exact .inr (.inr (.inr (.inr (.inr ⟨rfl, .inl ⟨rfl, rfl, rfl⟩⟩))))
  · cases h; exact .inr (.inr (.inr (.inr (.inr ⟨rfl, .inr (.inl ⟨rfl, ⟨_, _, rfl⟩, rfl⟩)⟩))))
  · cases h; exact .inr (.inr (.inr (.inr (.inr ⟨rfl, .inr (.inr ⟨⟨_, _, rfl⟩, rfl, rfl⟩)⟩))))
  · cases h

theorem eqS_run {t : TypeId} {k : EK} {x y : SV} {u v : Value} {b : Bool} (d : Nat) (h : eqS k x y = some b) (hx : SR ρ x u) (hy : SR ρ y v)
    (ht : eKind P t = some k) (w : World) : (Op.equalIn (d + 1) t u v).run P w = .ok b w := by
  obtain ⟨td, hu, hk⟩ := eKind_run ht
  rcases eqS_cases h with ⟨rfl, a, c, rfl, rfl, rfl⟩ | ⟨rfl, i, a, c, rfl, rfl, rfl⟩ | ⟨rfl, a, c, rfl, rfl, rfl⟩ | ⟨rfl, hh⟩ | ⟨rfl, hh⟩ | ⟨rfl, hh⟩
  · subst hk
    cases hx; cases hy
    simp [Op.equalIn, run_underlying hu]
  · obtain ⟨j, rfl⟩ := hk
    cases hx; cases hy
    simp [Op.equalIn, run_underlying hu]
    rfl
  · subst hk
    cases hx; cases hy
    simp only [Op.equalIn, Sem.run_bind, run_underlying hu, Result.andThen_ok, beqL_eq, Sem.run_pure]
    rw [beq_toListBytes]
    simp
  · obtain ⟨e, rfl⟩ := hk
    rcases hh with ⟨rfl, rfl, rfl⟩ | ⟨rfl, ⟨i, o, rfl⟩, rfl⟩ | ⟨⟨i, o, rfl⟩, rfl, rfl⟩ <;> cases hx <;> cases hy <;> simp [Op.equalIn, run_underlying hu]
  · obtain ⟨e, rfl⟩ := hk
    rcases hh with ⟨rfl, rfl, rfl⟩ | ⟨rfl, ⟨i, o, e, l, c, rfl⟩, rfl⟩ | ⟨⟨i, o, e, l, c, rfl⟩, rfl, rfl⟩ <;> cases hx <;> cases hy <;> simp [Op.equalIn, run_underlying hu]
  · obtain ⟨e1, e2, e3, rfl⟩ := hk
    rcases hh with ⟨rfl, rfl, rfl⟩ | ⟨rfl, ⟨f, c, rfl⟩, rfl⟩ | ⟨⟨f, c, rfl⟩, rfl, rfl⟩ <;> cases hx <;> cases hy <;> simp [Op.equalIn, run_underlying hu]

/-! ### '==' of structs -/
theorem eqOffs_append {xs ys : List SV} : ∀ (l m : List (Nat × EK)), eqOffs xs ys (l ++ m) = match eqOffs xs ys l with
    | some true => eqOffs xs ys m
    | r => r
  | [], m => by simp [eqOffs]
  | (o, k) :: l, m => by
    simp only [List.cons_append, eqOffs]
    cases xs[o]? with
    | none => simp
    | some a =>
      cases ys[o]? with
      | none => simp
      | some b =>
        simp only
        cases eqS k a b with
        | none => simp
        | some r => cases r <;> simp [eqOffs_append l m]

/-- What stands at a place of a row of cells, at a type. -/
def ValAt (P : Program) (t : TypeId) (vs : List Value) (base : Nat) (v : Value) : Prop :=
  (tAgg P t = some none ∧ vs[base]? = some v) ∨ (∃ n A, tAgg P t = some (some n) ∧ v = .agg A ∧ ∀ j, j < n → A[j]? = vs[base + j]?)

theorem valAt_part {t : TypeId} {vs : List Value} {A : Array Value} {n base off k : Nat} (hA : ∀ j, j < n → A[j]? = vs[base + j]?) (hk : tWidth P t = some k) (hl : off + k ≤ n)
    (hv : base + n ≤ vs.length) : ∃ v, ValAt P t vs (base + off) v ∧ ∀ w, (part t A off).run P w = .ok v w := by
  unfold tWidth at hk
  split at hk
  · rename_i m hm
    cases hk
    refine ⟨.agg (A.extract off (off + k)), .inr ⟨k, _, hm, rfl, fun j hj => ?_⟩, fun w => by simp [part, (tAgg_some hm w).1, (tAgg_some hm w).2.1]⟩
    have h1 := hA (off + j) (by omega)
    rw [Nat.add_assoc, ← h1]
    have h2 : off + j < A.size := by
      have : (vs[base + (off + j)]?).isSome = true := by simp; omega
      rw [← h1] at this
      simpa using this
    rw [Array.getElem?_extract]
    split
    · rfl
    · omega
  · rename_i hm
    cases hk
    have h1 := hA off (by omega)
    have h2 : base + off < vs.length := by omega
    have h3 : vs[base + off]? = some vs[base + off] := List.getElem?_eq_getElem h2
    refine ⟨vs[base + off], .inl ⟨hm, h3⟩, fun w => ?_⟩
    rw [h3] at h1
    simp [part, tAgg_none hm w, h1]
  · cases hk

/-- A struct's fields, if each field's type is known to go well. -/
theorem eqFieldsRun {xs ys : List SV} {vs us : List Value} (d : Nat) (cells : TypeId → Nat → Option (List (Nat × EK)))
    (ih1 : ∀ t base l b D v u, cells t base = some l → eqOffs xs ys l = some b → ValAt P t vs base v → ValAt P t us base u →
      (∀ n, tAgg P t = some (some n) → base + n ≤ vs.length ∧ base + n ≤ us.length) → d ≤ D → ∀ w, (Op.equalIn D t v u).run P w = .ok b w)
    (n base : Nat) : ∀ (fs : List Field) (l : List (Nat × EK)) (b : Bool) (D : Nat) (A A' : Array Value), eqFields P cells n base fs = some l → eqOffs xs ys l = some b →
      (∀ j, j < n → A[j]? = vs[base + j]?) → (∀ j, j < n → A'[j]? = us[base + j]?) →
      base + n ≤ vs.length → base + n ≤ us.length → d ≤ D → ∀ w, (Op.eqFields D A A' fs).run P w = .ok b w := by
  intro fs
  induction fs with
  | nil =>
    intro l b D A A' h he _ _ _ _ _ w
    simp [eqFields] at h; subst h; simp [eqOffs] at he; subst he; simp [Op.eqFields]
  | cons f fs ihf =>
    intro l b D A A' h he hA hA' h1 h2 hD w
    simp only [eqFields] at h
    split at h
    · rename_i hn
      have hn' : f.name = "_" := by simpa using hn
      have := ihf l b D A A' h he hA hA' h1 h2 hD w
      simpa [Op.eqFields, hn'] using this
    · rename_i hn
      have hn' : f.name ≠ "_" := by simpa using hn
      split at h
      · rename_i k la lb hk hla hlb
        split at h
        · rename_i hle
          have hle' : f.offset + k ≤ n := by simpa using hle
          cases h
          obtain ⟨v1, hv1, hr1⟩ := valAt_part (P := P) hA hk hle' h1
          obtain ⟨u1, hu1, hs1⟩ := valAt_part (P := P) hA' hk hle' h2
          have hszf : ∀ m, tAgg P f.type = some (some m) → base + f.offset + m ≤ vs.length ∧ base + f.offset + m ≤ us.length := by
            intro m hm
            have : k = m := by
              unfold tWidth at hk; rw [hm] at hk; simpa using hk.symm
            omega
          rw [eqOffs_append] at he
          cases hq : eqOffs xs ys la with
          | none => rw [hq] at he; simp at he
          | some r =>
            have hrun := ih1 f.type (base + f.offset) la r D v1 u1 hla hq hv1 hu1 hszf hD w
            cases r with
            | true =>
              rw [hq] at he
              have := ihf lb b D A A' hlb (by simpa using he) hA hA' h1 h2 hD w
              simp [Op.eqFields, hn', hr1, hs1, hrun, this]
            | false =>
              rw [hq] at he
              simp at he
              subst he
              simp [Op.eqFields, hn', hr1, hs1, hrun]
        · cases h
      · cases h

theorem eqRun {xs ys : List SV} {vs us : List Value} (hx : SRs ρ xs vs) (hy : SRs ρ ys us) : ∀ (d : Nat),
    (∀ t base l b D v u, eqCells P d t base = some l → eqOffs xs ys l = some b → ValAt P t vs base v → ValAt P t us base u →
      (∀ n, tAgg P t = some (some n) → base + n ≤ vs.length ∧ base + n ≤ us.length) → d ≤ D → ∀ w, (Op.equalIn D t v u).run P w = .ok b w) := by
  intro d
  induction d with
  | zero => exact fun t base l b D v u h => by simp [eqCells] at h
  | succ d ih =>
    have one : ∀ t base k b D v u, eKind P t = some k → (P.underlying t = some .bool ∨ (∃ i, P.underlying t = some (.int i)) ∨ P.underlying t = some .string) → eqOffs xs ys [(base, k)] = some b → ValAt P t vs base v → ValAt P t us base u → d + 1 ≤ D →
        ∀ w, (Op.equalIn D t v u).run P w = .ok b w := by
      intro t base k b D v u hk hu he hv hu' hD w
      have hna : ∀ n, tAgg P t ≠ some (some n) := by
        intro n hn
        unfold tAgg at hn
        rcases hu with e | ⟨i, e⟩ | e <;> simp [e] at hn
      rcases hv with ⟨_, hv⟩ | ⟨n, A, hn, _⟩
      · rcases hu' with ⟨_, hu'⟩ | ⟨n, A, hn, _⟩
        · simp only [eqOffs] at he
          split at he
          · rename_i a c ha hc
            obtain ⟨v', e1, e2⟩ := hx.get ha
            obtain ⟨u', e3, e4⟩ := hy.get hc
            rw [hv] at e1; cases e1
            rw [hu'] at e3; cases e3
            have hb : eqS k a c = some b := by
              cases hq : eqS k a c with
              | none => rw [hq] at he; simp at he
              | some r => rw [hq] at he; cases r <;> simpa using he
            obtain ⟨D', rfl⟩ : ∃ D', D = D' + 1 := ⟨D - 1, by omega⟩
            exact eqS_run D' hb e2 e4 hk w
          · cases he
        · exact absurd hn (hna n)
      · exact absurd hn (hna n)
    intro t base l b D v u h he hv hu hsz hD w
    · simp only [eqCells] at h
      split at h
      · rename_i hu'; cases h
        exact one t base .bool b D v u (by simp [eKind, hu']) (.inl hu') he hv hu hD w
      · rename_i i hu'; cases h
        exact one t base .int b D v u (by simp [eKind, hu']) (.inr (.inl ⟨_, hu'⟩)) he hv hu hD w
      · rename_i hu'; cases h
        exact one t base .str b D v u (by simp [eKind, hu']) (.inr (.inr hu')) he hv hu hD w
      · rename_i fs hu'
        split at h
        · rename_i n hst hn
          rcases hv with ⟨hv, _⟩ | ⟨m, A, hm, rfl, hA⟩
          · rw [hn] at hv; cases hv
          rw [hn] at hm; cases hm
          rcases hu with ⟨hu, _⟩ | ⟨m, A', hm, rfl, hA'⟩
          · rw [hn] at hu; cases hu
          rw [hn] at hm; cases hm
          obtain ⟨D', rfl⟩ : ∃ D', D = D' + 1 := ⟨D - 1, by omega⟩
          have hf : P.fieldsOf t = fs := by simp [Program.fieldsOf, hu']
          rw [run_equalIn_struct w D' t A A' (by rw [hf]; exact hu') hst, hf]
          exact eqFieldsRun d (eqCells P d) ih n base fs.toList l b D' A A' h he hA hA' (hsz n hn).1 (hsz n hn).2 (by omega) w
        · cases h
      · cases h

end
end Go.Proofs.Ythjijjkoeoemgaa.Ab
