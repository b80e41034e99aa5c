/- Several of my texts in one: LxL1, LxL2, LxL3. -/
import Derived.Test.YtepankcnleeakaaGreatDoorLxF
/- The lexer at a place of a longer source. -/
namespace Go.Proofs.YtepankcnleeakaaGreatDoor.Ab
open Go
set_option linter.unusedVariables false
/-! ### at a place of a longer source -/
def sh (a : Nat) (t : LTok) : LTok := ⟨t.k, t.s, t.n, t.p - a⟩
theorem get_sh (s : List UInt8) (a i : Nat) : (s.drop a)[i]? = s[a + i]? := List.getElem?_drop
theorem drop_sh (s : List UInt8) (a i : Nat) : (s.drop a).drop i = s.drop (a + i) := List.drop_drop
theorem look_sh (s : List UInt8) (a i k : Nat) : lookF (s.drop a) i k = lookF s (a + i) k := by
  unfold lookF
  rw [get_sh, Nat.add_assoc]
theorem run_sh (p : UInt8 → Bool) (s : List UInt8) (a i : Nat) : runF p (s.drop a) i = runF p s (a + i) := by
  unfold runF
  rw [drop_sh]
theorem unit_sh (s : List UInt8) (a i : Nat) : unitF (s.drop a) i = unitF s (a + i) := by
  unfold unitF
  generalize unitsL = l
  induction l with
  | nil => rfl
  | cons x l ih =>
    obtain ⟨u, n⟩ := x
    unfold unitOf
    rw [drop_sh, look_sh, ih]
theorem body_sh (s : List UInt8) (a : Nat) : ∀ (f i : Nat) (out : List UInt8), bodyF (s.drop a) f i out = (bodyF s f (a + i) out).map fun x => (x.1, x.2 - a)
  | 0, _, _ => rfl
  | f + 1, i, out => by
    rw [bodyF, bodyF, get_sh]
    cases s[a + i]? with
    | none => rfl
    | some c =>
      simp only
      rw [get_sh, body_sh s a f (i + 2), body_sh s a f (i + 1), show a + (i + 1) = a + i + 1 by omega, show a + (i + 2) = a + i + 2 by omega]
      split
      · split
        · rfl
        · show _ = some _
          simp
          omega
      · rfl
theorem body_fuel {s : List UInt8} : ∀ (f f' i : Nat) (out : List UInt8), s.length - i < f → s.length - i < f' → bodyF s f i out = bodyF s f' i out
  | 0, _, _, _, h, _ => absurd h (by omega)
  | _, 0, _, _, _, h => absurd h (by omega)
  | f + 1, f' + 1, i, out, h, h' => by
    rw [bodyF, bodyF]
    cases hc : s[i]? with
    | none => rfl
    | some c =>
      have hi := (List.getElem?_eq_some_iff.1 hc).1
      simp only
      rw [body_fuel f f' (i + 2) _ (by omega) (by omega), body_fuel f f' (i + 1) _ (by omega) (by omega)]
theorem sign_sh (s : List UInt8) (a i : Nat) : signF (s.drop a) i = signF s (a + i) := by
  unfold signF
  rw [drop_sh]
theorem find_sh (t s : List UInt8) (a : Nat) : ∀ (f i : Nat), findF t (s.drop a) f i = (findF t s f (a + i)).map (· - a)
  | 0, _ => rfl
  | f + 1, i => by
    rw [findF, findF, drop_sh, find_sh t s a f (i + 1), show a + (i + 1) = a + i + 1 by omega]
    split
    · show some _ = some _
      simp
    · rfl
theorem find_far {t s : List UInt8} (ht : t ≠ []) : ∀ (f i : Nat), s.length ≤ i → findF t s f i = none
  | 0, _, _ => rfl
  | f + 1, i, h => by
    rw [findF, List.drop_eq_nil_of_le h]
    have : t.isPrefixOf [] = false := by
      cases t with
      | nil => exact absurd rfl ht
      | cons => rfl
    rw [this]
    simp only [Bool.false_eq_true, if_false]
    exact find_far ht f (i + 1) (by omega)
theorem find_fuel {t s : List UInt8} (ht : t ≠ []) : ∀ (f f' i : Nat), s.length - i < f → s.length - i < f' → findF t s f i = findF t s f' i
  | 0, _, _, h, _ => absurd h (by omega)
  | _, 0, _, _, h => absurd h (by omega)
  | f + 1, f' + 1, i, h, h' => by
    by_cases hi : s.length ≤ i
    · rw [find_far ht _ _ hi, find_far ht _ _ hi]
    · rw [findF, findF, find_fuel ht f f' (i + 1) (by omega) (by omega)]
theorem find_spec {t s : List UInt8} : ∀ {f i k : Nat}, findF t s f i = some k → i ≤ k ∧ t.isPrefixOf (s.drop k) = true
  | 0, i, k, h => by cases h
  | f + 1, i, k, h => by
    rw [findF] at h
    split at h
    · rename_i hp
      cases h
      exact ⟨Nat.le_refl _, hp⟩
    · have := find_spec h
      exact ⟨by omega, this.2⟩
theorem pre_len {t s : List UInt8} {i : Nat} (h : t.isPrefixOf (s.drop i) = true) : t.length ≤ s.length - i := by
  have := List.IsPrefix.length_le (List.isPrefixOf_iff_prefix.1 h)
  rwa [List.length_drop] at this
/-- A note of one line has at least a byte. -/
theorem line_pos {s : List UInt8} {i : Nat} (h : [45, 45].isPrefixOf (s.drop i) = true) : 0 < (runF (fun c => c != 10) s i).length := by
  have h1 := List.isPrefixOf_iff_prefix.1 h
  unfold runF
  obtain ⟨r, hr⟩ := h1
  rw [← hr]
  simp
theorem skip_fuel {s : List UInt8} : ∀ (f f' i : Nat), s.length - i < f → s.length - i < f' → skipF s f i = skipF s f' i
  | 0, _, _, h, _ => absurd h (by omega)
  | _, 0, _, _, h => absurd h (by omega)
  | f + 1, f' + 1, i, h, h' => by
    rw [skipF, skipF]
    cases hc : s[i]? with
    | none => rfl
    | some c =>
      have hi := (List.getElem?_eq_some_iff.1 hc).1
      simp only
      rw [skip_fuel f f' (i + 1) (by omega) (by omega)]
      split
      · rfl
      · split
        · rename_i h2
          have := line_pos h2
          exact skip_fuel f f' _ (by omega) (by omega)
        · split
          · cases hf : findF [42, 47] s (s.length + 1) (i + 2) with
            | none => rfl
            | some k =>
              have := (find_spec hf).1
              exact skip_fuel f f' _ (by omega) (by omega)
          · rfl
theorem skip_sh (s : List UInt8) (a : Nat) : ∀ (f i : Nat), skipF (s.drop a) f i = ((skipF s f (a + i)).1 - a, (skipF s f (a + i)).2)
  | 0, i => by
    show (i, true) = (a + i - a, true)
    congr 1
    omega
  | f + 1, i => by
    rw [skipF, skipF, get_sh]
    cases s[a + i]? with
    | none =>
      show (i, true) = (a + i - a, true)
      congr 1
      omega
    | some c =>
      simp only
      rw [drop_sh, run_sh, find_sh, skip_sh s a f (i + 1), show a + (i + 1) = a + i + 1 by omega, show a + (i + 2) = a + i + 2 by omega]
      split
      · rfl
      · split
        · rw [skip_sh s a f, show a + (i + (runF (fun c => c != 10) s (a + i)).length) = a + i + (runF (fun c => c != 10) s (a + i)).length by omega]
        · split
          · by_cases hfar : s.length ≤ a + i + 2
            · rw [find_far (by decide) _ _ hfar, find_far (by decide) _ _ hfar]
              show (i, false) = (a + i - a, false)
              congr 1
              omega
            · rw [find_fuel (t := [42, 47]) (s := s) (by decide) ((s.drop a).length + 1) (s.length + 1) (a + i + 2) (by rw [List.length_drop]; omega) (by omega)]
              cases hf : findF [42, 47] s (s.length + 1) (a + i + 2) with
              | none =>
                show (i, false) = (a + i - a, false)
                congr 1
                omega
              | some k =>
                have := (find_spec hf).1
                show skipF (s.drop a) f (k - a + 2) = _
                rw [skip_sh s a f, show a + (k - a + 2) = k + 2 by omega]
          · show (i, true) = (a + i - a, true)
            congr 1
            omega
/-- A reading, counted from another place. -/
def sh3 (a : Nat) (r : LTok × Nat × Option Int) : LTok × Nat × Option Int := (sh a r.1, r.2.1 - a, r.2.2)
theorem place_sh (a i : Nat) : ((a + i : Nat) : Int) - (a : Int) = (i : Int) := by omega
theorem num_sh (s : List UInt8) (a i : Nat) : numF (s.drop a) i = sh3 a (numF s (a + i)) := by
  unfold numF
  simp only
  rw [run_sh, get_sh, show i + (runF digB s (a + i)).length = i + (runF digB s (a + i)).length from rfl]
  generalize runF digB s (a + i) = d
  have e1 : ∀ x, a + (i + x) = a + i + x := fun x => by omega
  have e2 : ∀ x, a + i + x - a = i + x := fun x => by omega
  have e3 : a + (i + d.length + 1) = a + i + d.length + 1 := by omega
  rw [unit_sh, look_sh, look_sh, run_sh, e3, e1]
  generalize runF digB s (a + i + d.length + 1) = f
  have e4 : a + (i + d.length + 1 + f.length) = a + i + d.length + 1 + f.length := by omega
  rw [look_sh, e4]
  unfold sh3 sh
  split
  · simp only [place_sh]
    congr 2
    omega
  · split
    · split
      · simp only [place_sh]
        congr 2
        omega
      · simp only [place_sh]
        congr 2
        omega
    · simp only [place_sh]
      congr 2
      omega
theorem text_sh (s : List UInt8) (a i : Nat) : textF (s.drop a) i = sh3 a (textF s (a + i)) := by
  unfold textF
  rw [body_sh, show a + (i + 1) = a + i + 1 by omega]
  by_cases hi : a + i + 1 ≤ s.length
  · rw [body_fuel ((s.drop a).length + 1) (s.length + 1) (a + i + 1) [] (by rw [List.length_drop]; omega) (by omega)]
    cases bodyF s (s.length + 1) (a + i + 1) [] with
    | none => unfold sh3 sh; simp only [Option.map_none, place_sh]; congr 2; omega
    | some x => unfold sh3 sh; simp only [Option.map_some, place_sh]
  · have hb : ∀ f, bodyF s f (a + i + 1) [] = none := fun f => by
      cases f with
      | zero => rfl
      | succ f => rw [bodyF, List.getElem?_eq_none (by omega)]
    rw [hb, hb]
    unfold sh3 sh
    simp only [Option.map_none, place_sh]
    congr 2
    omega
theorem tok_sh (s : List UInt8) (a i : Nat) (hne : (tokF s (a + i)).2.2 = none) : tokF (s.drop a) i = sh3 a (tokF s (a + i)) := by
  unfold tokF at hne ⊢
  simp only at hne ⊢
  rw [look_sh, run_sh, num_sh, text_sh s a i, sign_sh]
  split
  · split <;> (unfold sh3 sh; simp only [place_sh]; congr 2; omega)
  · split
    · rfl
    · split
      · rfl
      · rename_i h1 h2 h3
        rw [if_neg h1, if_neg h2, if_neg h3] at hne
        cases hs : signF s (a + i) with
        | none => rw [hs] at hne; cases hne
        | some x => unfold sh3 sh; simp only [place_sh]; congr 2; omega
end Go.Proofs.YtepankcnleeakaaGreatDoor.Ab

/- The tokens from a place on; LexPlaces in plain words. -/
namespace Go.Proofs.YtepankcnleeakaaGreatDoor.Ab
open Go
set_option linter.unusedVariables false
/-! ### the tokens from a place on -/
theorem runs_le {p : UInt8 → Bool} {s : List UInt8} {i : Nat} (hi : i ≤ s.length) : i + (runF p s i).length ≤ s.length := by
  have := List.IsPrefix.length_le (List.takeWhile_prefix (p := p) (l := s.drop i))
  rw [List.length_drop] at this
  unfold runF
  omega
theorem run_pos {p : UInt8 → Bool} {s : List UInt8} {i : Nat} (hi : i < s.length) (hp : p s[i] = true) : 0 < (runF p s i).length := by
  unfold runF
  rw [List.drop_eq_getElem_cons hi, List.takeWhile_cons, if_pos hp]
  simp
theorem unit_in {s : List UInt8} {i : Nat} (hi : i ≤ s.length) : i + (unitF s i).2 ≤ s.length := by
  unfold unitF
  generalize unitsL = l
  induction l with
  | nil => exact hi
  | cons x l ih =>
    obtain ⟨u, n⟩ := x
    unfold unitOf
    split
    · rename_i h
      simp only [Bool.and_eq_true] at h
      have := pre_len h.1.1
      show i + u.length ≤ s.length
      omega
    · exact ih
theorem body_end {s : List UInt8} : ∀ {f i : Nat} {out : List UInt8} {x : List UInt8} {j : Nat}, bodyF s f i out = some (x, j) → i < j ∧ j ≤ s.length
  | 0, _, _, _, _, h => by cases h
  | f + 1, i, out, x, j, h => by
    rw [bodyF] at h
    cases hc : s[i]? with
    | none => rw [hc] at h; cases h
    | some c =>
      rw [hc] at h
      have hi := (List.getElem?_eq_some_iff.1 hc).1
      simp only at h
      split at h
      · split at h
        · have := body_end h; omega
        · cases h; omega
      · have := body_end h; omega
theorem look_in {s : List UInt8} {i k : Nat} {c : UInt8} (h : lookF s i k = c) (hc : c ≠ 0) : i + k < s.length := by
  unfold lookF at h
  by_cases hi : i + k < s.length
  · exact hi
  · rw [List.getElem?_eq_none (by omega)] at h
    exact absurd h.symm hc
theorem look_at {s : List UInt8} {i : Nat} (hi : i < s.length) : lookF s i 0 = s[i] := by
  unfold lookF
  rw [Nat.add_zero, List.getElem?_eq_getElem hi]
  rfl
theorem num_in {s : List UInt8} {i : Nat} (hi : i < s.length) (hd : digB s[i] = true) : i < (numF s i).2.1 ∧ (numF s i).2.1 ≤ s.length := by
  have h1 := run_pos hi hd
  have h2 := runs_le (p := digB) (Nat.le_of_lt hi)
  unfold numF
  simp only
  have h3 := unit_in h2
  split
  · refine ⟨?_, h3⟩
    show i < i + (runF digB s i).length + (unitF s (i + (runF digB s i).length)).2
    omega
  · split
    · rename_i h4
      have h5 := look_in h4.1 (by decide)
      have h6 := runs_le (p := digB) (s := s) (i := i + (runF digB s i).length + 1) (by omega)
      have h7 : i < i + (runF digB s i).length + 1 + (runF digB s (i + (runF digB s i).length + 1)).length := by omega
      split
      · exact ⟨h7, h6⟩
      · exact ⟨h7, h6⟩
    · exact ⟨show i < i + (runF digB s i).length by omega, h2⟩
theorem sign_in {s : List UInt8} {i : Nat} {x : List UInt8} (h : signF s i = some x) : 0 < x.length ∧ i + x.length ≤ s.length ∨ s.length < i := by
  unfold signF at h
  have h1 := List.find?_some h
  have h2 := List.mem_of_find?_eq_some h
  have h3 := pre_len h1
  have h4 : 0 < x.length := by
    have : ∀ x ∈ signsL, 0 < x.length := by decide
    exact this x h2
  omega
/-- A token has bytes, and its place is where it begins. -/
theorem tok_in {s : List UInt8} {i : Nat} (hi : i < s.length) {t : LTok} {k : Nat} (h : tokF s i = (t, k, none)) : i < k ∧ k ≤ s.length ∧ t.p = i := by
  unfold tokF at h
  simp only at h
  rw [look_at hi] at h
  split at h
  · rename_i hl
    have h1 : 0 < (runF ldB s i).length := run_pos hi (by unfold ldB; rw [hl]; rfl)
    have h2 := runs_le (p := ldB) (Nat.le_of_lt hi)
    simp only [Prod.mk.injEq] at h
    refine ⟨by omega, by omega, ?_⟩
    rw [← h.1]
    split <;> rfl
  · split at h
    · rename_i hd
      have h1 := num_in hi hd
      rw [h] at h1
      refine ⟨h1.1, h1.2, ?_⟩
      have : (numF s i).1.p = i := by
        unfold numF
        simp only
        split
        · rfl
        · split
          · split <;> rfl
          · rfl
      rw [h] at this
      exact this
    · split at h
      · unfold textF at h
        cases hb : bodyF s (s.length + 1) (i + 1) [] with
        | none => rw [hb] at h; simp at h
        | some x =>
          obtain ⟨x, j⟩ := x
          rw [hb] at h
          simp only [Prod.mk.injEq] at h
          have := body_end hb
          refine ⟨by omega, by omega, by rw [← h.1]⟩
      · cases hs : signF s i with
        | none => rw [hs] at h; simp at h
        | some x =>
          rw [hs] at h
          simp only [Prod.mk.injEq] at h
          have := sign_in hs
          refine ⟨by omega, by omega, by rw [← h.1]⟩
theorem tok_err {s : List UInt8} {i : Nat} {e : Int} (h : (tokF s i).2.2 = some e) : e ≠ 0 := by
  have f1 : ∀ {a b : Option Int} {e : Int}, fst1 a b = some e → a = some e ∨ b = some e := by
    intro a b e h
    cases a with
    | none => exact .inr h
    | some x => exact .inl h
  have if1 : ∀ {c : Prop} [Decidable c] {x e : Int}, (if c then some x else none) = some e → e = x := by
    intro c _ x e h
    split at h
    · exact (Option.some.inj h).symm
    · cases h
  unfold tokF at h
  simp only at h
  split at h
  · cases h
  · split at h
    · unfold numF at h
      simp only at h
      split at h
      · rcases f1 h with h | h <;> (rw [if1 h]; decide)
      · split at h
        · split at h
          · rcases f1 h with h | h
            · rw [if1 h]; decide
            · cases h; decide
          · rcases f1 h with h | h <;> (rw [if1 h]; decide)
        · rcases f1 h with h | h
          · rw [if1 h]; decide
          · rcases f1 h with h | h <;> (rw [if1 h]; decide)
    · split at h
      · unfold textF at h
        cases hb : bodyF s (s.length + 1) (i + 1) [] with
        | none => rw [hb] at h; cases h; decide
        | some x => rw [hb] at h; rw [if1 h]; decide
      · cases hs : signF s i with
        | none => rw [hs] at h; cases h; decide
        | some x => rw [hs] at h; cases h
theorem skip_ge {s : List UInt8} : ∀ {f i : Nat}, i ≤ (skipF s f i).1
  | 0, i => Nat.le_refl _
  | f + 1, i => by
    rw [skipF]
    cases hc : s[i]? with
    | none => exact Nat.le_refl _
    | some c =>
      simp only
      split
      · have := skip_ge (s := s) (f := f) (i := i + 1); omega
      · split
        · have := skip_ge (s := s) (f := f) (i := i + (runF (fun c => c != 10) s i).length); omega
        · split
          · cases hf : findF [42, 47] s (s.length + 1) (i + 2) with
            | none => exact Nat.le_refl _
            | some k =>
              have h1 := (find_spec hf).1
              have := skip_ge (s := s) (f := f) (i := k + 2)
              simp only
              omega
          · exact Nat.le_refl _

/-- From the place i on, s reads as these tokens. -/
inductive Lx (s : List UInt8) : Nat → List LTok → Prop where
  | done {i j : Nat} (h : skipF s (s.length + 1) i = (j, true)) (hj : s.length ≤ j) : Lx s i []
  | tok {i j k : Nat} {t : LTok} {l : List LTok} (h : skipF s (s.length + 1) i = (j, true)) (hj : j < s.length) (ht : tokF s j = (t, k, none)) (hl : Lx s k l) : Lx s i (t :: l)
theorem lx_of {s : List UInt8} : ∀ {f i : Nat} {l0 : List LTok}, s.length - i < f → (lexF s f i l0).2.2 = 0 → ∃ l, Lx s i l ∧ lexF s f i l0 = (l0 ++ l, 0, 0)
  | 0, _, _, h, _ => absurd h (by omega)
  | f + 1, i, l0, hf, h => by
    rw [lexF] at h ⊢
    cases hs : skipF s (s.length + 1) i with
    | mk j b =>
      rw [hs] at h
      cases b with
      | false => simp at h
      | true =>
        simp only at h ⊢
        by_cases hj : s.length ≤ j
        · rw [if_pos hj]
          exact ⟨[], .done hs hj, by simp⟩
        · rw [if_neg hj] at h ⊢
          cases ht : tokF s j with
          | mk t r =>
            obtain ⟨k, e⟩ := r
            rw [ht] at h
            cases e with
            | some e =>
              simp only at h
              exact absurd h (tok_err (s := s) (i := j) (by rw [ht]))
            | none =>
              simp only at h ⊢
              have hg : i ≤ j := by have := skip_ge (s := s) (f := s.length + 1) (i := i); rw [hs] at this; exact this
              obtain ⟨hk1, hk2, _⟩ := tok_in (by omega) ht
              obtain ⟨l, hl, he⟩ := lx_of (l0 := l0 ++ [t]) (i := k) (by omega) h
              exact ⟨t :: l, .tok hs (by omega) ht hl, by rw [he]; simp⟩
theorem lx_run {s : List UInt8} {i : Nat} {l : List LTok} (h : Lx s i l) : ∀ {f : Nat} {l0 : List LTok}, s.length - i < f → lexF s f i l0 = (l0 ++ l, 0, 0) := by
  induction h with
  | done hs hj =>
    intro f l0 hf
    obtain ⟨f, rfl⟩ : ∃ f', f = f' + 1 := ⟨f - 1, by omega⟩
    rw [lexF, hs]
    simp only
    rw [if_pos hj]
    simp
  | tok hs hj ht hl ih =>
    rename_i i j k t l
    intro f l0 hf
    obtain ⟨f, rfl⟩ : ∃ f', f = f' + 1 := ⟨f - 1, by omega⟩
    have hg : i ≤ j := by have := skip_ge (s := s) (f := s.length + 1) (i := i); rw [hs] at this; exact this
    obtain ⟨hk1, hk2, _⟩ := tok_in hj ht
    rw [lexF, hs]
    simp only
    rw [if_neg (by omega), ht]
    simp only
    rw [ih (by omega)]
    simp
theorem lx_err {s : List UInt8} : ∀ {f i : Nat} {l0 : List LTok}, s.length - i < f → (lexF s f i l0).2.2 ≠ 0 → (lexF s f i l0).1 = []
  | 0, _, _, h, _ => absurd h (by omega)
  | f + 1, i, l0, hf, h => by
    rw [lexF] at h ⊢
    cases hs : skipF s (s.length + 1) i with
    | mk j b =>
      rw [hs] at h
      cases b with
      | false => rfl
      | true =>
        simp only at h ⊢
        by_cases hj : s.length ≤ j
        · rw [if_pos hj] at h; exact absurd rfl h
        · rw [if_neg hj] at h ⊢
          cases ht : tokF s j with
          | mk t r =>
            obtain ⟨k, e⟩ := r
            rw [ht] at h
            cases e with
            | some e => rfl
            | none =>
              simp only at h ⊢
              have hg : i ≤ j := by have := skip_ge (s := s) (f := s.length + 1) (i := i); rw [hs] at this; exact this
              obtain ⟨hk1, hk2, _⟩ := tok_in (by omega) ht
              exact lx_err (by omega) h

/-! ### LexPlaces -/
theorem skip_idem {s : List UInt8} : ∀ {f i j : Nat}, s.length - i < f → skipF s f i = (j, true) → skipF s (s.length + 1) j = (j, true)
  | 0, _, _, h, _ => absurd h (by omega)
  | f + 1, i, j, hf, h => by
    have h0 := h
    rw [skipF] at h
    cases hc : s[i]? with
    | none =>
      rw [hc] at h
      cases h
      rw [skipF, hc]
    | some c =>
      rw [hc] at h
      have hi := (List.getElem?_eq_some_iff.1 hc).1
      simp only at h
      by_cases h1 : c = 9 ∨ c = 10 ∨ c = 13 ∨ c = 32
      · rw [if_pos h1] at h
        exact skip_idem (by omega) h
      · rw [if_neg h1] at h
        by_cases h2 : [45, 45].isPrefixOf (s.drop i) = true
        · rw [if_pos h2] at h
          have := line_pos h2
          exact skip_idem (by omega) h
        · rw [if_neg h2] at h
          by_cases h3 : [47, 42].isPrefixOf (s.drop i) = true
          · rw [if_pos h3] at h
            cases hfd : findF [42, 47] s (s.length + 1) (i + 2) with
            | none => rw [hfd] at h; simp at h
            | some k =>
              rw [hfd] at h
              have := (find_spec hfd).1
              exact skip_idem (by omega) h
          · rw [if_neg h3] at h
            cases h
            rw [skip_fuel (s.length + 1) (f + 1) i (by omega) hf]
            exact h0
theorem lx_sh {s : List UInt8} {a i : Nat} {l : List LTok} (h : Lx s (a + i) l) (ha : a + i ≤ s.length ∨ True) : Lx (s.drop a) i (l.map (sh a)) := by
  generalize hb : a + i = b at h
  induction h generalizing i with
  | done hs hj =>
    rename_i b' j
    subst hb
    refine .done (j := j - a) ?_ (by rw [List.length_drop]; omega)
    rw [skip_sh, ← skip_fuel (s := s) (s.length + 1) ((s.drop a).length + 1) (a + i) (by omega) (by rw [List.length_drop]; omega), hs]
  | tok hs hj ht hl ih =>
    rename_i b' j k t l
    subst hb
    have hg : a + i ≤ j := by have := skip_ge (s := s) (f := s.length + 1) (i := a + i); rw [hs] at this; exact this
    have hk := (tok_in hj ht).1
    have e1 : a + (j - a) = j := by omega
    have htk := tok_sh s a (j - a) (by rw [e1, ht])
    rw [e1, ht] at htk
    refine .tok (j := j - a) (k := k - a) (t := sh a t) ?_ (by rw [List.length_drop]; omega) htk (ih (i := k - a) (.inr trivial) (by omega))
    rw [skip_sh, ← skip_fuel (s := s) (s.length + 1) ((s.drop a).length + 1) (a + i) (by omega) (by rw [List.length_drop]; omega), hs]
/-- The n-th token stands at its byte: s, cut there, reads as it and what is behind it. -/
theorem lx_at {s : List UInt8} {i : Nat} {l : List LTok} (h : Lx s i l) : ∀ n (hn : n < l.length), ∃ a : Nat, l[n].p = (a : Int) ∧ i ≤ a ∧ a < s.length ∧ Lx s a (l.drop n) := by
  induction h with
  | done => intro n hn; simp at hn
  | tok hs hj ht hl ih =>
    rename_i i j k t l
    have hg : i ≤ j := by have := skip_ge (s := s) (f := s.length + 1) (i := i); rw [hs] at this; exact this
    obtain ⟨hk1, hk2, hk3⟩ := tok_in hj ht
    intro n hn
    cases n with
    | zero => exact ⟨j, hk3, hg, hj, .tok (skip_idem (i := i) (by omega) hs) hj ht hl⟩
    | succ n =>
      obtain ⟨a, h1, h2, h3, h4⟩ := ih n (by simpa using hn)
      exact ⟨a, by simpa using h1, by omega, h3, by simpa using h4⟩
theorem lx_rise {s : List UInt8} {i : Nat} {l : List LTok} (h : Lx s i l) : ∀ n (hn : n + 1 < l.length), l[n].p < l[n + 1].p := by
  induction h with
  | done => intro n hn; simp at hn
  | tok hs hj ht hl ih =>
    rename_i i j k t l
    obtain ⟨hk1, hk2, hk3⟩ := tok_in hj ht
    intro n hn
    cases n with
    | zero =>
      obtain ⟨a, h1, h2, _⟩ := lx_at hl 0 (by simpa using hn)
      simp only [List.getElem_cons_zero, List.getElem_cons_succ]
      rw [h1, hk3]
      omega
    | succ n => simpa using ih n (by simpa using hn)
end Go.Proofs.YtepankcnleeakaaGreatDoor.Ab

/- Blanks and notes around a source: LexNotes in plain words. -/
namespace Go.Proofs.YtepankcnleeakaaGreatDoor.Ab
open Go
set_option linter.unusedVariables false
/-! ### more behind a source -/
theorem get_in {s r : List UInt8} {i : Nat} (h : i < s.length) : (s ++ r)[i]? = s[i]? := List.getElem?_append_left h
theorem get_end (s r : List UInt8) (c : UInt8) : (s ++ c :: r)[s.length]? = some c := by
  rw [List.getElem?_append_right (Nat.le_refl _)]
  simp
theorem drop_app {s r : List UInt8} {i : Nat} (h : i ≤ s.length) : (s ++ r).drop i = s.drop i ++ r := List.drop_append_of_le_length h
theorem prefix_app {c : UInt8} : ∀ (u x r : List UInt8), c ∉ u → u.isPrefixOf (x ++ c :: r) = u.isPrefixOf x
  | [], _, _, _ => by simp
  | a :: u, [], r, h => by
    have : (a == c) = false := by
      rw [List.mem_cons, not_or] at h
      simpa using fun e => h.1 e.symm
    simp [List.isPrefixOf, this]
  | a :: u, b :: x, r, h => by
    rw [List.mem_cons, not_or] at h
    show (a == b && u.isPrefixOf (x ++ c :: r)) = (a == b && u.isPrefixOf x)
    rw [prefix_app u x r h.2]
theorem pre_ext {c : UInt8} {s r u : List UInt8} {i : Nat} (hi : i ≤ s.length) (hu : c ∉ u) : u.isPrefixOf ((s ++ c :: r).drop i) = u.isPrefixOf (s.drop i) := by
  rw [drop_app hi, prefix_app u _ _ hu]
theorem while_app {p : UInt8 → Bool} {c : UInt8} (hc : p c = false) : ∀ x r : List UInt8, (x ++ c :: r).takeWhile p = x.takeWhile p
  | [], r => by simp [hc]
  | a :: x, r => by
    rw [List.cons_append, List.takeWhile_cons, List.takeWhile_cons, while_app hc x r]
theorem run_ext {p : UInt8 → Bool} {c : UInt8} {s r : List UInt8} {i : Nat} (hi : i ≤ s.length) (hc : p c = false) : runF p (s ++ c :: r) i = runF p s i := by
  unfold runF
  rw [drop_app hi, while_app hc]
/-- A byte that may stand behind a token: a blank. -/
def Blank (c : UInt8) : Prop := c = 10 ∨ c = 32
theorem Blank.no {c : UInt8} (h : Blank c) : letB c = false ∧ digB c = false ∧ ldB c = false ∧ c ≠ 46 ∧ c ≠ 39 := by
  rcases h with rfl | rfl <;> decide
theorem look_ext {c : UInt8} {s r : List UInt8} {i k : Nat} (hi : i + k < s.length) : lookF (s ++ c :: r) i k = lookF s i k := by
  unfold lookF
  rw [get_in hi]
theorem look_end {c : UInt8} {s r : List UInt8} {i k : Nat} (hi : i + k = s.length) : lookF (s ++ c :: r) i k = c ∧ lookF s i k = 0 := by
  unfold lookF
  rw [hi, get_end, List.getElem?_eq_none (Nat.le_refl _)]
  exact ⟨rfl, rfl⟩
theorem let_ext {c : UInt8} {s r : List UInt8} {i k : Nat} (hc : Blank c) (hi : i + k ≤ s.length) : letB (lookF (s ++ c :: r) i k) = letB (lookF s i k) := by
  by_cases h : i + k < s.length
  · rw [look_ext h]
  · obtain ⟨h1, h2⟩ := look_end (c := c) (r := r) (show i + k = s.length by omega)
    rw [h1, h2, hc.no.1]
    decide
theorem dig_ext {c : UInt8} {s r : List UInt8} {i k : Nat} (hc : Blank c) (hi : i + k ≤ s.length) : digB (lookF (s ++ c :: r) i k) = digB (lookF s i k) := by
  by_cases h : i + k < s.length
  · rw [look_ext h]
  · obtain ⟨h1, h2⟩ := look_end (c := c) (r := r) (show i + k = s.length by omega)
    rw [h1, h2, hc.no.2.1]
    decide
theorem point_ext {c : UInt8} {s r : List UInt8} {i : Nat} (hc : Blank c) (hi : i ≤ s.length) : lookF (s ++ c :: r) i 0 = 46 ↔ lookF s i 0 = 46 := by
  by_cases h : i + 0 < s.length
  · rw [look_ext h]
  · obtain ⟨h1, h2⟩ := look_end (c := c) (r := r) (show i + 0 = s.length by omega)
    rw [h1, h2]
    exact ⟨fun e => absurd e hc.no.2.2.2.1, fun e => absurd e (by decide)⟩
theorem unit_ext {c : UInt8} {s r : List UInt8} {i : Nat} (hc : Blank c) (hi : i ≤ s.length) : unitF (s ++ c :: r) i = unitF s i := by
  have : ∀ l : List (List UInt8 × Nat), (∀ x ∈ l, (10 : UInt8) ∉ x.1 ∧ (32 : UInt8) ∉ x.1) → unitOf (s ++ c :: r) i l = unitOf s i l := by
    intro l
    induction l with
    | nil => intro _; rfl
    | cons x l ih =>
      intro h
      obtain ⟨u, n⟩ := x
      have hu := h (u, n) (by simp)
      have hcu : c ∉ u := by rcases hc with rfl | rfl; exact hu.1; exact hu.2
      unfold unitOf
      rw [pre_ext hi hcu, ih (fun x hx => h x (by simp [hx]))]
      cases hp : u.isPrefixOf (s.drop i) with
      | false => rfl
      | true =>
        have := pre_len hp
        rw [let_ext hc (by omega), dig_ext hc (by omega)]
  exact this unitsL (by decide)
theorem body_ext {c : UInt8} {s r : List UInt8} (hc : c ≠ 39) : ∀ {f f' i : Nat} {out : List UInt8} {x : List UInt8 × Nat}, f ≤ f' → bodyF s f i out = some x → bodyF (s ++ c :: r) f' i out = some x
  | 0, _, _, _, _, _, h => by cases h
  | f + 1, 0, _, _, _, hf, _ => absurd hf (by omega)
  | f + 1, f' + 1, i, out, x, hf, h => by
    rw [bodyF] at h ⊢
    cases hg : s[i]? with
    | none => rw [hg] at h; cases h
    | some b =>
      have hi := (List.getElem?_eq_some_iff.1 hg).1
      rw [hg] at h
      rw [get_in hi, hg]
      simp only at h ⊢
      split
      · rename_i hb
        rw [if_pos hb] at h
        by_cases hl : i + 1 < s.length
        · rw [get_in hl]
          split
          · rename_i h9
            rw [if_pos h9] at h
            exact body_ext hc (by omega) h
          · rename_i h9
            rw [if_neg h9] at h
            exact h
        · have e : i + 1 = s.length := by omega
          rw [e] at h ⊢
          rw [get_end, if_neg (fun e => hc (Option.some.inj e))]
          rw [List.getElem?_eq_none (Nat.le_refl _), if_neg (by simp)] at h
          exact h
      · rename_i hb
        rw [if_neg hb] at h
        exact body_ext hc (by omega) h
theorem sign_ext {c : UInt8} {s r : List UInt8} {i : Nat} (hc : Blank c) (hi : i ≤ s.length) : signF (s ++ c :: r) i = signF s i := by
  unfold signF
  have : ∀ l : List (List UInt8), (∀ x ∈ l, (10 : UInt8) ∉ x ∧ (32 : UInt8) ∉ x) → (l.find? fun x => x.isPrefixOf ((s ++ c :: r).drop i)) = l.find? fun x => x.isPrefixOf (s.drop i) := by
    intro l
    induction l with
    | nil => intro _; rfl
    | cons x l ih =>
      intro h
      have hu := h x (by simp)
      have hcu : c ∉ x := by rcases hc with rfl | rfl; exact hu.1; exact hu.2
      rw [List.find?_cons, List.find?_cons, pre_ext hi hcu, ih (fun x hx => h x (by simp [hx]))]
  exact this signsL (by decide)
theorem num_ext {c : UInt8} {s r : List UInt8} {i : Nat} (hc : Blank c) (hi : i < s.length) : numF (s ++ c :: r) i = numF s i := by
  unfold numF
  simp only
  have h1 := runs_le (p := digB) (Nat.le_of_lt hi)
  rw [run_ext (Nat.le_of_lt hi) hc.no.2.1, get_in hi, unit_ext hc h1]
  generalize runF digB s i = d at *
  split
  · rfl
  · by_cases hp : lookF s (i + d.length) 0 = 46
    · have hp' := (point_ext (r := r) hc h1).2 hp
      have h2 := look_in hp (by decide)
      have h3 := runs_le (p := digB) (s := s) (i := i + d.length + 1) (by omega)
      rw [dig_ext hc (show i + d.length + 1 ≤ s.length by omega), run_ext (show i + d.length + 1 ≤ s.length by omega) hc.no.2.1, let_ext hc (show i + d.length + 1 + (runF digB s (i + d.length + 1)).length + 0 ≤ s.length by omega), let_ext hc (show i + d.length + 0 ≤ s.length by omega)]
      simp only [hp, hp', true_and]
    · have hp' : ¬ lookF (s ++ c :: r) (i + d.length) 0 = 46 := fun e => hp ((point_ext hc h1).1 e)
      rw [let_ext hc (show i + d.length + 0 ≤ s.length by omega)]
      simp only [hp, hp', false_and, if_false]
theorem tok_ext {c : UInt8} {s r : List UInt8} {i : Nat} (hc : Blank c) (hi : i < s.length) {t : LTok} {k : Nat} (h : tokF s i = (t, k, none)) : tokF (s ++ c :: r) i = (t, k, none) := by
  unfold tokF at h ⊢
  simp only at h ⊢
  rw [look_ext (show i + 0 < s.length by omega), run_ext (Nat.le_of_lt hi) hc.no.2.2.1, num_ext hc hi, sign_ext hc (Nat.le_of_lt hi)]
  split
  · rename_i hl
    rw [if_pos hl] at h
    exact h
  · rename_i hl
    rw [if_neg hl] at h
    split
    · rename_i hd
      rw [if_pos hd] at h
      exact h
    · rename_i hd
      rw [if_neg hd] at h
      split
      · rename_i hq
        rw [if_pos hq] at h
        unfold textF at h ⊢
        cases hb : bodyF s (s.length + 1) (i + 1) [] with
        | none => rw [hb] at h; simp at h
        | some x =>
          rw [hb] at h
          rw [body_ext hc.no.2.2.2.2 (f' := (s ++ c :: r).length + 1) (by simp) hb]
          exact h
      · rename_i hq
        rw [if_neg hq] at h
        exact h
theorem find_ext {c : UInt8} {s r : List UInt8} (hc : c ∉ ([42, 47] : List UInt8)) : ∀ {f f' i k : Nat}, f ≤ f' → findF [42, 47] s f i = some k → findF [42, 47] (s ++ c :: r) f' i = some k
  | 0, _, _, _, _, h => by cases h
  | f + 1, 0, _, _, hf, _ => absurd hf (by omega)
  | f + 1, f' + 1, i, k, hf, h => by
    have h1 := find_spec h
    have h2 := pre_len h1.2
    have hik : i ≤ s.length := by simp at h2; omega
    rw [findF] at h ⊢
    rw [pre_ext hik hc]
    split
    · rename_i hp
      rw [if_pos hp] at h
      exact h
    · rename_i hp
      rw [if_neg hp] at h
      exact find_ext hc (by omega) h
/-- Blanks and notes, where one more line stands behind: as before; at the end, on. -/
theorem skip_ext {s r : List UInt8} : ∀ {f f' i j : Nat}, s.length - i < f → (s ++ 10 :: r).length - i < f' → i ≤ s.length → skipF s f i = (j, true) →
    (j < s.length → skipF (s ++ 10 :: r) f' i = (j, true)) ∧ (s.length ≤ j → skipF (s ++ 10 :: r) f' i = skipF (s ++ 10 :: r) ((s ++ 10 :: r).length + 1) s.length)
  | 0, _, _, _, h, _, _, _ => absurd h (by omega)
  | _, 0, _, _, _, h, _, _ => absurd h (by omega)
  | f + 1, f' + 1, i, j, hf, hf', hi, h => by
    by_cases he : i = s.length
    · subst he
      rw [skipF, List.getElem?_eq_none (Nat.le_refl _)] at h
      cases h
      exact ⟨fun h => absurd h (by omega), fun _ => skip_fuel _ _ _ hf' (by omega)⟩
    · have hlt : i < s.length := by omega
      have hlen : (s ++ 10 :: r).length = s.length + r.length + 1 := by simp; omega
      rw [skipF] at h
      rw [show skipF (s ++ 10 :: r) (f' + 1) i = _ from rfl, skipF, get_in hlt]
      rw [List.getElem?_eq_getElem hlt] at h ⊢
      simp only at h ⊢
      rw [pre_ext hi (by decide), pre_ext hi (by decide), run_ext hi (by decide)]
      split
      · rename_i h1
        rw [if_pos h1] at h
        exact skip_ext (by omega) (by omega) (by omega) h
      · rename_i h1
        rw [if_neg h1] at h
        split
        · rename_i h2
          rw [if_pos h2] at h
          have h3 := line_pos h2
          exact skip_ext (by omega) (by omega) (runs_le hi) h
        · rename_i h2
          rw [if_neg h2] at h
          split
          · rename_i h3
            rw [if_pos h3] at h
            cases hfd : findF [42, 47] s (s.length + 1) (i + 2) with
            | none => rw [hfd] at h; simp at h
            | some k =>
              rw [hfd] at h
              rw [find_ext (r := r) (by decide) (f' := (s ++ 10 :: r).length + 1) (by omega) hfd]
              have h4 := find_spec hfd
              have h5 := pre_len h4.2
              simp at h5
              exact skip_ext (by omega) (by omega) (by omega) h
          · rename_i h3
            rw [if_neg h3] at h
            cases h
            exact ⟨fun _ => rfl, fun h => absurd h (by omega)⟩
/-- More blanks and notes behind a source. -/
theorem lx_ext {s r : List UInt8} (hr : skipF (s ++ 10 :: r) ((s ++ 10 :: r).length + 1) s.length = ((s ++ 10 :: r).length, true)) {i : Nat} {l : List LTok} (h : Lx s i l) (hi : i ≤ s.length) : Lx (s ++ 10 :: r) i l := by
  induction h with
  | done hs hj =>
    rename_i i j
    have := (skip_ext (r := r) (f' := (s ++ 10 :: r).length + 1) (by omega) (by omega) hi hs).2 hj
    exact .done (this.trans hr) (Nat.le_refl _)
  | tok hs hj ht hl ih =>
    rename_i i j k t l
    have h1 := (skip_ext (r := r) (f' := (s ++ 10 :: r).length + 1) (by omega) (by omega) hi hs).1 hj
    obtain ⟨_, hk, _⟩ := tok_in hj ht
    exact .tok h1 (by simp; omega) (tok_ext (Or.inl rfl) hj ht) (ih hk)
/-- Blanks and notes ahead of a source. -/
theorem lx_ahead {b s : List UInt8} {l : List LTok} (hb : skipF (b ++ s) ((b ++ s).length + 1) 0 = skipF (b ++ s) ((b ++ s).length + 1) b.length) (h : Lx (b ++ s) b.length l) : Lx (b ++ s) 0 l := by
  cases h with
  | done hs hj => exact .done (hb.trans hs) hj
  | tok hs hj ht hl => exact .tok (hb.trans hs) hj ht hl
theorem tok_sh_err (s : List UInt8) (a i : Nat) : (tokF (s.drop a) i).2.2 = (tokF s (a + i)).2.2 := by
  unfold tokF
  simp only
  rw [look_sh, run_sh, num_sh, text_sh s a i, sign_sh]
  split
  · rfl
  · split
    · rfl
    · split
      · rfl
      · cases signF s (a + i) <;> rfl
theorem lx_back {s : List UInt8} {a i : Nat} {l : List LTok} (h : Lx (s.drop a) i l) : ∃ l', Lx s (a + i) l' ∧ l = l'.map (sh a) := by
  generalize hu : s.drop a = u at h
  induction h with
  | done hs hj =>
    rename_i i j
    subst hu
    refine ⟨[], ?_, rfl⟩
    rw [skip_sh, skip_fuel (s := s) ((s.drop a).length + 1) (s.length + 1) (a + i) (by rw [List.length_drop]; omega) (by omega)] at hs
    rw [List.length_drop] at hj
    refine .done (j := (skipF s (s.length + 1) (a + i)).1) (Prod.ext rfl (by have := congrArg Prod.snd hs; exact this)) ?_
    have := congrArg Prod.fst hs
    have hg := skip_ge (s := s) (f := s.length + 1) (i := a + i)
    simp only at this
    omega
  | tok hs hj ht hl ih =>
    rename_i i j k t l
    subst hu
    rw [skip_sh, skip_fuel (s := s) ((s.drop a).length + 1) (s.length + 1) (a + i) (by rw [List.length_drop]; omega) (by omega)] at hs
    rw [List.length_drop] at hj
    have h1 := congrArg Prod.fst hs
    have h2 := congrArg Prod.snd hs
    have hg := skip_ge (s := s) (f := s.length + 1) (i := a + i)
    simp only at h1 h2
    have hje : (skipF s (s.length + 1) (a + i)).1 = a + j := by omega
    obtain ⟨l', hl', rfl⟩ := ih
    cases he : (tokF s (a + j)).2.2 with
    | some e =>
      have := tok_sh_err s a j
      rw [ht, he] at this
      cases this
    | none =>
      have h3 := tok_sh s a j he
      rw [ht] at h3
      have hk := (tok_in (s := s) (i := a + j) (by omega) (t := (tokF s (a + j)).1) (k := (tokF s (a + j)).2.1) (Prod.ext rfl (Prod.ext rfl he))).1
      simp only [sh3, Prod.mk.injEq] at h3
      refine ⟨(tokF s (a + j)).1 :: l', .tok (j := a + j) (k := (tokF s (a + j)).2.1) (Prod.ext hje h2) (by omega) (Prod.ext rfl (Prod.ext rfl he)) ?_, by rw [List.map_cons, ← h3.1]⟩
      have : (tokF s (a + j)).2.1 = a + k := by omega
      rw [this]
      exact hl'

/-! ### LexNotes -/
def notesL : List (List UInt8) := [[32], [10], [47, 42, 32, 105, 116, 39, 115, 32, 42, 47], [45, 45, 32, 115, 111, 10], [9, 32, 13, 10]]
theorem step_blank {s : List UInt8} {i : Nat} {c : UInt8} (hc : s[i]? = some c) (hb : c = 9 ∨ c = 10 ∨ c = 13 ∨ c = 32) : skipF s (s.length + 1) i = skipF s (s.length + 1) (i + 1) := by
  have hi := (List.getElem?_eq_some_iff.1 hc).1
  rw [skipF, hc]
  simp only
  rw [if_pos hb]
  exact skip_fuel _ _ _ (by omega) (by omega)
theorem step_line {s : List UInt8} {i n : Nat} {c : UInt8} (hc : s[i]? = some c) (hb : ¬ (c = 9 ∨ c = 10 ∨ c = 13 ∨ c = 32)) (hp : [45, 45].isPrefixOf (s.drop i) = true) (hn : (runF (fun c => c != 10) s i).length = n) :
    skipF s (s.length + 1) i = skipF s (s.length + 1) (i + n) := by
  have hi := (List.getElem?_eq_some_iff.1 hc).1
  have h2 := line_pos hp
  rw [skipF, hc]
  simp only
  rw [if_neg hb, if_pos hp, hn]
  exact skip_fuel _ _ _ (by omega) (by omega)
theorem step_note {s : List UInt8} {i k : Nat} {c : UInt8} (hc : s[i]? = some c) (hb : ¬ (c = 9 ∨ c = 10 ∨ c = 13 ∨ c = 32)) (hq : [45, 45].isPrefixOf (s.drop i) = false) (hp : [47, 42].isPrefixOf (s.drop i) = true) (hk : findF [42, 47] s (s.length + 1) (i + 2) = some k) :
    skipF s (s.length + 1) i = skipF s (s.length + 1) (k + 2) := by
  have hi := (List.getElem?_eq_some_iff.1 hc).1
  have h2 := (find_spec hk).1
  rw [skipF, hc]
  simp only
  rw [if_neg hb, if_neg (by rw [hq]; decide), if_pos hp, hk]
  exact skip_fuel _ _ _ (by omega) (by omega)
theorem ahead_all {b : List UInt8} (hb : b ∈ notesL) (x : List UInt8) : skipF (b ++ x) ((b ++ x).length + 1) 0 = skipF (b ++ x) ((b ++ x).length + 1) b.length := by
  simp only [notesL, List.mem_cons, List.not_mem_nil, or_false] at hb
  rcases hb with rfl | rfl | rfl | rfl | rfl
  · exact step_blank (c := 32) rfl (by decide)
  · exact step_blank (c := 10) rfl (by decide)
  · refine step_note (c := 47) (k := 8) rfl (by decide) (by rfl) (by rfl) ?_
    show findF [42, 47] (47 :: 42 :: 32 :: 105 :: 116 :: 39 :: 115 :: 32 :: 42 :: 47 :: x) _ 2 = some 8
    simp [findF]
  · refine (step_line (c := 45) (n := 5) rfl (by decide) (by rfl) ?_).trans (step_blank (c := 10) rfl (by decide))
    show (runF (fun c => c != 10) (45 :: 45 :: 32 :: 115 :: 111 :: 10 :: x) 0).length = 5
    simp [runF]
  · exact (step_blank (c := 9) rfl (by decide)).trans ((step_blank (c := 32) rfl (by decide)).trans ((step_blank (c := 13) rfl (by decide)).trans (step_blank (c := 10) rfl (by decide))))
theorem behind_all {b : List UInt8} (hb : b ∈ notesL) (s : List UInt8) : skipF (s ++ 10 :: b) ((s ++ 10 :: b).length + 1) s.length = ((s ++ 10 :: b).length, true) := by
  have h1 : skipF (10 :: b) 12 0 = (b.length + 1, true) := by
    have : ∀ b ∈ notesL, skipF (10 :: b) 12 0 = (b.length + 1, true) := by decide
    exact this b hb
  have hl : b.length ≤ 10 := by
    have : ∀ b ∈ notesL, b.length ≤ 10 := by decide
    exact this b hb
  have hx : (s ++ 10 :: b).length = s.length + (b.length + 1) := by rw [List.length_append]; rfl
  have h2 : (s ++ 10 :: b).drop s.length = 10 :: b := by simp
  have h3 := skip_sh (s ++ 10 :: b) s.length 12 0
  rw [h2, h1] at h3
  have e0 : s.length + 0 = s.length := rfl
  rw [e0, skip_fuel 12 ((s ++ 10 :: b).length + 1) s.length (by omega) (by omega)] at h3
  have h4 := congrArg Prod.fst h3
  have h5 := congrArg Prod.snd h3
  simp only at h4 h5
  exact Prod.ext (by omega) h5.symm
theorem notes_ok {b s : List UInt8} (hb : b ∈ notesL) {l : List LTok} (h : Lx s 0 l) : ∃ l', Lx (b ++ (s ++ 10 :: b)) 0 l' ∧ l = l'.map (sh b.length) := by
  have h1 := lx_ext (behind_all hb s) h (Nat.zero_le _)
  have h2 : (b ++ (s ++ 10 :: b)).drop b.length = s ++ 10 :: b := by simp
  rw [← h2] at h1
  obtain ⟨l', h3, h4⟩ := lx_back h1
  exact ⟨l', lx_ahead (ahead_all hb _) h3, h4⟩
end Go.Proofs.YtepankcnleeakaaGreatDoor.Ab
