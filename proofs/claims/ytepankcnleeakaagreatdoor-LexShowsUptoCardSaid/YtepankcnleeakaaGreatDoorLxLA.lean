/- Several of my texts in one: LxL0, LxL1, LxL2, LxL3. -/
import Derived.Test.YtepankcnleeakaaGreatDoorLxF
namespace Go.Proofs.YtepankcnleeakaaGreatDoor.Ab
open Go
set_option linter.unusedVariables false
set_option maxRecDepth 20000
theorem val_from (d : List UInt8) : ∀ a : Nat, d.foldl (fun n c => n * 10 + (c.toNat - 48)) a = a * 10 ^ d.length + valF d := by
  unfold valF
  induction d with
  | nil => intro a; simp
  | cons c d ih =>
    intro a
    rw [List.foldl_cons, List.foldl_cons, ih, ih (0 * 10 + (c.toNat - 48)), List.length_cons, Nat.pow_succ]
    rw [Nat.zero_mul, Nat.zero_add, Nat.add_mul, Nat.mul_assoc, Nat.mul_comm 10, Nat.add_assoc]
theorem val_app (a b : List UInt8) : valF (a ++ b) = valF a * 10 ^ b.length + valF b := by
  rw [show valF (a ++ b) = b.foldl (fun n c => n * 10 + (c.toNat - 48)) (valF a) from List.foldl_append, val_from]
theorem units_mul : ∀ x ∈ ([(0, 0), (1, 2), (1000, 1), (60000, 1), (3600000, 1), (86400000, 1)] : List (Nat × Nat)), ∀ v : Nat, 0 < x.2 → ¬ 1099511627776 / x.1 < v → v * x.1 ≤ 1099511627776 := by
  intro x hx v h0 h
  simp only [List.mem_cons, List.not_mem_nil, or_false] at hx
  rcases hx with rfl | rfl | rfl | rfl | rfl | rfl <;> simp only at * <;> omega
theorem unit_mem (s : List UInt8) (i : Nat) : unitF s i ∈ ([(0, 0), (1, 2), (1000, 1), (60000, 1), (3600000, 1), (86400000, 1)] : List (Nat × Nat)) := by
  unfold unitF unitsL
  simp only [unitOf]
  split
  · simp
  · split
    · simp
    · split
      · simp
      · split
        · simp
        · split <;> simp
end Go.Proofs.YtepankcnleeakaaGreatDoor.Ab
namespace Go.Proofs.YtepankcnleeakaaGreatDoor.Ab
open Go
set_option linter.unusedVariables false
def sh (a : Nat) (t : LTok) : LTok := ⟨t.k, t.s, t.n, t.p - a⟩
theorem get_sh (s : List UInt8) (a i : Nat) : (s.drop a)[i]? = s[a + i]? := List.getElem?_drop
theorem drop_sh (s : List UInt8) (a i : Nat) : (s.drop a).drop i = s.drop (a + i) := List.drop_drop
theorem look_sh (s : List UInt8) (a i k : Nat) : lookF (s.drop a) i k = lookF s (a + i) k := by
  unfold lookF
  rw [get_sh, Nat.add_assoc]
theorem run_sh (p : UInt8 → Bool) (s : List UInt8) (a i : Nat) : runF p (s.drop a) i = runF p s (a + i) := by
  unfold runF
  rw [drop_sh]
theorem unit_sh (s : List UInt8) (a i : Nat) : unitF (s.drop a) i = unitF s (a + i) := by
  unfold unitF
  generalize unitsL = l
  induction l with
  | nil => rfl
  | cons x l ih =>
    obtain ⟨u, n⟩ := x
    unfold unitOf
    rw [drop_sh, look_sh, ih]
theorem body_sh (s : List UInt8) (a : Nat) : ∀ (f i : Nat) (out : List UInt8), bodyF (s.drop a) f i out = (bodyF s f (a + i) out).map fun x => (x.1, x.2 - a)
  | 0, _, _ => rfl
  | f + 1, i, out => by
    rw [bodyF, bodyF, get_sh]
    cases s[a + i]? with
    | none => rfl
    | some c =>
      simp only
      rw [get_sh, body_sh s a f (i + 2), body_sh s a f (i + 1), show a + (i + 1) = a + i + 1 by omega, show a + (i + 2) = a + i + 2 by omega]
      split
      · split
        · rfl
        · show _ = some _
          simp
          omega
      · rfl
theorem body_fuel {s : List UInt8} : ∀ (f f' i : Nat) (out : List UInt8), s.length - i < f → s.length - i < f' → bodyF s f i out = bodyF s f' i out
  | 0, _, _, _, h, _ => absurd h (by omega)
  | _, 0, _, _, _, h => absurd h (by omega)
  | f + 1, f' + 1, i, out, h, h' => by
    rw [bodyF, bodyF]
    cases hc : s[i]? with
    | none => rfl
    | some c =>
      have hi := (List.getElem?_eq_some_iff.1 hc).1
      simp only
      rw [body_fuel f f' (i + 2) _ (by omega) (by omega), body_fuel f f' (i + 1) _ (by omega) (by omega)]
theorem sign_sh (s : List UInt8) (a i : Nat) : signF (s.drop a) i = signF s (a + i) := by
  unfold signF
  rw [drop_sh]
theorem find_sh (t s : List UInt8) (a : Nat) : ∀ (f i : Nat), findF t (s.drop a) f i = (findF t s f (a + i)).map (· - a)
  | 0, _ => rfl
  | f + 1, i => by
    rw [findF, findF, drop_sh, find_sh t s a f (i + 1), show a + (i + 1) = a + i + 1 by omega]
    split
    · show some _ = some _
      simp
    · rfl
theorem find_far {t s : List UInt8} (ht : t ≠ []) : ∀ (f i : Nat), s.length ≤ i → findF t s f i = none
  | 0, _, _ => rfl
  | f + 1, i, h => by
    rw [findF, List.drop_eq_nil_of_le h]
    have : t.isPrefixOf [] = false := by
      cases t with
      | nil => exact absurd rfl ht
      | cons => rfl
    rw [this]
    simp only [Bool.false_eq_true, if_false]
    exact find_far ht f (i + 1) (by omega)
theorem find_fuel {t s : List UInt8} (ht : t ≠ []) : ∀ (f f' i : Nat), s.length - i < f → s.length - i < f' → findF t s f i = findF t s f' i
  | 0, _, _, h, _ => absurd h (by omega)
  | _, 0, _, _, h => absurd h (by omega)
  | f + 1, f' + 1, i, h, h' => by
    by_cases hi : s.length ≤ i
    · rw [find_far ht _ _ hi, find_far ht _ _ hi]
    · rw [findF, findF, find_fuel ht f f' (i + 1) (by omega) (by omega)]
theorem find_spec {t s : List UInt8} : ∀ {f i k : Nat}, findF t s f i = some k → i ≤ k ∧ t.isPrefixOf (s.drop k) = true
  | 0, i, k, h => by cases h
  | f + 1, i, k, h => by
    rw [findF] at h
    split at h
    · rename_i hp
      cases h
      exact ⟨Nat.le_refl _, hp⟩
    · have := find_spec h
      exact ⟨by omega, this.2⟩
theorem pre_len {t s : List UInt8} {i : Nat} (h : t.isPrefixOf (s.drop i) = true) : t.length ≤ s.length - i := by
  have := List.IsPrefix.length_le (List.isPrefixOf_iff_prefix.1 h)
  rwa [List.length_drop] at this
theorem line_pos {s : List UInt8} {i : Nat} (h : [45, 45].isPrefixOf (s.drop i) = true) : 0 < (runF (fun c => c != 10) s i).length := by
  have h1 := List.isPrefixOf_iff_prefix.1 h
  unfold runF
  obtain ⟨r, hr⟩ := h1
  rw [← hr]
  simp
theorem skip_fuel {s : List UInt8} : ∀ (f f' i : Nat), s.length - i < f → s.length - i < f' → skipF s f i = skipF s f' i
  | 0, _, _, h, _ => absurd h (by omega)
  | _, 0, _, _, h => absurd h (by omega)
  | f + 1, f' + 1, i, h, h' => by
    rw [skipF, skipF]
    cases hc : s[i]? with
    | none => rfl
    | some c =>
      have hi := (List.getElem?_eq_some_iff.1 hc).1
      simp only
      rw [skip_fuel f f' (i + 1) (by omega) (by omega)]
      split
      · rfl
      · split
        · rename_i h2
          have := line_pos h2
          exact skip_fuel f f' _ (by omega) (by omega)
        · split
          · cases hf : findF [42, 47] s (s.length + 1) (i + 2) with
            | none => rfl
            | some k =>
              have := (find_spec hf).1
              exact skip_fuel f f' _ (by omega) (by omega)
          · rfl
def sh3 (a : Nat) (r : LTok × Nat × Option Int) : LTok × Nat × Option Int := (sh a r.1, r.2.1 - a, r.2.2)
theorem place_sh (a i : Nat) : ((a + i : Nat) : Int) - (a : Int) = (i : Int) := by omega
theorem num_sh (s : List UInt8) (a i : Nat) : numF (s.drop a) i = sh3 a (numF s (a + i)) := by
  unfold numF
  simp only
  rw [run_sh, get_sh, show i + (runF digB s (a + i)).length = i + (runF digB s (a + i)).length from rfl]
  generalize runF digB s (a + i) = d
  have e1 : ∀ x, a + (i + x) = a + i + x := fun x => by omega
  have e2 : ∀ x, a + i + x - a = i + x := fun x => by omega
  have e3 : a + (i + d.length + 1) = a + i + d.length + 1 := by omega
  rw [unit_sh, look_sh, look_sh, run_sh, e3, e1]
  generalize runF digB s (a + i + d.length + 1) = f
  have e4 : a + (i + d.length + 1 + f.length) = a + i + d.length + 1 + f.length := by omega
  rw [look_sh, e4]
  unfold sh3 sh
  split
  · simp only [place_sh]
    congr 2
    omega
  · split
    · split
      · simp only [place_sh]
        congr 2
        omega
      · simp only [place_sh]
        congr 2
        omega
    · simp only [place_sh]
      congr 2
      omega
theorem text_sh (s : List UInt8) (a i : Nat) : textF (s.drop a) i = sh3 a (textF s (a + i)) := by
  unfold textF
  rw [body_sh, show a + (i + 1) = a + i + 1 by omega]
  by_cases hi : a + i + 1 ≤ s.length
  · rw [body_fuel ((s.drop a).length + 1) (s.length + 1) (a + i + 1) [] (by rw [List.length_drop]; omega) (by omega)]
    cases bodyF s (s.length + 1) (a + i + 1) [] with
    | none => unfold sh3 sh; simp only [Option.map_none, place_sh]; congr 2; omega
    | some x => unfold sh3 sh; simp only [Option.map_some, place_sh]
  · have hb : ∀ f, bodyF s f (a + i + 1) [] = none := fun f => by
      cases f with
      | zero => rfl
      | succ f => rw [bodyF, List.getElem?_eq_none (by omega)]
    rw [hb, hb]
    unfold sh3 sh
    simp only [Option.map_none, place_sh]
    congr 2
    omega
theorem tok_sh (s : List UInt8) (a i : Nat) (hne : (tokF s (a + i)).2.2 = none) : tokF (s.drop a) i = sh3 a (tokF s (a + i)) := by
  unfold tokF at hne ⊢
  simp only at hne ⊢
  rw [look_sh, run_sh, num_sh, text_sh s a i, sign_sh]
  split
  · split <;> (unfold sh3 sh; simp only [place_sh]; congr 2; omega)
  · split
    · rfl
    · split
      · rfl
      · rename_i h1 h2 h3
        rw [if_neg h1, if_neg h2, if_neg h3] at hne
        cases hs : signF s (a + i) with
        | none => rw [hs] at hne; cases hne
        | some x => unfold sh3 sh; simp only [place_sh]; congr 2; omega
end Go.Proofs.YtepankcnleeakaaGreatDoor.Ab
namespace Go.Proofs.YtepankcnleeakaaGreatDoor.Ab
open Go
set_option linter.unusedVariables false
theorem runs_le {p : UInt8 → Bool} {s : List UInt8} {i : Nat} (hi : i ≤ s.length) : i + (runF p s i).length ≤ s.length := by
  have := List.IsPrefix.length_le (List.takeWhile_prefix (p := p) (l := s.drop i))
  rw [List.length_drop] at this
  unfold runF
  omega
theorem run_pos {p : UInt8 → Bool} {s : List UInt8} {i : Nat} (hi : i < s.length) (hp : p s[i] = true) : 0 < (runF p s i).length := by
  unfold runF
  rw [List.drop_eq_getElem_cons hi, List.takeWhile_cons, if_pos hp]
  simp
theorem unit_in {s : List UInt8} {i : Nat} (hi : i ≤ s.length) : i + (unitF s i).2 ≤ s.length := by
  unfold unitF
  generalize unitsL = l
  induction l with
  | nil => exact hi
  | cons x l ih =>
    obtain ⟨u, n⟩ := x
    unfold unitOf
    split
    · rename_i h
      simp only [Bool.and_eq_true] at h
      have := pre_len h.1.1
      show i + u.length ≤ s.length
      omega
    · exact ih
theorem body_end {s : List UInt8} : ∀ {f i : Nat} {out : List UInt8} {x : List UInt8} {j : Nat}, bodyF s f i out = some (x, j) → i < j ∧ j ≤ s.length
  | 0, _, _, _, _, h => by cases h
  | f + 1, i, out, x, j, h => by
    rw [bodyF] at h
    cases hc : s[i]? with
    | none => rw [hc] at h; cases h
    | some c =>
      rw [hc] at h
      have hi := (List.getElem?_eq_some_iff.1 hc).1
      simp only at h
      split at h
      · split at h
        · have := body_end h; omega
        · cases h; omega
      · have := body_end h; omega
theorem look_in {s : List UInt8} {i k : Nat} {c : UInt8} (h : lookF s i k = c) (hc : c ≠ 0) : i + k < s.length := by
  unfold lookF at h
  by_cases hi : i + k < s.length
  · exact hi
  · rw [List.getElem?_eq_none (by omega)] at h
    exact absurd h.symm hc
theorem look_at {s : List UInt8} {i : Nat} (hi : i < s.length) : lookF s i 0 = s[i] := by
  unfold lookF
  rw [Nat.add_zero, List.getElem?_eq_getElem hi]
  rfl
theorem num_in {s : List UInt8} {i : Nat} (hi : i < s.length) (hd : digB s[i] = true) : i < (numF s i).2.1 ∧ (numF s i).2.1 ≤ s.length := by
  have h1 := run_pos hi hd
  have h2 := runs_le (p := digB) (Nat.le_of_lt hi)
  unfold numF
  simp only
  have h3 := unit_in h2
  split
  · refine ⟨?_, h3⟩
    show i < i + (runF digB s i).length + (unitF s (i + (runF digB s i).length)).2
    omega
  · split
    · rename_i h4
      have h5 := look_in h4.1 (by decide)
      have h6 := runs_le (p := digB) (s := s) (i := i + (runF digB s i).length + 1) (by omega)
      have h7 : i < i + (runF digB s i).length + 1 + (runF digB s (i + (runF digB s i).length + 1)).length := by omega
      split
      · exact ⟨h7, h6⟩
      · exact ⟨h7, h6⟩
    · exact ⟨show i < i + (runF digB s i).length by omega, h2⟩
theorem sign_in {s : List UInt8} {i : Nat} {x : List UInt8} (h : signF s i = some x) : 0 < x.length ∧ i + x.length ≤ s.length ∨ s.length < i := by
  unfold signF at h
  have h1 := List.find?_some h
  have h2 := List.mem_of_find?_eq_some h
  have h3 := pre_len h1
  have h4 : 0 < x.length := by
    have : ∀ x ∈ signsL, 0 < x.length := by decide
    exact this x h2
  omega
theorem tok_in {s : List UInt8} {i : Nat} (hi : i < s.length) {t : LTok} {k : Nat} (h : tokF s i = (t, k, none)) : i < k ∧ k ≤ s.length ∧ t.p = i := by
  unfold tokF at h
  simp only at h
  rw [look_at hi] at h
  split at h
  · rename_i hl
    have h1 : 0 < (runF ldB s i).length := run_pos hi (by unfold ldB; rw [hl]; rfl)
    have h2 := runs_le (p := ldB) (Nat.le_of_lt hi)
    simp only [Prod.mk.injEq] at h
    refine ⟨by omega, by omega, ?_⟩
    rw [← h.1]
    split <;> rfl
  · split at h
    · rename_i hd
      have h1 := num_in hi hd
      rw [h] at h1
      refine ⟨h1.1, h1.2, ?_⟩
      have : (numF s i).1.p = i := by
        unfold numF
        simp only
        split
        · rfl
        · split
          · split <;> rfl
          · rfl
      rw [h] at this
      exact this
    · split at h
      · unfold textF at h
        cases hb : bodyF s (s.length + 1) (i + 1) [] with
        | none => rw [hb] at h; simp at h
        | some x =>
          obtain ⟨x, j⟩ := x
          rw [hb] at h
          simp only [Prod.mk.injEq] at h
          have := body_end hb
          refine ⟨by omega, by omega, by rw [← h.1]⟩
      · cases hs : signF s i with
        | none => rw [hs] at h; simp at h
        | some x =>
          rw [hs] at h
          simp only [Prod.mk.injEq] at h
          have := sign_in hs
          refine ⟨by omega, by omega, by rw [← h.1]⟩
theorem tok_err {s : List UInt8} {i : Nat} {e : Int} (h : (tokF s i).2.2 = some e) : e ≠ 0 := by
  have f1 : ∀ {a b : Option Int} {e : Int}, fst1 a b = some e → a = some e ∨ b = some e := by
    intro a b e h
    cases a with
    | none => exact .inr h
    | some x => exact .inl h
  have if1 : ∀ {c : Prop} [Decidable c] {x e : Int}, (if c then some x else none) = some e → e = x := by
    intro c _ x e h
    split at h
    · exact (Option.some.inj h).symm
    · cases h
  unfold tokF at h
  simp only at h
  split at h
  · cases h
  · split at h
    · unfold numF at h
      simp only at h
      split at h
      · rcases f1 h with h | h <;> (rw [if1 h]; decide)
      · split at h
        · split at h
          · rcases f1 h with h | h
            · rw [if1 h]; decide
            · cases h; decide
          · rcases f1 h with h | h <;> (rw [if1 h]; decide)
        · rcases f1 h with h | h
          · rw [if1 h]; decide
          · rcases f1 h with h | h <;> (rw [if1 h]; decide)
    · split at h
      · unfold textF at h
        cases hb : bodyF s (s.length + 1) (i + 1) [] with
        | none => rw [hb] at h; cases h; decide
        | some x => rw [hb] at h; rw [if1 h]; decide
      · cases hs : signF s i with
        | none => rw [hs] at h; cases h; decide
        | some x => rw [hs] at h; cases h
theorem skip_ge {s : List UInt8} : ∀ {f i : Nat}, i ≤ (skipF s f i).1
  | 0, i => Nat.le_refl _
  | f + 1, i => by
    rw [skipF]
    cases hc : s[i]? with
    | none => exact Nat.le_refl _
    | some c =>
      simp only
      split
      · have := skip_ge (s := s) (f := f) (i := i + 1); omega
      · split
        · have := skip_ge (s := s) (f := f) (i := i + (runF (fun c => c != 10) s i).length); omega
        · split
          · cases hf : findF [42, 47] s (s.length + 1) (i + 2) with
            | none => exact Nat.le_refl _
            | some k =>
              have h1 := (find_spec hf).1
              have := skip_ge (s := s) (f := f) (i := k + 2)
              simp only
              omega
          · exact Nat.le_refl _
inductive Lx (s : List UInt8) : Nat → List LTok → Prop where
  | done {i j : Nat} (h : skipF s (s.length + 1) i = (j, true)) (hj : s.length ≤ j) : Lx s i []
  | tok {i j k : Nat} {t : LTok} {l : List LTok} (h : skipF s (s.length + 1) i = (j, true)) (hj : j < s.length) (ht : tokF s j = (t, k, none)) (hl : Lx s k l) : Lx s i (t :: l)
theorem lx_err {s : List UInt8} : ∀ {f i : Nat} {l0 : List LTok}, s.length - i < f → (lexF s f i l0).2.2 ≠ 0 → (lexF s f i l0).1 = []
  | 0, _, _, h, _ => absurd h (by omega)
  | f + 1, i, l0, hf, h => by
    rw [lexF] at h ⊢
    cases hs : skipF s (s.length + 1) i with
    | mk j b =>
      rw [hs] at h
      cases b with
      | false => rfl
      | true =>
        simp only at h ⊢
        by_cases hj : s.length ≤ j
        · rw [if_pos hj] at h; exact absurd rfl h
        · rw [if_neg hj] at h ⊢
          cases ht : tokF s j with
          | mk t r =>
            obtain ⟨k, e⟩ := r
            rw [ht] at h
            cases e with
            | some e => rfl
            | none =>
              simp only at h ⊢
              have hg : i ≤ j := by have := skip_ge (s := s) (f := s.length + 1) (i := i); rw [hs] at this; exact this
              obtain ⟨hk1, hk2, _⟩ := tok_in (by omega) ht
              exact lx_err (by omega) h
end Go.Proofs.YtepankcnleeakaaGreatDoor.Ab
namespace Go.Proofs.YtepankcnleeakaaGreatDoor.Ab
open Go
set_option linter.unusedVariables false
def Blank (c : UInt8) : Prop := c = 10 ∨ c = 32
theorem Blank.no {c : UInt8} (h : Blank c) : letB c = false ∧ digB c = false ∧ ldB c = false ∧ c ≠ 46 ∧ c ≠ 39 := by
  rcases h with rfl | rfl <;> decide
theorem tok_sh_err (s : List UInt8) (a i : Nat) : (tokF (s.drop a) i).2.2 = (tokF s (a + i)).2.2 := by
  unfold tokF
  simp only
  rw [look_sh, run_sh, num_sh, text_sh s a i, sign_sh]
  split
  · rfl
  · split
    · rfl
    · split
      · rfl
      · cases signF s (a + i) <;> rfl
theorem step_blank {s : List UInt8} {i : Nat} {c : UInt8} (hc : s[i]? = some c) (hb : c = 9 ∨ c = 10 ∨ c = 13 ∨ c = 32) : skipF s (s.length + 1) i = skipF s (s.length + 1) (i + 1) := by
  have hi := (List.getElem?_eq_some_iff.1 hc).1
  rw [skipF, hc]
  simp only
  rw [if_pos hb]
  exact skip_fuel _ _ _ (by omega) (by omega)
theorem step_line {s : List UInt8} {i n : Nat} {c : UInt8} (hc : s[i]? = some c) (hb : ¬ (c = 9 ∨ c = 10 ∨ c = 13 ∨ c = 32)) (hp : [45, 45].isPrefixOf (s.drop i) = true) (hn : (runF (fun c => c != 10) s i).length = n) :
    skipF s (s.length + 1) i = skipF s (s.length + 1) (i + n) := by
  have hi := (List.getElem?_eq_some_iff.1 hc).1
  have h2 := line_pos hp
  rw [skipF, hc]
  simp only
  rw [if_neg hb, if_pos hp, hn]
  exact skip_fuel _ _ _ (by omega) (by omega)
theorem step_note {s : List UInt8} {i k : Nat} {c : UInt8} (hc : s[i]? = some c) (hb : ¬ (c = 9 ∨ c = 10 ∨ c = 13 ∨ c = 32)) (hq : [45, 45].isPrefixOf (s.drop i) = false) (hp : [47, 42].isPrefixOf (s.drop i) = true) (hk : findF [42, 47] s (s.length + 1) (i + 2) = some k) :
    skipF s (s.length + 1) i = skipF s (s.length + 1) (k + 2) := by
  have hi := (List.getElem?_eq_some_iff.1 hc).1
  have h2 := (find_spec hk).1
  rw [skipF, hc]
  simp only
  rw [if_neg hb, if_neg (by rw [hq]; decide), if_pos hp, hk]
  exact skip_fuel _ _ _ (by omega) (by omega)
end Go.Proofs.YtepankcnleeakaaGreatDoor.Ab
