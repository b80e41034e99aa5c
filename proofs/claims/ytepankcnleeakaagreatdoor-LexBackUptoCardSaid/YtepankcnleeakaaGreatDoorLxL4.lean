/- What a token is shown as reads as it: LexBack in plain words. -/
import Derived.Test.YtepankcnleeakaaGreatDoorLxLA
import Derived.Test.YtepankcnleeakaaGreatDoorLxVA
import Derived.Test.YtepankcnleeakaaGreatDoorLxQ2
namespace Go.Proofs.YtepankcnleeakaaGreatDoor.Ab
open Go
set_option linter.unusedVariables false
set_option maxRecDepth 20000

/-! ### digits -/
theorem val_from (d : List UInt8) : ∀ a : Nat, d.foldl (fun n c => n * 10 + (c.toNat - 48)) a = a * 10 ^ d.length + valF d := by
  unfold valF
  induction d with
  | nil => intro a; simp
  | cons c d ih =>
    intro a
    rw [List.foldl_cons, List.foldl_cons, ih, ih (0 * 10 + (c.toNat - 48)), List.length_cons, Nat.pow_succ]
    rw [Nat.zero_mul, Nat.zero_add, Nat.add_mul, Nat.mul_assoc, Nat.mul_comm 10, Nat.add_assoc]
theorem val_app (a b : List UInt8) : valF (a ++ b) = valF a * 10 ^ b.length + valF b := by
  rw [show valF (a ++ b) = b.foldl (fun n c => n * 10 + (c.toNat - 48)) (valF a) from List.foldl_append, val_from]
theorem val_zeros : ∀ k, valF (List.replicate k 48) = 0
  | 0 => rfl
  | k + 1 => by
    rw [List.replicate_succ, show (48 :: List.replicate k 48 : List UInt8) = [48] ++ List.replicate k 48 from rfl, val_app, val_zeros k, show valF [48] = 0 from rfl, Nat.zero_mul]
theorem dig_nat {u : Nat} (h : u < 10) : (UInt8.ofNat (48 + u)).toNat = 48 + u := by
  rw [UInt8.toNat_ofNat']
  omega
theorem dig_dig {u : Nat} (h : u < 10) : digB (UInt8.ofNat (48 + u)) = true := by
  unfold digB
  rw [dig_nat h]
  simp
  omega
theorem digs_all (u : Nat) : (∀ c ∈ Lib.decDigits u, digB c = true) ∧ valF (Lib.decDigits u) = u ∧ Lib.decDigits u ≠ [] ∧ (1 < (Lib.decDigits u).length → ¬ (Lib.decDigits u)[0]? = some 48) ∧ (0 < u → ¬ (Lib.decDigits u)[0]? = some 48) := by
  induction u using Nat.strongRecOn with
  | ind u ih =>
    rw [Lib.decDigits.eq_def]
    by_cases h : u < 10
    · rw [dif_pos h]
      refine ⟨?_, ?_, by simp, fun h => by simp at h, ?_⟩
      · intro c hc
        rw [List.mem_singleton] at hc
        rw [hc]
        exact dig_dig h
      · show 0 * 10 + ((UInt8.ofNat (48 + u)).toNat - 48) = u
        rw [dig_nat h]
        omega
      · intro hu he
        have h1 : UInt8.ofNat (48 + u) = 48 := Option.some.inj he
        have h2 := dig_nat h
        rw [h1] at h2
        have h3 : (48 : UInt8).toNat = 48 := rfl
        omega
    · rw [dif_neg h]
      obtain ⟨i1, i2, i3, i4, i5⟩ := ih (u / 10) (by omega)
      have hm : u % 10 < 10 := Nat.mod_lt _ (by decide)
      have h0 : ¬ (Lib.decDigits (u / 10) ++ [UInt8.ofNat (48 + u % 10)])[0]? = some 48 := by
        rw [List.getElem?_append_left (List.length_pos_iff.2 i3)]
        exact i5 (by omega)
      refine ⟨?_, ?_, by simp, fun _ => h0, fun _ => h0⟩
      · intro c hc
        rw [List.mem_append, List.mem_singleton] at hc
        rcases hc with hc | hc
        · exact i1 c hc
        · rw [hc]
          exact dig_dig hm
      · rw [val_app, i2]
        show u / 10 * 10 ^ 1 + (0 * 10 + ((UInt8.ofNat (48 + u % 10)).toNat - 48)) = u
        rw [dig_nat hm]
        omega
theorem trim_back (l : List UInt8) (c : UInt8) : l = Lib.trimRightB l c ++ List.replicate (l.length - (Lib.trimRightB l c).length) c := by
  unfold Lib.trimRightB
  have key : ∀ r : List UInt8, r = List.replicate (r.length - (r.dropWhile (fun x => x == c)).length) c ++ r.dropWhile (fun x => x == c) := by
    intro r
    induction r with
    | nil => rfl
    | cons a r ih =>
      by_cases h : (a == c) = true
      · rw [List.dropWhile_cons, if_pos h]
        have hl := List.IsSuffix.length_le (List.dropWhile_suffix (l := r) (fun x => x == c))
        rw [List.length_cons, show r.length + 1 - (r.dropWhile (fun x => x == c)).length = (r.length - (r.dropWhile (fun x => x == c)).length) + 1 by omega, List.replicate_succ, List.cons_append, ← ih]
        rw [show a = c by simpa using h]
      · rw [List.dropWhile_cons, if_neg h]
        simp
  have h := congrArg List.reverse (key l.reverse)
  rw [List.reverse_reverse, List.reverse_append, List.reverse_replicate, List.length_reverse] at h
  rw [List.length_reverse]
  exact h
theorem part_back {r : Nat} (h : r < 10000) : (∀ c ∈ decPart r, digB c = true) ∧ decPart r ≠ [] ∧ (decPart r).length ≤ 4 ∧ valF (decPart r ++ List.replicate (4 - (decPart r).length) 48) = r ∧ (decPart r ++ List.replicate (4 - (decPart r).length) 48).length = 4 := by
  obtain ⟨L, hL⟩ : ∃ L, List.replicate (4 - (Lib.decDigits r).length) 48 ++ Lib.decDigits r = L := ⟨_, rfl⟩
  have h4 := digs4 h
  have hLl : L.length = 4 := by rw [← hL, List.length_append, List.length_replicate]; omega
  have hLv : valF L = r := by
    rw [← hL, val_app, val_zeros, (digs_all r).2.1]
    omega
  have hLd : ∀ c ∈ L, digB c = true := by
    intro c hc
    rw [← hL, List.mem_append] at hc
    rcases hc with hc | hc
    · rw [List.eq_of_mem_replicate hc]
      decide
    · exact (digs_all r).1 c hc
  have hb := trim_back L 48
  have hlen := part_len h
  unfold decPart at hlen ⊢
  rw [hL] at hlen ⊢
  by_cases ht : Lib.trimRightB L 48 = []
  · rw [if_pos ht]
    rw [ht, hLl] at hb
    have hb' : L = [48] ++ List.replicate (4 - 1) 48 := hb
    refine ⟨by decide, by simp, by decide, ?_, rfl⟩
    show valF ([48] ++ List.replicate (4 - 1) 48) = r
    rw [← hb', hLv]
  · rw [if_neg ht] at hlen ⊢
    rw [hLl] at hb
    refine ⟨?_, ht, hlen, by rw [← hb, hLv], by rw [← hb, hLl]⟩
    intro c hc
    refine hLd c ?_
    rw [hb, List.mem_append]
    exact .inl hc

/-! ### a token's kind -/
inductive TokKind : LTok → Nat → Prop where
  | word (x : List UInt8) (p : Int) (h : x ∈ wordsL) (m : Nat) (hm : x.length ≤ m) : TokKind ⟨2, x, 0, p⟩ m
  | name (x : List UInt8) (p : Int) (c : UInt8) (r : List UInt8) (hx : x = c :: r) (hc : letB c = true) (ha : ∀ b ∈ x, ldB b = true) (hw : low x ∉ wordsL) (m : Nat) (hm : x.length ≤ m) : TokKind ⟨1, x, 0, p⟩ m
  | int (n : Nat) (p : Int) (h : n ≤ mostN) (m : Nat) : TokKind ⟨3, [], n, p⟩ m
  | dec (n : Nat) (p : Int) (h : n ≤ mostN) (m : Nat) : TokKind ⟨4, [], n, p⟩ m
  | text (x : List UInt8) (p : Int) (h : x.length ≤ 1024) (hv : Lib.validD x = true) (m : Nat) (hm : x.length ≤ m) : TokKind ⟨5, x, 0, p⟩ m
  | sign (x : List UInt8) (p : Int) (h : x ∈ signsL) (m : Nat) (hm : x.length ≤ m) : TokKind ⟨6, x, 0, p⟩ m
  | dur (n : Nat) (p : Int) (h : n ≤ 1099511627776) (m : Nat) : TokKind ⟨7, [], n, p⟩ m
theorem body_len {s : List UInt8} : ∀ {f i : Nat} {out : List UInt8} {x : List UInt8} {j : Nat}, bodyF s f i out = some (x, j) → x.length + i ≤ out.length + j
  | 0, _, _, _, _, h => by cases h
  | f + 1, i, out, x, j, h => by
    rw [bodyF] at h
    cases hc : s[i]? with
    | none => rw [hc] at h; cases h
    | some c =>
      rw [hc] at h
      simp only at h
      split at h
      · split at h
        · have := body_len h
          simp only [List.length_append, List.length_cons, List.length_nil] at this
          omega
        · cases h; omega
      · have := body_len h
        simp only [List.length_append, List.length_cons, List.length_nil] at this
        omega
theorem fst1_none {a b : Option Int} (h : fst1 a b = none) : a = none ∧ b = none := by
  cases a with
  | none => exact ⟨rfl, h⟩
  | some x => cases h
theorem if_none {c : Prop} [Decidable c] {x : Int} (h : (if c then some x else none) = none) : ¬ c := by
  intro hc
  rw [if_pos hc] at h
  cases h
theorem units_mul : ∀ x ∈ ([(0, 0), (1, 2), (1000, 1), (60000, 1), (3600000, 1), (86400000, 1)] : List (Nat × Nat)), ∀ v : Nat, 0 < x.2 → ¬ 1099511627776 / x.1 < v → v * x.1 ≤ 1099511627776 := by
  intro x hx v h0 h
  simp only [List.mem_cons, List.not_mem_nil, or_false] at hx
  rcases hx with rfl | rfl | rfl | rfl | rfl | rfl <;> simp only at * <;> omega
theorem unit_mem (s : List UInt8) (i : Nat) : unitF s i ∈ ([(0, 0), (1, 2), (1000, 1), (60000, 1), (3600000, 1), (86400000, 1)] : List (Nat × Nat)) := by
  unfold unitF unitsL
  simp only [unitOf]
  split
  · simp
  · split
    · simp
    · split
      · simp
      · split
        · simp
        · split <;> simp
theorem num_kind {s : List UInt8} {i k m : Nat} {t : LTok} (h : numF s i = (t, k, none)) : TokKind t m := by
  unfold numF at h
  simp only at h
  split at h
  · rename_i hu
    simp only [Prod.mk.injEq] at h
    obtain ⟨rfl, -, he⟩ := h
    have h2 := if_none (fst1_none he).2
    rw [not_or] at h2
    exact .dur _ _ (units_mul _ (unit_mem _ _) _ hu h2.2) m
  · split at h
    · split at h
      · simp only [Prod.mk.injEq] at h
        exact absurd (fst1_none h.2.2).2 (by simp)
      · simp only [Prod.mk.injEq] at h
        obtain ⟨rfl, -, he⟩ := h
        have h2 := if_none (fst1_none he).2
        exact .dec _ _ (Nat.le_of_not_lt h2) m
    · simp only [Prod.mk.injEq] at h
      obtain ⟨rfl, -, he⟩ := h
      have h2 := if_none (fst1_none (fst1_none he).2).2
      exact .int _ _ (Nat.le_of_not_lt h2) m
theorem low_len (x : List UInt8) : (low x).length = x.length := List.length_map _
theorem tok_kind {s : List UInt8} {i k : Nat} {t : LTok} (hi : i < s.length) (h : tokF s i = (t, k, none)) : TokKind t (k - i) := by
  unfold tokF at h
  simp only at h
  rw [look_at hi] at h
  split at h
  · rename_i hl
    simp only [Prod.mk.injEq] at h
    obtain ⟨h1, h2, -⟩ := h
    have hlen : (runF ldB s i).length ≤ k - i := by omega
    split at h1
    · rename_i hw
      subst h1
      exact .word _ _ hw _ (by rw [low_len]; exact hlen)
    · rename_i hw
      subst h1
      obtain ⟨r, hr⟩ : ∃ r, runF ldB s i = s[i] :: r := by
        unfold runF
        rw [List.drop_eq_getElem_cons hi, List.takeWhile_cons, if_pos (by unfold ldB; rw [hl]; rfl)]
        exact ⟨_, rfl⟩
      refine .name _ _ _ r hr hl ?_ hw _ hlen
      intro b hb
      exact List.all_eq_true.1 (List.all_takeWhile (p := ldB) (l := s.drop i)) b hb
  · split at h
    · exact num_kind h
    · split at h
      · unfold textF at h
        cases hb : bodyF s (s.length + 1) (i + 1) [] with
        | none => rw [hb] at h; simp at h
        | some x =>
          obtain ⟨x, j⟩ := x
          rw [hb] at h
          simp only [Prod.mk.injEq] at h
          obtain ⟨rfl, rfl, he⟩ := h
          have h2 := if_none he
          rw [not_or] at h2
          have h3 := body_len hb
          simp only [List.length_nil] at h3
          exact .text _ _ (Nat.le_of_not_lt h2.1) (by simpa using h2.2) _ (by omega)
      · cases hs : signF s i with
        | none => rw [hs] at h; simp at h
        | some x =>
          rw [hs] at h
          simp only [Prod.mk.injEq] at h
          obtain ⟨rfl, rfl, -⟩ := h
          refine .sign _ _ ?_ _ (by omega)
          unfold signF at hs
          exact List.mem_of_find?_eq_some hs

/-! ### what is shown reads as the token -/
/-- Neither a blank nor a note. -/
def startB (s : List UInt8) : Bool := match s with
  | [] => false
  | c :: _ => !(decide (c = 9 ∨ c = 10 ∨ c = 13 ∨ c = 32)) && !([45, 45].isPrefixOf s) && !([47, 42].isPrefixOf s)
theorem start_at {c : UInt8} {r : List UInt8} (h : ldB c = true ∨ c = 39) : startB (c :: r) = true := by
  have h1 : ¬ (c = 9 ∨ c = 10 ∨ c = 13 ∨ c = 32) := by
    rintro (rfl | rfl | rfl | rfl) <;> (rcases h with h | h <;> revert h <;> decide)
  have h2 : (45 == c) = false := by
    cases hb : (45 == c) with
    | false => rfl
    | true =>
      obtain rfl : 45 = c := by simpa using hb
      rcases h with h | h <;> revert h <;> decide
  have h3 : (47 == c) = false := by
    cases hb : (47 == c) with
    | false => rfl
    | true =>
      obtain rfl : 47 = c := by simpa using hb
      rcases h with h | h <;> revert h <;> decide
  show (!(decide (c = 9 ∨ c = 10 ∨ c = 13 ∨ c = 32)) && !(45 == c && _) && !(47 == c && _)) = true
  rw [decide_eq_false h1, h2, h3]
  rfl
theorem skip_start {s : List UInt8} (h : startB s = true) (f : Nat) : skipF s (f + 1) 0 = (0, true) := by
  match s, h with
  | c :: r, h =>
    simp only [startB, Bool.and_eq_true, Bool.not_eq_true'] at h
    obtain ⟨⟨h1, h2⟩, h3⟩ := h
    rw [skipF, show (c :: r)[0]? = some c from rfl]
    simp only
    rw [if_neg (of_decide_eq_false h1), List.drop_zero, if_neg (by rw [h2]; decide), if_neg (by rw [h3]; decide)]
theorem start_app {s r : List UInt8} (h : startB s = true) : startB (s ++ 32 :: r) = true := by
  match s, h with
  | c :: q, h =>
    simp only [startB, Bool.and_eq_true, Bool.not_eq_true'] at h
    obtain ⟨⟨h1, h2⟩, h3⟩ := h
    simp only [List.cons_append, startB, Bool.and_eq_true, Bool.not_eq_true']
    have e : (c :: q) ++ 32 :: r = c :: (q ++ 32 :: r) := rfl
    refine ⟨⟨h1, ?_⟩, ?_⟩
    · rw [← e, prefix_app [45, 45] (c :: q) r (by decide)]; exact h2
    · rw [← e, prefix_app [47, 42] (c :: q) r (by decide)]; exact h3
theorem run_all {p : UInt8 → Bool} {x r : List UInt8} (h : ∀ c ∈ x, p c = true) (hr : ∀ c, r[0]? = some c → p c = false) : runF p (x ++ r) 0 = x := by
  unfold runF
  rw [List.drop_zero, List.takeWhile_append_of_pos h]
  cases r with
  | nil => simp
  | cons c r => simp [hr c rfl]
theorem tok_name {c : UInt8} {r : List UInt8} (hc : letB c = true) (ha : ∀ b ∈ c :: r, ldB b = true) : tokF (c :: r) 0 = (if low (c :: r) ∈ wordsL then ⟨2, low (c :: r), 0, 0⟩ else ⟨1, c :: r, 0, 0⟩, (c :: r).length, none) := by
  have h1 : runF ldB (c :: r) 0 = c :: r := by
    have := run_all (r := []) ha (fun c h => by simp at h)
    rwa [List.append_nil] at this
  unfold tokF
  simp only
  rw [show lookF (c :: r) 0 0 = c from rfl, if_pos hc, h1, Nat.zero_add]
  rfl
theorem words_ok : ∀ w ∈ wordsL, (match w with | [] => false | c :: r => letB c && (c :: r).all ldB && decide (low (c :: r) = c :: r)) = true := by decide +kernel
theorem signs_ok : ∀ w ∈ signsL, (startB w && decide (tokF w 0 = (⟨6, w, 0, 0⟩, w.length, none))) = true := by decide +kernel
theorem body_quote : ∀ (x p : List UInt8) (f : Nat) (out : List UInt8), (quoteF x).length < f → bodyF (p ++ (quoteF x ++ [39])) f p.length out = some (out ++ x, p.length + (quoteF x).length + 1)
  | _, _, 0, _, h => absurd h (by omega)
  | [], p, f + 1, out, _ => by
    rw [bodyF]
    have e : p ++ (quoteF [] ++ [39]) = p ++ 39 :: [] := rfl
    rw [e, get_end, List.getElem?_eq_none (show (p ++ [39]).length ≤ p.length + 1 by simp)]
    simp only [if_true]
    rw [if_neg (by simp), List.append_nil]
    rfl
  | c :: x, p, f + 1, out, h => by
    rw [bodyF]
    unfold quoteF at h ⊢
    by_cases hc : c = 39
    · subst hc
      rw [if_pos rfl] at h ⊢
      simp only [List.length_cons] at h
      have e1 : p ++ (39 :: 39 :: quoteF x ++ [39]) = p ++ 39 :: (39 :: quoteF x ++ [39]) := rfl
      have e2 : p ++ (39 :: 39 :: quoteF x ++ [39]) = (p ++ [39]) ++ 39 :: (quoteF x ++ [39]) := by simp
      have e3 : p ++ (39 :: 39 :: quoteF x ++ [39]) = (p ++ [39, 39]) ++ (quoteF x ++ [39]) := by simp
      have g1 : (p ++ (39 :: 39 :: quoteF x ++ [39]))[p.length]? = some 39 := by rw [e1, get_end]
      have g2 : (p ++ (39 :: 39 :: quoteF x ++ [39]))[p.length + 1]? = some 39 := by
        have := get_end (p ++ [39]) (quoteF x ++ [39]) 39
        rw [← e2] at this
        have hl : (p ++ ([39] : List UInt8)).length = p.length + 1 := by simp
        rw [hl] at this
        exact this
      rw [g1]
      simp only [if_true]
      rw [g2, if_pos rfl, e3]
      have ih := body_quote x (p ++ [39, 39]) f (out ++ [39]) (by omega)
      have hl : (p ++ ([39, 39] : List UInt8)).length = p.length + 2 := by simp
      rw [hl] at ih
      rw [ih]
      simp only [List.length_cons, List.append_assoc, List.singleton_append, Option.some.injEq, Prod.mk.injEq, true_and]
      omega
    · rw [if_neg hc] at h ⊢
      simp only [List.length_cons] at h
      have e1 : p ++ (c :: quoteF x ++ [39]) = p ++ c :: (quoteF x ++ [39]) := rfl
      have e3 : p ++ (c :: quoteF x ++ [39]) = (p ++ [c]) ++ (quoteF x ++ [39]) := by simp
      rw [e1, get_end]
      simp only
      rw [if_neg hc, ← e1, e3]
      have ih := body_quote x (p ++ [c]) f (out ++ [c]) (by omega)
      have hl : (p ++ ([c] : List UInt8)).length = p.length + 1 := by simp
      rw [hl] at ih
      rw [ih]
      simp only [List.length_cons, List.append_assoc, List.singleton_append, Option.some.injEq, Prod.mk.injEq, true_and]
      omega
theorem tok_text {x : List UInt8} (h : x.length ≤ 1024) (hv : Lib.validD x = true) : tokF ([39] ++ quoteF x ++ [39]) 0 = (⟨5, x, 0, 0⟩, ([39] ++ quoteF x ++ [39]).length, none) := by
  have hb := body_quote x [39] (([39] ++ quoteF x ++ [39]).length + 1) [] (by simp only [List.length_append, List.length_cons, List.length_nil]; omega)
  rw [← List.append_assoc] at hb
  have hl : ([39] ++ quoteF x ++ [39]).length = 1 + (quoteF x).length + 1 := by simp only [List.length_append, List.length_cons, List.length_nil]
  unfold tokF
  simp only
  rw [show lookF ([39] ++ quoteF x ++ [39]) 0 0 = 39 from rfl, if_neg (by decide), if_neg (by decide), if_pos rfl]
  unfold textF
  rw [show 0 + 1 = ([39] : List UInt8).length from rfl, hb]
  simp only
  rw [List.nil_append, if_neg (by rw [hv, not_or]; exact ⟨by omega, by decide⟩), hl]
  rfl
theorem look_far {s : List UInt8} {i : Nat} (h : s.length ≤ i) : lookF s i 0 = 0 := by
  unfold lookF
  rw [Nat.add_zero, List.getElem?_eq_none h]
  rfl
theorem unit_end (d : List UInt8) : unitF d d.length = (0, 0) := by
  unfold unitF unitsL
  simp only [unitOf]
  rw [List.drop_eq_nil_of_le (Nat.le_refl _)]
  rfl
theorem tok_num {d : List UInt8} (hd : ∀ c ∈ d, digB c = true) (hne : d ≠ []) (r : List UInt8) : tokF (d ++ r) 0 = numF (d ++ r) 0 := by
  match d, hne with
  | c :: q, _ =>
    have h1 := hd c (by simp)
    have h2 : letB c = false := by
      unfold digB at h1
      unfold letB
      simp at h1
      have e1 : decide (97 ≤ c.toNat) = false := decide_eq_false (by omega)
      have e2 : decide (65 ≤ c.toNat) = false := decide_eq_false (by omega)
      have e3 : decide (c.toNat = 95) = false := decide_eq_false (by omega)
      rw [e1, e2, e3]
      rfl
    unfold tokF
    simp only
    rw [show lookF (c :: q ++ r) 0 0 = c from rfl, if_neg (by rw [h2]; decide), if_pos h1]
theorem tok_int {n : Nat} (h : n ≤ mostN) : tokF (Lib.decDigits n) 0 = (⟨3, [], n, 0⟩, (Lib.decDigits n).length, none) := by
  obtain ⟨h1, h2, h3, h4, _⟩ := digs_all n
  have ht := tok_num h1 h3 []
  rw [List.append_nil] at ht
  rw [ht]
  generalize Lib.decDigits n = d at *
  have hr := run_all (r := []) h1 (fun c h => by simp at h)
  rw [List.append_nil] at hr
  have e0 : lookF d (0 + d.length) 0 = 0 := look_far (by omega)
  unfold numF
  simp only
  rw [hr, e0, Nat.zero_add, unit_end, h2]
  rw [if_neg (show ¬ 0 < (0, 0).2 by decide), if_neg (fun h => absurd h.1 (by decide))]
  rw [if_neg (fun h => h4 h.1 h.2), if_neg (show ¬ letB 0 = true by decide), if_neg (show ¬ mostN < n by omega)]
  rfl
theorem tok_dur {n : Nat} (h : n ≤ 1099511627776) : tokF (Lib.decDigits n ++ [109, 115]) 0 = (⟨7, [], n, 0⟩, (Lib.decDigits n ++ [109, 115]).length, none) := by
  obtain ⟨h1, h2, h3, h4, _⟩ := digs_all n
  rw [tok_num h1 h3]
  generalize Lib.decDigits n = d at *
  have hr := run_all (r := [109, 115]) h1 (fun c h => by cases h; decide)
  have hdr : (d ++ [109, 115]).drop d.length = [109, 115] := by simp
  have hlk : lookF (d ++ [109, 115]) d.length 2 = 0 := by
    unfold lookF
    rw [List.getElem?_eq_none (by simp)]
    rfl
  have hu : unitF (d ++ [109, 115]) d.length = (1, 2) := by
    unfold unitF unitsL
    simp only [unitOf]
    rw [hdr, show ([109, 115] : List UInt8).length = 2 from rfl, hlk]
    rfl
  have h0 : 1 < d.length → ¬ (d ++ [109, 115])[0]? = some 48 := by
    intro hl
    rw [List.getElem?_append_left (by omega)]
    exact h4 hl
  unfold numF
  simp only
  rw [hr, Nat.zero_add, hu, h2, if_pos (show 0 < (1, 2).2 by decide)]
  rw [if_neg (fun h => h0 h.1 h.2), if_neg (show ¬ (mostN < n ∨ 1099511627776 / 1 < n) by unfold mostN; omega)]
  have e1 : (n : Int) * ((1 : Nat) : Int) = n := by omega
  simp only [List.length_append, List.length_cons, List.length_nil, e1]
  rfl
theorem tok_dec {n : Nat} (h : n ≤ mostN) : tokF (Lib.decDigits (n / 10000) ++ [46] ++ decPart (n % 10000)) 0 = (⟨4, [], n, 0⟩, (Lib.decDigits (n / 10000) ++ [46] ++ decPart (n % 10000)).length, none) := by
  obtain ⟨h1, h2, h3, h4, _⟩ := digs_all (n / 10000)
  obtain ⟨p1, p2, p3, p4, p5⟩ := part_back (r := n % 10000) (Nat.mod_lt _ (by decide))
  generalize Lib.decDigits (n / 10000) = d at *
  generalize decPart (n % 10000) = f at *
  rw [List.append_assoc, List.singleton_append, tok_num h1 h3]
  have hr := run_all (r := 46 :: f) h1 (fun c h => by cases h; decide)
  have hdr : (d ++ 46 :: f).drop d.length = 46 :: f := by simp
  have hdr1 : (d ++ 46 :: f).drop (d.length + 1) = f := by
    rw [← List.drop_drop, hdr]
    rfl
  have hu : unitF (d ++ 46 :: f) d.length = (0, 0) := by
    unfold unitF unitsL
    simp only [unitOf]
    rw [hdr]
    rfl
  have hl0 : lookF (d ++ 46 :: f) d.length 0 = 46 := by
    unfold lookF
    rw [Nat.add_zero, get_end]
    rfl
  have hl1 : digB (lookF (d ++ 46 :: f) d.length 1) = true := by
    match f, p2 with
    | c :: q, _ =>
      have e := p1 c (by simp)
      have : lookF (d ++ 46 :: c :: q) d.length 1 = c := by
        unfold lookF
        rw [List.getElem?_append_right (by omega), show d.length + 1 - d.length = 1 by omega]
        rfl
      rw [this, e]
  have hrf : runF digB (d ++ 46 :: f) (d.length + 1) = f := by
    have := run_all (r := []) p1 (fun c h => by simp at h)
    unfold runF at this ⊢
    rw [List.drop_zero, List.append_nil] at this
    rw [hdr1, this]
  have hle : lookF (d ++ 46 :: f) (d.length + 1 + f.length) 0 = 0 := look_far (by simp; omega)
  have h0 : 1 < d.length → ¬ (d ++ 46 :: f)[0]? = some 48 := by
    intro hl
    rw [List.getElem?_append_left (by omega)]
    exact h4 hl
  have hv : valF (d ++ f ++ List.replicate (4 - f.length) 48) = n := by
    rw [List.append_assoc, val_app, p4, p5, h2]
    omega
  unfold numF
  simp only
  rw [hr, Nat.zero_add, hu, if_neg (show ¬ 0 < (0, 0).2 by decide), hl0, hl1, if_pos ⟨rfl, rfl⟩, hrf, hle, if_neg (show ¬ (4 < f.length ∨ letB 0 = true) from fun h => h.elim (fun h => absurd p3 (by omega)) (fun h => by revert h; decide)), hv]
  rw [if_neg (fun h => h0 h.1 h.2), if_neg (show ¬ mostN < n by omega)]
  simp only [List.length_append, List.length_cons]
  congr 2
  omega
theorem dig_start {d : List UInt8} (hd : ∀ c ∈ d, digB c = true) (hne : d ≠ []) (r : List UInt8) : startB (d ++ r) = true := by
  match d, hne with
  | c :: q, _ => exact start_at (.inl (by unfold ldB; rw [hd c (by simp)]; simp))
/-- What a token is shown as reads as the token, whole. -/
theorem kind_ok {t : LTok} {m : Nat} (h : TokKind t m) : startB (shownF t) = true ∧ tokF (shownF t) 0 = (⟨t.k, t.s, t.n, 0⟩, (shownF t).length, none) := by
  cases h with
  | word x p hx =>
    show startB x = true ∧ tokF x 0 = (⟨2, x, 0, 0⟩, x.length, none)
    have hw := words_ok x hx
    match x, hx, hw with
    | c :: r, hx, hw =>
      simp only [Bool.and_eq_true, decide_eq_true_eq] at hw
      obtain ⟨⟨w1, w2⟩, w3⟩ := hw
      refine ⟨start_at (.inl (by unfold ldB; rw [w1]; rfl)), ?_⟩
      rw [tok_name w1 (List.all_eq_true.1 w2), w3, if_pos hx]
  | name x p c r hx hc ha hw =>
    show startB x = true ∧ tokF x 0 = (⟨1, x, 0, 0⟩, x.length, none)
    subst hx
    refine ⟨start_at (.inl (by unfold ldB; rw [hc]; rfl)), ?_⟩
    rw [tok_name hc ha, if_neg hw]
  | int n p hn =>
    show startB (Lib.itoa n) = true ∧ tokF (Lib.itoa n) 0 = (⟨3, [], n, 0⟩, (Lib.itoa n).length, none)
    rw [Lib.itoa_nonneg]
    obtain ⟨h1, _, h3, _⟩ := digs_all n
    refine ⟨?_, tok_int hn⟩
    have := dig_start h1 h3 []
    rwa [List.append_nil] at this
  | dec n p hn =>
    have e : decF (n : Int) = Lib.decDigits (n / 10000) ++ [46] ++ decPart (n % 10000) := by
      unfold decF
      rw [if_neg (by omega)]
      rfl
    show startB (decF n) = true ∧ tokF (decF n) 0 = (⟨4, [], n, 0⟩, (decF n).length, none)
    rw [e]
    obtain ⟨h1, _, h3, _⟩ := digs_all (n / 10000)
    refine ⟨?_, tok_dec hn⟩
    rw [List.append_assoc]
    exact dig_start h1 h3 _
  | text x p hl hv =>
    have e : textQ x = [39] ++ quoteF x ++ [39] := by
      unfold textQ
      rw [if_pos ⟨hl, hv⟩]
    show startB (textQ x) = true ∧ tokF (textQ x) 0 = (⟨5, x, 0, 0⟩, (textQ x).length, none)
    rw [e]
    exact ⟨start_at (.inr rfl), tok_text hl hv⟩
  | sign x p hx =>
    show startB x = true ∧ tokF x 0 = (⟨6, x, 0, 0⟩, x.length, none)
    have hw := signs_ok x hx
    simp only [Bool.and_eq_true, decide_eq_true_eq] at hw
    exact hw
  | dur n p hn =>
    show startB (Lib.itoa n ++ [109, 115]) = true ∧ tokF (Lib.itoa n ++ [109, 115]) 0 = (⟨7, [], n, 0⟩, (Lib.itoa n ++ [109, 115]).length, none)
    rw [Lib.itoa_nonneg]
    obtain ⟨h1, _, h3, _⟩ := digs_all n
    exact ⟨dig_start h1 h3 _, tok_dur hn⟩

/-! ### all tokens, a blank between two -/
theorem join_cons (x y : List UInt8) (l : List (List UInt8)) : Lib.join (x :: y :: l) [32] = x ++ 32 :: Lib.join (y :: l) [32] := by
  unfold Lib.join
  simp [List.intercalate, List.intersperse]
theorem join_one (x : List UInt8) : Lib.join [x] [32] = x := by
  unfold Lib.join
  simp [List.intercalate, List.intersperse]
theorem join_len : ∀ xs : List (List UInt8), (Lib.join xs [32]).length ≤ (xs.map List.length).sum + xs.length
  | [] => Nat.le_refl _
  | [x] => by
    rw [join_one]
    simp
  | x :: y :: l => by
    have := join_len (y :: l)
    rw [join_cons]
    simp only [List.length_append, List.length_cons, List.map_cons, List.sum_cons] at this ⊢
    omega
theorem lx_step {s : List UInt8} {i j : Nat} {l : List LTok} (hb : skipF s (s.length + 1) i = skipF s (s.length + 1) j) (h : Lx s j l) : Lx s i l := by
  cases h with
  | done hs hj => exact .done (hb.trans hs) hj
  | tok hs hj ht hl => exact .tok (hb.trans hs) hj ht hl
theorem lx_end (s : List UInt8) : Lx s s.length [] := .done (j := s.length) (by rw [skipF, List.getElem?_eq_none (Nat.le_refl _)]) (Nat.le_refl _)
theorem start_pos {s : List UInt8} (h : startB s = true) : 0 < s.length := by
  match s, h with
  | _ :: _, _ => simp
theorem lx_one {t : LTok} {m : Nat} (h : TokKind t m) : Lx (shownF t) 0 [⟨t.k, t.s, t.n, 0⟩] := by
  obtain ⟨h1, h2⟩ := kind_ok h
  exact .tok (skip_start h1 _) (start_pos h1) h2 (lx_end _)
theorem kind_okT {t : LTok} {m : Nat} (h : TokKind t m) : okT t := by
  unfold okT
  rw [lexA_ok (lx_one h)]
theorem lx_join : ∀ l : List LTok, (∀ t ∈ l, ∃ m, TokKind t m) → ∃ l', Lx (Lib.join (l.map shownF) [32]) 0 l' ∧ l'.map bareT = l.map bareT
  | [], _ => ⟨[], lx_end [], rfl⟩
  | [t], h => by
    obtain ⟨m, hm⟩ := h t (by simp)
    refine ⟨[⟨t.k, t.s, t.n, 0⟩], ?_, rfl⟩
    rw [List.map_cons, List.map_nil, join_one]
    exact lx_one hm
  | t :: u :: l, h => by
    obtain ⟨m, hm⟩ := h t (by simp)
    obtain ⟨l', h1, h2⟩ := lx_join (u :: l) (fun x hx => h x (by simp at hx ⊢; exact .inr hx))
    rw [List.map_cons, List.map_cons, join_cons, ← List.map_cons (f := shownF)]
    generalize Lib.join ((u :: l).map shownF) [32] = R at h1 ⊢
    obtain ⟨k1, k2⟩ := kind_ok hm
    have hp := start_pos k1
    have hdr : (shownF t ++ 32 :: R).drop ((shownF t).length + 1) = R := by
      rw [← List.drop_drop]
      simp
    obtain ⟨l'', h3, h4⟩ := lx_back (s := shownF t ++ 32 :: R) (a := (shownF t).length + 1) (i := 0) (l := l') (by rw [hdr]; exact h1)
    have h5 : Lx (shownF t ++ 32 :: R) (shownF t).length l'' := lx_step (step_blank (get_end _ _ _) (.inr (.inr (.inr rfl)))) h3
    refine ⟨_, .tok (skip_start (start_app k1) _) (by simp; omega) (tok_ext (.inr rfl) hp k2) h5, ?_⟩
    rw [List.map_cons, List.map_cons, ← h2, h4, List.map_map]
    rfl
theorem lx_kinds {s : List UInt8} {i : Nat} {l : List LTok} (h : Lx s i l) (hi : i ≤ s.length) : ∀ t ∈ l, ∃ m, m ≤ s.length ∧ TokKind t m := by
  induction h with
  | done => intro t ht; cases ht
  | tok hs hj ht hl ih =>
    rename_i i j k t l
    obtain ⟨hk1, hk2, _⟩ := tok_in hj ht
    intro u hu
    rcases List.mem_cons.1 hu with rfl | hu
    · exact ⟨k - j, by omega, tok_kind hj ht⟩
    · exact ih hk2 u hu
theorem kind_fine {t : LTok} {m : Nat} (h : TokKind t m) (hm : m ≤ 1048576) : t.fine := by
  unfold LTok.fine
  cases h with
  | word x p hx m h => exact ⟨⟨(by decide : (-9223372036854775808 : Int) ≤ 0), (by decide : (0 : Int) ≤ 9223372036854775807)⟩, Nat.le_trans h hm⟩
  | name x p c r hx hc ha hw m h => exact ⟨⟨(by decide : (-9223372036854775808 : Int) ≤ 0), (by decide : (0 : Int) ≤ 9223372036854775807)⟩, Nat.le_trans h hm⟩
  | int n p hn => exact ⟨⟨by show _ ≤ (n : Int); omega, by unfold mostN at hn; show (n : Int) ≤ _; omega⟩, by show 0 ≤ _; decide⟩
  | dec n p hn => exact ⟨⟨by show _ ≤ (n : Int); omega, by unfold mostN at hn; show (n : Int) ≤ _; omega⟩, by show 0 ≤ _; decide⟩
  | text x p hl hv m h => exact ⟨⟨(by decide : (-9223372036854775808 : Int) ≤ 0), (by decide : (0 : Int) ≤ 9223372036854775807)⟩, Nat.le_trans h hm⟩
  | sign x p hx m h => exact ⟨⟨(by decide : (-9223372036854775808 : Int) ≤ 0), (by decide : (0 : Int) ≤ 9223372036854775807)⟩, Nat.le_trans h hm⟩
  | dur n p hn => exact ⟨⟨by show _ ≤ (n : Int); omega, by show (n : Int) ≤ _; omega⟩, by show 0 ≤ _; decide⟩
theorem kind_len {t : LTok} {m : Nat} (h : TokKind t m) (hm : m ≤ 1048576) : (shownF t).length ≤ 2 * m + 28 := by
  obtain ⟨⟨h0, h1⟩, _⟩ := kind_fine h hm
  have a := itoa_len h0 h1
  have b := dec_len h0 h1
  have c := quote_len t.s
  cases h with
  | word x p hx m h => show x.length ≤ _; omega
  | name x p c r hx hc ha hw m h => show x.length ≤ _; omega
  | int n p hn => show (Lib.itoa n).length ≤ _; exact Nat.le_trans a (by omega)
  | dec n p hn => show (decF n).length ≤ _; exact Nat.le_trans b (by omega)
  | text x p hl hv m h =>
    show (textQ x).length ≤ _
    unfold textQ
    have c : (quoteF x).length ≤ 2 * x.length := c
    rw [if_pos ⟨hl, hv⟩]
    simp only [List.length_append, List.length_cons, List.length_nil]
    omega
  | sign x p hx m h => show x.length ≤ _; omega
  | dur n p hn =>
    show (Lib.itoa n ++ [109, 115]).length ≤ _
    have a : (Lib.itoa n).length ≤ 21 := a
    simp only [List.length_append, List.length_cons, List.length_nil]
    omega
theorem lx_sum {s : List UInt8} (hs : s.length ≤ 1048576) {i : Nat} {l : List LTok} (h : Lx s i l) (hi : i ≤ s.length) : ((l.map shownF).map List.length).sum ≤ 30 * (s.length - i) := by
  induction h with
  | done => simp
  | tok hs' hj ht hl ih =>
    rename_i i j k t l
    have hg : i ≤ j := by have := skip_ge (s := s) (f := s.length + 1) (i := i); rw [hs'] at this; exact this
    obtain ⟨hk1, hk2, _⟩ := tok_in hj ht
    have h1 := kind_len (tok_kind hj ht) (by omega)
    have := ih hk2
    simp only [List.map_cons, List.sum_cons]
    omega
/-- A source's tokens, shown, are a source of the same tokens. -/
theorem back_ok {s : List UInt8} (hs : s.length ≤ 1048576) {l : List LTok} (h : Lx s 0 l) :
    (∀ t ∈ l, t.fine) ∧ l.length ≤ 1048576 ∧ showF l = Lib.join (l.map shownF) [32] ∧ (showF l).length ≤ 67108864 ∧ ∃ l', lexA (showF l) = (l', 0, 0) ∧ l'.map bareT = l.map bareT := by
  have hk := lx_kinds h (Nat.zero_le _)
  have hc := lx_count h (Nat.zero_le _)
  have he : showF l = Lib.join (l.map shownF) [32] := by
    unfold showF
    rw [if_pos]
    intro t ht
    obtain ⟨m, _, hm⟩ := hk t ht
    exact kind_okT hm
  have h1 := join_len (l.map shownF)
  have h2 := lx_sum hs h (Nat.zero_le _)
  rw [List.length_map] at h1
  refine ⟨?_, by omega, he, by rw [he]; omega, ?_⟩
  · intro t ht
    obtain ⟨m, h3, hm⟩ := hk t ht
    exact kind_fine hm (by omega)
  · obtain ⟨l', h3, h4⟩ := lx_join l (fun t ht => by obtain ⟨m, _, hm⟩ := hk t ht; exact ⟨m, hm⟩)
    rw [he]
    exact ⟨l', lexA_ok h3, h4⟩
end Go.Proofs.YtepankcnleeakaaGreatDoor.Ab
