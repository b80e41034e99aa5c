/- Sums, averages and counts hang on no order of the values. -/
import Derived.Test.YtdgffilnefnjjaaAggs13
namespace Go.Proofs.Ytdgffilnefnjjaa.Ab
open Go
set_option maxRecDepth 20000
set_option linter.unusedSimpArgs false

theorem cmpZ_zero (a b : Int) : cmpZ a b = 0 ↔ a = b := by
  unfold cmpZ
  split
  · constructor <;> intro h <;> omega
  · split
    · constructor <;> intro h <;> omega
    · constructor <;> intro h <;> omega
theorem orZ2 (a b : Int) : orZ [a, b] = 0 ↔ a = 0 ∧ b = 0 := by
  by_cases h : a = 0 <;> by_cases k : b = 0 <;> simp [orZ, h, k]
theorem orZ3 (a b c : Int) : orZ [a, b, c] = 0 ↔ a = 0 ∧ b = 0 ∧ c = 0 := by
  by_cases h : a = 0 <;> by_cases k : b = 0 <;> by_cases m : c = 0 <;> simp [orZ, h, k, m]
theorem bytes_zero : ∀ (a b : List UInt8), Lib.compareBytes a b = 0 ↔ a = b
  | [], [] => by simp [Lib.compareBytes]
  | [], _ :: _ => by simp [Lib.compareBytes]
  | _ :: _, [] => by simp [Lib.compareBytes]
  | a :: x, b :: y => by
    have ih := bytes_zero x y
    unfold Lib.compareBytes
    by_cases h : a < b
    · have hne : a ≠ b := fun e => by subst e; exact UInt8.lt_irrefl _ h
      simp [h, hne]
    · by_cases k : b < a
      · have hne : a ≠ b := fun e => by subst e; exact UInt8.lt_irrefl _ k
        simp [h, k, hne]
      · have he : a = b := UInt8.le_antisymm (UInt8.not_lt.1 k) (UInt8.not_lt.1 h)
        subst he
        simp [h, ih]

theorem rank_cases (k : Int) : (k = 0 ∨ k = 1 ∨ k = 2 ∨ k = 3 ∨ k = 4) ∨ (k ≠ 0 ∧ k ≠ 1 ∧ k ≠ 2 ∧ k ≠ 3 ∧ k ≠ 4 ∧ rankZ k = 4) := by
  by_cases h0 : k = 0
  · simp [h0]
  by_cases h1 : k = 1
  · simp [h1]
  by_cases h2 : k = 2
  · simp [h2]
  by_cases h3 : k = 3
  · simp [h3]
  by_cases h4 : k = 4
  · simp [h4]
  exact .inr ⟨h0, h1, h2, h3, h4, by simp [rankZ, h0, h1, h2, h3, h4]⟩

/-- What tells two values apart in their order. -/
def keyV (v : V) : V :=
  if v.k = 0 then ⟨0, 0, []⟩
  else if v.k = 1 ∨ v.k = 2 ∨ v.k = 3 then ⟨v.k, v.n, []⟩
  else if v.k = 4 then ⟨4, 0, v.s⟩
  else v
theorem keyV_k (v : V) : (keyV v).k = v.k := by
  unfold keyV
  split
  · rename_i h; exact h.symm
  · split
    · rfl
    · split
      · rename_i h; exact h.symm
      · rfl
theorem keyV_n (v : V) (h : v.k = 2 ∨ v.k = 3) : (keyV v).n = v.n := by
  unfold keyV
  rw [if_neg (by omega), if_pos (.inr h)]
theorem rank0 : rankZ 0 = 0 := by decide
theorem rank1 : rankZ 1 = 1 := by decide
theorem rank2 : rankZ 2 = 2 := by decide
theorem rank3 : rankZ 3 = 2 := by decide
theorem rank4 : rankZ 4 = 3 := by decide
theorem order_key (a b : V) : orderV a b = 0 ↔ keyV a = keyV b := by
  obtain ⟨ak, an, sa⟩ := a
  obtain ⟨bk, bn, sb⟩ := b
  rcases rank_cases ak with (rfl | rfl | rfl | rfl | rfl) | ⟨a0, a1, a2, a3, a4, ar⟩ <;> rcases rank_cases bk with (rfl | rfl | rfl | rfl | rfl) | ⟨b0, b1, b2, b3, b4, br⟩
  all_goals simp [orderV, keyV, compareV, numZ, cmpZ_zero, orZ2, orZ3, bytes_zero, rank0, rank1, rank2, rank3, rank4, *]
  all_goals first | omega | skip

def fitsV (all : Bool) (v : V) : Bool := !(decide (v.k = 0) && !all)
theorem fitsV_not {all : Bool} {v : V} : (v.k = 0 ∧ all = false) ↔ fitsV all v = false := by
  cases all <;> simp [fitsV]

theorem take_all (all : Bool) : ∀ (l out : List V), takeV all false l out = out ++ l.filter (fitsV all)
  | [], out => by simp [takeV]
  | v :: l, out => by
    unfold takeV
    by_cases h : v.k = 0 ∧ all = false
    · rw [if_pos h, take_all all l out, List.filter_cons_of_neg (by rw [fitsV_not.1 h]; simp)]
    · have hf : fitsV all v = true := by
        cases hb : fitsV all v with
        | true => rfl
        | false => exact absurd (fitsV_not.2 hb) h
      rw [if_neg h, if_neg (by simp), take_all all l _, List.filter_cons_of_pos hf]
      simp

theorem any_key (out : List V) (v : V) : (out.any fun x => decide (orderV x v = 0)) = true ↔ keyV v ∈ out.map keyV := by
  rw [List.any_eq_true]
  simp only [decide_eq_true_eq, order_key, List.mem_map]

theorem take_nodup (all : Bool) : ∀ (l out : List V), (out.map keyV).Nodup → ((takeV all true l out).map keyV).Nodup
  | [], out, h => h
  | v :: l, out, h => by
    unfold takeV
    split
    · exact take_nodup all l out h
    · split
      · exact take_nodup all l out h
      · rename_i _ hn
        refine take_nodup all l _ ?_
        rw [List.map_append, List.nodup_append]
        refine ⟨h, by simp, ?_⟩
        intro a ha b hb e
        subst e
        simp only [List.map_cons, List.map_nil, List.mem_singleton] at hb
        subst hb
        exact hn ⟨rfl, (any_key out v).2 ha⟩

theorem take_mem (all : Bool) (x : V) : ∀ (l out : List V), x ∈ (takeV all true l out).map keyV ↔ x ∈ out.map keyV ∨ x ∈ (l.filter (fitsV all)).map keyV
  | [], out => by simp [takeV]
  | v :: l, out => by
    unfold takeV
    by_cases h : v.k = 0 ∧ all = false
    · rw [if_pos h, take_mem all x l out, List.filter_cons_of_neg (by rw [fitsV_not.1 h]; simp)]
    · have hf : fitsV all v = true := by
        cases hb : fitsV all v with
        | true => rfl
        | false => exact absurd (fitsV_not.2 hb) h
      rw [if_neg h, List.filter_cons_of_pos hf]
      by_cases ha : (out.any fun x => decide (orderV x v = 0)) = true
      · rw [if_pos ⟨rfl, ha⟩, take_mem all x l out]
        have := (any_key out v).1 ha
        constructor
        · rintro (h1 | h1)
          · exact .inl h1
          · exact .inr (by simp only [List.map_cons, List.mem_cons]; exact .inr h1)
        · rintro (h1 | h1)
          · exact .inl h1
          · simp only [List.map_cons, List.mem_cons] at h1
            rcases h1 with rfl | h1
            · exact .inl this
            · exact .inr h1
      · rw [if_neg (fun e => ha e.2), take_mem all x l _]
        simp only [List.map_append, List.map_cons, List.map_nil, List.mem_append, List.mem_cons, List.not_mem_nil, or_false]
        constructor
        · rintro ((h1 | h1) | h1)
          · exact .inl h1
          · exact .inr (.inl h1)
          · exact .inr (.inr h1)
        · rintro (h1 | h1 | h1)
          · exact .inl (.inl h1)
          · exact .inl (.inr h1)
          · exact .inr h1

/-- The values that count, of a list and of the list turned: the same keys. -/
theorem take_turned (all dist : Bool) (l : List V) : ((takeV all dist l []).map keyV).Perm ((takeV all dist l.reverse []).map keyV) := by
  cases dist with
  | false =>
    rw [take_all, take_all, List.nil_append, List.nil_append, List.filter_reverse]
    exact ((List.reverse_perm _).map keyV).symm
  | true =>
    refine (List.perm_ext_iff_of_nodup (take_nodup all l [] (by simp)) (take_nodup all l.reverse [] (by simp))).2 fun x => ?_
    rw [take_mem, take_mem, List.filter_reverse, List.map_reverse, List.mem_reverse]

theorem sumZ_perm {l m : List V} (h : l.Perm m) : sumZ l = sumZ m := by
  induction h with
  | nil => rfl
  | cons x _ ih => simp only [sumZ, ih]
  | swap x y l => simp only [sumZ]; omega
  | trans _ _ h1 h2 => exact h1.trans h2

theorem sameK_iff (k : Int) (l : List V) : sameK k l = true ↔ ∀ x ∈ l.map keyV, x.k = k := by
  unfold sameK
  rw [List.all_eq_true]
  simp only [decide_eq_true_eq, List.mem_map]
  constructor
  · rintro h x ⟨v, hv, rfl⟩
    rw [keyV_k]
    exact h v hv
  · intro h v hv
    have := h (keyV v) ⟨v, hv, rfl⟩
    rwa [keyV_k] at this

theorem sumZ_key : ∀ (l : List V), (∀ x ∈ l, x.k = 2 ∨ x.k = 3) → sumZ (l.map keyV) = sumZ l
  | [], _ => rfl
  | v :: l, h => by simp only [List.map_cons, sumZ, keyV_n v (h v (by simp)), sumZ_key l (fun x hx => h x (by simp [hx]))]

theorem sumV_turned (avg : Bool) (v v' : V) (l l' : List V) (h : ((v :: l).map keyV).Perm ((v' :: l').map keyV)) : sumV avg v.k (v :: l) = sumV avg v'.k (v' :: l') := by
  by_cases hs : sameK v.k (v :: l) = true ∧ (v.k = 2 ∨ v.k = 3)
  · have h1 := (sameK_iff _ _).1 hs.1
    have h2 : ∀ x ∈ (v' :: l').map keyV, x.k = v.k := fun x hx => h1 x (h.mem_iff.2 hx)
    have h3 : v'.k = v.k := by
      have := h2 (keyV v') (by simp)
      rwa [keyV_k] at this
    have hall : ∀ (m : List V), (∀ x ∈ m.map keyV, x.k = v.k) → ∀ x ∈ m, x.k = 2 ∨ x.k = 3 := by
      intro m hm x hx
      have := hm (keyV x) (List.mem_map.2 ⟨x, hx, rfl⟩)
      rw [keyV_k] at this
      rw [this]
      exact hs.2
    have h4 : sumZ (v :: l) = sumZ (v' :: l') := by
      rw [← sumZ_key _ (hall _ h1), ← sumZ_key _ (hall _ h2)]
      exact sumZ_perm h
    have h5 : (v :: l).length = (v' :: l').length := by simpa using h.length_eq
    unfold sumV
    have hs2 : sameK v.k (v' :: l') = true ∧ (v.k = 2 ∨ v.k = 3) := ⟨(sameK_iff _ _).2 h2, hs.2⟩
    rw [h3]
    simp only [hs, hs2, h4, h5]
  · have hs' : ¬ (sameK v'.k (v' :: l') = true ∧ (v'.k = 2 ∨ v'.k = 3)) := by
      intro hs'
      apply hs
      have h1 := (sameK_iff _ _).1 hs'.1
      have h2 : ∀ x ∈ (v :: l).map keyV, x.k = v'.k := fun x hx => h1 x (h.mem_iff.1 hx)
      have h3 : v.k = v'.k := by
        have := h2 (keyV v) (by simp)
        rwa [keyV_k] at this
      rw [h3]
      exact ⟨(sameK_iff _ _).2 h2, hs'.2⟩
    unfold sumV
    rw [if_neg hs, if_neg hs']

theorem ofT_turned (nm : List UInt8) (hn : nm = sCount ∨ nm = sSum ∨ nm = sAvg) (t t' : List V) (h : (t.map keyV).Perm (t'.map keyV)) : ofT nm t = ofT nm t' := by
  have hlen : t.length = t'.length := by simpa using h.length_eq
  unfold ofT
  by_cases hc : nm = sCount
  · rw [if_pos hc, if_pos hc, hlen]
  · rw [if_neg hc, if_neg hc]
    have hsa : nm = sSum ∨ nm = sAvg := by
      rcases hn with h | h
      · exact absurd h hc
      · exact h
    cases t with
    | nil =>
      cases t' with
      | nil => rfl
      | cons => simp at hlen
    | cons v l =>
      cases t' with
      | nil => simp at hlen
      | cons v' l' =>
        simp only [if_pos hsa]
        exact sumV_turned _ v v' l l' h

theorem ofV_turned (nm : List UInt8) (hn : nm = sCount ∨ nm = sSum ∨ nm = sAvg) (dist all : Bool) (l : List V) : ofV nm dist all l.reverse = ofV nm dist all l := by
  unfold ofV
  rw [ofT_turned nm hn _ _ (take_turned all dist l)]
end Go.Proofs.Ytdgffilnefnjjaa.Ab
