/- Reasoning about a region that draws its order: run in the text's order, with what its checks ask. -/
import Derived.Test.YthjijjkoeoemgaaAbSim
namespace Go.Proofs.Ythjijjkoeoemgaa.Ab
open Go
set_option linter.unusedSimpArgs false
set_option linter.unusedVariables false

def lookN {α : Type} : List (Nat × α) → Nat → Option α
  | [], _ => none
  | (k, a) :: l, n => if k = n then some a else lookN l n

/-- What a load reads: none where it is not run. -/
def loadOf (fr : List AV) (o : AOper) : Option (Option Nat) := match wantedA fr o.guard with
  | false => some none
  | true => match o.op with
    | .load _ x => match ev fr x with
      | .one (.ptr id _) => some (some id)
      | _ => none
    | _ => none

abbrev RecH := List (Nat × (AHeap × AHeap))
abbrev RecI := List (Nat × Option (Option Nat))

def fin1 (H : RecH) (I : RecI) (p : Nat × Nat) : Bool := match lookN I p.2, lookN H p.1 with
  | some (some none), some _ => true
  | some (some (some id)), some (s1, s2) => sameObj (s1.get id) (s2.get id)
  | _, _ => false

def finAll (H : RecH) (I : RecI) : List (Nat × Nat) → Bool
  | [] => true
  | p :: l => fin1 H I p && finAll H I l

def hasFst (pairs : List (Nat × Nat)) (i : Nat) : Bool := match pairs with
  | [] => false
  | p :: l => Nat.beq p.1 i || hasFst l i
def hasSnd (pairs : List (Nat × Nat)) (i : Nat) : Bool := match pairs with
  | [] => false
  | p :: l => Nat.beq p.2 i || hasSnd l i

def pushH (b : Bool) (i : Nat) (s1 s2 : AHeap) (H : RecH) : RecH := match b with
  | true => (i, (s1, s2)) :: H
  | false => H
def pushI (b : Bool) (i : Nat) (fr : List AV) (o : AOper) (I : RecI) : RecI := match b with
  | true => (i, loadOf fr o) :: I
  | false => I

def chkGo (pairs : List (Nat × Nat)) : Nat → List AOper → List (List AV × AHeap) → RecH → RecI → Bool
  | _, [], _, H, I => finAll H I pairs
  | i, o :: l, (fr, s) :: (fr2, s2) :: rest, H, I => chkGo pairs (i + 1) l ((fr2, s2) :: rest) (pushH (hasFst pairs i) i s s2 H) (pushI (hasSnd pairs i) i fr o I)
  | _, _, _, _, _ => false

theorem finAll_mono {A : List AOper} {T : List (List AV × AHeap)} {H : RecH} {I : RecI}
    (hH : ∀ k s1 s2, lookN H k = some (s1, s2) → ∃ f1 f2, T[k]? = some (f1, s1) ∧ T[k + 1]? = some (f2, s2))
    (hI : ∀ k x, lookN I k = some x → ∃ o f s, A[k]? = some o ∧ T[k]? = some (f, s) ∧ x = loadOf f o) :
    ∀ pairs, finAll H I pairs = true → pairsOk A T pairs = true
  | [], _ => rfl
  | p :: l, h => by
    simp only [finAll, Bool.and_eq_true] at h
    simp only [pairsOk, Bool.and_eq_true]
    refine ⟨?_, finAll_mono hH hI l h.2⟩
    have h1 := h.1
    unfold fin1 at h1
    split at h1
    · rename_i x e1 e2
      obtain ⟨s1, s2⟩ := x
      obtain ⟨f1, f2, k1, k2⟩ := hH _ _ _ e2
      obtain ⟨o, f, s, k3, k4, k5⟩ := hI _ _ e1
      unfold pairOk
      rw [k3, k4, k1, k2]
      unfold loadOf at k5
      simp only
      split at k5
      · rename_i hw; rw [hw]
      · split at k5
        · split at k5 <;> cases k5
        · cases k5
    · rename_i id s1 s2 e1 e2
      obtain ⟨f1, f2, k1, k2⟩ := hH _ _ _ e2
      obtain ⟨o, f, s, k3, k4, k5⟩ := hI _ _ e1
      unfold pairOk
      rw [k3, k4, k1, k2]
      unfold loadOf at k5
      simp only
      split at k5
      · cases k5
      · rename_i hw
        rw [hw]
        simp only
        split at k5
        · rename_i ho
          rw [ho]
          simp only
          split at k5
          · rename_i he
            cases k5
            rw [he]
            exact h1
          · cases k5
        · cases k5
    · cases h1

theorem chkGo_ok (pairs : List (Nat × Nat)) : ∀ (l : List AOper) (A : List AOper) (T0 tt : List (List AV × AHeap)) (H : RecH) (I : RecI),
    A.length = T0.length → (∀ k s1 s2, lookN H k = some (s1, s2) → ∃ f1 f2, (T0 ++ tt)[k]? = some (f1, s1) ∧ (T0 ++ tt)[k + 1]? = some (f2, s2)) →
    (∀ k x, lookN I k = some x → ∃ o f s, A[k]? = some o ∧ T0[k]? = some (f, s) ∧ x = loadOf f o) →
    chkGo pairs A.length l tt H I = true → pairsOk (A ++ l) (T0 ++ tt) pairs = true
  | [], A, T0, tt, H, I, hl, hH, hI, h => by
    unfold chkGo at h
    rw [List.append_nil]
    refine finAll_mono hH (fun k x hx => ?_) pairs h
    obtain ⟨o, f, s, k1, k2, k3⟩ := hI k x hx
    refine ⟨o, f, s, k1, ?_, k3⟩
    have : k < T0.length := by
      have := List.getElem?_eq_some_iff.1 k2
      exact this.1
    rw [List.getElem?_append_left this, k2]
  | o :: l, A, T0, [], H, I, hl, hH, hI, h => by unfold chkGo at h; cases h
  | o :: l, A, T0, [_], H, I, hl, hH, hI, h => by unfold chkGo at h; cases h
  | o :: l, A, T0, (fr, s) :: (fr2, s2) :: rest, H, I, hl, hH, hI, h => by
    unfold chkGo at h
    have e1 : A ++ o :: l = (A ++ [o]) ++ l := by simp
    have e2 : T0 ++ (fr, s) :: (fr2, s2) :: rest = (T0 ++ [(fr, s)]) ++ (fr2, s2) :: rest := by simp
    have e3 : (A ++ [o]).length = A.length + 1 := by simp
    rw [e1, e2]
    refine chkGo_ok pairs l (A ++ [o]) (T0 ++ [(fr, s)]) ((fr2, s2) :: rest) _ _ (by simp [hl]) ?_ ?_ (by rw [e3]; exact h)
    · intro k a b hk
      rw [← e2]
      unfold pushH at hk
      split at hk
      · unfold lookN at hk
        split at hk
        · rename_i e
          cases hk
          subst e
          refine ⟨fr, fr2, ?_, ?_⟩
          · rw [hl, List.getElem?_append_right (Nat.le_refl _)]; simp
          · rw [hl, List.getElem?_append_right (by omega)]; simp
        · exact hH k a b hk
      · exact hH k a b hk
    · intro k x hk
      have old : ∀ k x, lookN I k = some x → ∃ o' f s', (A ++ [o])[k]? = some o' ∧ (T0 ++ [(fr, s)])[k]? = some (f, s') ∧ x = loadOf f o' := by
        intro k x hx
        obtain ⟨o', f, s', k1, k2, k3⟩ := hI k x hx
        have l1 : k < A.length := (List.getElem?_eq_some_iff.1 k1).1
        have l2 : k < T0.length := (List.getElem?_eq_some_iff.1 k2).1
        exact ⟨o', f, s', by rw [List.getElem?_append_left l1, k1], by rw [List.getElem?_append_left l2, k2], k3⟩
      unfold pushI at hk
      split at hk
      · unfold lookN at hk
        split at hk
        · rename_i e
          cases hk
          subst e
          refine ⟨o, fr, s, ?_, ?_, rfl⟩
          · rw [List.getElem?_append_right (Nat.le_refl _)]; simp
          · rw [hl, List.getElem?_append_right (Nat.le_refl _)]; simp
        · exact old k x hk
      · exact old k x hk

def PDraw (_ : Tok) (call : CallF) (pairs : List (Nat × Nat)) (i : Nat) (ops : List AOper) (H : RecH) (I : RecI) (fr : List AV) (σ : AHeap) (N : KN) : Prop :=
  ∃ tt fr' σ', evTr call ops fr σ = some (tt, fr', σ') ∧ chkGo pairs i ops tt H I = true ∧ N .go fr' σ'

section
variable {call : CallF} {m : Nat} {N : KN} {E : KE} {R : KN} {fr : List AV} {σ : AHeap} {pairs : List (Nat × Nat)} {H : RecH} {I : RecI} {i : Nat}

/-- A region that draws. -/
theorem ends_draw {ops : List AOper} (h : PDraw .go call pairs 0 ops [] [] fr σ N) : EndsC .go call m (.draw ops pairs) fr σ N E R := by
  obtain ⟨tt, fr', σ', h1, h2, h3⟩ := h
  refine ⟨.normal, fr', σ', ?_, h3⟩
  have := chkGo_ok pairs ops [] [] tt [] [] rfl (fun k a b h => by cases h) (fun k x h => by cases h) h2
  simp only [List.nil_append] at this
  simp only [evCode, evDraw, h1, this]

theorem evTr_head : ∀ {l : List AOper} {fr : List AV} {σ : AHeap} {t fr' σ'}, evTr call l fr σ = some (t, fr', σ') → ∃ t', t = (fr, σ) :: t'
  | [], fr, σ, t, fr', σ', h => by simp only [evTr, Option.some.injEq, Prod.mk.injEq] at h; exact ⟨[], h.1.symm⟩
  | o :: l, fr, σ, t, fr', σ', h => by
    simp only [evTr] at h
    split at h
    · split at h
      · cases h; exact ⟨_, rfl⟩
      · cases h
    · cases h

theorem pdraw_nil : PDraw .go call pairs i [] H I fr σ N = (finAll H I pairs = true ∧ N .go fr σ) := by
  apply propext; constructor
  · rintro ⟨tt, u, v, h, h2, k⟩
    simp only [evTr, Option.some.injEq, Prod.mk.injEq] at h
    obtain ⟨rfl, rfl, rfl⟩ := h
    exact ⟨h2, k⟩
  · intro k; exact ⟨_, fr, σ, rfl, k.1, k.2⟩

theorem pdraw_oper {o : AOper} {l : List AOper} :
    PDraw .go call pairs i (o :: l) H I fr σ N = ∃ fr' σ', evOper call fr σ o = some (fr', σ') ∧ PDraw .go call pairs (i + 1) l (pushH (hasFst pairs i) i σ σ' H) (pushI (hasSnd pairs i) i fr o I) fr' σ' N := by
  apply propext
  unfold PDraw
  constructor
  · rintro ⟨tt, u, v, h, h2, k⟩
    simp only [evTr] at h
    split at h
    · rename_i fr' σ' ho
      split at h
      · rename_i t fr2 σ2 ht
        cases h
        obtain ⟨t', rfl⟩ := evTr_head ht
        exact ⟨fr', σ', ho, _, _, _, ht, h2, k⟩
      · cases h
    · cases h
  · rintro ⟨fr', σ', ho, t, u, v, ht, h2, k⟩
    obtain ⟨t', rfl⟩ := evTr_head ht
    exact ⟨(fr, σ) :: (fr', σ') :: t', u, v, by simp only [evTr, ho, ht], by unfold chkGo; exact h2, k⟩

theorem pdraw_cons {d : Option Nat} {op : AOp} {l : List AOper} :
    PDraw .go call pairs i (⟨d, op, none⟩ :: l) H I fr σ N = OptP (evStep call fr σ op) (fun t v σ' => PDraw t call pairs (i + 1) l (pushH (hasFst pairs i) i σ σ' H) (pushI (hasSnd pairs i) i fr ⟨d, op, none⟩ I) (putDst fr d v) σ' N) := by
  rw [pdraw_oper]
  apply propext
  unfold OptP
  simp only [evOper, wantedA]
  constructor
  · rintro ⟨fr', σ', h, k⟩
    split at h
    · rename_i v σ'' h2
      simp only [Option.some.injEq, Prod.mk.injEq] at h
      obtain ⟨rfl, rfl⟩ := h
      exact ⟨v, σ'', h2, k⟩
    · cases h
  · rintro ⟨v, σ', h, k⟩
    exact ⟨_, σ', by rw [h], k⟩

theorem pdraw_consG {d : Option Nat} {op : AOp} {l : List AOper} {s : Nat} {w : Bool} :
    PDraw .go call pairs i (⟨d, op, some (s, w)⟩ :: l) H I fr σ N = guardP (wantedA fr (some (s, w)))
      (fun t => PStep t call op fr σ (fun t v σ' => PDraw t call pairs (i + 1) l (pushH (hasFst pairs i) i σ σ' H) (pushI (hasSnd pairs i) i fr ⟨d, op, some (s, w)⟩ I) (putDst fr d v) σ' N))
      (fun t => PDraw t call pairs (i + 1) l (pushH (hasFst pairs i) i σ σ H) (pushI (hasSnd pairs i) i fr ⟨d, op, some (s, w)⟩ I) (putDst fr d undefA) σ N) := by
  rw [pdraw_oper]
  apply propext
  unfold PStep OptP guardP
  simp only [evOper]
  cases hw : wantedA fr (some (s, w)) with
  | false =>
    simp only [reduceCtorEq, false_imp_iff, true_imp_iff, true_and]
    constructor
    · rintro ⟨fr', σ', h, k⟩
      simp only [Option.some.injEq, Prod.mk.injEq] at h
      obtain ⟨rfl, rfl⟩ := h
      exact k
    · intro k; exact ⟨_, _, rfl, k⟩
  | true =>
    simp only [true_imp_iff, reduceCtorEq, false_imp_iff, and_true]
    constructor
    · rintro ⟨fr', σ', h, k⟩
      split at h
      · rename_i v σ'' h2
        simp only [Option.some.injEq, Prod.mk.injEq] at h
        obtain ⟨rfl, rfl⟩ := h
        exact ⟨v, σ'', h2, k⟩
      · cases h
    · rintro ⟨v, σ', h, k⟩
      exact ⟨_, σ', by rw [h], k⟩
end

theorem beqL_refl : ∀ l : List UInt8, beqL l l = true
  | [] => rfl
  | a :: l => by simp [beqL, beqL_refl l]
theorem beqL_iff : ∀ a b : List UInt8, beqL a b = decide (a = b)
  | [], [] => rfl
  | [], _ :: _ => rfl
  | _ :: _, [] => rfl
  | a :: x, b :: y => by
    simp only [beqL]
    by_cases h : a = b
    · subst h; simp [beqL_iff x y]
    · have : a.toNat ≠ b.toNat := fun e => h (UInt8.toNat_inj.1 e)
      simp [h, this]

theorem evTr_ops {call : CallF} : ∀ (l : List AOper) (fr : List AV) (σ : AHeap), (evTr call l fr σ).map (fun t => t.2) = evOps call l fr σ
  | [], fr, σ => rfl
  | o :: l, fr, σ => by
    simp only [evTr, evOps]
    cases evOper call fr σ o with
    | none => rfl
    | some x =>
      obtain ⟨fr', σ'⟩ := x
      simp only
      rw [← evTr_ops l fr' σ']
      cases evTr call l fr' σ' with
      | none => rfl
      | some y => rfl

theorem ends_draw0 {call : CallF} {m : Nat} {N : KN} {E : KE} {R : KN} {fr : List AV} {σ : AHeap} {ops : List AOper} :
    EndsC .go call m (.draw ops []) fr σ N E R = POps .go call ops fr σ N := by
  rw [← ends_region (m := m) (E := E) (R := R)]
  unfold EndsC
  congr 1
  simp only [evCode, evDraw, pairsOk]
  rw [← evTr_ops]
  cases evTr call ops fr σ with
  | none => rfl
  | some y => rfl

attribute [simp] repeatCells ends_draw0 lookN loadOf fin1 finAll hasFst hasSnd pushH pushI pdraw_nil pdraw_cons pdraw_consG beqL_refl SV.same sameCells Md.same sameObj

end Go.Proofs.Ythjijjkoeoemgaa.Ab
