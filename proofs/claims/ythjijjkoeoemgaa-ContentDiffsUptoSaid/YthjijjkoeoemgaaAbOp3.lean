/- The operations that look into no memory, one by one. -/
import Derived.Test.YthjijjkoeoemgaaAbOp2
namespace Go.Proofs.Ythjijjkoeoemgaa.Ab
open Go
set_option linter.unusedSimpArgs false
set_option linter.unusedVariables false

section
variable {P : Program} {ρ : Loc}

theorem asNat_run {x : AV} {u : Value} {n : Nat} (h : asNat x = some n) (hx : VR ρ x u) : ∃ k, u = .int k (n : Int) := by
  unfold asNat at h
  split at h
  · rename_i k i
    split at h
    · rename_i hi
      cases h
      cases hx with
      | one hx => cases hx; exact ⟨k, by congr 1; omega⟩
    · cases h
  · cases h

theorem asNat_int {k : IntKind} {i : Int} {n : Nat} (h : asNat (.one (.int k i)) = some n) : i = n := by
  unfold asNat at h
  simp only at h
  split at h
  · cases h; omega
  · cases h

/-- What a struct's or an array's '==' answers. -/
theorem evEqS_run {t : TypeId} {n : Nat} {offs : List (Nat × EK)} {x y : AV} {u v : Value} {b : Bool} (h : evEqS n offs x y = some b) (hx : VR ρ x u) (hy : VR ρ y v)
    (hc : eqCells P 12 t 0 = some offs) (hn : tAgg P t = some (some n)) (w : World) :
    (Op.equal t u v).run P w = .ok b w ∧ (∃ A, u = .agg A) := by
  unfold evEqS at h
  split at h
  · rename_i xs ys
    split at h
    · rename_i hl
      have hl' : xs.length = n ∧ ys.length = n := by simpa using hl
      cases hx with
      | agg hx =>
        rename_i vs
        cases hy with
        | agg hy =>
          rename_i us
          refine ⟨?_, _, rfl⟩
          have h1 := hx.length
          have h2 := hy.length
          refine eqRun (P := P) hx hy 12 t 0 offs b Op.maxDepth _ _ hc h (.inr ⟨n, _, hn, rfl, fun j hj => by simp⟩) (.inr ⟨n, _, hn, rfl, fun j hj => by simp⟩) ?_ (by decide) w
          intro m hm
          rw [hn] at hm; cases hm
          omega
    · cases h
  · cases h

theorem evEq_run {t : TypeId} {k : EK} {x y : AV} {u v : Value} {b : Bool} (h : evEq k x y = some b) (hx : VR ρ x u) (hy : VR ρ y v)
    (ht : eKind P t = some k) (w : World) : (Op.equal t u v).run P w = .ok b w ∧ u ≠ .nilIface ∧ (∀ c, u ≠ .agg c) ∧ (∃ s q, x = .one s ∧ y = .one q ∧ SR ρ s u ∧ SR ρ q v ∧ eqS k s q = some b) := by
  unfold evEq at h
  split at h
  · cases hx with
    | one hx =>
      cases hy with
      | one hy =>
        refine ⟨eqS_run 9999 h hx hy ht w, ?_, ?_, _, _, rfl, rfl, hx, hy, h⟩
        · intro e; subst e; cases hx; simp [eqS] at h
        · intro c e; subst e; cases hx
  · cases h

/-! ### '==' through binOp -/
theorem binOp_eql {t : TypeId} {k : EK} {x y : AV} {u v : Value} {b : Bool} (h : evEq k x y = some b) (hx : VR ρ x u) (hy : VR ρ y v) (ht : eKind P t = some k)
    (hk : k ≠ .int ∧ k ≠ .str) (w : World) : (binOp .eql t u v).run P w = .ok (.bool b) w ∧ (binOp .neq t u v).run P w = .ok (.bool (!b)) w := by
  obtain ⟨h1, _, _, s, q, rfl, rfl, hs, hq, he⟩ := evEq_run h hx hy ht w
  have e1 : binOp .eql t u v = (do pure (.bool (← Op.equal t u v))) := by
    rcases eqS_cases he with ⟨rfl, a, c, rfl, rfl, rfl⟩ | ⟨rfl, _⟩ | ⟨rfl, _⟩ | ⟨rfl, hh⟩ | ⟨rfl, hh⟩ | ⟨rfl, hh⟩
    · cases hs; cases hq; rfl
    · exact absurd rfl hk.1
    · exact absurd rfl hk.2
    all_goals (rcases hh with ⟨rfl, rfl, rfl⟩ | ⟨rfl, hy', rfl⟩ | ⟨hx', rfl, rfl⟩)
    all_goals (try obtain ⟨_, _, rfl⟩ := hy')
    all_goals (try obtain ⟨_, _, rfl⟩ := hx')
    all_goals (try obtain ⟨_, _, _, _, _, rfl⟩ := hy')
    all_goals (try obtain ⟨_, _, _, _, _, rfl⟩ := hx')
    all_goals (cases hs <;> cases hq <;> rfl)
  have e2 : binOp .neq t u v = (do pure (.bool (!(← Op.equal t u v)))) := by
    rcases eqS_cases he with ⟨rfl, a, c, rfl, rfl, rfl⟩ | ⟨rfl, _⟩ | ⟨rfl, _⟩ | ⟨rfl, hh⟩ | ⟨rfl, hh⟩ | ⟨rfl, hh⟩
    · cases hs; cases hq; rfl
    · exact absurd rfl hk.1
    · exact absurd rfl hk.2
    all_goals (rcases hh with ⟨rfl, rfl, rfl⟩ | ⟨rfl, hy', rfl⟩ | ⟨hx', rfl, rfl⟩)
    all_goals (try obtain ⟨_, _, rfl⟩ := hy')
    all_goals (try obtain ⟨_, _, rfl⟩ := hx')
    all_goals (try obtain ⟨_, _, _, _, _, rfl⟩ := hy')
    all_goals (try obtain ⟨_, _, _, _, _, rfl⟩ := hx')
    all_goals (cases hs <;> cases hq <;> rfl)
  rw [e1, e2]
  simp [h1]

theorem binOp_aggs {t : TypeId} {A B : Array Value} {b : Bool} {w : World} (h : (Op.equal t (.agg A) (.agg B)).run P w = .ok b w) :
    (binOp .eql t (.agg A) (.agg B)).run P w = .ok (.bool b) w ∧ (binOp .neq t (.agg A) (.agg B)).run P w = .ok (.bool (!b)) w := by
  have e1 : binOp .eql t (.agg A) (.agg B) = (do pure (.bool (← Op.equal t (.agg A) (.agg B)))) := rfl
  have e2 : binOp .neq t (.agg A) (.agg B) = (do pure (.bool (!(← Op.equal t (.agg A) (.agg B))))) := rfl
  rw [e1, e2]
  simp [h]

/-- All of binOp. -/
theorem compBin_run {op : BinOp} {t : TypeId} {x y : AOpd} {aop : AOp} {X Y : Operand} {fr : List AV} {σ σ' : AHeap} {u u' : Value} {v : AV}
    (hc : compBin P op t x y = some aop) (hx : VR ρ (ev fr x) u) (hy : VR ρ (ev fr y) u') (he : evOp fr σ aop = some (v, σ')) :
    aop.memless = true ∧ σ' = σ ∧ ∃ r, VR ρ v r ∧ ∀ w, (do eqGuard op t X Y u u'; binOp op t u u' : Sem Value).run P w = .ok r w := by
  have plain : aop = .bin op x y → aop.memless = true ∧ σ' = σ ∧ ∃ r, VR ρ v r ∧ ∀ w, (do eqGuard op t X Y u u'; binOp op t u u' : Sem Value).run P w = .ok r w := by
    intro e
    subst e
    simp only [evOp, pure1] at he
    split at he
    · rename_i s hs
      cases he
      obtain ⟨⟨r, h1, h2⟩, h3, h4⟩ := evBin_run (P := P) t hs hx hy
      exact ⟨rfl, rfl, r, .one h2, fun w => by simp [eqGuard_run h3 h4, h1]⟩
    · cases he
  have other : ∀ neg : Bool, (op = .eql ∧ neg = false ∨ op = .neq ∧ neg = true) → (match P.underlying t with
      | some (.int _) | some .string => some (AOp.bin op x y)
      | some (.struct _) => match P.eqGuardType P.depth t, eqCells P 12 t 0, tAgg P t with
        | false, some l, some (some n) => some (.eqvS neg n l x y)
        | _, _, _ => none
      | _ => match eKind P t with
        | some k => some (.eqv neg k x y)
        | none => none) = some aop → aop.memless = true ∧ σ' = σ ∧ ∃ r, VR ρ v r ∧ ∀ w, (do eqGuard op t X Y u u'; binOp op t u u' : Sem Value).run P w = .ok r w := by
    intro neg hneg hc
    split at hc
    · cases hc; exact plain rfl
    · cases hc; exact plain rfl
    · split at hc
      · rename_i l n hg hl hn
        cases hc
        simp only [evOp] at he
        split at he
        · rename_i b hb
          cases he
          refine ⟨rfl, rfl, .bool (if neg then !b else b), .one (.bool _), fun w => ?_⟩
          obtain ⟨h1, A, rfl⟩ := evEqS_run (P := P) hb hx hy hl hn w
          obtain ⟨B, rfl⟩ : ∃ B, u' = .agg B := by
            unfold evEqS at hb
            split at hb
            · rename_i h2; rw [h2] at hy; cases hy with | agg hy => exact ⟨_, rfl⟩
            · cases hb
          have h2 := binOp_aggs h1
          have h3 := run_eqGuard_agg (P := P) (w := w) op t X Y A B hg
          rcases hneg with ⟨rfl, rfl⟩ | ⟨rfl, rfl⟩
          · simp [h3, h2.1]
          · simp [h3, h2.2]
        · cases he
      · cases hc
    · rename_i hni hns hnst
      split at hc
      · rename_i k hk
        cases hc
        simp only [evOp] at he
        split at he
        · rename_i b hb
          cases he
          have hkk : k ≠ .int ∧ k ≠ .str := by
            obtain ⟨td, h1, h2⟩ := eKind_run hk
            constructor
            · intro e; subst e; obtain ⟨i, rfl⟩ := h2; exact hni _ h1
            · intro e; subst e; cases h2; exact hns h1
          refine ⟨rfl, rfl, .bool (if neg then !b else b), .one (.bool _), fun w => ?_⟩
          obtain ⟨_, h2, h3, _⟩ := evEq_run (P := P) hb hx hy hk w
          have h4 := binOp_eql (P := P) hb hx hy hk hkk w
          rcases hneg with ⟨rfl, rfl⟩ | ⟨rfl, rfl⟩
          · simp [eqGuard_run h2 h3, h4.1]
          · simp [eqGuard_run h2 h3, h4.2]
        · cases he
      · cases hc
  unfold compBin at hc
  cases op
  case eql => exact other false (.inl ⟨rfl, rfl⟩) hc
  case neq => exact other true (.inr ⟨rfl, rfl⟩) hc
  all_goals (cases hc; exact plain rfl)

end
end Go.Proofs.Ythjijjkoeoemgaa.Ab
