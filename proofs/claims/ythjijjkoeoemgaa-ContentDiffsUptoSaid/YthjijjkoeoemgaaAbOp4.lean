/- Every operation that looks into no memory: what it answers in whatever world. -/
import Derived.Test.YthjijjkoeoemgaaAbOp3
namespace Go.Proofs.Ythjijjkoeoemgaa.Ab
open Go
set_option linter.unusedSimpArgs false
set_option linter.unusedVariables false

section
variable {P : Program} {ρ : Loc}

theorem evFns_rel {l : List Operand} {r : List AOpd} {fr : List AV} {a : Act} {cs : List SV} (h : compOpds l = some r) (hf : FR ρ fr a.tmps) (he : evFns fr r = some cs) :
    SRs ρ cs (l.map a.eval) := by
  induction l generalizing r cs with
  | nil => cases h; cases he; exact .nil
  | cons x l ih =>
    simp only [compOpds] at h
    split at h
    · rename_i y r' h1 h2
      cases h
      simp only [evFns] at he
      split at he
      · rename_i s r2 h3 h4
        cases he
        have := opd_rel h1 hf
        rw [h3] at this
        cases this with
        | one h => exact .cons h (ih h2 h4)
      · cases he
    · cases h

theorem optNat_run {x : Option Operand} {y : Option AOpd} {fr : List AV} {a : Act} {d n : Nat} (h : compOpt x = some y) (hf : FR ρ fr a.tmps) (he : optNat fr y d = some n) :
    (x = none ∧ n = d) ∨ ∃ z k, x = some z ∧ a.eval z = .int k (n : Int) := by
  cases x with
  | none => cases h; cases he; exact .inl ⟨rfl, rfl⟩
  | some z =>
    simp only [compOpt] at h
    split at h
    · rename_i b hb
      cases h
      simp only [optNat] at he
      obtain ⟨k, hk⟩ := asNat_run he (opd_rel hb hf)
      exact .inr ⟨z, k, rfl, hk⟩
    · cases h

theorem bound_run (k : IntKind) (n y : Nat) (code : BoundsCode) (h : n ≤ y) (w : World) : (Instr.sliceBound (.int k (n : Int)) y code).run P w = .ok n w := by
  have : (0 : Int) ≤ n ∧ (n : Int) ≤ y := by omega
  simp [Instr.sliceBound, asIntOf, this]

/-- The bounds of a slicing without a third. -/
theorem bounds_run {lo hi : Option Operand} {lo' hi' : Option AOpd} {fr : List AV} {a : Act} {l h len cap : Nat} (isSlice : Bool)
    (h1 : compOpt lo = some lo') (h2 : compOpt hi = some hi') (hf : FR ρ fr a.tmps) (e1 : optNat fr lo' 0 = some l) (e2 : optNat fr hi' len = some h)
    (hl : l ≤ h) (hh : h ≤ cap) (w : World) : (Instr.sliceBounds isSlice len cap (lo.map a.eval) (hi.map a.eval) none).run P w = .ok (l, h, cap) w := by
  rcases optNat_run h1 hf e1 with ⟨rfl, rfl⟩ | ⟨z, k, rfl, hz⟩ <;> rcases optNat_run h2 hf e2 with ⟨rfl, rfl⟩ | ⟨z', k', rfl, hz'⟩ <;>
    simp [Instr.sliceBounds, *, bound_run]

/-- The bounds of a slicing with a third. -/
theorem bounds3_run {lo hi mx : Option Operand} {lo' hi' : Option AOpd} {mx' : AOpd} {fr : List AV} {a : Act} {l h m len cap : Nat}
    (h1 : compOpt lo = some lo') (h2 : compOpt hi = some hi') (h3 : compOpt mx = some (some mx')) (hf : FR ρ fr a.tmps) (e1 : optNat fr lo' 0 = some l) (e2 : optNat fr hi' len = some h)
    (e3 : asNat (ev fr mx') = some m) (hi1 : hi' ≠ none) (hl : l ≤ h) (hh : h ≤ m) (hm : m ≤ cap) (w : World) :
    (Instr.sliceBounds true len cap (lo.map a.eval) (hi.map a.eval) (mx.map a.eval)).run P w = .ok (l, h, m) w := by
  have e3' : optNat fr (some mx') 0 = some m := e3
  rcases optNat_run h3 hf e3' with ⟨rfl, rfl⟩ | ⟨y, k2, rfl, hy⟩
  · cases h3
  rcases optNat_run h2 hf e2 with ⟨rfl, rfl⟩ | ⟨z', k', rfl, hz'⟩
  · cases h2; exact absurd rfl hi1
  rcases optNat_run h1 hf e1 with ⟨rfl, rfl⟩ | ⟨z, k, rfl, hz⟩ <;>
    simp [Instr.sliceBounds, *, bound_run]

theorem mms_run {isMax : Bool} {k : IntKind} : ∀ (l : List AV) (vs : List Value) (x : Int) (s : SV), VRs ρ l vs → mms isMax k x l = some s →
    ∃ r, SR ρ s r ∧ ∀ w, (vs.foldlM (if isMax then Builtin.max2 else Builtin.min2) (.int k x) : Sem Value).run P w = .ok r w
  | [], vs, x, s, hv, h => by
    cases hv
    cases h
    exact ⟨_, .int _ _, fun w => by simp⟩
  | y :: l, vs, x, s, hv, h => by
    cases hv with
    | cons hy ht =>
      unfold mms at h
      split at h
      · rename_i e; cases e
      · rename_i k2 z l' e
        cases e
        cases hy with
        | one hy =>
          cases hy
          obtain ⟨r, h1, h2⟩ := mms_run l _ (mm isMax x z) s ht h
          refine ⟨r, h1, fun w => ?_⟩
          have := h2 w
          cases isMax <;> simp_all [mm, Builtin.max2, Builtin.min2]
      · cases h

theorem idx_bytes (s : List UInt8) (i : Nat) (b : UInt8) (h : s[i]? = some b) : (⟨s.toArray⟩ : ByteArray)[i]? = some b := by
  obtain ⟨h1, h2⟩ := List.getElem?_eq_some_iff.1 h
  have h3 : i < (⟨s.toArray⟩ : ByteArray).size := by simpa [ByteArray.size] using h1
  rw [getElem?_pos _ i h3]
  congr 1

theorem compOpt_none {mx : Option Operand} (h : compOpt mx = some none) : mx = none := by
  cases mx with
  | none => rfl
  | some z => simp only [compOpt] at h; split at h <;> cases h

theorem slstr_run (o : Oper) {t : TypeId} {x : Operand} {lo hi : Option Operand} {x' : AOpd} {lo' hi' : Option AOpd} {fr : List AV} {a : Act} {σ σ' : AHeap} {v : AV}
    (ho : o.op = .slice t x lo hi none) (hu : P.underlying t = some .string) (hx : compOpd x = some x') (hlo : compOpt lo = some lo') (hhi : compOpt hi = some hi')
    (hf : FR ρ fr a.tmps) (he : evOp fr σ (.slstr x' lo' hi') = some (v, σ')) :
    σ' = σ ∧ ∃ u, VR ρ v u ∧ ∀ w, (execOp a.eval o).run P w = .ok (.value u) w := by
  have k1 := opd_rel hx hf
  simp only [evOp] at he
  split at he
  · rename_i s e
    rw [e] at k1
    cases k1 with
    | one k1 =>
      generalize hu' : a.eval x = u at k1
      cases k1
      split at he
      · rename_i l h e1 e2
        split at he
        · rename_i hb
          cases he
          have hb' : l ≤ h ∧ h ≤ s.length := by simpa using hb
          have hsz : (ByteArray.mk s.toArray).size = s.length := by simp [ByteArray.size]
          refine ⟨rfl, .string ⟨((s.drop l).take (h - l)).toArray⟩, .one (.str _), fun w => ?_⟩
          have hb2 := bounds_run (P := P) (ρ := ρ) false hlo hhi hf e1 e2 hb'.1 hb'.2 w
          have hex : (ByteArray.mk s.toArray).extract l h = ⟨((s.drop l).take (h - l)).toArray⟩ := by
            apply ByteArray.ext
            apply Array.ext'
            simp [List.take_drop]
          simp [execOp, ho, Instr.sliceAt, Instr.slice, run_underlying hu, hu', hsz, hb2, hex]
        · cases he
      · cases he
  · cases he

theorem atCut_run (m l off esz : Nat) (b base : Nat) : (if m = l then (⟨b, base + off, none⟩ : Addr) else (⟨b, base + off, none⟩ : Addr).add (l * esz)) = ⟨b, base + atCut m l off esz, none⟩ := by
  unfold atCut
  by_cases h : m = l
  · subst h; simp
  · have : Nat.beq m l = false := by
      cases hb : Nat.beq m l with
      | false => rfl
      | true => exact absurd (Nat.eq_of_beq_eq_true hb) h
    rw [if_neg h, this, addr_add]
    simp [Nat.add_assoc]

/-- A slice cut at l, of capacity m (known). -/
theorem SR.cutKnown {id off esz l h m : Nat} {B : Blk} (hB : ρ id = some B) (hlh : l ≤ h) (hhm : h ≤ m) (hcl : off + h * esz ≤ B.clen) (hn : B.base + off + m * esz ≤ B.n) (hz : 0 < esz) :
    SR ρ (.slice id (atCut m l off esz) esz (h - l) (some (m - l))) (.slice (some ⟨B.b, B.base + atCut m l off esz, none⟩) (h - l) (m - l)) := by
  have h1 : l * esz ≤ h * esz := Nat.mul_le_mul_right _ hlh
  have h2 : h * esz ≤ m * esz := Nat.mul_le_mul_right _ hhm
  have h3 : (h - l) * esz = h * esz - l * esz := Nat.sub_mul h l esz
  have h4 : (m - l) * esz = m * esz - l * esz := Nat.sub_mul m l esz
  refine .slice hB (by omega) ?_ ?_ hz (.inl rfl)
  · unfold atCut
    split
    · rename_i e
      have : m = l := by simpa using e
      omega
    · omega
  · unfold atCut
    split
    · omega
    · omega

theorem slice_run (o : Oper) {t e0 : TypeId} {n : Nat} {x : Operand} {lo hi mx : Option Operand} {x' : AOpd} {lo' hi' mx' : Option AOpd} {fr : List AV} {a : Act} {σ σ' : AHeap} {v : AV}
    (ho : o.op = .slice t x lo hi mx) (hu : P.underlying t = some (.slice e0)) (hx : compOpd x = some x') (hlo : compOpt lo = some lo') (hhi : compOpt hi = some hi') (hmx : compOpt mx = some mx')
    (hnone : (hi'.isNone && mx'.isSome) = false) (hsz : tSize P e0 = some (n + 1)) (hf : FR ρ fr a.tmps) (hl : LenRel ρ σ.get) (he : evOp fr σ (.slice (n + 1) x' lo' hi' mx') = some (v, σ')) :
    σ' = σ ∧ ∃ u, VR ρ v u ∧ ∀ w, (execOp a.eval o).run P w = .ok (.value u) w := by
  have k1 := opd_rel hx hf
  simp only [evOp] at he
  have hs : ∀ w, (sizeOf e0).run P w = .ok (n + 1) w := tSize_run hsz
  have hmul : ∀ p q : Nat, p * (n + 1) ≤ q * (n + 1) → p ≤ q := fun p q hpq => Nat.le_of_mul_le_mul_right hpq (by omega)
  have hmono : ∀ p q : Nat, p ≤ q → p * (n + 1) ≤ q * (n + 1) := fun p q hpq => Nat.mul_le_mul_right _ hpq
  have hsub : ∀ p q : Nat, (p - q) * (n + 1) = p * (n + 1) - q * (n + 1) := fun p q => Nat.sub_mul p q (n + 1)
  -- the model's answer, once the bounds are known
  have model : ∀ (A : Option Addr) (len c l h m : Nat) (w : World), a.eval x = .slice A len c → (Instr.sliceBounds true len c (lo.map a.eval) (hi.map a.eval) (mx.map a.eval)).run P w = .ok (l, h, m) w →
      (execOp a.eval o).run P w = .ok (.value (.slice (if m = l then A else A.map (·.add (l * (n + 1)))) (h - l) (m - l))) w := by
    intro A len c l h m w e1 e2
    simp [execOp, ho, Instr.sliceAt, Instr.slice, run_underlying hu, e1, e2, hs]
  split at he
  · rename_i e
    rw [e] at k1
    cases k1 with
    | one k1 =>
      generalize hu' : a.eval x = u at k1
      cases k1
      split at he
      · rename_i e1 e2 e3
        cases he
        refine ⟨rfl, .slice none 0 0, .one .nilSlice, fun w => ?_⟩
        have hb2 : (Instr.sliceBounds true 0 0 (lo.map a.eval) (hi.map a.eval) (mx.map a.eval)).run P w = .ok (0, 0, 0) w := by
          cases mx' with
          | none =>
            have hmxn := compOpt_none hmx
            subst hmxn
            exact bounds_run (P := P) (ρ := ρ) true hlo hhi hf e1 e2 (by omega) (by omega) w
          | some m' =>
            have hne : hi' ≠ none := by intro e; subst e; simp at hnone
            exact bounds3_run (P := P) (ρ := ρ) hlo hhi hmx hf e1 e2 e3 hne (by omega) (by omega) (by omega) w
        simpa using model none 0 0 0 0 0 w hu' hb2
      · cases he
  · rename_i id off ez len cap e
    rw [e] at k1
    cases k1 with
    | one k1 =>
      generalize hu' : a.eval x = u at k1
      split at he
      · rename_i ob hez hob
        have hez' : ez = n + 1 := by simpa using hez
        subst hez'
        split at he
        · rename_i l h e1 e2
          split at he
          · rename_i hbb
            have hbb' : l ≤ h ∧ off + h * (n + 1) ≤ ob.cells.length := by simpa using hbb
            have hlh := hmono l h hbb'.1
            cases k1 with
            | slice hB h1 h2 h3 h4 h5 =>
              rename_i c B
              have hcl : ob.cells.length = B.clen := (hl id B ob hB hob).1
              split at he
              · rename_i hmxe
                have hmxn := compOpt_none hmx
                subst hmxn
                split at he
                · rename_i c'
                  split at he
                  · rename_i hhc
                    cases he
                    have hhc' : h ≤ c' := by simpa using hhc
                    have hcc : c' = c := by
                      rcases h5 with h5 | ⟨h5, _⟩
                      · cases h5; rfl
                      · cases h5
                    subst hcc
                    refine ⟨rfl, _, .one (SR.cutKnown hB hbb'.1 hhc' (by omega) (by omega) h4), fun w => ?_⟩
                    have hb2 := bounds_run (P := P) (ρ := ρ) true hlo hhi hf e1 e2 hbb'.1 hhc' w
                    rw [model _ len c' l h c' w hu' hb2]
                    congr 3
                    rw [← atCut_run]
                    split <;> rfl
                  · cases he
                · cases he
                  obtain ⟨_, h6⟩ : (none : Option Nat) = none ∧ B.clen ≤ off + c * (n + 1) := by
                    rcases h5 with h5 | h5
                    · cases h5
                    · exact h5
                  have hhc : h ≤ c := hmul h c (by omega)
                  have hhc2 := hmono h c hhc
                  have hb2 := fun w => bounds_run (P := P) (ρ := ρ) true hlo hhi hf e1 e2 hbb'.1 hhc w
                  by_cases hcl2 : c = l
                  · subst hcl2
                    have : h = c := by omega
                    subst this
                    refine ⟨rfl, .slice (some ⟨B.b, B.base + off, none⟩) 0 0, .one ?_, fun w => ?_⟩
                    · rw [Nat.sub_self]; exact .slice0 hB (by omega) h4 (.inl rfl)
                    · rw [model _ len h h h h w hu' (hb2 w)]
                      simp
                  · refine ⟨rfl, .slice (some ⟨B.b, B.base + (off + l * (n + 1)), none⟩) (h - l) (c - l), .one (.slice hB (by omega) ?_ ?_ h4 (.inr ⟨rfl, ?_⟩)), fun w => ?_⟩
                    · rw [hsub]; omega
                    · rw [hsub]; omega
                    · rw [hsub]; omega
                    · rw [model _ len c l h c w hu' (hb2 w), if_neg hcl2]
                      simp [addr_add, Nat.add_assoc]
              · rename_i m' hmxe
                have hne : hi' ≠ none := by intro e; subst e; simp at hnone
                split at he
                · rename_i m hm
                  split at he
                  · rename_i hc3
                    cases he
                    have hc3' : h ≤ m ∧ m ≤ c := by
                      simp only [Bool.and_eq_true] at hc3
                      refine ⟨by simpa using hc3.1, ?_⟩
                      rcases h5 with rfl | ⟨rfl, h6⟩
                      · simpa using hc3.2
                      · have : off + m * (n + 1) ≤ ob.cells.length := by simpa using hc3.2
                        exact hmul m c (by omega)
                    have hmc := hmono m c hc3'.2
                    refine ⟨rfl, _, .one (SR.cutKnown hB hbb'.1 hc3'.1 (by omega) (by omega) h4), fun w => ?_⟩
                    have hb2 := bounds3_run (P := P) (ρ := ρ) hlo hhi hmx hf e1 e2 hm hne hbb'.1 hc3'.1 hc3'.2 w
                    rw [model _ len c l h m w hu' hb2]
                    congr 3
                    rw [← atCut_run]
                    split <;> rfl
                  · cases he
                · cases he
            | slice0 hB h2 h4 h5 =>
              rename_i x0 B
              have hcl : ob.cells.length = B.clen := (hl id B ob hB hob).1
              have hh0 : h * (n + 1) = 0 := by omega
              have hh : h = 0 := Nat.le_zero.1 (hmul h 0 (by omega))
              subst hh
              have hl0 : l = 0 := by omega
              subst hl0
              split at he
              · rename_i hmxe
                have hmxn := compOpt_none hmx
                subst hmxn
                have hb2 := fun w => bounds_run (P := P) (ρ := ρ) true (cap := 0) hlo hhi hf e1 e2 (by omega) (by omega) w
                have hfin : σ' = σ ∧ v = .one (.slice id off (n + 1) 0 cap) := by
                  rcases h5 with rfl | rfl
                  · simp at he
                    exact ⟨he.2.symm, he.1.symm⟩
                  · simp [atCut] at he
                    exact ⟨he.2.symm, he.1.symm⟩
                obtain ⟨rfl, rfl⟩ := hfin
                refine ⟨rfl, .slice (some x0) 0 0, .one (.slice0 hB h2 h4 h5), fun w => ?_⟩
                rw [model _ 0 0 0 0 0 w hu' (hb2 w)]
                simp
              · rename_i m' hmxe
                have hne : hi' ≠ none := by intro e; subst e; simp at hnone
                split at he
                · rename_i m hm
                  split at he
                  · rename_i hc3
                    cases he
                    have hm0 : m = 0 := by
                      rcases h5 with rfl | rfl
                      · simp only [Bool.and_eq_true] at hc3
                        have h7 : off + m * (n + 1) ≤ ob.cells.length := by simpa using hc3.2
                        exact Nat.le_zero.1 (hmul m 0 (by omega))
                      · simpa using hc3
                    subst hm0
                    have hb2 := fun w => bounds3_run (P := P) (ρ := ρ) (cap := 0) hlo hhi hmx hf e1 e2 hm hne (by omega) (by omega) (by omega) w
                    refine ⟨rfl, .slice (some x0) 0 0, .one ?_, fun w => ?_⟩
                    · exact .slice0 hB h2 h4 (.inr rfl)
                    · rw [model _ 0 0 0 0 0 w hu' (hb2 w)]
                      simp
                  · cases he
                · cases he
          · cases he
        · cases he
      · cases he
  · cases he

theorem slarr_run (o : Oper) {t e0 : TypeId} {k n : Nat} {x : Operand} {lo hi : Option Operand} {x' : AOpd} {lo' hi' : Option AOpd} {fr : List AV} {a : Act} {σ σ' : AHeap} {v : AV}
    (ho : o.op = .slice t x lo hi none) (hu : P.underlying t = some (.array k e0) ∨ ∃ arr, P.underlying t = some (.pointer arr) ∧ P.underlying arr = some (.array k e0)) (hx : compOpd x = some x') (hlo : compOpt lo = some lo') (hhi : compOpt hi = some hi')
    (hsz : tSize P e0 = some (n + 1)) (hf : FR ρ fr a.tmps) (hl : LenRel ρ σ.get) (he : evOp fr σ (.slarr k (n + 1) x' lo' hi') = some (v, σ')) :
    σ' = σ ∧ ∃ u, VR ρ v u ∧ ∀ w, (execOp a.eval o).run P w = .ok (.value u) w := by
  have k1 := opd_rel hx hf
  simp only [evOp] at he
  have hs : ∀ w, (sizeOf e0).run P w = .ok (n + 1) w := tSize_run hsz
  split at he
  · rename_i id off e
    rw [e] at k1
    cases k1 with
    | one k1 =>
      generalize hu' : a.eval x = u at k1
      cases k1 with
      | ptr hB =>
        rename_i B
        split at he
        · rename_i l h ob e1 e2 hob
          split at he
          · rename_i hbb
            cases he
            have hbb' : (l ≤ h ∧ h ≤ k) ∧ off + k * (n + 1) ≤ ob.cells.length := by simpa using hbb
            have hcl : ob.cells.length = B.clen := (hl id B ob hB hob).1
            have hbn := (hl id B ob hB hob).2
            have hkk : h * (n + 1) ≤ k * (n + 1) := Nat.mul_le_mul_right _ hbb'.1.2
            refine ⟨rfl, _, .one (SR.cutKnown hB hbb'.1.1 hbb'.1.2 (by omega) (by omega) (by omega)), fun w => ?_⟩
            have hb2 := bounds_run (P := P) (ρ := ρ) false hlo hhi hf e1 e2 hbb'.1.1 hbb'.1.2 w
            rcases hu with hu | ⟨arr, hu, hu2⟩
            · simp only [execOp, ho, Instr.sliceAt, Sem.run_bind, run_underlying hu, Result.andThen_ok, hu', Instr.sureAddr, Sem.run_pure, Option.map_none, hb2, hs, atCut_run]
            · simp only [execOp, ho, Instr.sliceAt, Instr.slice, Sem.run_bind, run_underlying hu, run_underlying hu2, Result.andThen_ok, hu', asAddr, Sem.run_pure, Option.map_none, hb2, hs, atCut_run]
          · cases he
        · cases he
  · cases he

theorem compOpds_one {l : List Operand} {y : AOpd} (h : compOpds l = some [y]) : ∃ x, l = [x] ∧ compOpd x = some y := by
  cases l with
  | nil => cases h
  | cons x l =>
    simp only [compOpds] at h
    split at h
    · rename_i a r h1 h2
      cases h
      cases l with
      | nil => exact ⟨x, rfl, h1⟩
      | cons z l => simp only [compOpds] at h2; split at h2 <;> cases h2
    · cases h

theorem compOpds_two {l : List Operand} {y z : AOpd} (h : compOpds l = some [y, z]) : ∃ x x', l = [x, x'] ∧ compOpd x = some y ∧ compOpd x' = some z := by
  cases l with
  | nil => cases h
  | cons x l =>
    simp only [compOpds] at h
    split at h
    · rename_i a r h1 h2
      cases h
      obtain ⟨x', rfl, h3⟩ := compOpds_one h2
      exact ⟨x, x', rfl, h1, h3⟩
    · cases h

theorem compOpds_cons {l : List Operand} {y : AOpd} {r : List AOpd} (h : compOpds l = some (y :: r)) : ∃ x l', l = x :: l' ∧ compOpd x = some y ∧ compOpds l' = some r := by
  cases l with
  | nil => cases h
  | cons x l =>
    simp only [compOpds] at h
    split at h
    · rename_i a r h1 h2
      cases h
      exact ⟨x, l, rfl, h1, h2⟩
    · cases h

theorem minmax_run (isMax : Bool) (dst : Option Tmp) (args : Array Operand) (argTypes : Array TypeId) (type : TypeId) (pos : String) (after : Array Edge) (guard : Option (Nat × Bool))
    (x : Operand) (l' : List Operand) (y : AOpd) (l : List AOpd) {fr : List AV} {a : Act} {σ σ' : AHeap} {v : AV} (hargs : args.toList = x :: l') (hx : compOpd x = some y) (hl : compOpds l' = some l)
    (hf : FR ρ fr a.tmps) (he : evOp fr σ (.minmax isMax y l) = some (v, σ')) :
    σ' = σ ∧ ∃ u, VR ρ v u ∧ ∀ w, (execOp a.eval ⟨dst, .call ⟨.builtin (if isMax then .max else .min), args, argTypes⟩, type, pos, after, guard⟩).run P w = .ok (.value u) w := by
  have hargs' : args = (x :: l').toArray := Array.ext' hargs
  subst hargs'
  have k1 := opd_rel hx hf
  have k2 := opds_rel hl hf
  simp only [evOp, pure1] at he
  split at he
  · rename_i k n e
    rw [e] at k1
    cases k1 with
    | one k1 =>
      generalize hu' : a.eval x = u at k1
      cases k1
      split at he
      · rename_i s hs
        cases he
        obtain ⟨r, h1, h2⟩ := mms_run (P := P) _ _ _ _ k2 hs
        refine ⟨rfl, r, .one h1, fun w => ?_⟩
        have h3 := h2 w
        cases isMax
        · simp at h3
          simp [execOp, resolve, invoke, builtin, Builtin.min_, hu', h3]
        · simp at h3
          simp [execOp, resolve, invoke, builtin, Builtin.max_, hu', h3]
      · cases he
  · cases he

theorem memless_run {o : Oper} {aop : AOp} {fr : List AV} {a : Act} {σ σ' : AHeap} {v : AV} (hc : compOp P o.op = some aop) (hm : aop.memless = true)
    (hf : FR ρ fr a.tmps) (hl : LenRel ρ σ.get) (he : evOp fr σ aop = some (v, σ')) :
    σ' = σ ∧ ∃ u, VR ρ v u ∧ ∀ w, (execOp a.eval o).run P w = .ok (.value u) w := by
  obtain ⟨dst, op, type, pos, after, guard⟩ := o
  simp only at hc
  cases op with
  | move x =>
    simp only [compOp] at hc
    split at hc
    · rename_i y hy
      cases hc; cases he
      exact ⟨rfl, _, opd_rel hy hf, fun w => rfl⟩
    · cases hc
  | assign x =>
    simp only [compOp] at hc
    split at hc
    · rename_i y hy
      cases hc; cases he
      exact ⟨rfl, _, opd_rel hy hf, fun w => rfl⟩
    · cases hc
  | pick c x y =>
    simp only [compOp] at hc
    split at hc
    · rename_i c' x' y' h1 h2 h3
      cases hc
      simp only [evOp] at he
      have k1 := opd_rel h1 hf
      split at he
      · rename_i e
        cases he
        rw [e] at k1
        cases k1 with
        | one k1 =>
          have e2 : a.eval c = .bool true := by cases hq : a.eval c <;> rw [hq] at k1 <;> cases k1 <;> rfl
          exact ⟨rfl, _, opd_rel h2 hf, fun w => by simp [execOp, e2, asBool]⟩
      · rename_i e
        cases he
        rw [e] at k1
        cases k1 with
        | one k1 =>
          have e2 : a.eval c = .bool false := by cases hq : a.eval c <;> rw [hq] at k1 <;> cases k1 <;> rfl
          exact ⟨rfl, _, opd_rel h3 hf, fun w => by simp [execOp, e2, asBool]⟩
      · cases he
    · cases hc
  | build t parts =>
    simp only [compOp] at hc
    have main : ∀ z l cs, aop = .build z l → fillA fr z l = some cs → v = .agg cs → σ' = σ →
        (∃ place, compParts place parts.toList = some l ∧ tZero P t = some z ∧ ∀ vs', ∀ i0 v0, P.info? t = some i0 → i0.zero = some v0 → Instr.fill place v0.cells ((parts.map fun (i, x) => (i, a.eval x)).toList) = some vs' →
          P.built t ((parts.map fun (i, x) => (i, a.eval x)).toList) = some vs') →
        σ' = σ ∧ ∃ u, VR ρ v u ∧ ∀ w, (execOp a.eval ⟨dst, .build t parts, type, pos, after, guard⟩).run P w = .ok (.value u) w := by
      rintro z l cs rfl hcs rfl rfl ⟨place, hp, hz, hb⟩
      obtain ⟨i0, v0, hi, hv, hlen, hzr⟩ := tZero_info hz
      obtain ⟨vs', h1, h2⟩ := fill_rel hf parts.toList l z cs v0.cells.toList hp hcs (hzr ρ)
      have h3 := hb vs'.toArray i0 v0 hi hv (by simpa using h1)
      refine ⟨rfl, .agg vs'.toArray, .agg h2, fun w => ?_⟩
      have := run_build (P := P) w t (parts.map fun (i, x) => (i, a.eval x)) vs'.toArray h3
      simp [execOp, this]
    split at hc
    · rename_i fields z hu hz
      split at hc
      · rename_i places hpl
        split at hc
        · rename_i l hparts
          cases hc
          simp only [evOp] at he
          split at he
          · rename_i cs hcs
            cases he
            refine main z l cs rfl hcs rfl rfl ⟨_, hparts, hz, fun vs' i0 v0 hi hv hfi => ?_⟩
            unfold fieldPlaces at hpl
            simp only [Program.built, hi, hu, hv, hpl]
            exact hfi
          · cases he
        · cases hc
      · cases hc
    · rename_i n e z hu hz
      split at hc
      · rename_i k hk
        split at hc
        · rename_i l hparts
          cases hc
          simp only [evOp] at he
          split at he
          · rename_i cs hcs
            cases he
            refine main z l cs rfl hcs rfl rfl ⟨_, hparts, hz, fun vs' i0 v0 hi hv hfi => ?_⟩
            obtain ⟨ie, hie, rfl⟩ := tSize_info hk
            simp only [Program.built, hi, hu, hv, hie]
            exact hfi
          · cases he
        · cases hc
      · cases hc
    · cases hc
  | nilCheck x =>
    simp only [compOp] at hc
    split at hc
    · rename_i y hy
      cases hc
      have k1 := opd_rel hy hf
      simp only [evOp] at he
      split at he
      · rename_i id off e
        cases he
        rw [e] at k1
        cases k1 with
        | one k1 =>
          generalize hu : a.eval x = u at k1
          refine ⟨rfl, u, .one k1, fun w => ?_⟩
          cases k1
          simp [execOp, hu]
      · rename_i f caps e
        cases he
        rw [e] at k1
        cases k1 with
        | one k1 =>
          generalize hu : a.eval x = u at k1
          refine ⟨rfl, u, .one k1, fun w => ?_⟩
          cases k1
          simp [execOp, hu]
      · cases he
    · cases hc
  | binOp op t x y yt =>
    simp only [compOp] at hc
    split at hc
    · rename_i x' y' hx hy
      obtain ⟨_, h2, r, h3, h4⟩ := compBin_run (X := x) (Y := y) hc (opd_rel hx hf) (opd_rel hy hf) he
      refine ⟨h2, r, h3, fun w => ?_⟩
      have := h4 w
      simp only [execOp, Sem.run_bind] at this ⊢
      rw [this]
      rfl
    · cases hc
  | unOp op t x =>
    simp only [compOp] at hc
    split at hc
    · rename_i y hy
      cases hc
      simp only [evOp, pure1] at he
      split at he
      · rename_i s hs
        cases he
        have k1 := opd_rel hy hf
        unfold evUn at hs
        split at hs
        · rename_i b e
          cases hs
          rw [e] at k1
          cases k1 with
          | one k1 =>
            generalize hu : a.eval x = u at k1
            cases k1
            exact ⟨rfl, .bool (!b), .one (.bool _), fun w => by simp [execOp, hu, Op.unary]⟩
        · rename_i k n e
          cases hs
          rw [e] at k1
          cases k1 with
          | one k1 =>
            generalize hu : a.eval x = u at k1
            cases k1
            exact ⟨rfl, .int k (k.wrap (0 - n)), .one (by rw [wr_eq]; exact .int _ _), fun w => by simp [execOp, hu, Op.unary, Op.intArith]⟩
        · rename_i k n e
          rw [e] at k1
          cases k1 with
          | one k1 =>
            generalize hu : a.eval x = u at k1
            cases k1
            obtain ⟨r, h1, h2⟩ := ibits_run (P := P) (ρ := ρ) hs
            exact ⟨rfl, r, .one h2, fun w => by simp [execOp, hu, Op.unary, h1]⟩
        · cases hs
      · cases he
    · cases hc
  | convert src dst x =>
    simp only [compOp] at hc
    split at hc
    · rename_i y td k hy hs hd
      cases hc
      simp only [evOp] at he
      split at he
      · rename_i k0 n e
        cases he
        have k1 := opd_rel hy hf
        rw [e] at k1
        cases k1 with
        | one k1 =>
          generalize hu : a.eval x = u at k1
          cases k1
          refine ⟨rfl, .int k (k.wrap n), .one (by rw [wr_eq]; exact .int _ _), fun w => ?_⟩
          simp [execOp, hu, convert, run_underlying hs, run_underlying hd, Conv.intToInt]
      · cases he
    · cases hc
  | makeFunc fn first captured =>
    cases fn with
    | func f =>
      simp only [compOp] at hc
      split at hc
      · rename_i l h0 hl
        cases hc
        simp only [evOp] at he
        split at he
        · rename_i cs hcs
          cases he
          have h1 := evFns_rel hl hf hcs
          have h2 : first = #[] := Array.eq_empty_of_size_eq_zero h0
          subst h2
          refine ⟨rfl, .func (.func f) #[] (captured.toList.map a.eval).toArray, .one (.func h1), fun w => ?_⟩
          simp [execOp, Instr.makeFunc, ← List.map_toArray]
        · cases he
      · cases hc
    | _ => simp [compOp] at hc
  | slice t x lo hi mx =>
    simp only [compOp] at hc
    split at hc
    · rename_i x' lo' hi' mx' hx hlo hhi hmx
      have k1 := opd_rel hx hf
      split at hc
      · rename_i hu
        split at hc
        · cases hc
          have hmxn := compOpt_none hmx
          subst hmxn
          exact slstr_run ⟨dst, .slice t x lo hi none, type, pos, after, guard⟩ rfl hu hx hlo hhi hf he
        · cases hc
      · rename_i e0 hu
        split at hc
        · rename_i n hsz hnone
          cases hc
          exact slice_run ⟨dst, .slice t x lo hi mx, type, pos, after, guard⟩ rfl hu hx hlo hhi hmx hnone hsz hf hl he
        · cases hc
      · rename_i k e0 hu
        split at hc
        · rename_i n hsz
          cases hc
          have hmxn := compOpt_none hmx
          subst hmxn
          exact slarr_run ⟨dst, .slice t x lo hi none, type, pos, after, guard⟩ rfl (.inl hu) hx hlo hhi hsz hf hl he
        · cases hc
      · rename_i arr hu
        split at hc
        · rename_i k e0 hu2
          split at hc
          · rename_i n hsz
            cases hc
            have hmxn := compOpt_none hmx
            subst hmxn
            exact slarr_run ⟨dst, .slice t x lo hi none, type, pos, after, guard⟩ rfl (.inr ⟨arr, hu, hu2⟩) hx hlo hhi hsz hf hl he
          · cases hc
        · cases hc
      · cases hc
    · cases hc
  | fieldAddr t x i =>
    simp only [compOp] at hc
    split at hc
    · rename_i y fields hy hu
      split at hc
      · rename_i f hfi
        split at hc
        · rename_i n hn
          cases hc
          simp only [evOp] at he
          split at he
          · rename_i id off e
            cases he
            have k1 := opd_rel hy hf
            rw [e] at k1
            cases k1 with
            | one k1 =>
              generalize hu' : a.eval x = u at k1
              cases k1 with
              | ptr hB =>
                rename_i B
                refine ⟨rfl, .pointer (some ⟨B.b, B.base + (off + f.offset), none⟩), .one (.ptr hB), fun w => ?_⟩
                simp [execOp, Instr.fieldAt, run_underlying hu, hfi, hu', Instr.sureAddr, fieldPlace, tSize_run hn, addr_add, Nat.add_assoc]
          · cases he
        · cases hc
      · cases hc
    · cases hc
  | field t x i =>
    simp only [compOp] at hc
    split at hc
    · rename_i y fields hy hu
      split at hc
      · rename_i f hfi
        split at hc
        · rename_i g hg
          cases hc
          simp only [evOp] at he
          split at he
          · rename_i cs e
            split at he
            · rename_i v' hp
              cases he
              have k1 := opd_rel hy hf
              rw [e] at k1
              generalize hu' : a.eval x = u at k1
              cases k1 with
              | agg k1 =>
                obtain ⟨r, h1, h2⟩ := part_run (P := P) hg k1 hp
                exact ⟨rfl, r, h1, fun w => by simp [execOp, Instr.field, run_underlying hu, hfi, hu', asAgg, h2]⟩
            · cases he
          · cases he
        · cases hc
      · cases hc
    · cases hc
  | indexAddr t x i =>
    simp only [compOp] at hc
    split at hc
    · rename_i x' i' e0 hx hi hu
      split at hc
      · rename_i n hsz
        cases hc
        have k1 := opd_rel hx hf
        simp only [evOp] at he
        split at he
        · rename_i id off ez len cap j e1 e2
          rw [e1] at k1
          cases k1 with
          | one k1 =>
            generalize hu' : a.eval x = u at k1
            obtain ⟨kk, hj⟩ := asNat_run e2 (opd_rel hi hf)
            split at he
            · rename_i hb
              cases he
              have hb' : ez = n + 1 ∧ j < len := by simpa [Nat.blt_eq] using hb
              obtain ⟨rfl, hjl⟩ := hb'
              cases k1 with
              | slice hB h1 h2 h3 h4 h5 =>
                rename_i c B
                refine ⟨rfl, .pointer (some ⟨B.b, B.base + (off + j * (n + 1)), none⟩), .one (.ptr hB), fun w => ?_⟩
                have hrange : (0 : Int) ≤ j ∧ (j : Int) < len := by omega
                simp [execOp, Instr.indexAt, run_underlying hu, hu', hj, asIntOf, hrange, tSize_run hsz, addr_add, Nat.add_assoc]
                intro h; omega
              | slice0 hB h2 h4 h5 => omega
            · cases he
        · cases he
      · cases hc
    · rename_i x' i' k e0 hx hi hu
      split at hc
      · rename_i n hsz
        cases hc
        have k1 := opd_rel hx hf
        simp only [evOp] at he
        split at he
        · rename_i id off j e1 e2
          rw [e1] at k1
          cases k1 with
          | one k1 =>
            generalize hu' : a.eval x = u at k1
            obtain ⟨kk, hj⟩ := asNat_run e2 (opd_rel hi hf)
            split at he
            · rename_i hb
              cases he
              have hjl : j < k := by simpa [Nat.blt_eq] using hb
              cases k1 with
              | ptr hB =>
                rename_i B
                refine ⟨rfl, .pointer (some ⟨B.b, B.base + (off + j * n), none⟩), .one (.ptr hB), fun w => ?_⟩
                have hrange : (0 : Int) ≤ j ∧ (j : Int) < k := by omega
                simp [execOp, Instr.indexAt, run_underlying hu, hu', hj, asIntOf, hrange, Instr.sureAddr, tSize_run hsz, addr_add, Nat.add_assoc]
                intro h; omega
            · cases he
        · cases he
      · cases hc
    · cases hc
  | index t x i =>
    simp only [compOp] at hc
    split at hc
    · rename_i x' i' hx hi hu
      cases hc
      have k1 := opd_rel hx hf
      simp only [evOp] at he
      split at he
      · rename_i s j e1 e2
        rw [e1] at k1
        cases k1 with
        | one k1 =>
          generalize hu' : a.eval x = u at k1
          cases k1
          obtain ⟨kk, hj⟩ := asNat_run e2 (opd_rel hi hf)
          split at he
          · rename_i b hb
            cases he
            refine ⟨rfl, .int .u8 b.toNat, .one (.int _ _), fun w => ?_⟩
            have hrange : (0 : Int) ≤ j := by omega
            simp [execOp, Instr.index, run_underlying hu, hu', hj, asIntOf, hrange, idx_bytes s j b hb]
          · cases he
      · cases he
    · rename_i x' i' k e0 hx hi hu
      split at hc
      · rename_i n g hsz hg
        cases hc
        have k1 := opd_rel hx hf
        simp only [evOp] at he
        split at he
        · rename_i cs j e1 e2
          rw [e1] at k1
          generalize hu' : a.eval x = u at k1
          cases k1 with
          | agg k1 =>
            obtain ⟨kk, hj⟩ := asNat_run e2 (opd_rel hi hf)
            split at he
            · rename_i hb
              have hjl : j < k := by simpa [Nat.blt_eq] using hb
              split at he
              · rename_i v' hp
                cases he
                have hg' : (if g.isSome = true then some n else none) = g := by
                  cases g with
                  | none => rfl
                  | some m =>
                    have := (tAgg_some hg default).2.2
                    rw [hsz] at this
                    cases this
                    rfl
                rw [hg'] at hp
                obtain ⟨r, h1, h2⟩ := part_run (P := P) hg k1 hp
                refine ⟨rfl, r, h1, fun w => ?_⟩
                have hrange : (0 : Int) ≤ j ∧ (j : Int) < k := by omega
                simp [execOp, Instr.index, run_underlying hu, hu', hj, asIntOf, hrange, tSize_run hsz, h2]
                intro h; omega
              · cases he
            · cases he
        · cases he
      · cases hc
    · cases hc
  | extract x i =>
    simp only [compOp] at hc
    split at hc
    · rename_i y hy
      cases hc
      simp only [evOp] at he
      split at he
      · rename_i vs e
        split at he
        · rename_i v' hp
          cases he
          have k1 := opd_rel hy hf
          rw [e] at k1
          generalize hu' : a.eval x = u at k1
          cases k1 with
          | tup k1 =>
            obtain ⟨r, h1, h2⟩ := k1.get hp
            exact ⟨rfl, r, h2, fun w => by simp [execOp, Instr.extract, hu', h1]⟩
        · cases he
      · cases he
    · cases hc
  | call c =>
    obtain ⟨callee, args, argTypes⟩ := c
    simp only [compOp, compCall] at hc
    cases callee with
    | value f =>
      simp only at hc
      split at hc
      · cases hc; cases hm
      · cases hc
    | invoke r m => cases hc
    | builtin b =>
      simp only at hc
      split at hc
      · -- len
        rename_i y t hy ht
        obtain ⟨x, hargs, hx⟩ := compOpds_one hy
        have hargs' : args = #[x] := Array.ext' hargs
        have hat : argTypes = #[t] := Array.ext' ht
        subst hargs'
        subst hat
        have k1 := opd_rel hx hf
        split at hc
        · rename_i hu
          cases hc
          simp only [evOp] at he
          split at he
          · rename_i s e
            cases he
            rw [e] at k1
            cases k1 with
            | one k1 =>
              generalize hu' : a.eval x = u at k1
              cases k1
              refine ⟨rfl, .int .i64 s.length, .one (.int _ _), fun w => ?_⟩
              have hsz : (ByteArray.mk s.toArray).size = s.length := by simp [ByteArray.size]
              simp [execOp, resolve, invoke, builtin, Builtin.len_, run_underlying hu, hu', goInt, hsz]
          · cases he
        · rename_i e0 hu
          cases hc
          simp only [evOp] at he
          split at he
          · rename_i id off ez len cap e
            cases he
            rw [e] at k1
            cases k1 with
            | one k1 =>
              generalize hu' : a.eval x = u at k1
              refine ⟨rfl, .int .i64 len, .one (.int _ _), fun w => ?_⟩
              cases k1 <;> simp [execOp, resolve, invoke, builtin, Builtin.len_, run_underlying hu, hu', goInt]
          · rename_i e
            cases he
            rw [e] at k1
            cases k1 with
            | one k1 =>
              generalize hu' : a.eval x = u at k1
              refine ⟨rfl, .int .i64 0, .one (.int _ _), fun w => ?_⟩
              cases k1 <;> simp [execOp, resolve, invoke, builtin, Builtin.len_, run_underlying hu, hu', goInt]
          · cases he
        · rename_i n e0 hu
          cases hc
          cases he
          refine ⟨rfl, .int .i64 n, .one (.int _ _), fun w => ?_⟩
          simp [execOp, resolve, invoke, builtin, Builtin.len_, run_underlying hu, goInt]
        · rename_i arr hu
          split at hc
          · rename_i n e0 hu2
            cases hc
            cases he
            refine ⟨rfl, .int .i64 n, .one (.int _ _), fun w => ?_⟩
            simp [execOp, resolve, invoke, builtin, Builtin.len_, run_underlying hu, run_underlying hu2, goInt]
          · cases hc
        · cases hc
      · -- cap
        rename_i y t hy ht
        obtain ⟨x, hargs, hx⟩ := compOpds_one hy
        have hargs' : args = #[x] := Array.ext' hargs
        have hat : argTypes = #[t] := Array.ext' ht
        subst hargs'
        subst hat
        have k1 := opd_rel hx hf
        split at hc
        · rename_i e0 hu
          cases hc
          simp only [evOp] at he
          split at he
          · rename_i id off ez len c e
            cases he
            rw [e] at k1
            cases k1 with
            | one k1 =>
              generalize hu' : a.eval x = u at k1
              refine ⟨rfl, .int .i64 c, .one (.int _ _), fun w => ?_⟩
              cases k1 with
              | slice hB h1 h2 h3 h4 h5 =>
                rcases h5 with h5 | ⟨h5, _⟩
                · cases h5
                  simp [execOp, resolve, invoke, builtin, Builtin.cap_, run_underlying hu, hu', goInt]
                · cases h5
              | slice0 hB h2 h4 h5 =>
                rcases h5 with h5 | h5 <;> cases h5
                simp [execOp, resolve, invoke, builtin, Builtin.cap_, run_underlying hu, hu', goInt]
          · rename_i e
            cases he
            rw [e] at k1
            cases k1 with
            | one k1 =>
              generalize hu' : a.eval x = u at k1
              refine ⟨rfl, .int .i64 0, .one (.int _ _), fun w => ?_⟩
              cases k1 <;> simp [execOp, resolve, invoke, builtin, Builtin.cap_, run_underlying hu, hu', goInt]
          · cases he
        · cases hc
      · -- append
        split at hc
        · split at hc
          · split at hc
            · cases hc
            · cases hc; cases hm
          · split at hc
            · cases hc
            · cases hc; cases hm
          · split at hc
            · cases hc
            · cases hc; cases hm
          · cases hc
        · cases hc
      · split at hc
        · split at hc
          · cases hc; cases hm
          · cases hc
        · cases hc
      · -- max
        rename_i y l hy
        cases hc
        obtain ⟨x, l', hargs, hx, hl'⟩ := compOpds_cons hy
        exact minmax_run true dst args argTypes type pos after guard x l' y l hargs hx hl' hf he
      · rename_i y l hy
        cases hc
        obtain ⟨x, l', hargs, hx, hl'⟩ := compOpds_cons hy
        exact minmax_run false dst args argTypes type pos after guard x l' y l hargs hx hl' hf he
      · split at hc
        · split at hc
          · cases hc; cases hm
          · cases hc
        · cases hc
      · cases hc
  | alloc t =>
    simp only [compOp] at hc
    split at hc <;> cases hc
    cases hm
  | box t x =>
    simp only [compOp] at hc
    split at hc <;> cases hc
    cases hm
  | buildSlice t n parts =>
    simp only [compOp] at hc
    split at hc
    · split at hc
      · split at hc <;> cases hc
        cases hm
      · cases hc
    · cases hc
  | load t x =>
    simp only [compOp] at hc
    split at hc <;> cases hc
    cases hm
  | store t x y =>
    simp only [compOp] at hc
    split at hc <;> cases hc
    cases hm
  | makeSlice t l c =>
    simp only [compOp] at hc
    split at hc
    · split at hc
      · split at hc <;> cases hc
        cases hm
      · cases hc
    · cases hc
  | _ => simp [compOp] at hc

end
end Go.Proofs.Ythjijjkoeoemgaa.Ab
