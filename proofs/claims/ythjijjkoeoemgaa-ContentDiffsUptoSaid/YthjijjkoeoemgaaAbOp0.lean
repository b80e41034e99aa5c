/- The plain operations: numbers, strings, comparisons, that look into no memory. -/
import Derived.Test.YthjijjkoeoemgaaAbComp
import Derived.Laws.Strings
namespace Go.Proofs.Ythjijjkoeoemgaa.Ab
open Go
set_option linter.unusedSimpArgs false
set_option linter.unusedVariables false

theorem wr_eq (k : IntKind) (n : Int) : wr k n = k.wrap n := by
  cases k <;> simp only [wr, IntKind.wrap, IntKind.bits, IntKind.signed] <;> (try rfl) <;> split <;> simp <;> omega

theorem beqL_eq : ∀ (a b : List UInt8), beqL a b = (a == b)
  | [], [] => by simp [beqL]
  | [], _ :: _ => by simp [beqL]
  | _ :: _, [] => by simp [beqL]
  | a :: x, b :: y => by
    simp only [beqL]
    cases h : Nat.beq a.toNat b.toNat with
    | true =>
      have : a = b := UInt8.toNat_inj.1 (Nat.eq_of_beq_eq_true h)
      subst this
      simp [beqL_eq x y]
    | false =>
      have : a ≠ b := fun e => by subst e; simp at h
      have hb : (a == b) = false := by simpa using this
      simp [hb]

theorem ltL_eq : ∀ (a b : List UInt8), ltL a b = Op.bytesLess a b
  | [], [] => by simp [ltL, Op.bytesLess]
  | [], _ :: _ => by simp [ltL, Op.bytesLess]
  | _ :: _, [] => by simp [ltL, Op.bytesLess]
  | a :: x, b :: y => by
    simp only [ltL, Op.bytesLess]
    cases h : Nat.blt a.toNat b.toNat with
    | true =>
      have : a < b := by simpa [Nat.blt_eq, UInt8.lt_iff_toNat_lt] using h
      simp [this]
    | false =>
      have h1 : ¬ a < b := by
        intro hl
        have : Nat.blt a.toNat b.toNat = true := by simpa [Nat.blt_eq, UInt8.lt_iff_toNat_lt] using hl
        rw [h] at this; cases this
      cases h2 : Nat.beq a.toNat b.toNat with
      | true =>
        have : a = b := UInt8.toNat_inj.1 (Nat.eq_of_beq_eq_true h2)
        subst this
        simp [ltL_eq x y]
      | false =>
        have : a ≠ b := fun e => by subst e; simp at h2
        simp [h1, this]

section
variable {P : Program} {ρ : Loc}

theorem absS_rel {v : Value} {s : SV} (h : absS v = some s) : SR ρ s v := by
  unfold absS at h
  split at h <;> cases h
  · exact .bool _
  · exact .int _ _
  · have := SR.str (ρ := ρ) (‹ByteArray›).data.toList
    simpa using this
  · exact .nilPtr
  · exact .nilSlice
  · exact .nilFunc
  · exact .nilIface

theorem absSs_rel {l : List Value} {r : List SV} (h : absSs l = some r) : SRs ρ r l := by
  induction l generalizing r with
  | nil => cases h; exact .nil
  | cons v l ih =>
    simp only [absSs] at h
    split at h
    · rename_i s r' h1 h2
      cases h
      exact .cons (absS_rel h1) (ih h2)
    · cases h

theorem absV_rel {v : Value} {a : AV} (h : absV v = some a) : VR ρ a v := by
  unfold absV at h
  split at h
  · rename_i cs
    split at h
    · rename_i l hl
      cases h
      have := VR.agg (absSs_rel (ρ := ρ) hl)
      simpa using this
    · cases h
  · rename_i vs
    split at h
    · rename_i hz
      cases h
      have : vs = #[] := Array.eq_empty_of_size_eq_zero hz
      subst this
      exact VR.undef
    · cases h
  · split at h
    · rename_i s hs
      cases h
      exact .one (absS_rel hs)
    · cases h

theorem opd_rel {x : Operand} {y : AOpd} {fr : List AV} {a : Act} (h : compOpd x = some y) (hf : FR ρ fr a.tmps) : VR ρ (ev fr y) (a.eval x) := by
  cases x with
  | tmp t => cases h; exact hf.at_ t
  | const v =>
    simp only [compOpd] at h
    split at h
    · rename_i av hv
      cases h
      exact absV_rel hv
    · cases h
  | global g => cases h
  | func f =>
    cases h
    have := SR.func (ρ := ρ) (f := f) (caps := []) (vs := []) .nil
    exact .one (by simpa [Act.eval] using this)

theorem opds_rel {l : List Operand} {r : List AOpd} {fr : List AV} {a : Act} (h : compOpds l = some r) (hf : FR ρ fr a.tmps) : VRs ρ (evs fr r) (l.map a.eval) := by
  induction l generalizing r with
  | nil => cases h; exact .nil
  | cons x l ih =>
    simp only [compOpds] at h
    split at h
    · rename_i y r' h1 h2
      cases h
      exact .cons (opd_rel h1 hf) (ih h2)
    · cases h

/-! ### arithmetic -/
theorem ibits_run {op : BinOp} {k : IntKind} {x y : Int} {s : SV} (h : ibits op k x y = some s) :
    ∃ r, (∀ w, (Op.intBits op k x y).run P w = .ok r w) ∧ SR ρ s r := by
  have hb : ∀ z : Int, (BitVec.ofInt k.bits z).toNat = (z % bits2 k).toNat := by
    intro z
    rw [BitVec.toNat_ofInt]
    cases k <;> rfl
  cases op <;> simp only [ibits] at h <;> cases h <;>
    refine ⟨_, fun w => rfl, ?_⟩ <;> simp only [BitVec.toNat_and, BitVec.toNat_or, BitVec.toNat_xor, hb, wr_eq] <;> exact .int _ _

theorem ibin_run {op : BinOp} {k : IntKind} {x y : Int} {s : SV} (t : TypeId) (hop : op ≠ .shl ∧ op ≠ .shr) (h : ibin op k x y = some s) :
    ∃ r, (∀ w, (binOp op t (.int k x) (.int k y)).run P w = .ok r w) ∧ SR ρ s r := by
  cases op <;> simp only [ibin] at h
  case shl => exact absurd rfl hop.1
  case shr => exact absurd rfl hop.2
  case and => simpa [binOp] using ibits_run h
  case or => simpa [binOp] using ibits_run h
  case xor => simpa [binOp] using ibits_run h
  case quo =>
    split at h
    · cases h
    · rename_i hy
      cases h
      exact ⟨.int k (k.wrap (x.tdiv y)), fun w => by simp [binOp, Op.intDiv, hy], by rw [wr_eq]; exact .int _ _⟩
  case rem =>
    split at h
    · cases h
    · rename_i hy
      cases h
      exact ⟨.int k (x.tmod y), fun w => by simp [binOp, Op.intDiv, hy], .int _ _⟩
  case add => cases h; exact ⟨.int k (k.wrap (x + y)), fun w => by simp [binOp, Op.intArith], by rw [wr_eq]; exact .int _ _⟩
  case sub => cases h; exact ⟨.int k (k.wrap (x - y)), fun w => by simp [binOp, Op.intArith], by rw [wr_eq]; exact .int _ _⟩
  case mul => cases h; exact ⟨.int k (k.wrap (x * y)), fun w => by simp [binOp, Op.intArith], by rw [wr_eq]; exact .int _ _⟩
  case eql => cases h; exact ⟨.bool (x == y), fun w => by simp [binOp, Op.intCmp], .bool _⟩
  case neq => cases h; exact ⟨.bool (x != y), fun w => by simp [binOp, Op.intCmp], .bool _⟩
  case lss => cases h; exact ⟨.bool (x < y), fun w => by simp [binOp, Op.intCmp], .bool _⟩
  case leq => cases h; exact ⟨.bool (x ≤ y), fun w => by simp [binOp, Op.intCmp], .bool _⟩
  case gtr => cases h; exact ⟨.bool (x > y), fun w => by simp [binOp, Op.intCmp], .bool _⟩
  case geq => cases h; exact ⟨.bool (x ≥ y), fun w => by simp [binOp, Op.intCmp], .bool _⟩
  all_goals cases h

theorem shift_run {op : BinOp} {k k' : IntKind} {x y : Int} {s : SV} (t : TypeId) (hop : op = .shl ∨ op = .shr) (h : shiftBin op k x y = some s) :
    ∃ r, (∀ w, (binOp op t (.int k x) (.int k' y)).run P w = .ok r w) ∧ SR ρ s r := by
  unfold shiftBin at h
  split at h
  · cases h
  rename_i hy
  have hp : ∀ n : Nat, ((Nat.pow 2 n : Nat) : Int) = 2 ^ n := fun n => by
    show (((2 ^ n : Nat)) : Int) = 2 ^ n
    simp [Int.natCast_pow]
  rcases hop with rfl | rfl
  · cases h
    exact ⟨.int k (k.wrap (x * 2 ^ (min y.toNat k.bits))), fun w => by simp [binOp, Op.shift, hy], by rw [wr_eq, hp]; exact .int _ _⟩
  · cases h
    exact ⟨.int k (x.fdiv (2 ^ (min y.toNat k.bits))), fun w => by simp [binOp, Op.shift, hy], by rw [hp]; exact .int _ _⟩

theorem sbin_run {op : BinOp} {x y : List UInt8} {s : SV} (t : TypeId) (h : sbin op x y = some s) :
    ∃ r, (∀ w, (binOp op t (.string ⟨x.toArray⟩) (.string ⟨y.toArray⟩)).run P w = .ok r w) ∧ SR ρ s r := by
  have e : binOp op t (.string ⟨x.toArray⟩) (.string ⟨y.toArray⟩) = Op.stringOp op ⟨x.toArray⟩ ⟨y.toArray⟩ := by
    cases op <;> rfl
  rw [e]
  cases op <;> simp only [sbin] at h
  case add =>
    split at h
    · rename_i hl
      cases h
      have hl' : x.length + y.length ≤ maxStr := by simpa using hl
      unfold maxStr at hl'
      refine ⟨.string (⟨x.toArray⟩ ++ ⟨y.toArray⟩), ?_, ?_⟩
      · have h1 : (ByteArray.mk x.toArray).size = x.length := by simp [ByteArray.size]
        have h2 : (ByteArray.mk y.toArray).size = y.length := by simp [ByteArray.size]
        have h3 : ¬ (((ByteArray.mk x.toArray).size + (ByteArray.mk y.toArray).size : Nat) : Int) > IntKind.i64.max := by
          rw [h1, h2]
          have : IntKind.i64.max = 9223372036854775807 := by decide
          rw [this]
          omega
        intro w
        simp only [Op.stringOp, if_neg h3]
        rfl
      · have h3 : (ByteArray.mk x.toArray ++ ByteArray.mk y.toArray) = ⟨(x ++ y).toArray⟩ := by
          apply ByteArray.ext
          simp
        rw [h3]
        exact .str _
    · cases h
  case eql => cases h; exact ⟨.bool (x == y), fun w => by simp [Op.stringOp], by rw [beqL_eq]; exact .bool _⟩
  case neq => cases h; exact ⟨.bool (!(x == y)), fun w => by simp [Op.stringOp], by rw [beqL_eq]; exact .bool _⟩
  case lss => cases h; exact ⟨.bool (Op.bytesLess x y), fun w => by simp [Op.stringOp], by rw [ltL_eq]; exact .bool _⟩
  case leq => cases h; exact ⟨.bool (Op.bytesLess x y || x == y), fun w => by simp [Op.stringOp], by rw [ltL_eq, beqL_eq]; exact .bool _⟩
  case gtr => cases h; exact ⟨.bool (!(Op.bytesLess x y || x == y)), fun w => by simp [Op.stringOp], by rw [ltL_eq, beqL_eq]; exact .bool _⟩
  case geq => cases h; exact ⟨.bool (!Op.bytesLess x y), fun w => by simp [Op.stringOp], by rw [ltL_eq]; exact .bool _⟩
  all_goals cases h

theorem evBin_run {op : BinOp} {x y : AV} {u v : Value} {s : SV} (t : TypeId) (h : evBin op x y = some s) (hx : VR ρ x u) (hy : VR ρ y v) :
    (∃ r, (∀ w, (binOp op t u v).run P w = .ok r w) ∧ SR ρ s r) ∧ (u ≠ .nilIface) ∧ (∀ c, u ≠ .agg c) := by
  unfold evBin at h
  split at h
  · rename_i k a k' b
    cases hx with
    | one hx =>
      cases hx
      cases hy with
      | one hy =>
        cases hy
        refine ⟨?_, by simp, by simp⟩
        split at h
        · exact shift_run t (.inl rfl) h
        · exact shift_run t (.inr rfl) h
        · rename_i h1 h2
          split at h
          · rename_i hk
            have : k = k' := of_decide_eq_true hk
            subst this
            exact ibin_run t ⟨h1, h2⟩ h
          · cases h
  · cases hx with
    | one hx =>
      cases hx
      cases hy with
      | one hy =>
        cases hy
        exact ⟨sbin_run t h, by simp, by simp⟩
  · cases h

theorem eqGuard_run {op : BinOp} {t : TypeId} {x y : Operand} {u v : Value} (h1 : u ≠ .nilIface) (h2 : ∀ c, u ≠ .agg c) (w : World) :
    (eqGuard op t x y u v).run P w = .ok () w := by
  unfold eqGuard
  by_cases h : (op matches .eql | .neq) = true
  · cases u <;> first | exact absurd rfl h1 | exact absurd rfl (h2 _) | (cases op <;> simp at h <;> rfl)
  · cases op <;> simp at h <;> rfl

end
end Go.Proofs.Ythjijjkoeoemgaa.Ab
