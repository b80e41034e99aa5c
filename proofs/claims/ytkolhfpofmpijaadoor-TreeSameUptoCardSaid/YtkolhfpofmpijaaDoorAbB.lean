/- Several of my texts in one: AbOp8, AbOp9, AbCode, AbStep, AbSound, AbMask, AbDraw1, AbDraw2, AbDraw3, AbDraw, AbRow. -/
import Derived.Test.YtkolhfpofmpijaaDoorAbA
import Derived.MapKept
import Derived.LoopN
import Derived.OrdersIn
import Derived.LoopNIn
import Derived.Scope
import Derived.ProofKit
import Derived.OpenShut
import Derived.WideKeyArgs
/- Every operation but a call of a Go function. -/
namespace Go.Proofs.YtkolhfpofmpijaaDoor.Ab
open Go
set_option linter.unusedSectionVars false
variable [LoopP]
set_option linter.unusedSimpArgs false
set_option linter.unusedVariables false

section
variable {P : Program} {ρ : Loc}

/-- An operation that looks into memory and may write it. -/
def AOp.mem : AOp → Bool
  | .store .. | .append .. | .appendZ .. | .copy .. | .clear .. | .sbytes _ | .bstr _ => true
  | .ext (.mkiface ..) | .ext (.ifnil ..) | .ext (.assert ..) | .ext (.mkmeth ..) => false
  | .ext _ => true
  | _ => false

def OpClass (P : Program) (ρ : Loc) (o : Oper) (a : Act) (fr : List AV) (σ σ' : AHeap) (v : AV) (aop : AOp) : Prop :=
  (aop.memless = true ∧ σ' = σ ∧ ∃ u, VR ρ v u ∧ ∀ w, (execOp a.eval o).run P w = .ok (.value u) w) ∨
  (∃ g y, aop = .load g y ∧ σ' = σ ∧ ∀ w, (∀ id off B ob, ev fr y = .one (.ptr id off) → ρ id = some B → σ.get id = some ob → ObjOk ρ w B ob) → FzOk ρ w → ∃ u, VR ρ v u ∧ (execOp a.eval o).run P w = .ok (.value u) w) ∨
  (aop.allocs = true ∧ AllocRes P ρ o a σ σ' v) ∨
  (aop.mem = true ∧ ∀ w, HR ρ σ.get w → OpRes P ρ o a σ w σ' v)

theorem builtin_res {o : Oper} {a : Act} {σ σ' : AHeap} {w : World} {v : AV} {s : Sem Value} (h : ∃ u w' ρ', s.run P w = .ok u w' ∧ Post ρ σ w ρ' σ' w' ∧ VR ρ' v u)
    (hs : ∀ u w', s.run P w = .ok u w' → (execOp a.eval o).run P w = .ok (.value u) w') : OpRes P ρ o a σ w σ' v := by
  obtain ⟨u, w', ρ', h1, h2, h3⟩ := h
  exact ⟨_, u, w', ρ', hs u w' h1, .inl rfl, h2, h3⟩

theorem op_class [IsProg P] {o : Oper} {aop : AOp} {fr : List AV} {a : Act} {σ σ' : AHeap} {v : AV} (hc : compOp P o.op = some aop)
    (hf : FR ρ fr a.tmps) (hl : LenRel ρ σ.get) (he : evOp fr σ aop = some (v, σ')) : OpClass P ρ o a fr σ σ' v aop := by
  by_cases hm : aop.memless = true
  · exact .inl ⟨hm, memless_run hc hm hf hl he⟩
  have hc' := hc
  obtain ⟨dst', op, type, pos, after, guard⟩ := o
  simp only at hc hc'
  cases op with
  | load t x =>
    simp only [compOp] at hc
    split at hc
    · rename_i g y hg hy
      cases hc
      refine .inr (.inl ⟨g, y, rfl, ?_⟩)
      have hσ : σ' = σ := by
        simp only [evOp] at he
        split at he
        · split at he
          · cases he; rfl
          · cases he
        · split at he
          · cases he; rfl
          · cases he
        · cases he
      refine ⟨hσ, fun w hr hz => ?_⟩
      exact (load_run (o := ⟨dst', .load t x, type, pos, after, guard⟩) rfl hg hy hf he hr hz).2
    · cases hc
  | store t x y =>
    simp only [compOp] at hc
    split at hc
    · rename_i n x' y' hn hx hy
      cases hc
      exact .inr (.inr (.inr ⟨rfl, fun w hr => store_run (o := ⟨dst', .store t x y, type, pos, after, guard⟩) rfl hn hx hy hf hr he⟩))
    · cases hc
  | alloc t =>
    simp only [compOp] at hc
    split at hc
    · rename_i z hz _
      cases hc
      exact .inr (.inr (.inl ⟨rfl, new_run (o := ⟨dst', .alloc t, type, pos, after, guard⟩) rfl hz he⟩))
    · cases hc
  | box t x =>
    simp only [compOp] at hc
    split at hc
    · rename_i y hy
      cases hc
      exact .inr (.inr (.inl ⟨rfl, box_run (o := ⟨dst', .box t x, type, pos, after, guard⟩) rfl hy hf he⟩))
    · cases hc
  | buildSlice t len parts =>
    simp only [compOp] at hc
    split at hc
    · rename_i e ht
      split at hc
      · rename_i n z hs hz
        split at hc
        · rename_i l hp hle
          cases hc
          exact .inr (.inr (.inl ⟨rfl, bslice_run (o := ⟨dst', .buildSlice t len parts, type, pos, after, guard⟩) rfl ht hs hz hp (by simpa using hle) hf he⟩))
        · cases hc
      · cases hc
    · cases hc
  | makeSlice t l c =>
    simp only [compOp] at hc
    split at hc
    · rename_i e ht
      split at hc
      · rename_i n b z hs hb hz
        split at hc
        · rename_i l' c' hl' hc2
          cases hc
          exact .inr (.inr (.inl ⟨rfl, mkslice_run (o := ⟨dst', .makeSlice t l c, type, pos, after, guard⟩) rfl ht hs hb hz hl' hc2 hf he⟩))
        · cases hc
      · cases hc
    · cases hc
  | call c =>
    obtain ⟨callee, args, argTypes⟩ := c
    simp only [compOp, compCall] at hc
    cases callee with
    | value f =>
      simp only at hc
      split at hc
      · cases hc; cases he
      · cases hc
    | invoke r m => cases hc
    | builtin b =>
      simp only at hc
      split at hc
      · split at hc
        · cases hc; exact absurd rfl hm
        · cases hc; exact absurd rfl hm
        · cases hc; exact absurd rfl hm
        · split at hc
          · cases hc; exact absurd rfl hm
          · cases hc
        · cases hc
      · split at hc
        · cases hc; exact absurd rfl hm
        · cases hc
      · -- append
        rename_i x' y' t u hxy htu
        obtain ⟨x, y, hargs, hx, hy⟩ := compOpds_two hxy
        have hargs' : args = #[x, y] := Array.ext' hargs
        have hat : argTypes = #[t, u] := Array.ext' htu
        subst hargs'
        subst hat
        have k1 := opd_rel hx hf
        have k2 := opd_rel hy hf
        split at hc
        · rename_i e ht
          have two : ∀ n b z, tSize P e = some n → tBytes P e = some b → tZero P e = some z → ((∃ e', P.underlying u = some (.slice e')) ∨ P.underlying u = some .string) →
              (match n with
                | 0 => none
                | n + 1 => some (AOp.append (n + 1) b z x' y')) = some aop → OpClass P ρ ⟨dst', .call ⟨.builtin .append, #[x, y], #[t, u]⟩, type, pos, after, guard⟩ a fr σ σ' v aop := by
            intro n b z hs hb hz hu hc
            cases n with
            | zero => cases hc
            | succ n =>
              cases hc
              refine .inr (.inr (.inr ⟨rfl, fun w hr => ?_⟩))
              simp only [evOp] at he
              split at he
              · rename_i k hk
                split at he
                · rename_i vs hvs
                  obtain ⟨us, q1, q2, q3⟩ := srcCells_run (P := P) hvs k2 hr
                  have happ : ∀ base len c, a.eval x = .slice base len c → InPlace P (Builtin.append_ #[t, u] type #[a.eval x, a.eval y]) base len c (n + 1) k us w ∧
                      InNew P (Builtin.append_ #[t, u] type #[a.eval x, a.eval y]) e len c (n + 1) b k (a.eval x) us w := by
                    intro base len c hX
                    exact append_two type ht hs hb hz hu hX (srcLen_run (P := P) hk k2) q3
                  refine builtin_res (appendA_run k1 hr q1 q2 happ he) (fun u' w' hrun => ?_)
                  simp [execOp, resolve, invoke, builtin, hrun]
                · cases he
              · cases he
          split at hc
          · rename_i n b z ik hs hb hz hu
            cases n with
            | zero => cases hc
            | succ n =>
              cases hc
              refine .inr (.inr (.inr ⟨rfl, fun w hr => ?_⟩))
              simp only [evOp] at he
              split at he
              · rename_i k hk
                split at he
                · rename_i hkm
                  have hkm' : k ≤ 4294967296 := by
                    have : k ≤ maxElems := by simpa using hkm
                    exact this
                  obtain ⟨ik', hY⟩ := asNat_run hk k2
                  have hby : k = 0 ∨ b ≤ 4096 := by
                    cases k with
                    | zero => exact .inl rfl
                    | succ k =>
                      right
                      simp only [appendA, appendK] at he
                      split at he
                      · split at he
                        · rename_i hb'
                          simp only [Bool.and_eq_true] at hb'
                          exact Nat.le_of_ble_eq_true hb'.2
                        · cases he
                      · split at he
                        · rename_i hb'
                          simp only [Bool.and_eq_true] at hb'
                          exact Nat.le_of_ble_eq_true hb'.2
                        · cases he
                      · split at he
                        · rename_i hb' _
                          simp only [Bool.and_eq_true] at hb'
                          exact Nat.le_of_ble_eq_true hb'.2
                        · cases he
                      · split at he
                        · rename_i hb'
                          simp only [Bool.and_eq_true] at hb'
                          exact Nat.le_of_ble_eq_true hb'.1.1.2
                        · cases he
                      · cases he
                  have hX : ∃ base len c, a.eval x = .slice base len c := by
                    have : (∃ id off e len cap, ev fr x' = .one (.slice id off e len cap)) ∨ ev fr x' = .one .nilSlice ∨ (∃ l, ev fr x' = .one (.lst l)) ∨ ev fr x' = .one .emp ∨ ∃ l, ev fr x' = .one (.lstx l) := by
                      cases k with
                      | zero =>
                        simp only [appendA] at he
                        split at he
                        · rename_i h; exact .inr (.inl h)
                        · rename_i h; exact .inl ⟨_, _, _, _, _, h⟩
                        · rename_i h; exact .inr (.inr (.inl ⟨_, h⟩))
                        · rename_i h; exact .inr (.inr (.inr (.inl h)))
                        · rename_i h; exact .inr (.inr (.inr (.inr ⟨_, h⟩)))
                        · cases he
                      | succ k =>
                        simp only [appendA, appendK] at he
                        split at he
                        · rename_i h; exact .inr (.inl h)
                        · rename_i h; exact .inr (.inr (.inr (.inl h)))
                        · rename_i h; exact .inl ⟨_, _, _, _, _, h⟩
                        · rename_i h; exact .inr (.inr (.inr (.inr ⟨_, h⟩)))
                        · cases he
                    rcases this with ⟨_, _, _, _, _, h⟩ | h | ⟨_, h⟩ | h | ⟨_, h⟩
                    all_goals
                      rw [h] at k1
                      generalize a.eval x = X at k1
                      cases k1 with
                      | one k1 => cases k1 <;> exact ⟨_, _, _, rfl⟩
                  obtain ⟨base, len, c, hX⟩ := hX
                  obtain ⟨us, q1, q2, q3⟩ := append_zeros (P := P) (ik' := ik') (w := w) type ht hs hb hz hu hX hkm' hby
                  have hzl : z.length = n + 1 := by
                    obtain ⟨i, v0, h1, h2, h3, h4⟩ := tZero_info hz
                    obtain ⟨i', h1', hsz⟩ := tSize_info hs
                    rw [h1] at h1'; cases h1'
                    omega
                  have hul : us.length = k * (n + 1) := by rw [← (q1 ρ).length, repeatCells_length, hzl]
                  have happ : ∀ base len c, a.eval x = .slice base len c → InPlace P (Builtin.append_ #[t, u] type #[a.eval x, .int ik' k]) base len c (n + 1) k us w ∧
                      InNew P (Builtin.append_ #[t, u] type #[a.eval x, .int ik' k]) e len c (n + 1) b k (a.eval x) us w := by
                    intro base' len' c' hX'
                    rw [hX] at hX'
                    cases hX'
                    exact ⟨q2, q3⟩
                  refine builtin_res (appendA_run k1 hr (q1 ρ) hul happ he) (fun u' w' hrun => ?_)
                  simp [execOp, resolve, invoke, builtin, hY, hrun]
                · cases he
              · cases he
          · rename_i n b z e' hs hb hz hu
            exact two n b z hs hb hz (.inl ⟨e', hu⟩) hc
          · rename_i n b z hs hb hz hu
            exact two n b z hs hb hz (.inr hu) hc
          · cases hc
        · cases hc
      · -- copy
        rename_i x' y' t u hxy htu
        obtain ⟨x, y, hargs, hx, hy⟩ := compOpds_two hxy
        have hargs' : args = #[x, y] := Array.ext' hargs
        have hat : argTypes = #[t, u] := Array.ext' htu
        subst hargs'
        subst hat
        split at hc
        · rename_i e ht
          split at hc
          · rename_i n hs
            cases hc
            refine .inr (.inr (.inr ⟨rfl, fun w hr => ?_⟩))
            refine builtin_res (copy_run (t2 := u) type ht hs (opd_rel hx hf) (opd_rel hy hf) hr he) (fun u' w' hrun => ?_)
            simp [execOp, resolve, invoke, builtin, hrun]
          · cases hc
        · cases hc
      · cases hc; exact absurd rfl hm
      · cases hc; exact absurd rfl hm
      · -- clear
        rename_i x' t hxy htu
        obtain ⟨x, hargs, hx⟩ := compOpds_one hxy
        have hargs' : args = #[x] := Array.ext' hargs
        have hat : argTypes = #[t] := Array.ext' htu
        subst hargs'
        subst hat
        split at hc
        · rename_i e ht
          split at hc
          · rename_i n z hs hz
            cases hc
            refine .inr (.inr (.inr ⟨rfl, fun w hr => ?_⟩))
            refine builtin_res (clear_run type ht hs hz (opd_rel hx hf) hr he) (fun u' w' hrun => ?_)
            simp [execOp, resolve, invoke, builtin, hrun]
          · cases hc
        · cases hc
      · cases hc
  | binOp op t x y yt =>
    simp only [compOp] at hc
    split at hc
    · rename_i x' y' hx hy
      exact absurd (compBin_run (X := x) (Y := y) hc (opd_rel hx hf) (opd_rel hy hf) he).1 hm
    · cases hc
  | convert src dst x =>
    simp only [compOp] at hc
    split at hc
    · cases hc; exact absurd rfl hm
    · rename_i x' e hx hs hd
      split at hc
      · rename_i he8 hsz
        cases hc
        exact .inr (.inr (.inr ⟨rfl, fun w hr => sbytes_run (o := ⟨dst', .convert src dst x, type, pos, after, guard⟩) rfl hs hd he8 hx hf hr he⟩))
      · cases hc
    · rename_i x' e hx hs hd
      split at hc
      · rename_i he8 hsz
        cases hc
        exact .inr (.inr (.inr ⟨rfl, fun w hr => bstr_run (o := ⟨dst', .convert src dst x, type, pos, after, guard⟩) rfl hs hd he8 hx hf hr he⟩))
      · cases hc
    · cases hc
  | makeFunc fn first captured =>
    cases fn with
    | func f =>
      simp only [compOp] at hc
      split at hc
      · cases hc; exact absurd rfl hm
      · cases hc
    | _ => simp [compOp] at hc
  | _ =>
    exfalso
    revert hc
    simp only [compOp]
    intro hc
    repeat' (split at hc)
    all_goals (cases hc)
    all_goals (exact hm rfl)

/-- An operation, in a memory that is known whole. -/
theorem op_sim [IsProg P] {o : Oper} {aop : AOp} {fr : List AV} {a : Act} {σ σ' : AHeap} {v : AV} {w : World} (hc : compOp P o.op = some aop)
    (hf : FR ρ fr a.tmps) (hr : HR ρ σ.get w) (he : evOp fr σ aop = some (v, σ')) : OpRes P ρ o a σ w σ' v := by
  rcases op_class hc hf hr.lenRel he with ⟨_, rfl, u, h1, h2⟩ | ⟨g, y, rfl, rfl, h⟩ | ⟨_, cs, vs, t, rfl, h1, h2⟩ | ⟨_, h⟩
  · exact ⟨_, u, w, ρ, h2 w, .inl rfl, Post.refl hr, h1⟩
  · obtain ⟨u, h1, h2⟩ := h w (fun id off B ob _ hB hob => by
      obtain ⟨o', k1, k2, _⟩ := hr.dom id B hB
      rw [hob] at k1; cases k1
      exact k2) hr.fzOk
    exact ⟨_, u, w, ρ, h2, .inl rfl, Post.refl hr, h1⟩
  · obtain ⟨u, h3, h4⟩ := h2 w
    have hp := Post.alloc (t := t) (fz := (0, 0)) hr h1 (extra := []) (arr := vs.toArray) (by simp) (fun o _ => by omega)
    refine ⟨_, u, _, _, h3, .inl rfl, hp, h4 _ ?_⟩
    rw [Loc.upd_at, if_pos rfl]
    simp
  · exact h w hr

end
end Go.Proofs.YtkolhfpofmpijaaDoor.Ab

/- The operations that came later: interface values, maps, methods of interfaces. -/
namespace Go.Proofs.YtkolhfpofmpijaaDoor.Ab
open Go
set_option linter.unusedSectionVars false
variable [LoopP]
set_option linter.unusedSimpArgs false
set_option linter.unusedVariables false

section
variable {P : Program} {ρ : Loc}

theorem tZeroV_info {t : TypeId} {z : AV} (h : tZeroV P t = some z) : ∃ v, (∀ w, (zeroValue t).run P w = .ok v w) ∧ ∀ ρ, VR ρ z v := by
  unfold tZeroV at h
  split at h
  · rename_i i hi
    split at h
    · rename_i v hv
      split at h
      · cases h
      · rename_i a ha
        cases h
        exact ⟨v, fun w => by simp [zeroValue, typeInfo, hi, hv], fun ρ => absV_rel ha⟩
      · cases h
    · cases h
  · cases h

/-! ### keys -/
def KK.desc : KK → TypeDesc
  | .bool => .bool
  | .int k => .int k
  | .str => .string

theorem mapKV_info {t e : TypeId} {ek : KK} (h : mapKV P t = some (ek, e)) : ∃ k, P.underlying t = some (.map k e) ∧ P.underlying k = some ek.desc := by
  unfold mapKV at h
  split at h
  · rename_i k e' ht
    split at h <;> cases h <;> exact ⟨k, ht, by assumption⟩
  · cases h

theorem keyIs_rel {ek : KK} {s : SV} {v : Value} (h : keyIs ek s = true) (hs : SR ρ s v) : MapKept.IsKey ek.desc v := by
  cases ek <;> cases s <;> simp [keyIs] at h <;> cases hs <;> simp [MapKept.IsKey, KK.desc, h]

theorem bytes_sing (a b : List UInt8) : ((⟨a.toArray⟩ : ByteArray) == ⟨b.toArray⟩) = beqL a b := by
  rw [beqL_eq]
  show (a.toArray == b.toArray) = (a == b)
  simp

theorem keyEq_rel {ek : KK} {s s' : SV} {v v' : Value} {b : Bool} (hk : keyIs ek s = true) (h : keyEq s s' = some b) (hs : SR ρ s v) (hs' : SR ρ s' v') : Instr.sameNow ek.desc v v' = some b ∧ (b = true → v = v') := by
  unfold keyEq at h
  split at h
  · rename_i k a k' a'
    cases ek <;> simp [keyIs] at hk
    subst hk
    split at h
    · rename_i hkk
      cases h
      have hkk : k = k' := by simpa using hkk
      subst hkk
      cases hs; cases hs'
      refine ⟨?_, fun h => ?_⟩
      · simp only [Instr.sameNow, KK.desc, if_true]
        congr 1
      · have : a = a' := by simpa using h
        rw [this]
    · cases h
  · cases h
    rename_i a a'
    cases ek <;> simp [keyIs] at hk
    cases hs; cases hs'
    refine ⟨?_, fun h => ?_⟩
    · simp only [Instr.sameNow, KK.desc]
      congr 1
      exact bytes_sing a a'
    · rw [beqL_eq] at h
      have : a = a' := by simpa using h
      rw [this]
  · cases h
    rename_i a a'
    cases ek <;> simp [keyIs] at hk
    cases hs; cases hs'
    refine ⟨by simp [Instr.sameNow, KK.desc], fun h => ?_⟩
    have : a = a' := by simpa using h
    rw [this]
  · cases h

theorem EntR.get {l : List Ent} {es : List MapEntry} (h : EntR ρ l es) : ∀ {i : Nat} {a : Ent}, l[i]? = some a → ∃ e, es[i]? = some e ∧ e.born = a.born ∧ SR ρ a.key e.key ∧ VR ρ a.val e.val := by
  induction h with
  | nil => intro i a h; cases h
  | cons hb hk hv _ ih =>
    intro i a h
    cases i with
    | zero => simp at h; subst h; exact ⟨_, rfl, hb, hk, hv⟩
    | succ i => simp at h; simpa using ih h

theorem EntR.length {l : List Ent} {es : List MapEntry} (h : EntR ρ l es) : l.length = es.length := by
  induction h with
  | nil => rfl
  | cons _ _ _ _ ih => simp [ih]

theorem EntR.append {l m : List Ent} {es fs : List MapEntry} (h : EntR ρ l es) (k : EntR ρ m fs) : EntR ρ (l ++ m) (es ++ fs) := by
  induction h with
  | nil => exact k
  | cons hb hk hv _ ih => exact .cons hb hk hv ih

theorem EntR.erase {l : List Ent} {es : List MapEntry} (h : EntR ρ l es) : ∀ i, EntR ρ (l.eraseIdx i) (es.eraseIdx i) := by
  induction h with
  | nil => intro i; exact .nil
  | cons hb hk hv t ih =>
    intro i
    cases i with
    | zero => exact t
    | succ i => exact .cons hb hk hv (ih i)

theorem EntR.set {l : List Ent} {es : List MapEntry} (h : EntR ρ l es) : ∀ {i : Nat} {a : Ent} {e : MapEntry}, e.born = a.born → SR ρ a.key e.key → VR ρ a.val e.val → EntR ρ (l.set i a) (es.set i e) := by
  induction h with
  | nil => intro i a e _ _ _; exact .nil
  | cons hb hk hv t ih =>
    intro i a e h1 h2 h3
    cases i with
    | zero => exact .cons h1 h2 h3 t
    | succ i => exact .cons hb hk hv (ih h1 h2 h3)

theorem findE_rel {ek : KK} {s : SV} {v : Value} (hk : keyIs ek s = true) (hs : SR ρ s v) {l : List Ent} {es : List MapEntry} (h : EntR ρ l es) : ∀ {i : Nat} {r : Option (Nat × Ent)}, findE s l i = some r →
    match r with
    | none => Instr.findNow ek.desc v es i = some none
    | some (j, a) => ∃ d e, j = i + d ∧ l[d]? = some a ∧ es[d]? = some e ∧ Instr.findNow ek.desc v es i = some (some (j, e.val)) ∧ e.key = v ∧ e.born = a.born ∧ SR ρ a.key e.key ∧ VR ρ a.val e.val := by
  induction h with
  | nil => intro i r h; cases h; rfl
  | cons hb hk' hv t ih =>
    intro i r h
    rename_i a e l' es'
    simp only [findE] at h
    split at h
    · rename_i heq
      cases h
      obtain ⟨h1, h2⟩ := keyEq_rel hk heq hs hk'
      exact ⟨0, e, rfl, rfl, rfl, by simp [Instr.findNow, h1], (h2 rfl).symm, hb, hk', hv⟩
    · rename_i heq
      obtain ⟨h1, _⟩ := keyEq_rel hk heq hs hk'
      have := ih h
      cases r with
      | none => simp only [Instr.findNow, h1]; exact this
      | some p =>
        obtain ⟨d, e', q1, q2, q3, q4, q5⟩ := this
        exact ⟨d + 1, e', by omega, by simpa using q2, by simpa using q3, by simp only [Instr.findNow, h1]; exact q4, q5⟩
    · cases h

theorem findB_rel {b : Nat} {l : List Ent} {es : List MapEntry} (h : EntR ρ l es) : ∀ {i j : Nat} {a : Ent}, findB b l i = some (j, a) →
    ∃ d e, j = i + d ∧ l[d]? = some a ∧ es[d]? = some e ∧ es.findIdx? (fun e => (e.born : Int) == (b : Int)) = some d ∧ e.born = a.born ∧ SR ρ a.key e.key ∧ VR ρ a.val e.val := by
  induction h with
  | nil => intro i j a h; cases h
  | cons hb hk hv t ih =>
    intro i j a' h
    rename_i a e l' es'
    simp only [findB] at h
    split at h
    · rename_i heq
      cases h
      have : a.born = b := Nat.eq_of_beq_eq_true heq
      exact ⟨0, e, rfl, rfl, rfl, by simp [List.findIdx?_cons, hb, this], hb, hk, hv⟩
    · rename_i heq
      obtain ⟨d, e', q1, q2, q3, q4, q5⟩ := ih h
      have hne : ¬ a.born = b := fun x => by subst x; simp at heq
      have : ((e.born : Int) == (b : Int)) = false := by
        rw [hb]
        simp only [beq_eq_false_iff_ne, ne_eq]
        omega
      exact ⟨d + 1, e', by omega, by simpa using q2, by simpa using q3, by simp [List.findIdx?_cons, this, q4], q5⟩

/-! ### a map's object -/
theorem HR.mapAt {σ : AHeap} {w : World} (hr : HR ρ σ.get w) {id : Nat} {B : Blk} {cs : List SV} {c : Nat} {es : List Ent} (hB : ρ id = some B) (hg : σ.get id = some ⟨cs, .map c es⟩) :
    ∃ ents, w.heap[B.b]? = some (.map ents c) ∧ EntR ρ es ents.toList := by
  obtain ⟨o, h1, h2, h3⟩ := hr.dom id B hB
  rw [hg] at h1; cases h1
  exact h2.mp c es rfl

/-- A map's object is written. -/
theorem Post.mapPut {σ : AHeap} {w : World} (hr : HR ρ σ.get w) {id : Nat} {B : Blk} {cs : List SV} {c c' : Nat} {es es' : List Ent} {en en' : Array MapEntry} (hB : ρ id = some B) (hg : σ.get id = some ⟨cs, .map c es⟩)
    (hh : w.heap[B.b]? = some (.map en c)) (hn : EntR ρ es' en'.toList) : Post ρ σ w ρ (σ.put id ⟨cs, .map c' es'⟩) { w with heap := w.heap.setIfInBounds B.b (.map en' c') } := by
  obtain ⟨o, h1, h2, h3⟩ := hr.dom id B hB
  rw [hg] at h1; cases h1
  obtain ⟨q1, q2⟩ := MapKept.heap_set (o' := .map en' c') hh
  refine Post.putG hr hB hg rfl ⟨h2.len, h2.fit, fun _ => ?_, fun h => (by cases h), fun c es h => ?_, fun t f h => (by cases h), fun h => (by cases h)⟩ q2 (by simp) rfl rfl rfl
  · obtain ⟨vs, k1, k2⟩ := h2.holds (by simp)
    refine ⟨vs, k1, fun j v hj => ?_⟩
    have := k2 j v hj
    unfold World.cell? at this
    simp only [hh] at this
    cases this
  · cases h
    exact ⟨en', q1, hn⟩

theorem okRes_rel {ok : Bool} {v : AV} {u : Value} {b : Bool} (h : VR ρ v u) : VR ρ (okRes ok v b) (if ok then .tuple #[u, .bool b] else u) := by
  cases ok with
  | false => exact h
  | true =>
    have := VR.tup (ρ := ρ) (.cons h (.cons (.one (.bool b)) .nil))
    simpa [okRes] using this

theorem mkmap_run {o : Oper} {t k e : TypeId} {r : Option Operand} {a : Act} {σ : AHeap} {w : World} (ho : o.op = .makeMap t r) (hc : isConstInt r = true) (ht : P.underlying t = some (.map k e)) (hr : HR ρ σ.get w) :
    OpRes P ρ o a σ w (σ.alloc ⟨[], .map 0 []⟩) (.one (.map σ.size)) := by
  have hok : ObjOk (ρ.upd σ.size ⟨w.heap.size, 0, 0, 0⟩) (w.alloc (.map #[] 0)) ⟨w.heap.size, 0, 0, 0⟩ ⟨[], .map 0 []⟩ := by
    refine ⟨rfl, by simp, fun _ => ⟨[], .nil, fun j v h => by cases h⟩, fun h => (by cases h), fun c es h => ?_, fun t f h => (by cases h), fun h => (by cases h)⟩
    cases h
    exact ⟨#[], (MapKept.heap_alloc w _).1, .nil⟩
  have hp := Post.allocG hr rfl hok
  have hrun : (Instr.makeMap t (r.map a.eval)).run P w = .ok (.map (some w.heap.size)) (w.alloc (.map #[] 0)) := by
    cases r with
    | none => simp [Instr.makeMap]
    | some r =>
      unfold isConstInt at hc
      split at hc
      · rename_i h; cases h
      · rename_i kk n h
        cases h
        simp [Instr.makeMap, run_underlying ht, Act.eval, asInt, asIntOf]
      · cases hc
  refine ⟨_, .map (some w.heap.size), _, _, by simp [execOp, ho, hrun], .inl rfl, hp, .one ?_⟩
  have hB : (ρ.upd σ.size ⟨w.heap.size, 0, 0, 0⟩) σ.size = some ⟨w.heap.size, 0, 0, 0⟩ := by rw [Loc.upd_at, if_pos rfl]
  exact .map hB

/-- A new builder. -/
theorem newT_run {o : Oper} {t : TypeId} {z : List SV} {a : Act} {σ : AHeap} {w : World} (ho : o.op = .alloc t) (hz : tZero P t = some z) (hr : HR ρ σ.get w) :
    OpRes P ρ o a σ w (σ.alloc ⟨z, .tag t true⟩) (.one (.ptr σ.size 0)) := by
  obtain ⟨i, v0, h1, h2, h3, h4⟩ := tZero_info hz
  have hv := h4 ρ
  have hle := Loc.le_upd (hr.none_size (Nat.le_refl σ.size)) (B := ⟨w.heap.size, 0, v0.cells.size, z.length⟩)
  have h0 := ObjOk.ofRow (w := w) (arr := v0.cells) (t := t) (fz := (0, 0)) (extra := []) hle hv (by simp) (fun o _ h => by omega)
  have hok : ObjOk (ρ.upd σ.size ⟨w.heap.size, 0, v0.cells.size, z.length⟩) (w.alloc (.cells v0.cells t)) ⟨w.heap.size, 0, v0.cells.size, z.length⟩ ⟨z, .tag t true⟩ :=
    ⟨h0.len, h0.fit, fun _ => h0.holds (by simp), fun h => (by cases h), fun c es h => (by cases h), fun t' f h => (by cases h; exact ⟨⟨rfl, fun _ => by show z.length = v0.cells.size; rw [hv.length, Array.length_toList]⟩, _, by show (w.heap.push _)[w.heap.size]? = _; simp, rfl⟩), fun h => (by cases h)⟩
  have hp := Post.allocG hr rfl hok
  refine ⟨_, .pointer (some ⟨w.heap.size, 0, none⟩), _, _, ?_, .inl rfl, hp, .one ?_⟩
  · simp [execOp, ho, Instr.alloc, zeroValue, typeInfo, h1, h2, newVar, newRow]
  · have := SR.ptr (ρ := ρ.upd σ.size ⟨w.heap.size, 0, v0.cells.size, z.length⟩) (id := σ.size) (off := 0) (B := ⟨w.heap.size, 0, v0.cells.size, z.length⟩) (by rw [Loc.upd_at, if_pos rfl])
    simpa using this

/-- Reading a map, and whether it has a key. -/
theorem lookup_run {t k e : TypeId} {ek : KK} {x kk : Value} {z u : Value} {es : Array MapEntry} {w : World} {ok b : Bool} (ht : P.underlying t = some (.map k e)) (hk : P.underlying k = some ek.desc)
    (hz : (zeroValue e).run P w = .ok z w) (hkey : MapKept.IsKey ek.desc kk)
    (hx : (x = .map none ∧ es = #[]) ∨ ∃ r c, x = .map (some r) ∧ w.heap[r]? = some (.map es c))
    (hf : (Instr.findNow ek.desc kk es.toList 0 = some none ∧ b = false ∧ u = z) ∨ ∃ i, Instr.findNow ek.desc kk es.toList 0 = some (some (i, u)) ∧ b = true) :
    (Instr.lookup t x kk ok).run P w = .ok (if ok then .tuple #[u, .bool b] else u) w := by
  have hck : ∀ e, (Instr.checkKey e 10000 k kk).run P w = .ok () w := fun e => MapKept.run_checkKey hk hkey e 9999
  rcases hf with ⟨h1, rfl, rfl⟩ | ⟨i, h1, rfl⟩
  · rcases hx with ⟨rfl, rfl⟩ | ⟨r, c, rfl, hh⟩
    · have h2 := MapKept.run_findKey (P := P) (w := w) hk h1
      simp only [Instr.lookup, Sem.run_bind, run_underlying ht, Result.andThen_ok, Sem.run_pure, hck, h2, hz]
      try (cases ok <;> rfl)
    · have h2 := MapKept.run_findKey (P := P) (w := w) hk h1
      simp only [Instr.lookup, Sem.run_bind, run_underlying ht, Result.andThen_ok, Sem.run_pure, hck, h2, hz, MapKept.run_getObj_map hh]
      try (cases ok <;> rfl)
  · rcases hx with ⟨rfl, rfl⟩ | ⟨r, c, rfl, hh⟩
    · cases h1
    · have h2 := MapKept.run_findKey (P := P) (w := w) hk h1
      simp only [Instr.lookup, Sem.run_bind, run_underlying ht, Result.andThen_ok, Sem.run_pure, hck, h2, hz, MapKept.run_getObj_map hh]
      try (cases ok <;> rfl)

theorem set_modify (es : Array MapEntry) (i : Nat) (f : MapEntry → MapEntry) {e : MapEntry} (he : es.toList[i]? = some e) : (es.modify i f).toList = es.toList.set i (f e) := by
  have he' : es[i]? = some e := by simpa using he
  apply List.ext_getElem?
  intro j
  rw [Array.getElem?_toList, Array.getElem?_modify, List.getElem?_set]
  by_cases h : i = j
  · subst h
    have hlt : i < es.toList.length := (List.getElem?_eq_some_iff.1 he).1
    have hlt2 : i < es.size := by simpa using hlt
    have he2 : es[i] = e := (Array.getElem?_eq_some_iff.1 he').2
    simp [hlt2, he2]
  · simp [h]

theorem setE_rel {l : List Ent} {en : Array MapEntry} {i : Nat} {a : Ent} {e : MapEntry} {v : AV} {u : Value} (h : EntR ρ l en.toList) (ha : l[i]? = some a) (he : en.toList[i]? = some e) (hv : VR ρ v u) (f : MapEntry → MapEntry)
    (hf1 : (f e).born = e.born) (hf2 : (f e).key = e.key) (hf3 : (f e).val = u) : EntR ρ (setE l i v) (en.modify i f).toList := by
  rw [set_modify en i f he]
  unfold setE
  rw [ha]
  obtain ⟨e', q1, q2, q3, q4⟩ := h.get ha
  rw [he] at q1; cases q1
  exact h.set (by rw [hf1]; exact q2) (by rw [hf2]; exact q3) (by rw [hf3]; exact hv)

theorem same_modify {l : List Ent} {en : Array MapEntry} {i : Nat} {e : MapEntry} (h : EntR ρ l en.toList) (he : en.toList[i]? = some e) (f : MapEntry → MapEntry) (hf : f e = e) : EntR ρ l (en.modify i f).toList := by
  rw [set_modify en i f he, hf]
  have : en.toList.set i e = en.toList := by
    apply List.ext_getElem?
    intro j
    rw [List.getElem?_set]
    split
    · rename_i hij
      subst hij
      split
      · exact he.symm
      · rename_i hlt
        rw [List.getElem?_eq_none (by omega)]
    · rfl
  rw [this]; exact h

theorem nilCmp_inv {op : BinOp} {t : TypeId} {x y : Operand} {e : XOp} (h : nilCmp P op t x y = some e) :
    ∃ ms a neg, P.underlying t = some (.interface ms) ∧ y = .const .nilIface ∧ compOpd x = some a ∧ e = .ifnil neg a ∧ ((op = .eql ∧ neg = false) ∨ (op = .neq ∧ neg = true)) := by
  unfold nilCmp at h
  split at h
  · rename_i ms hu
    split at h
    · rename_i a hy hx
      have hy' : y = .const .nilIface := by
        unfold isNilI at hy
        split at hy
        · rfl
        · cases hy
      split at h
      · cases h; exact ⟨ms, a, _, hu, hy', hx, rfl, .inl ⟨rfl, rfl⟩⟩
      · cases h; exact ⟨ms, a, _, hu, hy', hx, rfl, .inr ⟨rfl, rfl⟩⟩
      · cases h
    · cases h
  · cases h
theorem equal_nil_nil {ti : TypeId} {ms : Array (String × TypeId)} (hi : P.underlying ti = some (.interface ms)) (w : World) : (Op.equal ti .nilIface .nilIface).run P w = .ok true w := by
  have h : ∀ d : Nat, (Op.equalIn (d + 1) ti .nilIface .nilIface).run P w = .ok true w := fun d => by simp [Op.equalIn, run_underlying hi]
  simp [Op.equal, Op.maxDepth, h 9999]
theorem equal_iface_nil {ti : TypeId} {ms : Array (String × TypeId)} (tp : TypeId) (v : Value) (hi : P.underlying ti = some (.interface ms)) (w : World) : (Op.equal ti (.iface tp v) .nilIface).run P w = .ok false w := by
  have h : ∀ d : Nat, (Op.equalIn (d + 1) ti (.iface tp v) .nilIface).run P w = .ok false w := fun d => by simp [Op.equalIn, run_underlying hi]
  simp [Op.equal, Op.maxDepth, h 9999]

theorem ext_mem {o : Oper} {e : XOp} {fr : List AV} {a : Act} {σ σ' : AHeap} {v : AV} {w : World} (hc : compX P o.op = some e) (hnm : (AOp.ext e).memless = false) (hf : FR ρ fr a.tmps) (hr : HR ρ σ.get w)
    (he : evX fr σ e = some (v, σ')) : OpRes P ρ o a σ w σ' v := by
  obtain ⟨dst, op, type, pos, after, guard⟩ := o
  simp only at hc
  cases op with
  | binOp op t x y yt =>
    simp only [compX] at hc
    obtain ⟨ms, x', neg, _, _, _, rfl, _⟩ := nilCmp_inv hc
    cases hnm
  | makeInterface t x =>
    simp only [compX] at hc
    split at hc <;> cases hc
    cases hnm
  | typeAssert x xt t ok =>
    simp only [compX] at hc
    split at hc <;> cases hc
    cases hnm
  | makeMap t r =>
    simp only [compX] at hc
    split at hc
    · rename_i h1 h2
      cases hc
      cases he
      exact mkmap_run rfl h1 h2 hr
    · cases hc
  | alloc t =>
    simp only [compX] at hc
    split at hc
    · rename_i hz _
      cases hc
      cases he
      exact newT_run rfl hz hr
    · cases hc
  | makeFunc fn first captured =>
    cases fn with
    | method name =>
      simp only [compX] at hc
      split at hc <;> cases hc
      cases hnm
    | _ => simp [compX] at hc
  | lookup t x k ok =>
    simp only [compX] at hc
    split at hc
    · rename_i ek e' x' k' hm hx hk
      split at hc
      · rename_i z hz
        cases hc
        obtain ⟨kt, ht, hkt⟩ := mapKV_info hm
        obtain ⟨z0, hz0, hzr⟩ := tZeroV_info hz
        have k1 := opd_rel hx hf
        have k2 := opd_rel hk hf
        simp only [evX] at he
        split at he
        · rename_i kv e1 e2
          split at he
          · rename_i hki
            cases he
            rw [e1] at k1
            rw [e2] at k2
            generalize hX : a.eval x = X at k1
            generalize hK : a.eval k = K at k2
            cases k1 with
            | one k1 =>
              cases k2 with
              | one k2 =>
                cases k1
                have hrun := lookup_run (ok := ok) (x := .map none) (es := #[]) ht hkt (hz0 w) (keyIs_rel hki k2) (.inl ⟨rfl, rfl⟩) (.inl ⟨rfl, rfl, rfl⟩)
                exact ⟨_, _, w, ρ, by simp [execOp, hX, hK, hrun], .inl rfl, Post.refl hr, okRes_rel (hzr ρ)⟩
          · cases he
        · rename_i id kv e1 e2
          split at he
          · rename_i cs c es hki hg
            rw [e1] at k1
            rw [e2] at k2
            generalize hX : a.eval x = X at k1
            generalize hK : a.eval k = K at k2
            cases k1 with
            | one k1 =>
              cases k2 with
              | one k2 =>
                cases k1 with
                | map hB =>
                  rename_i B
                  obtain ⟨en, hh, hen⟩ := hr.mapAt hB hg
                  split at he
                  · rename_i i ee hfe
                    cases he
                    obtain ⟨d, e0, q1, q2, q3, q4, q5, q6, q7, q8⟩ := findE_rel hki k2 hen hfe
                    have hrun := lookup_run (ok := ok) ht hkt (hz0 w) (keyIs_rel hki k2) (.inr ⟨B.b, c, rfl, hh⟩) (.inr ⟨_, q4, rfl⟩)
                    exact ⟨_, _, w, ρ, by simp [execOp, hX, hK, hrun], .inl rfl, Post.refl hr, okRes_rel q8⟩
                  · rename_i hfe
                    cases he
                    have q4 := findE_rel hki k2 hen hfe
                    have hrun := lookup_run (ok := ok) ht hkt (hz0 w) (keyIs_rel hki k2) (.inr ⟨B.b, c, rfl, hh⟩) (.inl ⟨q4, rfl, rfl⟩)
                    exact ⟨_, _, w, ρ, by simp [execOp, hX, hK, hrun], .inl rfl, Post.refl hr, okRes_rel (hzr ρ)⟩
                  · cases he
          · cases he
        · cases he
      · cases hc
    · cases hc
  | mapUpdate t m k x | insert t m k x =>
    all_goals
      simp only [compX] at hc
      split at hc
      · rename_i ek e' m' k' x' hm hmm hk hx
        cases hc
        obtain ⟨kt, ht, hkt⟩ := mapKV_info hm
        have k1 := opd_rel hmm hf
        have k2 := opd_rel hk hf
        have k3 := opd_rel hx hf
        simp only [evX] at he
        split at he
        · rename_i id kv e1 e2
          split at he
          · rename_i cs c es hki hg
            have hki : keyIs ek kv = true := by
              rw [Bool.and_eq_true] at hki; exact hki.1
            rw [e1] at k1
            rw [e2] at k2
            generalize hX : a.eval m = X at k1
            generalize hK : a.eval k = K at k2
            generalize hV : a.eval x = V at k3
            cases k1 with
            | one k1 =>
              cases k2 with
              | one k2 =>
                cases k1 with
                | map hB =>
                  rename_i B
                  obtain ⟨en, hh, hen⟩ := hr.mapAt hB hg
                  have hkey := keyIs_rel hki k2
                  split at he
                  · rename_i i ee hfe
                    cases he
                    obtain ⟨d, e0, q1, q2, q3, q4, q5, q6, q7, q8⟩ := findE_rel hki k2 hen hfe
                    rw [Nat.zero_add] at q1
                    subst q1
                    have hi : en[i]? = some e0 := by simpa using q3
                    have hn := setE_rel (v := ev fr x') hen q2 q3 k3 (fun e => { e with key := K, val := V }) rfl q5.symm rfl
                    refine ⟨.skip, undef, _, ρ, ?_, .inr ⟨rfl, rfl⟩, Post.mapPut hr hB hg hh hn (c' := c), VR.undef⟩
                    simp [execOp, hX, hK, hV, Instr.mapUpdate, run_underlying ht, MapKept.run_getObj_map hh, MapKept.run_checkKey hkt hkey, MapKept.run_findKey hkt q4, hi, q5, MapKept.run_keyThatStays hkey, MapKept.run_setObj_map _ hh]
                  · rename_i hfe
                    cases he
                    have q4 := findE_rel hki k2 hen hfe
                    have hn : EntR ρ (es ++ [⟨c, kv, ev fr x'⟩]) (en.push { key := K, val := V, born := c }).toList := by
                      rw [Array.toList_push]
                      exact hen.append (.cons rfl k2 k3 .nil)
                    refine ⟨.skip, undef, _, ρ, ?_, .inr ⟨rfl, rfl⟩, Post.mapPut hr hB hg hh hn (c' := c + 1), VR.undef⟩
                    simp [execOp, hX, hK, hV, Instr.mapUpdate, run_underlying ht, MapKept.run_getObj_map hh, MapKept.run_checkKey hkt hkey, MapKept.run_findKey hkt q4, MapKept.run_setObj_map _ hh]
                  · cases he
          · cases he
        · cases he
      · cases hc
  | mapEntry t m k =>
    simp only [compX] at hc
    split at hc
    · rename_i ek e' m' k' hm hmm hk
      split at hc
      · rename_i z hz
        cases hc
        obtain ⟨kt, ht, hkt⟩ := mapKV_info hm
        obtain ⟨z0, hz0, hzr⟩ := tZeroV_info hz
        have k1 := opd_rel hmm hf
        have k2 := opd_rel hk hf
        simp only [evX] at he
        split at he
        · rename_i id kv e1 e2
          split at he
          · rename_i cs c es hki hg
            rw [e1] at k1
            rw [e2] at k2
            generalize hX : a.eval m = X at k1
            generalize hK : a.eval k = K at k2
            cases k1 with
            | one k1 =>
              cases k2 with
              | one k2 =>
                cases k1 with
                | map hB =>
                  rename_i B
                  obtain ⟨en, hh, hen⟩ := hr.mapAt hB hg
                  have hkey := keyIs_rel hki k2
                  have tupR : ∀ (v1 : AV) (u1 : Value) (n : Nat), VR ρ v1 u1 → VR ρ (.tup [v1, .one (.int .i64 n)]) (.tuple #[u1, goInt n]) := by
                    intro v1 u1 n h
                    have := VR.tup (ρ := ρ) (.cons h (.cons (.one (.int .i64 (n : Int))) .nil))
                    simpa [goInt] using this
                  split at he
                  · rename_i i ee hfe
                    cases he
                    obtain ⟨d, e0, q1, q2, q3, q4, q5, q6, q7, q8⟩ := findE_rel hki k2 hen hfe
                    rw [Nat.zero_add] at q1
                    subst q1
                    have hi : en[i]? = some e0 := by simpa using q3
                    have hn := same_modify hen q3 (fun e => { e with key := K }) (by rw [← q5])
                    refine ⟨_, .tuple #[e0.val, goInt ee.born], _, ρ, ?_, .inl rfl, Post.mapPut hr hB hg hh hn (c' := c), tupR _ _ _ q8⟩
                    simp [execOp, hX, hK, Instr.mapEntry, run_underlying ht, MapKept.run_getObj_map hh, MapKept.run_checkKey hkt hkey, MapKept.run_findKey hkt q4, hi, q5, q6, MapKept.run_keyThatStays hkey, MapKept.run_setObj_map _ hh]
                  · rename_i hfe
                    cases he
                    have q4 := findE_rel hki k2 hen hfe
                    have hn : EntR ρ (es ++ [⟨c, kv, z⟩]) (en.push { key := K, val := z0, born := c }).toList := by
                      rw [Array.toList_push]
                      exact hen.append (.cons rfl k2 (hzr ρ) .nil)
                    refine ⟨_, .tuple #[z0, goInt c], _, ρ, ?_, .inl rfl, Post.mapPut hr hB hg hh hn (c' := c + 1), tupR _ _ _ (hzr ρ)⟩
                    simp [execOp, hX, hK, Instr.mapEntry, run_underlying ht, MapKept.run_getObj_map hh, MapKept.run_checkKey hkt hkey, MapKept.run_findKey hkt q4, hz0, MapKept.run_setObj_map _ hh]
                  · cases he
          · cases he
        · cases he
      · cases hc
    · cases hc
  | entryStore t m s x =>
    simp only [compX] at hc
    split at hc
    · rename_i m' s' x' hmm hs hx
      cases hc
      have k1 := opd_rel hmm hf
      have k2 := opd_rel hs hf
      have k3 := opd_rel hx hf
      simp only [evX] at he
      split at he
      · rename_i id b e1 e2 e3
        obtain ⟨ik, hS⟩ := asNat_run e2 k2
        split at he
        · rename_i cs c es hg
          rw [e1] at k1
          generalize hX : a.eval m = X at k1
          generalize hV : a.eval x = V at k3
          cases k1 with
          | one k1 =>
            cases k1 with
            | map hB =>
              rename_i B
              obtain ⟨en, hh, hen⟩ := hr.mapAt hB hg
              split at he
              · rename_i i ee hfe
                cases he
                obtain ⟨d, e0, q1, q2, q3, q4, q5, q6, q7⟩ := findB_rel hen hfe
                rw [Nat.zero_add] at q1
                subst q1
                have hn := setE_rel (v := ev fr x') hen q2 q3 k3 (fun e => { e with val := V }) rfl rfl rfl
                have q4' : en.findIdx? (fun e => (e.born : Int) == (b : Int)) = some i := by
                  obtain ⟨enl⟩ := en
                  simpa using q4
                refine ⟨.skip, undef, _, ρ, ?_, .inr ⟨rfl, rfl⟩, Post.mapPut hr hB hg hh hn (c' := c), VR.undef⟩
                simp [execOp, hX, hS, hV, Instr.entryStore, MapKept.run_getObj_map hh, asInt, asIntOf, q4', MapKept.run_setObj_map _ hh]
              · cases he
        · cases he
      · cases he
    · cases hc
  | call c =>
    obtain ⟨callee, args, argTypes⟩ := c
    simp only [compX] at hc
    cases callee with
    | value f => cases hc
    | invoke r m => cases hc
    | builtin b =>
      cases b
      case delete =>
        try simp only at hc
        split at hc
        · rename_i m' k' t tl hxy htu
          obtain ⟨m, k, hargs, hmm, hk⟩ := compOpds_two hxy
          have hargs' : args = #[m, k] := Array.ext' hargs
          subst hargs'
          have hat : argTypes[0]? = some t := by rw [← Array.getElem?_toList, htu]; rfl
          split at hc
          · rename_i ek e' hm
            cases hc
            obtain ⟨kt, ht, hkt⟩ := mapKV_info hm
            have k1 := opd_rel hmm hf
            have k2 := opd_rel hk hf
            have unitR : VR ρ (.tup []) (.tuple #[]) := VR.undef
            simp only [evX] at he
            split at he
            · rename_i kv e1 e2
              split at he
              · rename_i hki
                cases he
                rw [e1] at k1
                rw [e2] at k2
                generalize hX : a.eval m = X at k1
                generalize hK : a.eval k = K at k2
                cases k1 with
                | one k1 =>
                  cases k2 with
                  | one k2 =>
                    cases k1
                    refine ⟨_, .tuple #[], w, ρ, ?_, .inl rfl, Post.refl hr, unitR⟩
                    simp [execOp, resolve, invoke, builtin, hX, hK, Builtin.delete_, hat, run_underlying ht, MapKept.run_checkKey hkt (keyIs_rel hki k2)]
              · cases he
            · rename_i id kv e1 e2
              split at he
              · rename_i cs c es hki hg
                rw [e1] at k1
                rw [e2] at k2
                generalize hX : a.eval m = X at k1
                generalize hK : a.eval k = K at k2
                cases k1 with
                | one k1 =>
                  cases k2 with
                  | one k2 =>
                    cases k1 with
                    | map hB =>
                      rename_i B
                      obtain ⟨en, hh, hen⟩ := hr.mapAt hB hg
                      have hkey := keyIs_rel hki k2
                      split at he
                      · rename_i i ee hfe
                        cases he
                        obtain ⟨d, e0, q1, q2, q3, q4, q5, q6, q7, q8⟩ := findE_rel hki k2 hen hfe
                        rw [Nat.zero_add] at q1
                        subst q1
                        have hlt : i < en.size := by
                          have := (List.getElem?_eq_some_iff.1 q3).1
                          simpa using this
                        have hn : EntR ρ (es.eraseIdx i) (en.eraseIdxIfInBounds i).toList := by
                          unfold Array.eraseIdxIfInBounds
                          rw [dif_pos hlt, Array.toList_eraseIdx]
                          exact hen.erase i
                        refine ⟨_, .tuple #[], _, ρ, ?_, .inl rfl, Post.mapPut hr hB hg hh hn (c' := c), unitR⟩
                        simp [execOp, resolve, invoke, builtin, hX, hK, Builtin.delete_, hat, run_underlying ht, MapKept.run_getObj_map hh, MapKept.run_checkKey hkt hkey, MapKept.run_findKey hkt q4, MapKept.run_setObj_map _ hh]
                      · rename_i hfe
                        cases he
                        have q4 := findE_rel hki k2 hen hfe
                        refine ⟨_, .tuple #[], _, ρ, ?_, .inl rfl, Post.mapPut hr hB hg hh hen (c' := c), unitR⟩
                        simp [execOp, resolve, invoke, builtin, hX, hK, Builtin.delete_, hat, run_underlying ht, MapKept.run_getObj_map hh, MapKept.run_checkKey hkt hkey, MapKept.run_findKey hkt q4, MapKept.run_setObj_map _ hh]
                      · cases he
              · cases he
            · cases he
          · cases hc
        · cases hc
      case len =>
        try simp only at hc
        split at hc
        · rename_i m' t hxy htu
          obtain ⟨m, hargs, hmm⟩ := compOpds_one hxy
          have hargs' : args = #[m] := Array.ext' hargs
          have hat : argTypes = #[t] := Array.ext' htu
          subst hargs'
          subst hat
          split at hc
          · rename_i kv hm
            cases hc
            obtain ⟨kt, ht, hkt⟩ := mapKV_info hm
            have k1 := opd_rel hmm hf
            simp only [evX] at he
            split at he
            · rename_i e1
              cases he
              rw [e1] at k1
              generalize hX : a.eval m = X at k1
              cases k1 with
              | one k1 =>
                cases k1
                exact ⟨_, _, w, ρ, by simp [execOp, resolve, invoke, builtin, hX, Builtin.len_, run_underlying ht, goInt], .inl rfl, Post.refl hr, .one (.int _ _)⟩
            · rename_i id e1
              split at he
              · rename_i cs c es hg
                cases he
                rw [e1] at k1
                generalize hX : a.eval m = X at k1
                cases k1 with
                | one k1 =>
                  cases k1 with
                  | map hB =>
                    rename_i B
                    obtain ⟨en, hh, hen⟩ := hr.mapAt hB hg
                    have hsz : es.length = en.size := by rw [hen.length]; simp
                    exact ⟨_, .int .i64 es.length, w, ρ, by simp [execOp, resolve, invoke, builtin, hX, Builtin.len_, run_underlying ht, MapKept.run_getObj_map hh, goInt, hsz], .inl rfl, Post.refl hr, .one (.int _ _)⟩
              · cases he
            · cases he
          · cases hc
        · cases hc
      all_goals (simp at hc)
  | _ => simp [compX] at hc

/-! ### methods of interfaces -/
theorem mtab_spec {name : String} : ∀ {l : List TypeInfo} {i t f : Nat} {off : Option Nat}, (t, f, off) ∈ mtab P name i l → (∃ ti, i ≤ t ∧ l[t - i]? = some ti ∧ mrow P name ti = some (f, off)) ∧ f < yldN
  | [], _, _, _, _, h => by cases h
  | x :: l, i, t, f, off, h => by
    simp only [mtab] at h
    split at h
    · rename_i f' off' hm
      split at h
      · rename_i hN
        rcases List.mem_cons.1 h with h | h
        · cases h
          exact ⟨⟨x, Nat.le_refl _, by simp, hm⟩, blt_lt hN⟩
        · obtain ⟨⟨ti, h1, h2, h3⟩, h4⟩ := mtab_spec h
          refine ⟨⟨ti, by omega, ?_, h3⟩, h4⟩
          rw [show t - i = (t - (i + 1)) + 1 by omega]
          simpa using h2
      · obtain ⟨⟨ti, h1, h2, h3⟩, h4⟩ := mtab_spec h
        refine ⟨⟨ti, by omega, ?_, h3⟩, h4⟩
        rw [show t - i = (t - (i + 1)) + 1 by omega]
        simpa using h2
    · obtain ⟨⟨ti, h1, h2, h3⟩, h4⟩ := mtab_spec h
      refine ⟨⟨ti, by omega, ?_, h3⟩, h4⟩
      rw [show t - i = (t - (i + 1)) + 1 by omega]
      simpa using h2

theorem invokeF_spec {t : Nat} {s : SV} : ∀ {tab : List (Nat × Nat × Option Nat)} {f : Nat} {v : AV}, invokeF tab (.one (.iface t false [s])) = some (f, v) →
    ∃ off, (t, f, off) ∈ tab ∧ ((off = none ∧ v = .one s) ∨ ∃ o id p, off = some o ∧ s = .ptr id p ∧ v = .one (.ptr id (p + o)))
  | [], _, _, h => by simp [invokeF] at h
  | (t', f', off') :: l, f, v, h => by
    simp only [invokeF] at h
    split at h
    · rename_i ht
      have ht : t = t' := Nat.eq_of_beq_eq_true ht
      subst ht
      split at h
      · cases h
        exact ⟨none, by simp, .inl ⟨rfl, rfl⟩⟩
      · rename_i o id p
        cases h
        exact ⟨some o, by simp, .inr ⟨o, id, p, rfl, rfl, rfl⟩⟩
      · cases h
    · obtain ⟨off, h1, h2⟩ := invokeF_spec h
      exact ⟨off, List.mem_cons_of_mem _ h1, h2⟩

theorem info_types {t : Nat} {ti : TypeInfo} (h : P.types.toList[t]? = some ti) : P.info? t = some ti := by
  have h' : P.types[t]? = some ti := by simpa using h
  have hlt : t < P.types.size := (Array.getElem?_eq_some_iff.1 h').1
  have he : P.types[t] = ti := by
    have := Array.getElem?_eq_some_iff.1 h'
    exact this.2
  simp [Tables.info?, hlt, he]

/-- A method's number is a function's. -/
theorem method_small {name : String} {t f : Nat} {s : SV} {v : AV} (hv : invokeF (mtab P name 0 P.types.toList) (.one (.iface t false [s])) = some (f, v)) : f < yldN := by
  obtain ⟨off, h1, _⟩ := invokeF_spec hv
  exact (mtab_spec h1).2

/-- What an interface's method is found to be. -/
theorem method_run {name : String} {t f : Nat} {s : SV} {x : Value} {v : AV} (hv : invokeF (mtab P name 0 P.types.toList) (.one (.iface t false [s])) = some (f, v)) (hs : SR ρ s x) (n : Nat) :
    ∃ y, VR ρ v y ∧ (∀ w, (method (n + 1) t x name).run P w = .ok (f, y) w) ∧ ∀ w, (nilAhead (n + 1) t x name).run P w = .ok (some false) w := by
  obtain ⟨off, h1, h2⟩ := invokeF_spec hv
  obtain ⟨⟨ti, _, h3, h4⟩, _⟩ := mtab_spec h1
  rw [Nat.sub_zero] at h3
  have hti := info_types h3
  unfold mrow at h4
  split at h4
  · rename_i m hm
    split at h4
    · rename_i f' hfunc hpath
      split at h4
      · rename_i el hdesc
        cases h4
        rcases h2 with ⟨_, rfl⟩ | ⟨o, id, p, h, _⟩
        · refine ⟨x, .one hs, fun w => ?_, fun w => by simp [nilAhead, typeInfo, hti, hm, hfunc, hpath, followBlind]⟩
          have hu : P.underlying t = some (.pointer el) := by
            unfold Program.underlying
            rw [hti]
            split
            · rename_i h
              have h := Option.some.inj h
              rw [h] at hdesc
              cases hdesc
            · rename_i h
              have h := Option.some.inj h
              rw [← h, hdesc]
            · rename_i h; cases h
          simp [method, typeInfo, hti, hm, hfunc, hpath, follow, receiverAt, run_underlying hu, Place.get]
        · cases h
      · cases h4
    · rename_i f' st hfunc hpath
      split at h4
      · rename_i fields hder hst
        split at h4
        · rename_i fl hfl
          split at h4
          · cases h4
          · rename_i d n' hnp hd hsz
            cases h4
            rcases h2 with ⟨h, _⟩ | ⟨o, id, p, h, rfl, rfl⟩
            · cases h
            · cases h
              cases hs with
              | ptr hB =>
                rename_i B
                refine ⟨.pointer (some ⟨B.b, B.base + (p + fl.offset), none⟩), .one (.ptr hB), fun w => ?_, fun w => by simp [nilAhead, typeInfo, hti, hm, hfunc, hpath, followBlind, run_underlying hst, hfl, hder]⟩
                have hfol : (follow m.path.toList t (.val (.pointer (some ⟨B.b, B.base + p, none⟩)))).run P w = .ok (fl.type, .var ⟨B.b, B.base + (p + fl.offset), none⟩) w := by
                  rw [hpath]
                  simp only [follow, Sem.run_bind, run_underlying hst, Result.andThen_ok, hfl, hder, if_true, Place.get, Sem.run_pure, asAddr, fieldPlace, tSize_run hsz]
                  simp [addr_add, Nat.add_assoc]
                simp only [method, Sem.run_bind, typeInfo, run_program, hti, Result.andThen_ok, Sem.run_pure, hm, hfol, hfunc]
                simp only [receiverAt, Sem.run_bind, run_underlying hd, Result.andThen_ok]
                cases d <;> first | exact absurd rfl (hnp _ _) | simp
          · cases h4
        · cases h4
      · cases h4
    · cases h4
  · cases h4

theorem ext_memless [IsProg P] {o : Oper} {e : XOp} {fr : List AV} {a : Act} {σ σ' : AHeap} {v : AV} (hc : compX P o.op = some e) (hm : (AOp.ext e).memless = true) (hf : FR ρ fr a.tmps)
    (he : evX fr σ e = some (v, σ')) : σ' = σ ∧ ∃ u, VR ρ v u ∧ ∀ w, (execOp a.eval o).run P w = .ok (.value u) w := by
  obtain ⟨dst, op, type, pos, after, guard⟩ := o
  simp only at hc
  cases op with
  | binOp op t x y yt =>
    simp only [compX] at hc
    obtain ⟨ms, x', neg, hu, rfl, hx, rfl, hop⟩ := nilCmp_inv hc
    have k1 := opd_rel hx hf
    have hy : a.eval (.const .nilIface) = .nilIface := rfl
    simp only [evX] at he
    split at he
    · rename_i e1
      cases he
      rw [e1] at k1
      generalize hX : a.eval x = X at k1
      cases k1 with
      | one k1 =>
        cases k1
        refine ⟨rfl, .bool (!neg), .one (.bool _), fun w => ?_⟩
        rcases hop with ⟨rfl, rfl⟩ | ⟨rfl, rfl⟩ <;> simp [execOp, hX, hy, eqGuard, binOp, equal_nil_nil hu]
    · rename_i e1
      cases he
      rw [e1] at k1
      generalize hX : a.eval x = X at k1
      have hV : ∃ t' V, X = .iface t' V := by
        cases k1 with
        | one k1 => cases k1 <;> exact ⟨_, _, rfl⟩
      obtain ⟨t', V, rfl⟩ := hV
      refine ⟨rfl, .bool neg, .one (.bool _), fun w => ?_⟩
      rcases hop with ⟨rfl, rfl⟩ | ⟨rfl, rfl⟩ <;> simp [execOp, hX, hy, eqGuard, binOp, equal_iface_nil t' V hu]
    · cases he
  | makeInterface t x =>
    simp only [compX] at hc
    split at hc
    · cases hc
    · rename_i x' d hni hx ht
      cases hc
      have k1 := opd_rel hx hf
      have hrun : ∀ (w : World) (V : Value), (Instr.makeInterface t V).run P w = .ok (.iface t V) w := by
        intro w V
        simp only [Instr.makeInterface, Sem.run_bind, run_underlying ht, Result.andThen_ok]
        try rfl
      simp only [evX] at he
      split at he
      · rename_i s e1
        cases he
        rw [e1] at k1
        generalize hX : a.eval x = X at k1
        cases k1 with
        | one k1 => exact ⟨rfl, .iface t X, .one (.iface1 k1), fun w => by simp [execOp, hX, hrun]⟩
      · rename_i cs e1
        cases he
        rw [e1] at k1
        generalize hX : a.eval x = X at k1
        cases k1 with
        | agg k1 => exact ⟨rfl, .iface t (.agg _), .one (.ifaceA k1), fun w => by simp [execOp, hX, hrun]⟩
      · cases he
    · cases hc
  | typeAssert x xt t ok =>
    simp only [compX] at hc
    split at hc
    · cases hc
    · rename_i x' d z hni hx ht hz
      cases hc
      have k1 := opd_rel hx hf
      obtain ⟨z0, hz0, hzr⟩ := tZeroV_info hz
      have good : ∀ (w : World) (V : Value), (Instr.typeAssert (.iface t V) xt t ok).run P w = .ok (if ok then .tuple #[V, .bool true] else V) w := by
        intro w V
        simp only [Instr.typeAssert, Sem.run_bind, run_underlying ht, Result.andThen_ok]
        cases d <;> first | exact absurd rfl (hni _) | (cases ok <;> simp)
      have badI : ∀ (w : World) (t' : Nat) (V : Value), t' ≠ t → (Instr.typeAssert (.iface t' V) xt t true).run P w = .ok (.tuple #[z0, .bool false]) w := by
        intro w t' V hne
        simp only [Instr.typeAssert, Sem.run_bind, run_underlying ht, Result.andThen_ok]
        cases d <;> first | exact absurd rfl (hni _) | simp [hne, hz0]
      have badN : ∀ (w : World), (Instr.typeAssert .nilIface xt t true).run P w = .ok (.tuple #[z0, .bool false]) w := by
        intro w
        simp only [Instr.typeAssert, Sem.run_bind, run_underlying ht, Result.andThen_ok]
        cases d <;> first | exact absurd rfl (hni _) | simp [hz0]
      simp only [evX] at he
      split at he
      · rename_i t' g cs e1
        rw [e1] at k1
        generalize hX : a.eval x = X at k1
        split at he
        · rename_i htt
          have htt : t' = t := Nat.eq_of_beq_eq_true htt
          subst htt
          split at he
          · rename_i s
            cases he
            cases k1 with
            | one k1 =>
              cases k1 with
              | iface1 k1 => exact ⟨rfl, _, okRes_rel (.one k1), fun w => by simp [execOp, hX, good]⟩
          · rename_i cs'
            cases he
            cases k1 with
            | one k1 =>
              cases k1 with
              | ifaceA k1 => exact ⟨rfl, _, okRes_rel (.agg k1), fun w => by simp [execOp, hX, good]⟩
          · cases he
        · rename_i htt
          have htt : t' ≠ t := fun e => by subst e; simp at htt
          split at he
          · cases he
            have hV : ∃ V, X = .iface t' V := by
              cases k1 with
              | one k1 => cases k1 <;> exact ⟨_, rfl⟩
            obtain ⟨V, rfl⟩ := hV
            have := okRes_rel (ok := true) (b := false) (hzr ρ)
            exact ⟨rfl, _, this, fun w => by simp [execOp, hX, badI w t' V htt]⟩
          · cases he
      · rename_i e1
        rw [e1] at k1
        generalize hX : a.eval x = X at k1
        split at he
        · cases he
          cases k1 with
          | one k1 =>
            cases k1
            have := okRes_rel (ok := true) (b := false) (hzr ρ)
            exact ⟨rfl, _, this, fun w => by simp [execOp, hX, badN]⟩
        · cases he
      · cases he
    · cases hc
  | makeFunc fn first captured =>
    cases fn with
    | method name =>
      simp only [compX] at hc
      split at hc
      · rename_i x' hfirst hcap
        cases hc
        obtain ⟨x, hx1, hx⟩ := compOpds_one hfirst
        have hx2 : first = #[x] := Array.ext' hx1
        subst hx2
        have hcap' : captured = #[] := Array.eq_empty_of_size_eq_zero hcap
        subst hcap'
        have k1 := opd_rel hx hf
        simp only [evX] at he
        split at he
        · rename_i f rv hi
          cases he
          have hsh : ∃ t s, ev fr x' = .one (.iface t false [s]) := by
            generalize ev fr x' = z at hi
            unfold invokeF at hi
            split at hi
            · exact ⟨_, _, rfl⟩
            · cases hi
          obtain ⟨t, s, e⟩ := hsh
          rw [e] at k1 hi
          generalize hX : a.eval x = X at k1
          cases k1 with
          | one k1 =>
            cases k1 with
            | iface1 k1 =>
              rename_i xv
              obtain ⟨y, h3, h4, h5⟩ := method_run hi k1 (P.types.size + Made.depth - 1)
              rw [show P.types.size + Made.depth - 1 + 1 = P.types.size + Made.depth by unfold Made.depth; omega] at h4 h5
              cases h3 with
              | one h3 =>
                have hm : MethAt theP name t f xv y := by
                  have hP := IsProg.eq (P := P)
                  rw [← hP]
                  exact ⟨h4, h5⟩
                exact ⟨rfl, _, .one (.meth (method_small hi) h3 hm), fun w => by simp [execOp, Instr.makeFunc, hX]⟩
        · cases he
      · cases hc
    | _ => simp [compX] at hc
  | _ =>
    exfalso
    revert hc
    simp only [compX]
    intro hc
    repeat' (split at hc)
    all_goals (cases hc)
    all_goals (cases hm)

/-! ### all of them -/
def AOp.isCall : AOp → Bool
  | .call _ _ => true
  | .invoke _ _ _ => true
  | _ => false

theorem compOp_notext {op : Op} {aop : AOp} (h : compOp P op = some aop) : (∀ e, aop ≠ .ext e) ∧ ∀ tb r l, aop ≠ .invoke tb r l := by
  constructor
  · rintro e rfl
    cases op with
    | call c =>
      obtain ⟨callee, cargs, tys⟩ := c
      simp only [compOp, compCall] at h
      cases callee with
      | value fo => simp only at h; split at h <;> cases h
      | invoke r m => cases h
      | builtin b =>
        simp only at h
        repeat' (split at h)
        all_goals (cases h)
    | binOp op t x y yt =>
      simp only [compOp] at h
      split at h
      · unfold compBin at h
        repeat' (split at h)
        all_goals (cases h)
      · cases h
    | makeFunc fn first captured =>
      cases fn with
      | func f => simp only [compOp] at h; split at h <;> cases h
      | _ => simp [compOp] at h
    | _ =>
      exfalso
      revert h
      simp only [compOp]
      intro h
      repeat' (split at h)
      all_goals (cases h)
  · rintro tb r l rfl
    cases op with
    | call c =>
      obtain ⟨callee, cargs, tys⟩ := c
      simp only [compOp, compCall] at h
      cases callee with
      | value fo => simp only at h; split at h <;> cases h
      | invoke r m => cases h
      | builtin b =>
        simp only at h
        repeat' (split at h)
        all_goals (cases h)
    | binOp op t x y yt =>
      simp only [compOp] at h
      split at h
      · unfold compBin at h
        repeat' (split at h)
        all_goals (cases h)
      · cases h
    | makeFunc fn first captured =>
      cases fn with
      | func f => simp only [compOp] at h; split at h <;> cases h
      | _ => simp [compOp] at h
    | _ =>
      exfalso
      revert h
      simp only [compOp]
      intro h
      repeat' (split at h)
      all_goals (cases h)

theorem compOpX_cases {op : Op} {aop : AOp} (h : compOpX P op = some aop) : compOp P op = some aop ∨ (∃ e, aop = .ext e ∧ compX P op = some e) ∨
    ∃ c r name r' l, op = .call c ∧ c.callee = .invoke r name ∧ compOpd r = some r' ∧ compOpds c.args.toList = some l ∧ aop = .invoke (mtab P name 0 P.types.toList) r' l := by
  unfold compOpX at h
  split at h
  · rename_i h1; cases h; exact .inl h1
  · split at h
    · rename_i e h1
      cases h
      exact .inr (.inl ⟨e, rfl, h1⟩)
    · unfold compInv at h
      split at h
      · rename_i c _ _
        split at h
        · rename_i r name hcal
          split at h
          · rename_i r' l h1 h2
            cases h
            exact .inr (.inr ⟨c, r, name, r', l, rfl, hcal, h1, h2, rfl⟩)
          · cases h
        · cases h
      · cases h

theorem op_classX [IsProg P] {o : Oper} {aop : AOp} {fr : List AV} {a : Act} {σ σ' : AHeap} {v : AV} (hc : compOpX P o.op = some aop)
    (hf : FR ρ fr a.tmps) (hl : LenRel ρ σ.get) (he : evOp fr σ aop = some (v, σ')) : OpClass P ρ o a fr σ σ' v aop := by
  rcases compOpX_cases hc with h | ⟨e, rfl, h⟩ | ⟨c, r, name, r', l, _, _, _, _, rfl⟩
  · exact op_class h hf hl he
  · simp only [evOp] at he
    cases hm : (AOp.ext e).memless with
    | true =>
      obtain ⟨h1, u, h2, h3⟩ := ext_memless h hm hf he
      exact .inl ⟨hm, h1, u, h2, h3⟩
    | false =>
      refine .inr (.inr (.inr ⟨?_, fun w hr => ext_mem h hm hf hr he⟩))
      cases e <;> first | rfl | (cases hm)
  · cases he

theorem op_simX [IsProg P] {o : Oper} {aop : AOp} {fr : List AV} {a : Act} {σ σ' : AHeap} {v : AV} {w : World} (hc : compOpX P o.op = some aop)
    (hf : FR ρ fr a.tmps) (hr : HR ρ σ.get w) (he : evOp fr σ aop = some (v, σ')) : OpRes P ρ o a σ w σ' v := by
  rcases compOpX_cases hc with h | ⟨e, rfl, h⟩ | ⟨c, r, name, r', l, _, _, _, _, rfl⟩
  · exact op_sim h hf hr he
  · simp only [evOp] at he
    cases hm : (AOp.ext e).memless with
    | true =>
      obtain ⟨rfl, u, h2, h3⟩ := ext_memless h hm hf he
      exact ⟨_, u, w, ρ, h3 w, .inl rfl, Post.refl hr, h2⟩
    | false => exact ext_mem h hm hf hr he
  · cases he

end
end Go.Proofs.YtkolhfpofmpijaaDoor.Ab

/- Whole functions: the evaluator of code, and where it comes from. -/
namespace Go.Proofs.YtkolhfpofmpijaaDoor.Ab
open Go
set_option linter.unusedSimpArgs false
set_option linter.unusedVariables false

/-! ### a region whose order is open: run in the text's order, and held against the other orders -/
mutual
def SV.same : SV → SV → Bool
  | .bool a, .bool b => a == b
  | .int k a, .int k' b => decide (k = k') && decide (a = b)
  | .str a, .str b => beqL a b
  | .ptr i o, .ptr i' o' => Nat.beq i i' && Nat.beq o o'
  | .nilPtr, .nilPtr => true
  | .slice i o e l c, .slice i' o' e' l' c' => Nat.beq i i' && Nat.beq o o' && Nat.beq e e' && Nat.beq l l' && decide (c = c')
  | .nilSlice, .nilSlice => true
  | .func f c, .func f' c' => Nat.beq f f' && sameCells c c'
  | .nilFunc, .nilFunc => true
  | .iface t g c, .iface t' g' c' => Nat.beq t t' && g == g' && sameCells c c'
  | .nilIface, .nilIface => true
  | .lst a, .lst b => sameElems a b
  | .fptr a o, .fptr b o' => sameCells a b && Nat.beq o o'
  | .emp, .emp => true
  | .map i, .map j => Nat.beq i j
  | .nilMap, .nilMap => true
  | .meth f r, .meth f' r' => Nat.beq f f' && SV.same r r'
  | .lstx a, .lstx b => sameElems a b
  | .hnd a, .hnd b => Nat.beq a b
  | _, _ => false
def sameElems : List (List SV) → List (List SV) → Bool
  | [], [] => true
  | a :: l, b :: m => sameCells a b && sameElems l m
  | _, _ => false
def sameCells : List SV → List SV → Bool
  | [], [] => true
  | a :: l, b :: m => SV.same a b && sameCells l m
  | _, _ => false
end

mutual
def AV.same : AV → AV → Bool
  | .one a, .one b => SV.same a b
  | .agg a, .agg b => sameCells a b
  | .tup a, .tup b => sameAVs a b
  | _, _ => false
def sameAVs : List AV → List AV → Bool
  | [], [] => true
  | a :: l, b :: m => AV.same a b && sameAVs l m
  | _, _ => false
end

def sameEnts : List Ent → List Ent → Bool
  | [], [] => true
  | a :: l, b :: m => Nat.beq a.born b.born && SV.same a.key b.key && AV.same a.val b.val && sameEnts l m
  | _, _ => false

def Md.same : Md → Md → Bool
  | .own, .own | .ro, .ro | .dead, .dead | .loop, .loop => true
  | .map c a, .map d b => Nat.beq c d && sameEnts a b
  | .tag t a, .tag u b => Nat.beq t u && (a == b)
  | _, _ => false

def sameObj : Option AObj → Option AObj → Bool
  | some a, some b => Md.same a.md b.md && sameCells a.cells b.cells
  | none, none => true
  | _, _ => false

def evTr (call : CallF) : List AOper → List AV → AHeap → Option (List (List AV × AHeap) × List AV × AHeap)
  | [], fr, σ => some ([(fr, σ)], fr, σ)
  | o :: l, fr, σ => match evOper call fr σ o with
    | some (fr', σ') => match evTr call l fr' σ' with
      | some (t, fr2, σ2) => some ((fr, σ) :: t, fr2, σ2)
      | none => none
    | none => none

/-- The load j reads, behind the operation i, what it reads ahead of it. -/
def pairOk (ops : List AOper) (tt : List (List AV × AHeap)) (p : Nat × Nat) : Bool :=
  match ops[p.2]?, tt[p.2]?, tt[p.1]?, tt[p.1 + 1]? with
  | some o, some (fj, _), some (_, s1), some (_, s2) => match wantedA fj o.guard with
    | false => true
    | true => match o.op with
      | .load _ x => match ev fj x with
        | .one (.ptr id _) => sameObj (s1.get id) (s2.get id)
        | .one (.fptr _ _) => true
        | _ => false
      | _ => false
  | _, _, _, _ => false

def pairsOk (ops : List AOper) (tt : List (List AV × AHeap)) : List (Nat × Nat) → Bool
  | [] => true
  | p :: l => pairOk ops tt p && pairsOk ops tt l

def evDraw (call : CallF) (ops : List AOper) (pairs : List (Nat × Nat)) (fr : List AV) (σ : AHeap) : Option (List AV × AHeap) :=
  match evTr call ops fr σ with
  | some (tt, fr', σ') => match pairsOk ops tt pairs with
    | true => some (fr', σ')
    | false => none
  | none => none

def evCode (call : CallF) (m : Nat) : ACode → List AV → AHeap → Out
  | .skip, fr, σ => some (.normal, fr, σ)
  | .region ops, fr, σ => match evOps call ops fr σ with
    | some (fr', σ') => some (.normal, fr', σ')
    | none => none
  | .draw ops pairs, fr, σ => match evDraw call ops pairs fr σ with
    | some (fr', σ') => some (.normal, fr', σ')
    | none => none
  | .seq a b, fr, σ => match evCode call m a fr σ with
    | some (.normal, fr', σ') => evCode call m b fr' σ'
    | r => r
  | .cond c a b, fr, σ => match ev fr c with
    | .one (.bool true) => evCode call m a fr σ
    | .one (.bool false) => evCode call m b fr σ
    | _ => none
  | .block id a, fr, σ => match evCode call m a fr σ with
    | some (.exit id', fr', σ') => match Nat.beq id' id with
      | true => some (.normal, fr', σ')
      | false => some (.exit id', fr', σ')
    | r => r
  | .loop a, fr, σ => evLoop (evCode call m a) m fr σ
  | .exit id, fr, σ => some (.exit id, fr, σ)
  | .ret, fr, σ => some (.ret, fr, σ)
  | .bad, _, _ => none

def resOf (fr : List AV) (σ : AHeap) : AResult → Option AV
  | .tmp t => some (getSlot fr t)
  | .cell t agg => match getSlot fr t with
    | .one (.ptr id off) => loadA σ agg id off
    | _ => none

def resOfs (fr : List AV) (σ : AHeap) : List AResult → Option (List AV)
  | [] => some []
  | r :: l => match resOf fr σ r, resOfs fr σ l with
    | some v, some vs => some (v :: vs)
    | _, _ => none

def tupOf : List AV → AV
  | [v] => v
  | vs => .tup vs

def repUndef : Nat → List AV
  | 0 => []
  | n + 1 => undefA :: repUndef n

abbrev Prim := List AV → AHeap → Option (AV × AHeap)

/-! ### answers that name no new object -/
mutual
/-- Every object named lies below n. -/
def SV.lo (n : Nat) : SV → Bool
  | .ptr id _ => Nat.blt id n
  | .slice id _ _ _ _ => Nat.blt id n
  | .func f caps => Nat.blt f yldN && loL n caps
  | .iface _ _ cs => loL n cs
  | .lst es => loE n es
  | .fptr e _ => loL n e
  | .map id => Nat.blt id n
  | .bool _ => true
  | .int _ _ => true
  | .str _ => true
  | .nilPtr => true
  | .nilSlice => true
  | .nilFunc => true
  | .nilIface => true
  | .emp => true
  | .nilMap => true
  | .meth _ r => r.lo n
  | .lstx es => loE n es
  | .hnd _ => true
def loE (n : Nat) : List (List SV) → Bool
  | [] => true
  | e :: l => loL n e && loE n l
def loL (n : Nat) : List SV → Bool
  | [] => true
  | s :: l => s.lo n && loL n l
end

mutual
def AV.lo (n : Nat) : AV → Bool
  | .one s => s.lo n
  | .agg cs => loL n cs
  | .tup l => loVs n l
def loVs (n : Nat) : List AV → Bool
  | [] => true
  | s :: l => s.lo n && loVs n l
end

/-- Cells as elements of esz cells each. -/
def chunks (esz : Nat) : Nat → List SV → List (List SV)
  | 0, _ => []
  | n + 1, l => l.take esz :: chunks esz n (l.drop esz)

/-- A slice of new cells as what it holds. -/
def frzS (n : Nat) (σ : AHeap) : SV → Option SV
  | .slice id off esz len _ => match Nat.ble n id, σ.get id with
    | true, some ⟨cs, .own⟩ => match Nat.ble (off + len * esz) cs.length && loL n ((cs.drop off).take (len * esz)) with
      | true => some (.lst (chunks esz len (cs.drop off)))
      | false => none
    | _, _ => none
  | .nilSlice => some (.lst [])
  | s => match s.lo n with
    | true => some s
    | false => none

def frzL (n : Nat) (σ : AHeap) : List SV → Option (List SV)
  | [] => some []
  | s :: l => match frzS n σ s, frzL n σ l with
    | some a, some r => some (a :: r)
    | _, _ => none

mutual
def frzA (n : Nat) (σ : AHeap) : AV → Option AV
  | .one s => match frzS n σ s with
    | some a => some (.one a)
    | none => none
  | .agg cs => match frzL n σ cs with
    | some l => some (.agg l)
    | none => none
  | .tup vs => match frzAs n σ vs with
    | some l => some (.tup l)
    | none => none
def frzAs (n : Nat) (σ : AHeap) : List AV → Option (List AV)
  | [] => some []
  | v :: l => match frzA n σ v, frzAs n σ l with
    | some a, some r => some (a :: r)
    | _, _ => none
end

open Classical in
/-- What a function answers that has left all that was there as it was: its answer as what it holds, and its own memory forgotten. -/
noncomputable def frzRes (σ σ' : AHeap) (v : AV) : Option (AV × AHeap) :=
  if ∀ id, id < σ.size → σ'.get id = σ.get id then
    match frzA σ.size σ' v with
    | some v' => some (v', σ)
    | none => none
  else none

/-- The heap, of the objects below n alone. -/
def AHeap.cutTo (σ : AHeap) (n : Nat) : AHeap := ⟨n, σ.mem⟩

open Classical in
/-- What a function answers that may have written what was there: its new memory is forgotten where nothing names it. -/
noncomputable def gcRes (σ σ' : AHeap) (v : AV) : Option (AV × AHeap) :=
  if ∀ id, id < σ.size → σ'.get id = σ.get id ∨ ∃ cs, σ'.get id = some ⟨cs, .own⟩ ∧ loL σ.size cs = true then
    match frzA σ.size σ' v with
    | some v' => some (v', σ'.cutTo σ.size)
    | none => none
  else none

/-- No memory at all. -/
def emptyH : AHeap := ⟨0, .leaf⟩

/-! ### slices as what they hold, to any depth, with the objects that are so used up -/
def frzLW (F : SV → Option (SV × List Nat)) : List SV → Option (List SV × List Nat)
  | [] => some ([], [])
  | s :: l => match F s, frzLW F l with
    | some (a, i), some (r, j) => some (a :: r, i ++ j)
    | _, _ => none
def frzEW (F : SV → Option (SV × List Nat)) : List (List SV) → Option (List (List SV) × List Nat)
  | [] => some ([], [])
  | e :: l => match frzLW F e, frzEW F l with
    | some (a, i), some (r, j) => some (a :: r, i ++ j)
    | _, _ => none
def frzD : Nat → AHeap → SV → Option (SV × List Nat)
  | 0, _, _ => none
  | f + 1, σ, s => match s with
    | .slice id off esz len _ => match σ.get id with
      | some ⟨cs, .own⟩ => match Nat.ble (off + len * esz) cs.length with
        | true => match frzEW (frzD f σ) (chunks esz len (cs.drop off)) with
          | some (es, ids) => some (.lst es, id :: ids)
          | none => none
        | false => none
      | _ => none
    | .nilSlice => some (.lst [], [])
    | s => match s.lo 0 with
      | true => some (s, [])
      | false => none
mutual
def frzDA (f : Nat) (σ : AHeap) : AV → Option (AV × List Nat)
  | .one s => match frzD f σ s with
    | some (a, i) => some (.one a, i)
    | none => none
  | .agg cs => match frzLW (frzD f σ) cs with
    | some (l, i) => some (.agg l, i)
    | none => none
  | .tup vs => match frzDAs f σ vs with
    | some (l, i) => some (.tup l, i)
    | none => none
def frzDAs (f : Nat) (σ : AHeap) : List AV → Option (List AV × List Nat)
  | [] => some ([], [])
  | v :: l => match frzDA f σ v, frzDAs f σ l with
    | some (a, i), some (r, j) => some (a :: r, i ++ j)
    | _, _ => none
end

/-- A value that has no memory. -/
def SV.scal : SV → Bool
  | .bool _ | .int _ _ | .str _ | .nilPtr | .nilSlice | .nilFunc | .nilIface | .nilMap => true
  | _ => false
def scalL : List SV → Bool
  | [] => true
  | s :: l => s.scal && scalL l
mutual
def AV.scal : AV → Bool
  | .one s => s.scal
  | .agg cs => scalL cs
  | .tup vs => scalAs vs
def scalAs : List AV → Bool
  | [] => true
  | v :: l => v.scal && scalAs l
end

/-- Objects that are no longer looked at. -/
def killAll (σ : AHeap) : List Nat → AHeap
  | [] => σ
  | id :: l => match σ.get id with
    | some ⟨cs, .own⟩ => killAll (σ.put id ⟨cs, .dead⟩) l
    | _ => killAll σ l

/-- What becomes of a function's own memory behind its call: rd: it is handed what its slices hold, and answers without memory; mv: it is handed them for good. -/
inductive Hint where
  | no | pure | gc | rd | mv

def frzDepth : Nat := 9

/-- The arguments and the memory in which a function is run. -/
def inArgs (h : Hint) (args : List AV) (σ : AHeap) : Option (List AV × AHeap) := match h with
  | .rd | .mv => match frzDAs frzDepth σ args with
    | some (a, _) => some (a, emptyH)
    | none => none
  | _ => some (args, σ)

/-- What its answer is outside. -/
noncomputable def hintRes (h : Hint) (args : List AV) (σ : AHeap) (v : AV) (σ' : AHeap) : Option (AV × AHeap) := match h with
  | .no => some (v, σ')
  | .pure => frzRes σ σ' v
  | .gc => gcRes σ σ' v
  | .rd => match v.scal with
    | true => some (v, σ)
    | false => none
  | .mv => match frzDAs frzDepth σ args, frzDA frzDepth σ' v with
    | some (_, ids), some (v', _) => some (v', killAll σ ids)
    | _, _ => none

noncomputable def afterB (o : Out) (rs : List AResult) (K : AV → AHeap → Option (AV × AHeap)) : Option (AV × AHeap) := match o with
  | some (.normal, fr, σ') | some (.ret, fr, σ') => match resOfs fr σ' rs with
    | some vs => K (tupOf vs) σ'
    | none => none
  | _ => none

structure Ctx where
  code : Nat → Option AFunc
  prim : Nat → Option Prim
  hint : Nat → Hint := fun _ => .no

noncomputable def evCall (C : Ctx) : Nat → CallF
  | 0, _, _, _ => none
  | n + 1, f, args, σ => match C.prim f with
    | some p => p args σ
    | none => match C.code f with
      | none => none
      | some F => match inArgs (C.hint f) args σ with
        | some (args', σ0) => afterB (evCode (evCall C n) n F.body (args' ++ repUndef (F.ntmps - args'.length)) σ0) F.results (hintRes (C.hint f) args σ)
        | none => none

/-! ### compiling -/
/-- What lies ahead of an operation, by the edges: a number's bits. -/
def binding (e : Edge) : Bool := Region.binds .any e

def ancs (ops : List Oper) : List Nat → List Nat
  | acc => match ops with
    | [] => acc
    | o :: l => ancs l (acc ++ [o.after.toList.foldl (fun s e => if binding e then s ||| (2 ^ e.on) ||| (acc[e.on]?).getD 0 else s) 0])

def AOpd.slots : AOpd → List Nat
  | .tmp t => [t]
  | .const _ => []

def optSlots : Option AOpd → List Nat
  | some x => x.slots
  | none => []

def partSlots : List (Nat × Nat × AOpd) → List Nat
  | [] => []
  | (_, _, x) :: l => x.slots ++ partSlots l

def listSlots : List AOpd → List Nat
  | [] => []
  | x :: l => x.slots ++ listSlots l

def XOp.slots : XOp → List Nat
  | .bad | .mkmap | .newT .. => []
  | .mkiface _ x | .assert _ _ _ x | .maplen x | .mkmeth _ x | .ifnil _ x => x.slots
  | .mapget _ _ _ x k | .mapent _ _ x k | .mapdel _ x k => x.slots ++ k.slots
  | .mapset _ x k v | .mapst x k v => x.slots ++ k.slots ++ v.slots

def AOp.slots : AOp → List Nat
  | .mov x | .box x | .load _ x | .nilck x | .un _ x | .conv _ x | .faddr _ x | .field _ _ x | .extract x _ | .len x | .lenS x | .cap x | .clear _ _ x | .sbytes x | .bstr x => x.slots
  | .pick c a b => c.slots ++ a.slots ++ b.slots
  | .new _ => []
  | .store _ a x => a.slots ++ x.slots
  | .bin _ x y | .eqv _ _ x y | .eqvS _ _ _ x y | .iaddr _ x y | .iaddrA _ _ x y | .idxS x y | .idxA _ _ _ x y | .append _ _ _ x y | .appendZ _ _ _ x y | .copy _ x y => x.slots ++ y.slots
  | .build _ ps | .bslice _ _ _ ps => partSlots ps
  | .mkfn _ l => listSlots l
  | .mkslice _ _ _ l c => l.slots ++ c.slots
  | .slice _ x lo hi mx => x.slots ++ optSlots lo ++ optSlots hi ++ optSlots mx
  | .slstr x lo hi | .slarr _ _ x lo hi => x.slots ++ optSlots lo ++ optSlots hi
  | .minmax _ x l => x.slots ++ listSlots l
  | .call f l => f.slots ++ listSlots l
  | .invoke _ r l => r.slots ++ listSlots l
  | .ext e => e.slots

def AOper.slots (o : AOper) : List Nat := match o.guard with
  | some (s, _) => s :: o.op.slots
  | none => o.op.slots

/-- Does it look into memory that was there, or write it? -/
def AOp.memAny : AOp → Bool
  | .call _ _ => true
  | .invoke _ _ _ => true
  | o => o.mem

def AOp.isLoad : AOp → Bool
  | .load _ _ => true
  | _ => false

def clash (d : Option Nat) (l : List Nat) : Bool := match d with
  | some d => l.contains d
  | none => false

/-- An operation, and the slots at which it looks. -/
abbrev DRow := AOper × List Nat

/-- Two operations i < j that no edge orders. -/
def unordOk (pairs : List (Nat × Nat)) (i j : Nat) (a b : DRow) : Bool :=
  !clash a.1.dst b.2 && !clash b.1.dst a.2 && !clash a.1.dst b.1.dst.toList &&
  !(a.1.op.memAny && b.1.op.memAny) &&
  (!(a.1.op.memAny && b.1.op.isLoad) || pairs.contains (i, j)) && (!(a.1.op.isLoad && b.1.op.memAny) || pairs.contains (j, i))

def drawRow (pairs : List (Nat × Nat)) (anc j : Nat) (b : DRow) : Nat → List DRow → Bool
  | _, [] => true
  | i, a :: l => (anc.testBit i || Nat.ble j i || unordOk pairs i j a b) && drawRow pairs anc j b (i + 1) l

def drawRows (pairs : List (Nat × Nat)) (ops : List DRow) : Nat → List Nat → List DRow → Bool
  | j, anc :: ms, b :: l => drawRow pairs anc j b 0 ops && drawRows pairs ops (j + 1) ms l
  | _, [], [] => true
  | _, _, _ => false

def edgesOk : Nat → List Oper → Bool
  | _, [] => true
  | j, o :: l => (o.after.toList.all fun e => !binding e || Nat.blt e.on j) && edgesOk (j + 1) l

/-- The pairs that are to be held against each other. -/
def pairsRow (anc j : Nat) (b : DRow) : Nat → List DRow → List (Nat × Nat)
  | _, [] => []
  | i, a :: l => match anc.testBit i || Nat.ble j i with
    | true => pairsRow anc j b (i + 1) l
    | false => match a.1.op.memAny && b.1.op.isLoad, a.1.op.isLoad && b.1.op.memAny with
      | true, _ => (i, j) :: pairsRow anc j b (i + 1) l
      | _, true => (j, i) :: pairsRow anc j b (i + 1) l
      | _, _ => pairsRow anc j b (i + 1) l

def pairsAll (ops : List DRow) : Nat → List Nat → List DRow → List (Nat × Nat)
  | j, anc :: ms, b :: l => pairsRow anc j b 0 ops ++ pairsAll ops (j + 1) ms l
  | _, _, _ => []

def dRows (ops : Array Oper) : List Oper → List AOper → List DRow
  | o :: l, a :: m => (a, a.slots ++ o.looksAt ops) :: dRows ops l m
  | _, _ => []

def compDraw (P : Program) (ops : Array Oper) (aops : List AOper) : Option ACode :=
  let an := ancs ops.toList []
  let rows := dRows ops ops.toList aops
  let pairs := pairsAll rows 0 an rows
  match edgesOk 0 ops.toList && drawRows pairs rows 0 an rows && P.follows .mixedOrders with
  | true => some (.draw aops pairs)
  | false => none

/-- Exits from here on stand for jumps to labels. -/
def jB : Nat := 1099511627776
/-- All exits are plain ones, or jumps to one label. -/
def okExits (l : Nat) : ACode → Bool
  | .exit id => Nat.blt id jB || Nat.beq id (jB + l)
  | .seq a b => okExits l a && okExits l b
  | .cond _ a b => okExits l a && okExits l b
  | .block _ a => okExits l a
  | .loop a => okExits l a
  | _ => true
def headLabel : Code → Option Nat
  | .seq (.label l) _ => some l
  | _ => none
/-- Code that is entered again by jumps to its first label. -/
def againA (l : Nat) (a : ACode) : ACode := .block (jB + jB + l) (.loop (.block (jB + l) (.seq a (.exit (jB + jB + l)))))

def compCode (P : Program) : Code → Option ACode
  | .skip => some .skip
  | .region _ ops draw => match draw with
    | false => match compOpersB P ops ops.toList with
      | some l => some (.region l)
      | none => some .bad
    | true => match compOpers P ops ops.toList with
      | some l => match compDraw P ops l with
        | some c => some c
        | none => some .bad
      | none => some .bad
  | .seq a b => match compCode P a, compCode P b with
    | some a, some b => some (.seq a b)
    | _, _ => none
  | .cond c a b => match compOpd c, compCode P a, compCode P b with
    | some c, some a, some b => some (.cond c a b)
    | _, _, _ => some .bad
  | .block id a => match Nat.blt id jB, compCode P a with
    | true, some a => some (.block id a)
    | _, _ => none
  | .loop a => match compCode P a with
    | some a => some (.loop a)
    | none => none
  | .exit id => match Nat.blt id jB with
    | true => some (.exit id)
    | false => some .bad
  | .goto l => some (.exit (jB + l))
  | .label _ => some .skip
  | .scope a => match headLabel a, compCode P a with
    | some l, some a => match okExits l a with
      | true => some (againA l a)
      | false => some .bad
    | _, _ => some .bad
  | .ret => some .ret
  | _ => some .bad

def compResult (P : Program) : ResultVar → Option AResult
  | .tmp t => some (.tmp t)
  | .cell t ty => match tAgg P ty with
    | some g => some (.cell t g)
    | none => none

def compResults (P : Program) : List ResultVar → Option (List AResult)
  | [] => some []
  | r :: l => match compResult P r, compResults P l with
    | some a, some b => some (a :: b)
    | _, _ => none

def compFunc (P : Program) (fn : Func) : Option AFunc :=
  match fn.body, fn.name == "runtime.NumGoroutine" with
  | some c, false => match compCode P c, compResults P fn.results.toList with
    | some c, some r => some ⟨fn.ntmps, r, c⟩
    | _, _ => none
  | _, _ => none

end Go.Proofs.YtkolhfpofmpijaaDoor.Ab

/- One operation, a row of operations, results: what the model does where the abstract machine goes well. -/
namespace Go.Proofs.YtkolhfpofmpijaaDoor.Ab
open Go
set_option linter.unusedSectionVars false
variable [LoopP]
set_option linter.unusedSimpArgs false
set_option linter.unusedVariables false

/-- What a call leaves. -/
def CallPost (ρ : Loc) (σ : AHeap) (w : World) (σ' : AHeap) (v : AV) : Ending → World → Prop :=
  fun e w' => ∃ u ρ', e = .returned u ∧ Post ρ σ w ρ' σ' w' ∧ VR ρ' v u

/-- A function that may be called: it has a body. -/
def Callable (P : Program) (f : Nat) : Prop := ∃ fn, P.funcs[f]? = some fn ∧ fn.name ≠ "runtime.NumGoroutine" ∧ fn.body.isSome = true

def CallOk (P : Program) (call : CallF) : Prop :=
  ∀ f args σ v σ', call f args σ = some (v, σ') → Callable P f ∧
    ∀ ρ w vs, VRs ρ args vs → HR ρ σ.get w → Calls P f vs.toArray w (CallPost ρ σ w σ' v)

/-- A call of a function. -/
def CallP (P : Program) (f : Nat) (args : List AV) (σ : AHeap) (v : AV) (σ' : AHeap) : Prop := Callable P f ∧
    ∀ ρ w vs, VRs ρ args vs → HR ρ σ.get w → Calls P f vs.toArray w (CallPost ρ σ w σ' v)

/-- A call of a yield: a round of its loop. -/
def YieldP (P : Program) (f : Nat) (args : List AV) (σ : AHeap) (v : AV) (σ' : AHeap) : Prop := ∃ id, f = yldN + id ∧
    ∀ ρ w vs B, VRs ρ args vs → HR ρ σ.get w → ρ id = some B → ∃ fn tmps assign body,
      (Instr.yield B.b vs.toArray).run P w = .ok (.round B.b fn tmps assign body) w ∧ RoundIn Fence.wide 0 P B.b fn tmps assign body w (CallPost ρ σ w σ' v)

def CallAny (P : Program) (call : CallF) : Prop := ∀ f args σ v σ', call f args σ = some (v, σ') → CallP P f args σ v σ' ∨ YieldP P f args σ v σ'

theorem CallOk.any {P : Program} {call : CallF} (h : CallOk P call) : CallAny P call := fun f args σ v σ' e => .inl (h f args σ v σ' e)

theorem Callable.small {P : Program} [IsProg P] {f : Nat} (h : Callable P f) : f < yldN := by
  obtain ⟨fn, h1, _⟩ := h
  have h2 := (Array.getElem?_eq_some_iff.1 h1).1
  have h3 := Nat.le_of_ble_eq_true theP_small
  rw [← IsProg.eq (P := P)] at h3
  omega

/-- The frames in which code is walked: of a function, or of a round of the loop told. -/
def fen (r : Option Nat) : Fence := { Fence.wide with round := r }
theorem fen_none : fen none = Fence.wide := rfl

section
variable {P : Program} {ρ : Loc}

theorem wpIn_val {r : Option Nat} {o : Oper} {a : Act} {w : World} {next : Act → World → Prop} {Q : Exit → Act → World → Prop} (hnd : ∀ c, o.op ≠ .defer c) (h : o.uponIn (fen r) 0 P a next Q ((execOp a.eval o).run P w)) :
    o.wpIn (fen r) 0 P a w next Q := ⟨fun _ _ => trivial, by rw [Oper.semAt_eq _ _ _ hnd]; exact h⟩
theorem not_defer {call : CallF} {o : Oper} {aop : AOp} {fr : List AV} {σ : AHeap} {r : AV × AHeap} (hc : compOpX P o.op = some aop) (he : evStep call fr σ aop = some r) : ∀ c, o.op ≠ .defer c := by
  intro c h
  rw [h] at hc
  simp only [compOpX, compOp, compX] at hc
  first
    | (cases hc; done)
    | (cases hc; cases he; done)
    | (simp only [Option.some.injEq] at hc; subst hc; simp [evStep, evOp, evX] at he)

theorem compCall_value {op : Op} {f : AOpd} {args : List AOpd} (h : compOpX P op = some (.call f args)) :
    ∃ c fo, op = .call c ∧ c.callee = .value fo ∧ compOpd fo = some f ∧ compOpds c.args.toList = some args := by
  rcases compOpX_cases h with h | ⟨e, h, _⟩ | ⟨_, _, _, _, _, _, _, _, _, h⟩
  rotate_left
  · cases h
  · cases h
  cases op with
  | call c =>
    obtain ⟨callee, cargs, tys⟩ := c
    simp only [compOp, compCall] at h
    cases callee with
    | value fo =>
      simp only at h
      split at h
      · rename_i f' l h1 h2
        cases h
        exact ⟨_, fo, rfl, rfl, h1, h2⟩
      · cases h
    | invoke r m => cases h
    | builtin b =>
      simp only at h
      repeat' (split at h)
      all_goals (cases h)
  | binOp op t x y yt =>
    simp only [compOp] at h
    split at h
    · unfold compBin at h
      repeat' (split at h)
      all_goals (cases h)
    · cases h
  | makeFunc fn first captured =>
    cases fn with
    | func f =>
      simp only [compOp] at h
      split at h <;> cases h
    | _ => simp [compOp] at h
  | _ =>
    exfalso
    revert h
    simp only [compOp]
    intro h
    repeat' (split at h)
    all_goals (cases h)

theorem evStep_notcall {call : CallF} {fr : List AV} {σ : AHeap} {aop : AOp} (h : aop.isCall = false) : evStep call fr σ aop = evOp fr σ aop := by
  cases aop <;> first | rfl | cases h

/-- A call of a Go function: what is asked of the model. -/
theorem call_enter {o : Oper} {f : AOpd} {args : List AOpd} {fr : List AV} {a : Act} {g : Nat} {caps : List SV} (hc : compOpX P o.op = some (.call f args))
    (hf : FR ρ fr a.tmps) (he : ev fr f = .one (.func g caps)) :
    ∃ vs, VRs ρ (evs fr args ++ caps.map AV.one) vs ∧ ((g < yldN ∧ (Callable P g → ∀ w, (execOp a.eval o).run P w = .ok (.enter g vs.toArray) w)) ∨
      ∃ id B, g = yldN + id ∧ ρ id = some B ∧ ∀ w, (execOp a.eval o).run P w = (Instr.yield B.b vs.toArray).run P w) := by
  obtain ⟨c, fo, ho, hcal, h1, h2⟩ := compCall_value hc
  obtain ⟨callee, cargs, tys⟩ := c
  simp only at hcal h2
  subst hcal
  have k1 := opd_rel h1 hf
  rw [he] at k1
  generalize hu : a.eval fo = u at k1
  cases k1 with
  | one k1 =>
    cases k1 with
    | yld hgi hB =>
      rename_i id B
      refine ⟨cargs.toList.map a.eval, by simpa using opds_rel h2 hf, .inr ⟨id, B, hgi, hB, fun w => ?_⟩⟩
      have harr : cargs.map a.eval = (cargs.toList.map a.eval).toArray := by
        apply Array.ext'; simp
      rw [← harr]
      simp [execOp, ho, resolve, hu, Deferred.ofValue, invoke]
    | func hN k1 =>
      rename_i cvs
      refine ⟨cargs.toList.map a.eval ++ cvs, (opds_rel h2 hf).append k1.toVRs, .inl ⟨hN, fun hg w => ?_⟩⟩
      obtain ⟨fn, hfn, hname, hbody⟩ := hg
      have hb : ¬ fn.body = none := by
        intro hq
        rw [hq] at hbody; cases hbody
      have harr : cargs.map a.eval ++ cvs.toArray = (cargs.toList.map a.eval ++ cvs).toArray := by
        apply Array.ext'; simp
      simp [execOp, ho, resolve, hu, Deferred.ofValue, invoke, callFunc, hfn, hname, hb]

/-- A call of a method that was bound to its receiver. -/
theorem meth_enter [IsProg P] {o : Oper} {f : AOpd} {args : List AOpd} {fr : List AV} {a : Act} {g : Nat} {rv : SV} (hc : compOpX P o.op = some (.call f args))
    (hf : FR ρ fr a.tmps) (he : ev fr f = .one (.meth g rv)) :
    ∃ vs, VRs ρ (.one rv :: evs fr args) vs ∧ g < yldN ∧ (Callable P g → ∀ w, (execOp a.eval o).run P w = .ok (.enter g vs.toArray) w) := by
  obtain ⟨c, fo, ho, hcal, h1, h2⟩ := compCall_value hc
  obtain ⟨callee, cargs, tys⟩ := c
  simp only at hcal h2
  subst hcal
  have k1 := opd_rel h1 hf
  rw [he] at k1
  generalize hu : a.eval fo = u at k1
  cases k1 with
  | one k1 =>
    cases k1 with
    | meth hN k1 hm =>
      rename_i name t x y
      have hP := IsProg.eq (P := P)
      rw [← hP] at hm
      refine ⟨y :: cargs.toList.map a.eval, .cons (.one k1) (opds_rel h2 hf), hN, fun hg w => ?_⟩
      obtain ⟨fn, hfn, hname, hbody⟩ := hg
      have hb : ¬ fn.body = none := by
        intro hq
        rw [hq] at hbody; cases hbody
      have harr : #[y] ++ cargs.map a.eval = (y :: cargs.toList.map a.eval).toArray := by
        apply Array.ext'; simp
      have hext : (#[Value.iface t x] ++ cargs.map a.eval).extract 1 (#[Value.iface t x] ++ cargs.map a.eval).size = cargs.map a.eval := by
        apply Array.ext'
        simp
        exact List.take_of_length_le (by simp)
      simp only [execOp, ho, resolve, hu, Deferred.ofValue, Sem.run_bind, Sem.run_pure, Result.andThen_ok, invoke]
      have h0 : (#[Value.iface t x] ++ cargs.map a.eval)[0]? = some (.iface t x) := by
        rw [← Array.getElem?_toList]
        simp
      rw [h0]
      simp only [callMethod, Sem.run_bind, run_program, Result.andThen_ok, hm.1 w, hext, harr]
      simp [callFunc, hfn, hname, hb]

/-- A call of an interface's method. -/
theorem inv_enter {o : Oper} {tab : List (Nat × Nat × Option Nat)} {r : AOpd} {args : List AOpd} {fr : List AV} {a : Act} {g : Nat} {rv : AV} (hc : compOpX P o.op = some (.invoke tab r args))
    (hf : FR ρ fr a.tmps) (he : invokeF tab (ev fr r) = some (g, rv)) :
    ∃ vs, VRs ρ (rv :: evs fr args) vs ∧ g < yldN ∧ (Callable P g → ∀ w, (execOp a.eval o).run P w = .ok (.enter g vs.toArray) w) := by
  rcases compOpX_cases hc with h | ⟨e, h, _⟩ | ⟨c, ro, name, r', l, ho, hcal, h1, h2, h3⟩
  · exact absurd rfl ((compOp_notext h).2 _ _ _)
  · cases h
  · cases h3
    obtain ⟨callee, cargs, tys⟩ := c
    simp only at hcal h2
    subst hcal
    have k1 := opd_rel h1 hf
    have hsh : ∃ t s, ev fr r = .one (.iface t false [s]) := by
      generalize ev fr r = x at he
      unfold invokeF at he
      split at he
      · exact ⟨_, _, rfl⟩
      · cases he
    obtain ⟨t, s, e⟩ := hsh
    rw [e] at k1 he
    generalize hu : a.eval ro = u at k1
    cases k1 with
    | one k1 =>
      cases k1 with
      | iface1 k1 =>
        rename_i x
        obtain ⟨y, h3, h4, _⟩ := method_run he k1 (P.types.size + Made.depth - 1)
        rw [show P.types.size + Made.depth - 1 + 1 = P.types.size + Made.depth by unfold Made.depth; omega] at h4
        refine ⟨y :: cargs.toList.map a.eval, .cons h3 (opds_rel h2 hf), method_small he, fun hg w => ?_⟩
        obtain ⟨fn, hfn, hname, hbody⟩ := hg
        have hb : ¬ fn.body = none := by
          intro hq
          rw [hq] at hbody; cases hbody
        have harr : #[y] ++ cargs.map a.eval = (y :: cargs.toList.map a.eval).toArray := by
          apply Array.ext'; simp
        have hext : (#[Value.iface t x] ++ cargs.map a.eval).extract 1 (#[Value.iface t x] ++ cargs.map a.eval).size = cargs.map a.eval := by
          apply Array.ext'
          simp
          exact List.take_of_length_le (by simp)
        simp only [execOp, ho, resolve, hu, Sem.run_bind, Sem.run_pure, Result.andThen_ok, invoke]
        have h0 : (#[Value.iface t x] ++ cargs.map a.eval)[0]? = some (.iface t x) := by
          rw [← Array.getElem?_toList]
          simp
        rw [h0]
        simp only [callMethod, Sem.run_bind, run_program, Result.andThen_ok, h4, hext, harr]
        simp [callFunc, hfn, hname, hb]

/-- A call goes on in a function. -/
theorem step_enter [IsProg P] {call : CallF} {o : Oper} {aop : AOp} {fr : List AV} {a : Act} {σ : AHeap} {r : AV × AHeap} (hc : compOpX P o.op = some aop) (hcl : aop.isCall = true)
    (hf : FR ρ fr a.tmps) (he : evStep call fr σ aop = some r) :
    ∃ g avs, call g avs σ = some r ∧ ∃ vs, VRs ρ avs vs ∧ ((g < yldN ∧ (Callable P g → ∀ w, (execOp a.eval o).run P w = .ok (.enter g vs.toArray) w)) ∨
      ∃ id B, g = yldN + id ∧ ρ id = some B ∧ ∀ w, (execOp a.eval o).run P w = (Instr.yield B.b vs.toArray).run P w) := by
  cases aop
  case call f args =>
    simp only [evStep] at he
    split at he
    · rename_i g caps e
      exact ⟨g, _, he, call_enter hc hf e⟩
    · rename_i g rv e
      obtain ⟨vs, h1, h2⟩ := meth_enter hc hf e
      exact ⟨g, _, he, vs, h1, .inl h2⟩
    · cases he
  case invoke tab r' args =>
    simp only [evStep] at he
    split at he
    · rename_i g rv e
      obtain ⟨vs, h1, h2⟩ := inv_enter hc hf e
      exact ⟨g, _, he, vs, h1, .inl h2⟩
    · cases he
  all_goals (cases hcl)

/-- One operation, seen from another frame at which it does the same. -/
theorem step_sound' [IsProg P] {call : CallF} (hcall : CallAny P call) {o : Oper} {aop : AOp} {fr : List AV} {a a2 : Act} {σ σ' : AHeap} {v : AV} {w : World}
    {next : Act → World → Prop} {Q : Exit → Act → World → Prop} {r : Option Nat} (hc : compOpX P o.op = some aop)
    (hf : FR ρ fr a.tmps) (hr : HR ρ σ.get w) (he : evStep call fr σ aop = some (v, σ')) (heq : execOp a.eval o = execOp a2.eval o)
    (hn : ∀ u w' ρ', Post ρ σ w ρ' σ' w' → VR ρ' v u → next (a2.put o.dst u) w') : o.wpIn (fen r) 0 P a2 w next Q := by
  have hnd := not_defer hc he
  cases hcl : aop.isCall with
  | true =>
    obtain ⟨g, avs, he, vs, h3, hen⟩ := step_enter hc hcl hf he
    refine wpIn_val hnd ?_
    rw [← heq]
    rcases hcall _ _ _ _ _ he with ⟨h1, h2⟩ | ⟨id, hg, h2⟩
    · rcases hen with ⟨_, h4⟩ | ⟨id, _, h4, _⟩
      · rw [h4 h1 w]
        refine And.intro (fun h => absurd h (by simp [fen, Fence.wide])) ?_
        show CallsIn Fence.wide _ P _ _ _ _
        refine callsIn_wide.2 ((h2 ρ w vs h3 hr).mono ?_)
        rintro e w' ⟨u, ρ', rfl, h5, h6⟩
        exact hn u w' ρ' h5 h6
      · have := h1.small
        omega
    · rcases hen with ⟨h4, _⟩ | ⟨id', B, h4, hB, h5⟩
      · omega
      · have e : id' = id := by omega
        subst e
        obtain ⟨fn, tmps, assign, body, h6, h7⟩ := h2 ρ w vs B h3 hr hB
        rw [h5 w, h6]
        refine And.intro (fun h => absurd h (by simp [fen, Fence.wide])) ?_
        show RoundIn Fence.wide _ P _ _ _ _ _ _ _
        refine h7.mono ?_
        rintro e w' ⟨u, ρ', rfl, h8, h9⟩
        exact hn u w' ρ' h8 h9
  | false =>
    rw [evStep_notcall hcl] at he
    obtain ⟨r, u, w', ρ', h1, h2, h3, h4⟩ := op_simX hc hf hr he
    refine wpIn_val hnd ?_
    rw [← heq, h1]
    rcases h2 with rfl | ⟨rfl, rfl⟩
    · exact hn u w' ρ' h3 h4
    · exact hn undef w' ρ' h3 h4

/-- One operation. -/
theorem step_sound [IsProg P] {call : CallF} (hcall : CallAny P call) {o : Oper} {aop : AOp} {fr : List AV} {a : Act} {σ σ' : AHeap} {v : AV} {w : World}
    {next : Act → World → Prop} {Q : Exit → Act → World → Prop} {r : Option Nat} (hc : compOpX P o.op = some aop)
    (hf : FR ρ fr a.tmps) (hr : HR ρ σ.get w) (he : evStep call fr σ aop = some (v, σ'))
    (hn : ∀ u w' ρ', Post ρ σ w ρ' σ' w' → VR ρ' v u → next (a.put o.dst u) w') : o.wpIn (fen r) 0 P a w next Q :=
  step_sound' hcall hc hf hr he rfl hn

/-- Is an operation wanted? -/
theorem wanted_rel' {ops : Array Oper} {o : Oper} {ao : AOper} {fr : List AV} {a : Act} (hc : compOper P ops o = some ao) (h2 : fr.length = a.tmps.size)
    (hs : ∀ s want, ao.guard = some (s, want) → VR ρ (getSlot fr s) (a.tmps.getD s undef)) :
    Region.wanted o (yielded ops a.tmps) = wantedA fr ao.guard ∧ compOpX P o.op = some ao.op ∧ ao.dst = o.dst := by
  unfold compOper at hc
  split at hc
  · rename_i op hop
    split at hc
    · rename_i hg
      cases hc
      exact ⟨by simp [Region.wanted, hg, wantedA], hop, rfl⟩
    · rename_i j want hg
      split at hc
      · rename_i g hj
        split at hc
        · rename_i d hd
          cases hc
          refine ⟨?_, hop, rfl⟩
          simp only [Region.wanted, hg, wantedA, yielded, hj, Option.bind_some, hd]
          have h1 := hs d want rfl
          by_cases hlt : d < a.tmps.size
          · have h3 : a.tmps[d]? = some (a.tmps.getD d undef) := by simp [hlt]
            rw [h3]
            generalize a.tmps.getD d undef = u at h1
            generalize getSlot fr d = x at h1
            cases h1 with
            | one h1 => cases h1 <;> simp [typeHandle]
            | agg h1 => simp
            | tup h1 => simp
          · have h3 : a.tmps[d]? = none := Array.getElem?_eq_none (Nat.le_of_not_lt hlt)
            rw [h3]
            have h4 : getSlot fr d = undefA := by
              rw [getSlot_eq, List.getElem?_eq_none (by rw [h2]; exact Nat.le_of_not_lt hlt)]
              rfl
            rw [h4]
            simp [undefA]
        · cases hc
      · cases hc
  · cases hc

theorem wanted_rel {ops : Array Oper} {o : Oper} {ao : AOper} {fr : List AV} {a : Act} (hc : compOper P ops o = some ao) (hf : FR ρ fr a.tmps) :
    Region.wanted o (yielded ops a.tmps) = wantedA fr ao.guard ∧ compOpX P o.op = some ao.op ∧ ao.dst = o.dst :=
  wanted_rel' hc hf.len (fun s _ _ => hf.at_ s)

/-- The same where an operation may be one that goes nowhere. -/
theorem wanted_relB {ops : Array Oper} {o : Oper} {ao : AOper} {fr : List AV} {a : Act} (hc : compOperB P ops o = some ao) (hf : FR ρ fr a.tmps) :
    Region.wanted o (yielded ops a.tmps) = wantedA fr ao.guard ∧ (compOpX P o.op = some ao.op ∨ ao.op = .ext .bad) ∧ ao.dst = o.dst := by
  cases h : compOpX P o.op with
  | some op =>
    have : compOper P ops o = some ao := by
      unfold compOper
      unfold compOperB at hc
      rw [h] at hc ⊢
      simpa using hc
    obtain ⟨h1, h2, h3⟩ := wanted_rel this hf
    rw [h] at h2
    exact ⟨h1, .inl h2, h3⟩
  | none =>
    unfold compOperB at hc
    rw [h] at hc
    simp only [Option.getD_none] at hc
    split at hc
    · rename_i hg
      cases hc
      exact ⟨by simp [Region.wanted, hg, wantedA], .inr rfl, rfl⟩
    · rename_i j want hg
      split at hc
      · rename_i g hj
        split at hc
        · rename_i d hd
          cases hc
          refine ⟨?_, .inr rfl, rfl⟩
          simp only [Region.wanted, hg, wantedA, yielded, hj, Option.bind_some, hd]
          have h1 := hf.at_ d
          by_cases hlt : d < a.tmps.size
          · have h3 : a.tmps[d]? = some (a.tmps.getD d undef) := by simp [hlt]
            rw [h3]
            generalize a.tmps.getD d undef = u at h1
            generalize getSlot fr d = x at h1
            cases h1 with
            | one h1 => cases h1 <;> simp [typeHandle]
            | agg h1 => simp
            | tup h1 => simp
          · have h3 : a.tmps[d]? = none := Array.getElem?_eq_none (Nat.le_of_not_lt hlt)
            rw [h3]
            have h4 : getSlot fr d = undefA := by
              rw [getSlot_eq, List.getElem?_eq_none (by rw [hf.len]; exact Nat.le_of_not_lt hlt)]
              rfl
            rw [h4]
            simp [undefA]
        · cases hc
      · cases hc

/-- A region in the text's order: from the i-th operation on. -/
theorem ops_sound [IsProg P] {call : CallF} (hcall : CallAny P call) {ops : Array Oper} {r : Option Nat} {Q : Exit → Act → World → Prop} :
    ∀ (l : List Oper) (al : List AOper) (i : Nat) (ρ : Loc) (fr : List AV) (a : Act) (σ : AHeap) (w : World) (fr' : List AV) (σ' : AHeap),
    ops.toList.drop i = l → compOpersB P ops l = some al → FR ρ fr a.tmps → HR ρ σ.get w → evOps call al fr σ = some (fr', σ') →
    (∀ a' w' ρ', a'.defers = a.defers → Post ρ σ w ρ' σ' w' → FR ρ' fr' a'.tmps → Q .normal a' w') →
    wpOpsIn (fen r) 0 P ops Q ((List.range l.length).map (i + ·)) a w
  | [], al, i, ρ, fr, a, σ, w, fr', σ', hd, hc, hf, hr, he, hq => by
    cases hc
    cases he
    simp only [List.length_nil, List.range_zero, List.map_nil, wpOpsIn]
    exact hq a w ρ rfl (Post.refl hr) hf
  | o :: l, al, i, ρ, fr, a, σ, w, fr', σ', hd, hc, hf, hr, he, hq => by
    simp only [compOpersB] at hc
    split at hc
    · rename_i ao rr h1 h2
      cases hc
      have hi : i < ops.toList.length := by
        rcases Nat.lt_or_ge i ops.toList.length with h | h
        · exact h
        · rw [List.drop_eq_nil_of_le h] at hd; cases hd
      have hoi : ops[i]? = some o := by
        rw [List.drop_eq_getElem_cons hi] at hd
        cases hd
        simp at hi
        simp [hi]
      have hd' : ops.toList.drop (i + 1) = l := by
        rw [List.drop_eq_getElem_cons hi] at hd
        cases hd
        rfl
      have hrange : (List.range (o :: l).length).map (i + ·) = i :: (List.range l.length).map (i + 1 + ·) := by
        simp only [List.length_cons, List.range_succ_eq_map, List.map_cons, List.map_map, Nat.add_zero]
        congr 1
        apply List.map_congr_left
        intro x _
        simp; omega
      rw [hrange]
      simp only [wpOpsIn, hoi]
      obtain ⟨hw, hcopB, hdst⟩ := wanted_relB h1 hf
      simp only [evOps] at he
      rw [hw]
      cases hwa : wantedA fr ao.guard with
      | true =>
        simp only [evOper, hwa] at he
        split at he
        · rename_i fr1 σ1 hs
          split at hs
          · rename_i v σ2 hst
            cases hs
            simp only [if_true]
            have hcop : compOpX P o.op = some ao.op := by
              rcases hcopB with h | h
              · exact h
              · rw [h] at hst; cases hst
            refine step_sound hcall hcop hf hr hst (fun u w' ρ' hp hv => ?_)
            have hf' : FR ρ' (putDst fr ao.dst v) (a.put o.dst u).tmps := by
              rw [hdst]
              exact (hf.mono hp.le).put o.dst hv
            refine ops_sound hcall l rr (i + 1) ρ' _ _ _ w' fr' σ' hd' h2 hf' hp.hr he (fun a' w2 ρ2 hdf hp2 hf2 => ?_)
            refine hq a' w2 ρ2 ?_ (hp.trans hp2) hf2
            rw [hdf]
            cases o.dst <;> rfl
          · cases hs
        · cases he
      | false =>
        simp only [evOper, hwa] at he
        simp only [Bool.false_eq_true, if_false]
        refine ⟨fun _ _ => trivial, ?_⟩
        have hf' : FR ρ (putDst fr ao.dst undefA) (a.put o.dst undef).tmps := by
          rw [hdst]
          exact hf.put o.dst VR.undef
        refine ops_sound hcall l rr (i + 1) ρ _ _ _ w fr' σ' hd' h2 hf' hr he (fun a' w2 ρ2 hdf hp2 hf2 => ?_)
        refine hq a' w2 ρ2 ?_ hp2 hf2
        rw [hdf]
        cases o.dst <;> rfl
    · cases hc

theorem region_sound [IsProg P] {call : CallF} (hcall : CallAny P call) {r : Option Nat} {ops : Array Oper} {id : Nat} {al : List AOper} {Q : Exit → Act → World → Prop} {fr fr' : List AV} {a : Act} {σ σ' : AHeap} {w : World}
    (hc : compOpersB P ops ops.toList = some al) (hf : FR ρ fr a.tmps) (hr : HR ρ σ.get w) (he : evOps call al fr σ = some (fr', σ'))
    (hq : ∀ a' w' ρ', a'.defers = a.defers → Post ρ σ w ρ' σ' w' → FR ρ' fr' a'.tmps → Q .normal a' w') : (Code.region id ops false).wpIn (fen r) 0 P Q a w := by
  refine wpIn_region ?_
  have := ops_sound (Q := Q) (r := r) hcall ops.toList al 0 ρ fr a σ w fr' σ' (by simp) hc hf hr he hq
  simpa using this

/-! ### results -/
theorem results_run {fn : Func} {rs : List AResult} {fr : List AV} {tmps : Array Value} {σ : AHeap} {w : World} {vs : List AV} (hc : compResults P fn.results.toList = some rs)
    (hf : FR ρ fr tmps) (hr : HR ρ σ.get w) (he : resOfs fr σ rs = some vs) : ∃ u, (results fn tmps).run P w = .ok u w ∧ VR ρ (tupOf vs) u := by
  have one : ∀ (r : ResultVar) (ar : AResult) (v : AV), compResult P r = some ar → resOf fr σ ar = some v →
      ∃ u, ((match r with | .tmp t => (pure (tmps.getD t undef) : Sem Value) | .cell a t => do loadVar t (← asAddr (tmps.getD a undef))) : Sem Value).run P w = .ok u w ∧ VR ρ v u := by
    intro r ar v h1 h2
    cases r with
    | tmp t =>
      cases h1
      cases h2
      exact ⟨_, rfl, hf.at_ t⟩
    | cell t ty =>
      simp only [compResult] at h1
      split at h1
      · rename_i g hg
        cases h1
        simp only [resOf] at h2
        split at h2
        · rename_i id off e
          have k1 := hf.at_ t
          rw [e] at k1
          generalize hu : tmps.getD t undef = u at k1
          cases k1 with
          | one k1 =>
            cases k1 with
            | ptr hB =>
              rename_i B
              obtain ⟨ob, hob, hmd, hp⟩ := loadA_obj h2
              obtain ⟨o', q1, q2, _⟩ := hr.dom id B hB
              rw [hob] at q1; cases q1
              have hh := q2.holds hmd
              cases g with
              | none =>
                simp only [partA] at hp
                split at hp
                · rename_i s hs
                  cases hp
                  obtain ⟨us, p1, p2⟩ := hh
                  obtain ⟨u, p3, p4⟩ := p1.get hs
                  have := p2 off u p3
                  exact ⟨u, by simp [hu, asAddr, loadVar, tAgg_none hg, this], .one p4⟩
                · cases hp
              | some n =>
                simp only [partA] at hp
                split at hp
                · rename_i hl
                  cases hp
                  obtain ⟨us, p1, p2, p3⟩ := hh.load (P := P) (by simpa using hl)
                  exact ⟨.agg us.toArray, by simp [hu, asAddr, loadVar, (tAgg_some hg w).1, (tAgg_some hg w).2.1, p3], .agg p1⟩
                · cases hp
        · cases h2
      · cases h1
  have all : ∀ (l : List ResultVar) (rs : List AResult) (vs : List AV), compResults P l = some rs → resOfs fr σ rs = some vs →
      ∃ us, (l.mapM (fun r => (match r with | .tmp t => (pure (tmps.getD t undef) : Sem Value) | .cell a t => do loadVar t (← asAddr (tmps.getD a undef))) : ResultVar → Sem Value)).run P w = .ok us w ∧ VRs ρ vs us := by
    intro l
    induction l with
    | nil =>
      intro rs vs h1 h2
      cases h1
      cases h2
      exact ⟨[], rfl, .nil⟩
    | cons r l ih =>
      intro rs vs h1 h2
      simp only [compResults] at h1
      split at h1
      · rename_i ar rr q1 q2
        cases h1
        simp only [resOfs] at h2
        split at h2
        · rename_i v vs' q3 q4
          cases h2
          obtain ⟨u, p1, p2⟩ := one r ar v q1 q3
          obtain ⟨us, p3, p4⟩ := ih rr vs' q2 q4
          exact ⟨u :: us, by simp only [List.mapM_cons, Sem.run_bind, p1, p3, Result.andThen_ok, Sem.run_pure], .cons p2 p4⟩
        · cases h2
      · cases h1
  obtain ⟨us, h1, h2⟩ := all fn.results.toList rs vs hc he
  have h3 : (results fn tmps).run P w = .ok (if h : us.toArray.size = 1 then us.toArray[0] else .tuple us.toArray) w := by
    unfold results
    rw [Array.mapM_eq_mapM_toList]
    simp only [Sem.run_bind, Sem.run_map, Sem.run_pure]
    erw [h1]
    rfl
  refine ⟨_, h3, ?_⟩
  have hlen := h2.length
  cases h2 with
  | nil => exact VR.undef
  | cons p q =>
    cases q with
    | nil => simpa [tupOf] using p
    | cons p2 q2 =>
      have := VR.tup (ρ := ρ) (.cons p (.cons p2 q2))
      simpa [tupOf] using this

end
end Go.Proofs.YtkolhfpofmpijaaDoor.Ab

/- Whole functions: where the abstract machine goes well, so does the model's call, whatever the tape says. -/
namespace Go.Proofs.YtkolhfpofmpijaaDoor.Ab
open Go
set_option linter.unusedSectionVars false
variable [LoopP]
set_option linter.unusedSimpArgs false
set_option linter.unusedVariables false

/-- Where a way through code ends, and in which memory. -/
def EndsAt (D : List Deferred) (ρ : Loc) (σ : AHeap) (w : World) (x : Exit) (fr' : List AV) (σ' : AHeap) : Exit → Act → World → Prop :=
  fun e a' w' => e = x ∧ a'.defers = D ∧ ∃ ρ', Post ρ σ w ρ' σ' w' ∧ FR ρ' fr' a'.tmps

/-- What is asked of a region whose order is open. -/
def DrawSound (D : List Deferred) (P : Program) (call : CallF) : Prop :=
  ∀ (r : Option Nat) (id : Nat) (ops : Array Oper) (al : List AOper) (ac : ACode) (fr fr' : List AV) (σ σ' : AHeap) (m : Nat) (x : AX) (ρ : Loc) (a : Act) (w : World),
    compOpers P ops ops.toList = some al → compDraw P ops al = some ac → evCode call m ac fr σ = some (x, fr', σ') →
    FR ρ fr a.tmps → a.defers = D → HR ρ σ.get w → x = .normal ∧ (Code.region id ops true).wpIn (fen r) 0 P (EndsAt D ρ σ w .normal fr' σ') a w

def AX.toExit : AX → Exit
  | .normal => .normal
  | .exit id => match Nat.blt id jB with
    | true => .exit id
    | false => .goto (id - jB)
  | .ret => .ret
theorem AX.toExit_goto (l : Nat) : (AX.exit (jB + l)).toExit = .goto l := by
  have h : Nat.blt (jB + l) jB = false := by rw [Bool.eq_false_iff]; intro h; rw [Nat.blt_eq] at h; omega
  simp only [AX.toExit, h, Nat.add_sub_cancel_left]
theorem AX.toExit_plain {id : Nat} (h : Nat.blt id jB = true) : (AX.exit id).toExit = .exit id := by simp only [AX.toExit, h]

section
variable {P : Program} {D : List Deferred}

theorem rounds_mono {r : Option Nat} {c : Code} {Q Q' : Exit → Act → World → Prop} (hq : ∀ e a w, Q e a w → Q' e a w) : ∀ {n : Nat} {a : Act} {w : World}, Code.roundsIn (fen r) 0 P c Q n a w → Code.roundsIn (fen r) 0 P c Q' n a w
  | 0, _, _, h => h.elim
  | n + 1, a, w, h => by
    rw [roundsIn_succ] at *
    refine wpIn_mono h (fun e a w h => ?_)
    cases e <;> first | exact hq _ _ _ h | exact rounds_mono hq h

/-- Code, and what it is compiled to. -/
def SoundC (D : List Deferred) (P : Program) (call : CallF) (m : Nat) (c : Code) : Prop := ∀ (ac : ACode) (fr fr' : List AV) (σ σ' : AHeap) (x : AX),
    compCode P c = some ac → evCode call m ac fr σ = some (x, fr', σ') → ∀ (ρ : Loc) (a : Act) (w : World), FR ρ fr a.tmps → a.defers = D → HR ρ σ.get w → ∀ r : Option Nat,
    c.wpIn (fen r) 0 P (EndsAt D ρ σ w x.toExit fr' σ') a w

theorem then_exit {K : Act → World → Prop} {Q : Exit → Act → World → Prop} {id : Nat} {a : Act} {w : World} (h : Q (AX.exit id).toExit a w) : Exit.then K Q (AX.exit id).toExit a w := by
  unfold AX.toExit at h ⊢
  cases hb : Nat.blt id jB <;> simp only [hb] at h ⊢ <;> exact h
theorem block_same {Q : Exit → Act → World → Prop} {id : Nat} {a : Act} {w : World} (hJ : Nat.blt id jB = true) (h : Q .normal a w) : Exit.inBlock id Q (AX.exit id).toExit a w := by
  rw [AX.toExit_plain hJ]
  simp only [Exit.inBlock, if_true]
  exact h
theorem block_other {Q : Exit → Act → World → Prop} {id id' : Nat} {a : Act} {w : World} (_ : Nat.blt id jB = true) (hne : id' ≠ id) (h : Q (AX.exit id').toExit a w) : Exit.inBlock id Q (AX.exit id').toExit a w := by
  unfold AX.toExit at h ⊢
  cases hb : Nat.blt id' jB with
  | true =>
    simp only [hb] at h ⊢
    simp only [Exit.inBlock, hne, if_false]
    exact h
  | false =>
    simp only [hb] at h ⊢
    exact h

theorem headLabel_some {c : Code} {l : Nat} (h : headLabel c = some l) : ∃ b, c = .seq (.label l) b := by
  unfold headLabel at h
  split at h
  · cases h; exact ⟨_, rfl⟩
  · cases h

theorem okExits_spec {call : CallF} {m l : Nat} : ∀ (c : ACode) (fr fr' : List AV) (σ σ' : AHeap) (id : Nat), okExits l c = true → evCode call m c fr σ = some (.exit id, fr', σ') → Nat.blt id jB = true ∨ id = jB + l := by
  intro c
  induction c with
  | exit id =>
    intro fr fr' σ σ' id' hok he
    cases he
    simp only [okExits, Bool.or_eq_true] at hok
    exact hok.imp (fun h => h) Nat.eq_of_beq_eq_true
  | seq c1 c2 ih1 ih2 =>
    intro fr fr' σ σ' id hok he
    simp only [okExits, Bool.and_eq_true] at hok
    simp only [evCode] at he
    split at he
    · exact ih2 _ _ _ _ _ hok.2 he
    · exact ih1 _ _ _ _ _ hok.1 he
  | cond b c1 c2 ih1 ih2 =>
    intro fr fr' σ σ' id hok he
    simp only [okExits, Bool.and_eq_true] at hok
    simp only [evCode] at he
    split at he
    · exact ih1 _ _ _ _ _ hok.1 he
    · exact ih2 _ _ _ _ _ hok.2 he
    · cases he
  | block i c ih =>
    intro fr fr' σ σ' id hok he
    simp only [okExits] at hok
    simp only [evCode] at he
    split at he
    · rename_i id' fr1 σ1 hin
      split at he
      · cases he
      · cases he
        exact ih _ _ _ _ _ hok hin
    · rename_i hne
      exact absurd he (hne _ _ _)
  | loop c ih =>
    intro fr fr' σ σ' id hok he
    simp only [okExits] at hok
    simp only [evCode] at he
    have key : ∀ (k : Nat) (fr : List AV) (σ : AHeap), evLoop (evCode call m c) k fr σ = some (.exit id, fr', σ') → Nat.blt id jB = true ∨ id = jB + l := by
      intro k
      induction k with
      | zero => intro fr σ h; cases h
      | succ k ihk =>
        intro fr σ h
        simp only [evLoop] at h
        split at h
        · exact ihk _ _ h
        · exact ih _ _ _ _ _ hok h
    exact key m fr σ he
  | region ops =>
    intro fr fr' σ σ' id hok he
    simp only [evCode] at he
    split at he <;> cases he
  | draw ops pairs =>
    intro fr fr' σ σ' id hok he
    simp only [evCode] at he
    split at he <;> cases he
  | skip => intro fr fr' σ σ' id hok he; cases he
  | ret => intro fr fr' σ σ' id hok he; cases he
  | bad => intro fr fr' σ σ' id hok he; cases he

/-- A scope that is entered again at its first label, so many times. -/
def ScopeR (P : Program) (r : Option Nat) (l : Nat) (b : Code) (Q : Exit → Act → World → Prop) : Nat → Act → World → Prop
  | 0, _, _ => False
  | n + 1, a, w => b.wpIn (fen r) 0 P (fun e a' w' => match e with
    | .goto l' => l' = l ∧ ScopeR P r l b Q n a' w'
    | e => Q e a' w') a w
theorem ScopeR.mono {r : Option Nat} {l : Nat} {b : Code} {Q Q' : Exit → Act → World → Prop} (hq : ∀ e a w, Q e a w → Q' e a w) : ∀ {n : Nat} {a : Act} {w : World}, ScopeR P r l b Q n a w → ScopeR P r l b Q' n a w
  | 0, _, _, h => h.elim
  | n + 1, a, w, h => by
    unfold ScopeR at h ⊢
    refine wpIn_mono h (fun e a w h => ?_)
    cases e with
    | goto l' => exact ⟨h.1, ScopeR.mono hq h.2⟩
    | normal => exact hq _ _ _ h
    | exit id => exact hq _ _ _ h
    | ret => exact hq _ _ _ h
    | panic ch => exact hq _ _ _ h
    | outgrown => exact hq _ _ _ h
theorem stepR_inScope {b : Frame} {a : Act} {k : List Item} {cs : List Frame} {w : World} {c : Code} : step P (lone (b.atR a (.inScope c :: k)) cs w) = .next (lone (b.atR a k) cs w) :=
  step_lone_go (by simp [stepG, stepG.exec, Frame.atR])
theorem stepR_scope {b : Frame} {a : Act} {k : List Item} {cs : List Frame} {w : World} {c : Code} : step P (lone (b.atR a (.code (.scope c) :: k)) cs w) = .next (lone (b.atR a (.code c :: .inScope c :: k)) cs w) :=
  step_lone_go (by simp [stepG, stepG.exec, Frame.atR])
theorem wpIn_scope_rounds {r : Option Nat} {l : Nat} {b : Code} {Q : Exit → Act → World → Prop} (n : Nat) {a : Act} {w : World} (h : ScopeR P r l b Q n a w) : (Code.scope (.seq (.label l) b)).wpIn (fen r) 0 P Q a w := by
  intro b0 k cs hro hb hr
  have key : ∀ (n : Nat) (a : Act) (w : World), ScopeR P r l b Q n a w →
      ∃ e a' w', Q e a' w' ∧ ArrivesIn (Machine.fenced P (fen r)) P (lone (b0.atR a (.code b :: .inScope (.seq (.label l) b) :: k)) cs w) b0 k cs e a' w' := by
    intro n
    induction n with
    | zero => intro a w h; exact h.elim
    | succ n ih =>
      intro a w h
      unfold ScopeR at h
      obtain ⟨e, a1, w1, hq, harr⟩ := h b0 (.inScope (.seq (.label l) b) :: k) cs hro hb hr
      cases e with
      | normal => exact ⟨.normal, a1, w1, hq, StepsIn.trans harr (.one (fenced_calm hb hr rfl) stepR_inScope)⟩
      | exit id =>
        have hx : exitTo id (.inScope (.seq (.label l) b) :: k) = exitTo id k := by simp [exitTo]
        exact ⟨.exit id, a1, w1, hq, fun k' hk => harr.1 k' (by rw [hx]; exact hk), fun hr' hk => harr.2 hr' (by rw [hx]; exact hk)⟩
      | goto l' =>
        obtain ⟨rfl, hs⟩ := hq
        obtain ⟨e2, a2, w2, q2, r2⟩ := ih a1 w1 hs
        have hg : gotoIn l' (.inScope (.seq (.label l') b) :: k) = some (.code (.seq .skip b) :: .inScope (.seq (.label l') b) :: k) := by simp [gotoIn, findLabel]
        exact ⟨e2, a2, w2, q2, ArrivesIn.of_steps (StepsIn.trans (harr.1 _ hg) (.head (fenced_calm hb hr rfl) stepR_seq (.one (fenced_calm hb hr rfl) stepR_skip))) r2⟩
      | ret => exact ⟨.ret, a1, w1, hq, harr⟩
      | panic ch => exact ⟨.panic ch, a1, w1, hq, harr⟩
      | outgrown => exact ⟨.outgrown, a1, w1, hq, harr⟩
  obtain ⟨e, a1, w1, hq, harr⟩ := key n a w h
  exact ⟨e, a1, w1, hq, ArrivesIn.of_steps (.head (fenced_calm hb hr rfl) stepR_scope (.head (fenced_calm hb hr rfl) stepR_seq (.one (fenced_calm hb hr rfl) stepR_label))) harr⟩

/-- What a block makes of an end. -/
def outA (J : Nat) : AX → AX
  | .exit id => match Nat.beq id J with
    | true => .normal
    | false => .exit id
  | y => y
theorem again_sound {call : CallF} {m l : Nat} {b : Code} {b' : ACode} (hb : SoundC D P call m b) (h2 : compCode P b = some b') (hok : okExits l b' = true) (n : Nat)
    {fr fr' : List AV} {σ σ' : AHeap} {x : AX} (he : evCode call m (againA l (.seq .skip b')) fr σ = some (x, fr', σ')) {ρ : Loc} {a : Act} {w : World} (hf : FR ρ fr a.tmps) (hd : a.defers = D) (hr : HR ρ σ.get w) (r : Option Nat) :
    (Code.scope (.seq (.label l) b)).wpIn (fen r) 0 P (EndsAt D ρ σ w x.toExit fr' σ') a w := by
  have hJ : ∀ id, Nat.blt id jB = true → id < jB := fun id h => by rw [Nat.blt_eq] at h; exact h
  -- the loop's end, as the whole's
  have key : ∀ (k : Nat) (y : AX) (fr : List AV) (σ : AHeap) (ρ : Loc) (a : Act) (w : World),
      evLoop (evCode call m (.block (jB + l) (.seq (.seq .skip b') (.exit (jB + jB + l))))) k fr σ = some (y, fr', σ') → FR ρ fr a.tmps → a.defers = D → HR ρ σ.get w →
      ∃ z : AX, outA (jB + jB + l) y = z ∧ ScopeR P r l b (EndsAt D ρ σ w z.toExit fr' σ') k a w := by
    intro k
    induction k with
    | zero => intro y fr σ ρ a w h; cases h
    | succ k ihk =>
      intro y fr σ ρ a w h hf hd hr
      refine ⟨_, rfl, ?_⟩
      unfold ScopeR
      cases hz : evCode call m b' fr σ with
      | none => simp only [evLoop, evCode, hz] at h; cases h
      | some q =>
        obtain ⟨z, fr1, σ1⟩ := q
        have hw := hb b' fr fr1 σ σ1 z h2 hz ρ a w hf hd hr r
        cases z with
        | normal =>
          have hne : Nat.beq (jB + jB + l) (jB + l) = false := by
            rw [Bool.eq_false_iff]; intro e; have := Nat.eq_of_beq_eq_true e; unfold jB at this; omega
          simp only [evLoop, evCode, hz, hne] at h
          cases h
          simp only [outA, Nat.beq_refl]
          refine wpIn_mono hw ?_
          rintro e a' w' ⟨rfl, q⟩
          exact ⟨rfl, q⟩
        | exit id =>
          rcases okExits_spec b' _ _ _ _ _ hok hz with hid | rfl
          · have hlt := hJ id hid
            have hne : Nat.beq id (jB + l) = false := by
              rw [Bool.eq_false_iff]; intro e; have := Nat.eq_of_beq_eq_true e; omega
            have hne2 : Nat.beq id (jB + jB + l) = false := by
              rw [Bool.eq_false_iff]; intro e; have := Nat.eq_of_beq_eq_true e; omega
            simp only [evLoop, evCode, hz, hne] at h
            cases h
            simp only [outA, hne2]
            refine wpIn_mono hw ?_
            rintro e a' w' ⟨rfl, q⟩
            rw [AX.toExit_plain hid]
            exact ⟨rfl, q⟩
          · simp only [evLoop, evCode, hz, Nat.beq_refl] at h
            refine wpIn_mono hw ?_
            rintro e a' w' ⟨rfl, hd', ρ', hp, hf'⟩
            rw [AX.toExit_goto]
            refine ⟨rfl, ?_⟩
            obtain ⟨z2, e2, hs⟩ := ihk y fr1 σ1 ρ' a' w' h hf' hd' hp.hr
            rw [e2]
            refine ScopeR.mono ?_ hs
            rintro e a2 w2 ⟨rfl, hd2, ρ2, hp2, hf2⟩
            exact ⟨rfl, hd2, ρ2, hp.trans hp2, hf2⟩
        | ret =>
          simp only [evLoop, evCode, hz] at h
          cases h
          refine wpIn_mono hw ?_
          rintro e a' w' ⟨rfl, q⟩
          exact ⟨rfl, q⟩
  unfold againA at he
  rw [evCode] at he
  cases hl : evLoop (evCode call m (.block (jB + l) (.seq (.seq .skip b') (.exit (jB + jB + l))))) m fr σ with
  | none =>
    have : evCode call m (.loop (.block (jB + l) (.seq (.seq .skip b') (.exit (jB + jB + l))))) fr σ = none := by rw [evCode]; exact hl
    rw [this] at he
    cases he
  | some q0 =>
    obtain ⟨y, fr1, σ1⟩ := q0
    have hl' : evCode call m (.loop (.block (jB + l) (.seq (.seq .skip b') (.exit (jB + jB + l))))) fr σ = some (y, fr1, σ1) := by rw [evCode]; exact hl
    rw [hl'] at he
    have hfr : fr1 = fr' ∧ σ1 = σ' ∧ outA (jB + jB + l) y = x := by
      cases y with
      | normal => cases he; exact ⟨rfl, rfl, rfl⟩
      | ret => cases he; exact ⟨rfl, rfl, rfl⟩
      | exit id =>
        simp only [outA] at he ⊢
        cases hq : Nat.beq id (jB + jB + l) <;> rw [hq] at he <;> cases he <;> exact ⟨rfl, rfl, rfl⟩
    obtain ⟨rfl, rfl, hx⟩ := hfr
    obtain ⟨z, e, hs⟩ := key m y fr σ ρ a w hl hf hd hr
    rw [hx] at e
    subst e
    exact wpIn_scope_rounds m hs

theorem code_sound2 [IsProg P] {call : CallF} (hcall : CallAny P call) (hdraw : DrawSound D P call) (m : Nat) : ∀ (c : Code), SoundC D P call m c ∧ ∀ l b, c = .seq (.label l) b → SoundC D P call m b := by
  intro c
  induction c with
  | skip =>
    refine ⟨?_, fun _ _ e => by cases e⟩
    intro ac fr fr' σ σ' x hc he ρ a w hf hd hr r
    cases hc; cases he
    exact wpIn_skip ⟨rfl, hd, ρ, Post.refl hr, hf⟩
  | region id ops draw =>
    refine ⟨?_, fun _ _ e => by cases e⟩
    intro ac fr fr' σ σ' x hc he ρ a w hf hd hr r
    simp only [compCode] at hc
    cases draw with
    | false =>
      simp only at hc
      split at hc
      · rename_i l hl
        cases hc
        simp only [evCode] at he
        split at he
        · rename_i fr1 σ1 hops
          cases he
          exact region_sound hcall hl hf hr hops (fun a' w' ρ' h1 h2 h3 => ⟨rfl, by rw [h1]; exact hd, ρ', h2, h3⟩)
        · cases he
      · cases hc; cases he
    | true =>
      simp only at hc
      split at hc
      · rename_i l hl
        split at hc
        · rename_i c hcd
          cases hc
          obtain ⟨rfl, h⟩ := hdraw r id ops l _ fr fr' σ σ' m x ρ a w hl hcd he hf hd hr
          exact h
        · cases hc; cases he
      · cases hc; cases he
  | seq c1 c2 ih1 ih2 =>
    refine ⟨?_, fun _ _ e => by cases e; exact ih2.1⟩
    intro ac fr fr' σ σ' x hc he ρ a w hf hd hr r
    simp only [compCode] at hc
    split at hc
    · rename_i a1 a2 h1 h2
      cases hc
      simp only [evCode] at he
      split at he
      · rename_i fr1 σ1 hfirst
        refine wpIn_seq (wpIn_mono (ih1.1 _ _ _ _ _ _ h1 hfirst ρ a w hf hd hr r) ?_)
        rintro e a' w' ⟨rfl, hd', ρ', hp, hf'⟩
        simp only [AX.toExit, Exit.then]
        refine wpIn_mono (ih2.1 _ _ _ _ _ _ h2 he ρ' a' w' hf' hd' hp.hr r) ?_
        rintro e a2 w2 ⟨rfl, hd2, ρ2, hp2, hf2⟩
        exact ⟨rfl, hd2, ρ2, hp.trans hp2, hf2⟩
      · rename_i hnn
        refine wpIn_seq (wpIn_mono (ih1.1 _ _ _ _ _ _ h1 he ρ a w hf hd hr r) ?_)
        rintro e a' w' ⟨rfl, hd', ρ', hp, hf'⟩
        cases x with
        | normal => exact absurd he (hnn _ _)
        | exit id => exact then_exit ⟨rfl, hd', ρ', hp, hf'⟩
        | ret => exact ⟨rfl, hd', ρ', hp, hf'⟩
    · cases hc
  | cond b c1 c2 ih1 ih2 =>
    refine ⟨?_, fun _ _ e => by cases e⟩
    intro ac fr fr' σ σ' x hc he ρ a w hf hd hr r
    simp only [compCode] at hc
    split at hc
    · rename_i b' a1 a2 h0 h1 h2
      cases hc
      simp only [evCode] at he
      have k1 := opd_rel h0 hf
      split at he
      · rename_i e
        rw [e] at k1
        have e2 : a.eval b = .bool true := by
          cases k1 with
          | one k1 => generalize a.eval b = u at k1; cases k1; rfl
        exact wpIn_cond_true e2 (ih1.1 _ _ _ _ _ _ h1 he ρ a w hf hd hr r)
      · rename_i e
        rw [e] at k1
        have e2 : a.eval b = .bool false := by
          cases k1 with
          | one k1 => generalize a.eval b = u at k1; cases k1; rfl
        exact wpIn_cond_false e2 (ih2.1 _ _ _ _ _ _ h2 he ρ a w hf hd hr r)
      · cases he
    · cases hc; cases he
  | block id c ih =>
    refine ⟨?_, fun _ _ e => by cases e⟩
    intro ac fr fr' σ σ' x hc he ρ a w hf hd hr r
    simp only [compCode] at hc
    split at hc
    · rename_i a1 hJ h1
      cases hc
      simp only [evCode] at he
      split at he
      · rename_i id' fr1 σ1 hin
        refine wpIn_block (wpIn_mono (ih.1 _ _ _ _ _ _ h1 hin ρ a w hf hd hr r) ?_)
        rintro e a' w' ⟨rfl, hd', ρ', hp, hf'⟩
        split at he
        · rename_i hid
          cases he
          obtain rfl := Nat.eq_of_beq_eq_true hid
          exact block_same hJ ⟨rfl, hd', ρ', hp, hf'⟩
        · rename_i hid
          cases he
          exact block_other hJ (fun e => by subst e; simp at hid) ⟨rfl, hd', ρ', hp, hf'⟩
      · rename_i hne
        refine wpIn_block (wpIn_mono (ih.1 _ _ _ _ _ _ h1 he ρ a w hf hd hr r) ?_)
        rintro e a' w' ⟨rfl, hd', ρ', hp, hf'⟩
        cases x with
        | normal => exact ⟨rfl, hd', ρ', hp, hf'⟩
        | exit id' => exact absurd he (hne _ _ _)
        | ret => exact ⟨rfl, hd', ρ', hp, hf'⟩
    · cases hc
  | loop c ih =>
    refine ⟨?_, fun _ _ e => by cases e⟩
    intro ac fr fr' σ σ' x hc he ρ a w hf hd hr r
    simp only [compCode] at hc
    split at hc
    · rename_i a1 h1
      cases hc
      simp only [evCode] at he
      have key : ∀ (k : Nat) (fr : List AV) (σ : AHeap) (ρ : Loc) (a : Act) (w : World), evLoop (evCode call m a1) k fr σ = some (x, fr', σ') → FR ρ fr a.tmps → a.defers = D → HR ρ σ.get w →
          Code.roundsIn (fen r) 0 P c (EndsAt D ρ σ w x.toExit fr' σ') k a w := by
        intro k
        induction k with
        | zero => intro fr σ ρ a w he; cases he
        | succ k ihk =>
          intro fr σ ρ a w he hf hd hr
          simp only [evLoop] at he
          rw [roundsIn_succ]
          split at he
          · rename_i fr1 σ1 hbody
            refine wpIn_mono (ih.1 _ _ _ _ _ _ h1 hbody ρ a w hf hd hr r) ?_
            rintro e a' w' ⟨rfl, hd', ρ', hp, hf'⟩
            simp only [AX.toExit, Exit.then]
            have := ihk fr1 σ1 ρ' a' w' he hf' hd' hp.hr
            refine rounds_mono ?_ this
            rintro e a2 w2 ⟨rfl, hd2, ρ2, hp2, hf2⟩
            exact ⟨rfl, hd2, ρ2, hp.trans hp2, hf2⟩
          · rename_i hnn
            refine wpIn_mono (ih.1 _ _ _ _ _ _ h1 he ρ a w hf hd hr r) ?_
            rintro e a' w' ⟨rfl, hd', ρ', hp, hf'⟩
            cases x with
            | normal => exact absurd he (hnn _ _)
            | exit id => exact then_exit ⟨rfl, hd', ρ', hp, hf'⟩
            | ret => exact ⟨rfl, hd', ρ', hp, hf'⟩
      exact wpIn_loop_rounds m (key m fr σ ρ a w he hf hd hr)
    · cases hc
  | exit id =>
    refine ⟨?_, fun _ _ e => by cases e⟩
    intro ac fr fr' σ σ' x hc he ρ a w hf hd hr r
    simp only [compCode] at hc
    split at hc
    · rename_i hJ
      cases hc; cases he
      rw [AX.toExit_plain hJ]
      exact wpIn_exit ⟨rfl, hd, ρ, Post.refl hr, hf⟩
    · cases hc; cases he
  | goto l =>
    refine ⟨?_, fun _ _ e => by cases e⟩
    intro ac fr fr' σ σ' x hc he ρ a w hf hd hr r
    cases hc; cases he
    rw [AX.toExit_goto]
    exact wpIn_goto ⟨rfl, hd, ρ, Post.refl hr, hf⟩
  | label l =>
    refine ⟨?_, fun _ _ e => by cases e⟩
    intro ac fr fr' σ σ' x hc he ρ a w hf hd hr r
    cases hc; cases he
    exact wpIn_label ⟨rfl, hd, ρ, Post.refl hr, hf⟩
  | scope c ih =>
    refine ⟨?_, fun _ _ e => by cases e⟩
    intro ac fr fr' σ σ' x hc he ρ a w hf hd hr r
    simp only [compCode] at hc
    split at hc
    · rename_i l a1 hl h1
      split at hc
      · rename_i hok
        cases hc
        obtain ⟨b, rfl⟩ := headLabel_some hl
        have hb := ih.2 l b rfl
        simp only [compCode] at h1
        split at h1
        · rename_i s0 b' e0 h2
          cases h1; cases e0
          have hokb : okExits l b' = true := by simpa [okExits] using hok
          exact again_sound hb h2 hokb m he hf hd hr r
        · cases h1
      · cases hc; cases he
    · cases hc; cases he
  | ret =>
    refine ⟨?_, fun _ _ e => by cases e⟩
    intro ac fr fr' σ σ' x hc he ρ a w hf hd hr r
    cases hc; cases he
    exact wpIn_ret ⟨rfl, hd, ρ, Post.refl hr, hf⟩
  | _ =>
    refine ⟨?_, fun _ _ e => by cases e⟩
    intro ac fr fr' σ σ' x hc he
    simp only [compCode, Option.some.injEq] at hc
    subst hc
    cases he

theorem code_sound [IsProg P] {call : CallF} (hcall : CallAny P call) (hdraw : DrawSound D P call) (m : Nat) : ∀ (c : Code) (ac : ACode) (fr fr' : List AV) (σ σ' : AHeap) (x : AX),
    compCode P c = some ac → evCode call m ac fr σ = some (x, fr', σ') → ∀ (ρ : Loc) (a : Act) (w : World), FR ρ fr a.tmps → a.defers = D → HR ρ σ.get w → ∀ r : Option Nat,
    c.wpIn (fen r) 0 P (EndsAt D ρ σ w x.toExit fr' σ') a w :=
  fun c => (code_sound2 hcall hdraw m c).1

/-! ### answers that name no object -/
mutual
theorem SR.loMove {ρ ρ' : Loc} {n : Nat} (ha : ∀ id, id < n → ρ' id = ρ id) (hf : ∀ b o v, ρ.fz b o = some v → ρ'.fz b o = some v) : ∀ {s : SV} {v : Value}, s.lo n = true → SR ρ s v → SR ρ' s v
  | _, _, _, .bool b => .bool b
  | _, _, _, .int k n => .int k n
  | _, _, _, .str s => .str s
  | _, _, h, .ptr k => .ptr (by rw [ha _ (by simpa [SV.lo, Nat.blt_eq] using h)]; exact k)
  | _, _, _, .nilPtr => .nilPtr
  | _, _, h, .slice k h1 h2 h3 h4 h5 => .slice (by rw [ha _ (by simpa [SV.lo, Nat.blt_eq] using h)]; exact k) h1 h2 h3 h4 h5
  | _, _, h, .slice0 k h2 h4 h5 => .slice0 (by rw [ha _ (by simpa [SV.lo, Nat.blt_eq] using h)]; exact k) h2 h4 h5
  | _, _, _, .nilSlice => .nilSlice
  | _, _, h, .func hN k => .func hN (SRs.loMove ha hf (by simp only [SV.lo, Bool.and_eq_true] at h; exact h.2) k)
  | _, _, h, .yld hg _ => absurd (show _ from h) (by simp only [SV.lo, Bool.and_eq_true]; rintro ⟨h, _⟩; have := blt_lt h; omega)
  | _, _, _, .nilFunc => .nilFunc
  | _, _, h, .iface1 k => .iface1 (SR.loMove ha hf (by simpa [SV.lo, loL] using h) k)
  | _, _, h, .ifaceA k => .ifaceA (SRs.loMove ha hf (by simpa [SV.lo] using h) k)
  | _, _, _, .nilIface => .nilIface
  | _, _, h, .lst k h0 hE hc hz => .lst (SRss.loMove ha hf (by simpa [SV.lo] using h) k) h0 hE hc (fun j v hj => hf _ _ _ (hz j v hj))
  | _, _, _, .hnd => .hnd
  | _, _, h, .lstx k h0 hE hz => .lstx (SRss.loMove ha hf (by simpa [SV.lo] using h) k) h0 hE (fun j v hj => hf _ _ _ (hz j v hj))
  | _, _, _, .lst0 => .lst0
  | _, _, _, .lstNil => .lstNil
  | _, _, h, .fptr k hz => .fptr (SRs.loMove ha hf (by simpa [SV.lo] using h) k) (fun j v hj => hf _ _ _ (hz j v hj))
  | _, _, _, .emp0 => .emp0
  | _, _, _, .empNil => .empNil
  | _, _, h, .map k => .map (by rw [ha _ (by simpa [SV.lo, Nat.blt_eq] using h)]; exact k)
  | _, _, _, .nilMap => .nilMap
  | _, _, h, .meth hN k hm => .meth hN (SR.loMove ha hf (by simpa [SV.lo] using h) k) hm
theorem SRss.loMove {ρ ρ' : Loc} {n : Nat} (ha : ∀ id, id < n → ρ' id = ρ id) (hf : ∀ b o v, ρ.fz b o = some v → ρ'.fz b o = some v) : ∀ {l : List (List SV)} {vs : List (List Value)}, loE n l = true → SRss ρ l vs → SRss ρ' l vs
  | _, _, _, .nil => .nil
  | _, _, h, .cons k t => by
    simp only [loE, Bool.and_eq_true] at h
    exact .cons (SRs.loMove ha hf h.1 k) (SRss.loMove ha hf h.2 t)
theorem SRs.loMove {ρ ρ' : Loc} {n : Nat} (ha : ∀ id, id < n → ρ' id = ρ id) (hf : ∀ b o v, ρ.fz b o = some v → ρ'.fz b o = some v) : ∀ {l : List SV} {vs : List Value}, loL n l = true → SRs ρ l vs → SRs ρ' l vs
  | _, _, _, .nil => .nil
  | _, _, h, .cons k t => by
    simp only [loL, Bool.and_eq_true] at h
    exact .cons (SR.loMove ha hf h.1 k) (SRs.loMove ha hf h.2 t)
end

theorem chunks_length (esz : Nat) : ∀ (n : Nat) (l : List SV), (chunks esz n l).length = n
  | 0, _ => rfl
  | n + 1, l => by simp [chunks, chunks_length esz n]

theorem chunks_rel {ρ : Loc} (esz : Nat) : ∀ (n : Nat) (l : List SV) (vs : List Value), SRs ρ l vs → n * esz ≤ l.length → ∃ vss, SRss ρ (chunks esz n l) vss ∧ (∀ e ∈ chunks esz n l, e.length = esz) ∧ ∀ (j : Nat) (v : Value), vss.flatten[j]? = some v → vs[j]? = some v
  | 0, l, vs, h, hl => ⟨[], .nil, by simp [chunks], by simp⟩
  | n + 1, l, vs, h, hl => by
    rw [Nat.succ_mul] at hl
    have hlen := h.length
    obtain ⟨vss, h1, h2, h3⟩ := chunks_rel esz n (l.drop esz) (vs.drop esz) (h.drop esz) (by simp; omega)
    refine ⟨vs.take esz :: vss, .cons (h.take esz) h1, ?_, fun j v hj => ?_⟩
    · intro e he
      simp only [chunks] at he
      rcases List.mem_cons.1 he with rfl | he
      · simp; omega
      · exact h2 e he
    · rw [List.flatten_cons, List.getElem?_append] at hj
      split at hj
      · rw [List.getElem?_take] at hj
        split at hj
        · exact hj
        · cases hj
      · rename_i hge
        have := h3 _ v hj
        rw [List.getElem?_drop] at this
        simp only [List.length_take] at this hge
        have e : min esz vs.length = esz := by omega
        rw [e] at this hge
        rwa [show esz + (j - esz) = j by omega] at this

section
variable {ρ ρ1 : Loc} {σ σ1 : AHeap} {w w1 : World}

/-- Where nothing of a call is known any more but the cells that nobody writes. -/
def Loc.froze (ρ : Loc) (w w1 : World) : Loc := ⟨ρ.at_, fun b o => if w.heap.size ≤ b then w1.cell? ⟨b, o, none⟩ else ρ.fz b o⟩

/-- What was there may have been written, by what names nothing new. -/
def GcOk (σ σ1 : AHeap) : Prop := ∀ id, id < σ.size → σ1.get id = σ.get id ∨ ∃ cs, σ1.get id = some ⟨cs, .own⟩ ∧ loL σ.size cs = true

theorem froze_fz (hr : HR ρ σ.get w) (hp : Post ρ σ w ρ1 σ1 w1) (hk : GcOk σ σ1) : ∀ b o v, ρ1.fz b o = some v → (ρ.froze w w1).fz b o = some v := by
  intro b o v hv
  show (if w.heap.size ≤ b then w1.cell? ⟨b, o, none⟩ else ρ.fz b o) = some v
  by_cases hb : w.heap.size ≤ b
  · rw [if_pos hb]; exact (hp.hr.frz b o v hv).1
  · rw [if_neg hb]
    rcases hp.fz b o v hv with h | h | ⟨id, B, ob, k1, k2, k3, k4⟩
    · exact h
    · exact absurd h hb
    · refine absurd ?_ (hp.hr.frz b o v hv).2
      rcases hk id (hr.lt k1) with e | ⟨cs, e, _⟩
      · exact ⟨id, B, ob, hp.le.at_ _ _ k1, by rw [e]; exact k2, k3, k4⟩
      · exact ⟨id, B, _, hp.le.at_ _ _ k1, e, rfl, k4⟩

theorem froze_at (hp : Post ρ σ w ρ1 σ1 w1) : ∀ id, id < σ.size → (ρ.froze w w1) id = ρ1 id := fun id hid => (hp.old id hid).symm

theorem Post.gc (hr : HR ρ σ.get w) (hp : Post ρ σ w ρ1 σ1 w1) (hk : GcOk σ σ1) {τ : AHeap} (hsz : τ.size = σ.size) (hget : ∀ id, id < σ.size → τ.get id = σ1.get id) : Post ρ σ w (ρ.froze w w1) τ w1 := by
  have hfz := froze_fz hr hp hk
  have hold : ∀ b o v, ρ.fz b o = some v → (ρ.froze w w1).fz b o = some v := fun b o v h => hfz b o v (hp.le.fz b o v h)
  have hblock : ∀ id B, ρ id = some B → B.b < w.heap.size := fun id B hB => by
    obtain ⟨_, _, _, h⟩ := hr.dom id B hB
    exact h
  exact {
    le := ⟨fun _ _ h => h, hold⟩
    size := by omega
    new := fun id h1 h2 => absurd h2 (by omega)
    old := fun _ _ => rfl
    dom := fun id B hB => by have := hr.lt (show ρ id = some B from hB); omega
    same := fun id h1 h2 => by rw [hget id h1]; exact hp.same id h1 h2
    md := fun id B o' h1 h2 h3 => by
      rw [hget id (hr.lt h1)] at h2
      exact hp.md id B o' h1 h2 h3
    md' := fun id B o h1 h2 h3 => by
      obtain ⟨o', k1, k2⟩ := hp.md' id B o h1 h2 h3
      exact ⟨o', by rw [hget id (hr.lt h1)]; exact k1, k2⟩
    hr := {
      dom := fun id B hB => by
        have hB : ρ id = some B := hB
        have hlt := hr.lt hB
        obtain ⟨o', k1, k2, k3⟩ := hp.hr.dom id B (hp.le.at_ id B hB)
        refine ⟨o', by rw [hget id hlt]; exact k1, ⟨k2.len, k2.fit, fun hd => ?_, k2.own, fun mc es he => ?_, k2.tg, fun he => ?_⟩, k3⟩
        · obtain ⟨vs, q1, q2⟩ := k2.holds hd
          refine ⟨vs, ?_, q2⟩
          rcases hk id hlt with h | ⟨o2, h1, h2⟩
          · obtain ⟨o, g1, g2, _⟩ := hr.dom id B hB
            rw [h, g1] at k1
            cases k1
            obtain ⟨us, q3, _⟩ := g2.holds hd
            exact q1.move ⟨fun i B' hB' => froze_at hp i (hr.lt hB'), hfz⟩ q3
          · rw [h1] at k1; cases k1
            exact q1.loMove (froze_at hp) hfz h2
        · rcases hk id hlt with h | ⟨o2, h1, _⟩
          · obtain ⟨o, g1, g2, _⟩ := hr.dom id B hB
            rw [h, g1] at k1
            cases k1
            obtain ⟨en, q1, q2⟩ := k2.mp mc es he
            obtain ⟨en', _, q3⟩ := g2.mp mc es he
            exact ⟨en, q1, q2.move ⟨fun i B' hB' => froze_at hp i (hr.lt hB'), hfz⟩ q3⟩
          · rw [h1] at k1; cases k1
            cases he
        · rcases hk id hlt with h | ⟨o2, h1, _⟩
          · obtain ⟨o, g1, g2, _⟩ := hr.dom id B hB
            rw [h, g1] at k1
            cases k1
            exact LoopOk.mix (⟨fun _ _ h => h, hold⟩ : ρ.le (ρ.froze w w1)) (k2.lp he) (g2.lp he)
          · rw [h1] at k1; cases k1
            cases he
      excl := fun i j B B' o o' h1 h2 h3 h4 hne h5 h6 => by
        have h1 : ρ i = some B := h1
        have h2 : ρ j = some B' := h2
        rw [hget i (hr.lt h1)] at h3
        rw [hget j (hr.lt h2)] at h4
        exact hp.hr.excl i j B B' o o' (hp.le.at_ _ _ h1) (hp.le.at_ _ _ h2) h3 h4 hne h5 h6
      frz := fun b o v hv => by
        have hv : (if w.heap.size ≤ b then w1.cell? ⟨b, o, none⟩ else ρ.fz b o) = some v := hv
        split at hv
        · rename_i hb
          refine ⟨hv, ?_⟩
          rintro ⟨id, B, o', h1, h2, h3, h4⟩
          have := hblock id B h1
          omega
        · obtain ⟨h1, h2⟩ := hp.hr.frz b o v (hp.le.fz b o v hv)
          refine ⟨h1, ?_⟩
          rintro ⟨id, B, o', k1, k2, k3, k4⟩
          have k1 : ρ id = some B := k1
          rw [hget id (hr.lt k1)] at k2
          exact h2 ⟨id, B, o', hp.le.at_ _ _ k1, k2, k3, k4⟩
      gl := hr.gl.mono hold
      rows := hp.hr.rows }
    hsize := hp.hsize
    frame := hp.frame
    fresh := fun id B h1 h2 => absurd (hr.lt (show ρ id = some B from h2)) (by omega)
    fz := fun b o v hv => by
      have hv : (if w.heap.size ≤ b then w1.cell? ⟨b, o, none⟩ else ρ.fz b o) = some v := hv
      split at hv
      · rename_i hb; exact .inr (.inl hb)
      · exact .inl hv
    os := hp.os
    tape := hp.tape
    output := hp.output }

theorem cutTo_get {σ : AHeap} {n id : Nat} (h : id < n) (hn : n ≤ σ.size) : (σ.cutTo n).get id = σ.get id := by
  unfold AHeap.cutTo AHeap.get
  have h1 : Nat.blt id n = true := by simpa [Nat.blt_eq] using h
  have h2 : Nat.blt id σ.size = true := by simp [Nat.blt_eq]; omega
  simp only [h1, h2]

theorem frzS_rel (hr : HR ρ σ.get w) (hp : Post ρ σ w ρ1 σ1 w1) (hk : GcOk σ σ1) {s s' : SV} {v : Value} (hf : frzS σ.size σ1 s = some s') (hs : SR ρ1 s v) : SR (ρ.froze w w1) s' v := by
  have hfz := froze_fz hr hp hk
  unfold frzS at hf
  split at hf
  · rename_i id off esz len cap
    split at hf
    · rename_i cs hid hcs
      split at hf
      · rename_i hb
        cases hf
        have hid' : σ.size ≤ id := Nat.le_of_ble_eq_true hid
        have hb' : off + len * esz ≤ cs.length ∧ loL σ.size ((cs.drop off).take (len * esz)) = true := by simpa using hb
        cases hs with
        | slice hB h1 h2 h3 h4 h5 =>
          rename_i c B
          obtain ⟨o', k1, k2, k3⟩ := hp.hr.dom id B hB
          rw [hcs] at k1; cases k1
          obtain ⟨vs, q1, q2⟩ := k2.holds (by simp)
          have hblk : w.heap.size ≤ B.b := by
            rcases hp.fresh id B hid' hB with h | ⟨j, B', o', g1, g2, g3, g4⟩
            · exact h
            · have hj := hr.lt g1
              have : ∃ o2, σ1.get j = some o2 ∧ o2.md.owns = true := by
                rcases hk j hj with h | ⟨cs2, h, _⟩
                · exact ⟨o', by rw [h]; exact g2, g3⟩
                · exact ⟨_, h, rfl⟩
              obtain ⟨o2, m1, m2⟩ := this
              exact absurd g4 (hp.hr.excl j id B' B o2 _ (hp.le.at_ _ _ g1) hB m1 hcs (by omega) m2 (by simp))
          have hcr : SRs (ρ.froze w w1) ((cs.drop off).take (len * esz)) ((vs.drop off).take (len * esz)) := SRs.loMove (froze_at hp) hfz hb'.2 ((q1.drop off).take _)
          obtain ⟨vss, r1, r2, r3⟩ := chunks_rel esz len _ _ hcr (by simp; omega)
          have hch : ∀ (n : Nat) (l : List SV), n * esz ≤ l.length → chunks esz n (l.take (n * esz)) = chunks esz n l := by
            intro n
            induction n with
            | zero => intro l _; rfl
            | succ n ih =>
              intro l hl
              rw [Nat.succ_mul] at hl
              simp only [chunks]
              rw [List.take_take, Nat.min_eq_left (by rw [Nat.succ_mul]; omega)]
              congr 1
              rw [List.drop_take, show (n + 1) * esz - esz = n * esz by rw [Nat.succ_mul]; omega]
              exact ih _ (by simp; omega)
          rw [hch len _ (by simp; omega)] at r1 r2
          have hlen := chunks_length esz len (cs.drop off)
          have := SR.lst (ρ := ρ.froze w w1) (b := B.b) (o := B.base + off) (c := c) r1 h4 r2 (by rw [hlen]; exact h1) (fun j v hj => by
            show (if w.heap.size ≤ B.b then w1.cell? ⟨B.b, B.base + off + j, none⟩ else ρ.fz B.b (B.base + off + j)) = some v
            rw [if_pos hblk]
            have h7 := r3 j v hj
            rw [List.getElem?_take] at h7
            split at h7
            · rw [List.getElem?_drop] at h7
              rw [Nat.add_assoc]
              exact q2 _ v h7
            · cases h7)
          rwa [hlen] at this
        | slice0 hB h2 h4 h5 =>
          simp [chunks]
          exact .lst0
      · cases hf
    · cases hf
  · cases hf
    cases hs
    exact .lstNil
  · split at hf
    · rename_i h1
      cases hf
      exact hs.loMove (froze_at hp) hfz h1
    · cases hf

theorem frzL_rel (hr : HR ρ σ.get w) (hp : Post ρ σ w ρ1 σ1 w1) (hk : GcOk σ σ1) : ∀ {l l' : List SV} {vs : List Value}, frzL σ.size σ1 l = some l' → SRs ρ1 l vs → SRs (ρ.froze w w1) l' vs
  | [], l', vs, hf, hs => by cases hf; cases hs; exact .nil
  | s :: l, l', vs, hf, hs => by
    simp only [frzL] at hf
    split at hf
    · rename_i a r h1 h2
      cases hf
      cases hs with
      | cons h t => exact .cons (frzS_rel hr hp hk h1 h) (frzL_rel hr hp hk h2 t)
    · cases hf

mutual
theorem frzA_rel (hr : HR ρ σ.get w) (hp : Post ρ σ w ρ1 σ1 w1) (hk : GcOk σ σ1) : ∀ {s s' : AV} {v : Value}, frzA σ.size σ1 s = some s' → VR ρ1 s v → VR (ρ.froze w w1) s' v
  | .one s, s', v, hf, hs => by
    simp only [frzA] at hf
    split at hf
    · rename_i a h1
      cases hf
      cases hs with
      | one h => exact .one (frzS_rel hr hp hk h1 h)
    · cases hf
  | .agg cs, s', v, hf, hs => by
    simp only [frzA] at hf
    split at hf
    · rename_i a h1
      cases hf
      cases hs with
      | agg h => exact .agg (frzL_rel hr hp hk h1 h)
    · cases hf
  | .tup l, s', v, hf, hs => by
    simp only [frzA] at hf
    split at hf
    · rename_i a h1
      cases hf
      cases hs with
      | tup h => exact .tup (frzAs_rel hr hp hk h1 h)
    · cases hf
theorem frzAs_rel (hr : HR ρ σ.get w) (hp : Post ρ σ w ρ1 σ1 w1) (hk : GcOk σ σ1) : ∀ {l l' : List AV} {vs : List Value}, frzAs σ.size σ1 l = some l' → VRs ρ1 l vs → VRs (ρ.froze w w1) l' vs
  | [], l', vs, hf, hs => by cases hf; cases hs; exact .nil
  | s :: l, l', vs, hf, hs => by
    simp only [frzAs] at hf
    split at hf
    · rename_i a r h1 h2
      cases hf
      cases hs with
      | cons h t => exact .cons (frzA_rel hr hp hk h1 h) (frzAs_rel hr hp hk h2 t)
    · cases hf
end

theorem frzRes_sound (hr : HR ρ σ.get w) (hp : Post ρ σ w ρ1 σ1 w1) {v v' : AV} {u : Value} {σ' : AHeap} (hv : VR ρ1 v u) (h : frzRes σ σ1 v = some (v', σ')) : ∃ ρ', Post ρ σ w ρ' σ' w1 ∧ VR ρ' v' u := by
  unfold frzRes at h
  split at h
  · rename_i hk
    split at h
    · rename_i a ha
      cases h
      have hg : GcOk σ σ1 := fun id hid => .inl (hk id hid)
      exact ⟨_, hp.gc hr hg rfl (fun id hid => (hk id hid).symm), frzA_rel hr hp hg ha hv⟩
    · cases h
  · cases h

theorem gcRes_sound (hr : HR ρ σ.get w) (hp : Post ρ σ w ρ1 σ1 w1) {v v' : AV} {u : Value} {σ' : AHeap} (hv : VR ρ1 v u) (h : gcRes σ σ1 v = some (v', σ')) : ∃ ρ', Post ρ σ w ρ' σ' w1 ∧ VR ρ' v' u := by
  unfold gcRes at h
  split at h
  · rename_i hk
    split at h
    · rename_i a ha
      cases h
      exact ⟨_, hp.gc hr hk rfl (fun id hid => cutTo_get hid hp.size), frzA_rel hr hp hk ha hv⟩
    · cases h
  · cases h
end

/-! ### what is handed as what it holds -/
section
variable {ρ : Loc} {σ : AHeap} {w : World}

/-- The memory of a function that is handed what slices hold: the cells that nobody writes, and those of the slices' objects. -/
def OwnF (ρ : Loc) (σ : AHeap) (K : Nat → Prop) (b : Nat) : Prop := ∃ id B cs, K id ∧ ρ id = some B ∧ σ.get id = some ⟨cs, .own⟩ ∧ B.b = b
open Classical in
noncomputable def Loc.ownf (ρ : Loc) (σ : AHeap) (w : World) (K : Nat → Prop) : Loc := ⟨fun _ => none, fun b o => if OwnF ρ σ K b then w.cell? ⟨b, o, none⟩ else ρ.fz b o⟩

open Classical in
theorem ownf_fz {K : Nat → Prop} (hr : HR ρ σ.get w) : ∀ b o v, ρ.fz b o = some v → (ρ.ownf σ w K).fz b o = some v := by
  intro b o v h
  show (if OwnF ρ σ K b then w.cell? ⟨b, o, none⟩ else ρ.fz b o) = some v
  split
  · exact (hr.frz b o v h).1
  · exact h
open Classical in
theorem ownf_cell {K : Nat → Prop} (hr : HR ρ σ.get w) {b o : Nat} {v : Value} (h : (ρ.ownf σ w K).fz b o = some v) : w.cell? ⟨b, o, none⟩ = some v := by
  have h : (if OwnF ρ σ K b then w.cell? ⟨b, o, none⟩ else ρ.fz b o) = some v := h
  split at h
  · exact h
  · exact (hr.frz b o v h).1
theorem HR.ownf {K : Nat → Prop} (hr : HR ρ σ.get w) : HR (ρ.ownf σ w K) emptyH.get w where
  dom := fun _ _ h => by cases h
  excl := fun _ _ _ _ _ _ h => by cases h
  frz := fun b o v hv => ⟨ownf_cell hr hv, by rintro ⟨id, B, o, h, _⟩; cases h⟩
  gl := hr.gl.mono (ownf_fz hr)
  rows := hr.rows
theorem noOwnF {K : Nat → Prop} (b : Nat) : ¬ Owned (ρ.ownf σ w K) emptyH.get b := by
  rintro ⟨id, B, o, h, _⟩
  cases h

theorem frzLW_rel {F : SV → Option (SV × List Nat)} {K : Nat → Prop} {ρ' : Loc} (hF : ∀ s s' ids v, F s = some (s', ids) → SR ρ s v → (∀ i ∈ ids, K i) → SR ρ' s' v ∧ s'.lo 0 = true) :
    ∀ {l l' : List SV} {ids : List Nat} {vs : List Value}, frzLW F l = some (l', ids) → SRs ρ l vs → (∀ i ∈ ids, K i) → SRs ρ' l' vs ∧ loL 0 l' = true ∧ l'.length = l.length
  | [], l', ids, vs, h, hs, hk => by cases h; cases hs; exact ⟨.nil, rfl, rfl⟩
  | s :: l, l', ids, vs, h, hs, hk => by
    simp only [frzLW] at h
    split at h
    · rename_i a i r j h1 h2
      cases h
      cases hs with
      | cons h3 h4 =>
        obtain ⟨k1, k2⟩ := hF _ _ _ _ h1 h3 (fun x hx => hk x (List.mem_append_left _ hx))
        obtain ⟨k3, k4, k5⟩ := frzLW_rel hF h2 h4 (fun x hx => hk x (List.mem_append_right _ hx))
        exact ⟨.cons k1 k3, by simp [loL, k2, k4], by simp [k5]⟩
    · cases h
theorem frzEW_rel {F : SV → Option (SV × List Nat)} {K : Nat → Prop} {ρ' : Loc} {E : Nat} (hF : ∀ s s' ids v, F s = some (s', ids) → SR ρ s v → (∀ i ∈ ids, K i) → SR ρ' s' v ∧ s'.lo 0 = true) :
    ∀ {l l' : List (List SV)} {ids : List Nat} {vss : List (List Value)}, frzEW F l = some (l', ids) → SRss ρ l vss → (∀ i ∈ ids, K i) → (∀ e ∈ l, e.length = E) →
      SRss ρ' l' vss ∧ loE 0 l' = true ∧ l'.length = l.length ∧ ∀ e ∈ l', e.length = E
  | [], l', ids, vs, h, hs, hk, he => by cases h; cases hs; exact ⟨.nil, rfl, rfl, fun e he => by cases he⟩
  | s :: l, l', ids, vs, h, hs, hk, he => by
    simp only [frzEW] at h
    split at h
    · rename_i a i r j h1 h2
      cases h
      cases hs with
      | cons h3 h4 =>
        obtain ⟨k1, k2, k6⟩ := frzLW_rel hF h1 h3 (fun x hx => hk x (List.mem_append_left _ hx))
        obtain ⟨k3, k4, k5, k7⟩ := frzEW_rel hF h2 h4 (fun x hx => hk x (List.mem_append_right _ hx)) (fun e h => he e (List.mem_cons_of_mem _ h))
        refine ⟨.cons k1 k3, by simp [loE, k2, k4], by simp [k5], fun e h => ?_⟩
        rcases List.mem_cons.1 h with rfl | h
        · rw [k6]; exact he _ (by simp)
        · exact k7 e h
    · cases h

open Classical in
theorem frzD_rel (hr : HR ρ σ.get w) {K : Nat → Prop} : ∀ (f : Nat) (s s' : SV) (ids : List Nat) (v : Value), frzD f σ s = some (s', ids) → SR ρ s v → (∀ i ∈ ids, K i) → SR (ρ.ownf σ w K) s' v ∧ s'.lo 0 = true
  | 0, s, s', ids, v, h, _, _ => by cases h
  | f + 1, s, s', ids, v, h, hs, hk => by
    have hlo : ∀ s : SV, s.lo 0 = true → SR ρ s v → SR (ρ.ownf σ w K) s v := fun s h hs => SR.loMove (n := 0) (fun id h => absurd h (Nat.not_lt_zero _)) (ownf_fz hr) h hs
    unfold frzD at h
    split at h
    · rename_i id off esz len cap
      split at h
      · rename_i cs hg
        split at h
        · rename_i hle
          split at h
          · rename_i es ids' he
            cases h
            have hle : off + len * esz ≤ cs.length := Nat.le_of_ble_eq_true hle
            cases hs with
            | slice hB h1 h2 h3 h4 h5 =>
              rename_i c B
              obtain ⟨o', k1, k2, k3⟩ := hr.dom id B hB
              rw [hg] at k1; cases k1
              obtain ⟨vs, q1, q2⟩ := k2.holds (by simp)
              have hown : OwnF ρ σ K B.b := ⟨id, B, cs, hk id (by simp), hB, hg, rfl⟩
              obtain ⟨vss, r1, r2, r3⟩ := chunks_rel esz len _ _ (q1.drop off) (by simp; omega)
              obtain ⟨m1, m2, m3, m4⟩ := frzEW_rel (E := esz) (fun s s' ids v => frzD_rel hr f s s' ids v) he r1 (fun i hi => hk i (List.mem_cons_of_mem _ hi)) r2
              rw [chunks_length] at m3
              have := SR.lst (ρ := ρ.ownf σ w K) (b := B.b) (o := B.base + off) (c := c) m1 h4 m4 (by omega) (fun j v hj => by
                show (if OwnF ρ σ K B.b then w.cell? ⟨B.b, B.base + off + j, none⟩ else ρ.fz B.b (B.base + off + j)) = some v
                rw [if_pos hown]
                have h7 := r3 j v hj
                rw [List.getElem?_drop] at h7
                rw [Nat.add_assoc]
                exact q2 _ v h7)
              rw [m3] at this
              exact ⟨this, by simpa [SV.lo] using m2⟩
            | slice0 hB h2 h4 h5 =>
              simp only [chunks, frzEW] at he
              cases he
              exact ⟨.lst0, rfl⟩
          · cases h
        · cases h
      · cases h
    · cases h
      cases hs
      exact ⟨.lstNil, rfl⟩
    · split at h
      · rename_i hl
        cases h
        exact ⟨hlo _ hl hs, hl⟩
      · cases h

/-- The objects used up are one's own. -/
theorem frzLW_ids {F : SV → Option (SV × List Nat)} {Q : Nat → Prop} (hF : ∀ s s' ids v, F s = some (s', ids) → SR ρ s v → ∀ i ∈ ids, Q i) :
    ∀ {l l' : List SV} {ids : List Nat} {vs : List Value}, frzLW F l = some (l', ids) → SRs ρ l vs → ∀ i ∈ ids, Q i
  | [], l', ids, vs, h, hs => by cases h; intro i hi; cases hi
  | s :: l, l', ids, vs, h, hs => by
    simp only [frzLW] at h
    split at h
    · rename_i a i r j h1 h2
      cases h
      cases hs with
      | cons h3 h4 =>
        intro x hx
        rcases List.mem_append.1 hx with hx | hx
        · exact hF _ _ _ _ h1 h3 x hx
        · exact frzLW_ids hF h2 h4 x hx
    · cases h
theorem frzEW_ids {F : SV → Option (SV × List Nat)} {Q : Nat → Prop} (hF : ∀ s s' ids v, F s = some (s', ids) → SR ρ s v → ∀ i ∈ ids, Q i) :
    ∀ {l l' : List (List SV)} {ids : List Nat} {vss : List (List Value)}, frzEW F l = some (l', ids) → SRss ρ l vss → ∀ i ∈ ids, Q i
  | [], l', ids, vs, h, hs => by cases h; intro i hi; cases hi
  | s :: l, l', ids, vs, h, hs => by
    simp only [frzEW] at h
    split at h
    · rename_i a i r j h1 h2
      cases h
      cases hs with
      | cons h3 h4 =>
        intro x hx
        rcases List.mem_append.1 hx with hx | hx
        · exact frzLW_ids hF h1 h3 x hx
        · exact frzEW_ids hF h2 h4 x hx
    · cases h
theorem frzD_ids (hr : HR ρ σ.get w) : ∀ (f : Nat) (s s' : SV) (ids : List Nat) (v : Value), frzD f σ s = some (s', ids) → SR ρ s v → ∀ i ∈ ids, ∃ B, ρ i = some B
  | 0, s, s', ids, v, h, _ => by cases h
  | f + 1, s, s', ids, v, h, hs => by
    unfold frzD at h
    split at h
    · rename_i id off esz len cap
      split at h
      · rename_i cs hg
        split at h
        · rename_i hle
          split at h
          · rename_i es ids' he
            cases h
            have hle : off + len * esz ≤ cs.length := Nat.le_of_ble_eq_true hle
            cases hs with
            | slice hB h1 h2 h3 h4 h5 =>
              rename_i c B
              obtain ⟨o', k1, k2, k3⟩ := hr.dom id B hB
              rw [hg] at k1; cases k1
              obtain ⟨vs, q1, q2⟩ := k2.holds (by simp)
              obtain ⟨vss, r1, r2, r3⟩ := chunks_rel esz len _ _ (q1.drop off) (by simp; omega)
              intro i hi
              rcases List.mem_cons.1 hi with rfl | hi
              · exact ⟨B, hB⟩
              · exact frzEW_ids (Q := fun i => ∃ B, ρ i = some B) (fun s s' ids v => frzD_ids hr f s s' ids v) he r1 i hi
            | slice0 hB h2 h4 h5 =>
              rename_i B _
              simp only [chunks, frzEW] at he
              cases he
              intro i hi
              rcases List.mem_cons.1 hi with rfl | hi
              · exact ⟨B, hB⟩
              · cases hi
          · cases h
        · cases h
      · cases h
    · cases h
      intro i hi; cases hi
    · split at h
      · cases h
        intro i hi; cases hi
      · cases h

mutual
theorem frzDA_rel (hr : HR ρ σ.get w) {K : Nat → Prop} {f : Nat} : ∀ {s s' : AV} {ids : List Nat} {v : Value}, frzDA f σ s = some (s', ids) → VR ρ s v → (∀ i ∈ ids, K i) → VR (ρ.ownf σ w K) s' v ∧ s'.lo 0 = true
  | .one s, s', ids, v, h, hs, hk => by
    simp only [frzDA] at h
    split at h
    · rename_i a i h1
      cases h
      cases hs with
      | one hs =>
        obtain ⟨k1, k2⟩ := frzD_rel hr f _ _ _ _ h1 hs hk
        exact ⟨.one k1, by simpa [AV.lo] using k2⟩
    · cases h
  | .agg cs, s', ids, v, h, hs, hk => by
    simp only [frzDA] at h
    split at h
    · rename_i a i h1
      cases h
      cases hs with
      | agg hs =>
        obtain ⟨k1, k2, _⟩ := frzLW_rel (fun s s' ids v => frzD_rel hr f s s' ids v) h1 hs hk
        exact ⟨.agg k1, by simpa [AV.lo] using k2⟩
    · cases h
  | .tup l, s', ids, v, h, hs, hk => by
    simp only [frzDA] at h
    split at h
    · rename_i a i h1
      cases h
      cases hs with
      | tup hs =>
        obtain ⟨k1, k2⟩ := frzDAs_rel hr h1 hs hk
        exact ⟨.tup k1, by simpa [AV.lo] using k2⟩
    · cases h
theorem frzDAs_rel (hr : HR ρ σ.get w) {K : Nat → Prop} {f : Nat} : ∀ {l l' : List AV} {ids : List Nat} {vs : List Value}, frzDAs f σ l = some (l', ids) → VRs ρ l vs → (∀ i ∈ ids, K i) → VRs (ρ.ownf σ w K) l' vs ∧ loVs 0 l' = true
  | [], l', ids, vs, h, hs, hk => by cases h; cases hs; exact ⟨.nil, rfl⟩
  | v :: l, l', ids, vs, h, hs, hk => by
    simp only [frzDAs] at h
    split at h
    · rename_i a i r j h1 h2
      cases h
      cases hs with
      | cons h3 h4 =>
        obtain ⟨k1, k2⟩ := frzDA_rel hr h1 h3 (fun x hx => hk x (List.mem_append_left _ hx))
        obtain ⟨k3, k4⟩ := frzDAs_rel hr h2 h4 (fun x hx => hk x (List.mem_append_right _ hx))
        exact ⟨.cons k1 k3, by simp [loVs, k2, k4]⟩
    · cases h
end
mutual
theorem frzDA_ids (hr : HR ρ σ.get w) {f : Nat} : ∀ {s s' : AV} {ids : List Nat} {v : Value}, frzDA f σ s = some (s', ids) → VR ρ s v → ∀ i ∈ ids, ∃ B, ρ i = some B
  | .one s, s', ids, v, h, hs => by
    simp only [frzDA] at h
    split at h
    · rename_i a i h1
      cases h
      cases hs with
      | one hs => exact frzD_ids hr f _ _ _ _ h1 hs
    · cases h
  | .agg cs, s', ids, v, h, hs => by
    simp only [frzDA] at h
    split at h
    · rename_i a i h1
      cases h
      cases hs with
      | agg hs => exact frzLW_ids (Q := fun i => ∃ B, ρ i = some B) (fun s s' ids v => frzD_ids hr f s s' ids v) h1 hs
    · cases h
  | .tup l, s', ids, v, h, hs => by
    simp only [frzDA] at h
    split at h
    · rename_i a i h1
      cases h
      cases hs with
      | tup hs => exact frzDAs_ids hr h1 hs
    · cases h
theorem frzDAs_ids (hr : HR ρ σ.get w) {f : Nat} : ∀ {l l' : List AV} {ids : List Nat} {vs : List Value}, frzDAs f σ l = some (l', ids) → VRs ρ l vs → ∀ i ∈ ids, ∃ B, ρ i = some B
  | [], l', ids, vs, h, hs => by cases h; intro i hi; cases hi
  | v :: l, l', ids, vs, h, hs => by
    simp only [frzDAs] at h
    split at h
    · rename_i a i r j h1 h2
      cases h
      cases hs with
      | cons h3 h4 =>
        intro x hx
        rcases List.mem_append.1 hx with hx | hx
        · exact frzDA_ids hr h1 h3 x hx
        · exact frzDAs_ids hr h2 h4 x hx
    · cases h
end
theorem frzDAs_length {f : Nat} : ∀ {l l' : List AV} {ids : List Nat}, frzDAs f σ l = some (l', ids) → l'.length = l.length
  | [], l', ids, h => by cases h; rfl
  | v :: l, l', ids, h => by
    simp only [frzDAs] at h
    split at h
    · rename_i a i r j h1 h2
      cases h
      simp [frzDAs_length h2]
    · cases h

theorem SR.scal {ρ ρ' : Loc} {s : SV} {v : Value} (h : s.scal = true) (hs : SR ρ s v) : SR ρ' s v := by
  cases s <;> simp only [SV.scal] at h <;> first | (cases h; done) | (cases hs; constructor)
theorem SRs.scal {ρ ρ' : Loc} : ∀ {l : List SV} {vs : List Value}, scalL l = true → SRs ρ l vs → SRs ρ' l vs
  | [], _, _, h => by cases h; exact .nil
  | s :: l, _, h, k => by
    simp only [scalL, Bool.and_eq_true] at h
    cases k with
    | cons k t => exact .cons (k.scal h.1) (SRs.scal h.2 t)
mutual
theorem VR.scal {ρ ρ' : Loc} : ∀ {v : AV} {u : Value}, v.scal = true → VR ρ v u → VR ρ' v u
  | .one s, _, h, k => by
    cases k with
    | one k => exact .one (k.scal h)
  | .agg s, _, h, k => by
    cases k with
    | agg k => exact .agg (SRs.scal h k)
  | .tup s, _, h, k => by
    cases k with
    | tup k => exact .tup (VRs.scal h k)
theorem VRs.scal {ρ ρ' : Loc} : ∀ {v : List AV} {u : List Value}, scalAs v = true → VRs ρ v u → VRs ρ' v u
  | [], _, _, k => by cases k; exact .nil
  | s :: l, _, h, k => by
    simp only [scalAs, Bool.and_eq_true] at h
    cases k with
    | cons k t => exact .cons (VR.scal h.1 k) (VRs.scal h.2 t)
end
mutual
theorem VR.lo0 {ρ ρ' : Loc} (hf : ∀ b o v, ρ.fz b o = some v → ρ'.fz b o = some v) : ∀ {v : AV} {u : Value}, v.lo 0 = true → VR ρ v u → VR ρ' v u
  | .one s, _, h, k => by
    cases k with
    | one k => exact .one (SR.loMove (n := 0) (fun id h => absurd h (Nat.not_lt_zero _)) hf (by simpa [AV.lo] using h) k)
  | .agg s, _, h, k => by
    cases k with
    | agg k => exact .agg (SRs.loMove (n := 0) (fun id h => absurd h (Nat.not_lt_zero _)) hf (by simpa [AV.lo] using h) k)
  | .tup s, _, h, k => by
    cases k with
    | tup k => exact .tup (VRs.lo0 hf (by simpa [AV.lo] using h) k)
theorem VRs.lo0 {ρ ρ' : Loc} (hf : ∀ b o v, ρ.fz b o = some v → ρ'.fz b o = some v) : ∀ {v : List AV} {u : List Value}, loVs 0 v = true → VRs ρ v u → VRs ρ' v u
  | [], _, _, k => by cases k; exact .nil
  | s :: l, _, h, k => by
    simp only [loVs, Bool.and_eq_true] at h
    cases k with
    | cons k t => exact .cons (VR.lo0 hf h.1 k) (VRs.lo0 hf h.2 t)
end

theorem killAll_size : ∀ (ids : List Nat) (σ : AHeap), (killAll σ ids).size = σ.size
  | [], σ => rfl
  | i :: l, σ => by
    unfold killAll
    split
    · rw [killAll_size l]; rfl
    · exact killAll_size l σ
theorem killAll_get : ∀ (ids : List Nat) (σ : AHeap) (id : Nat), (killAll σ ids).get id = match σ.get id with
    | some ⟨cs, .own⟩ => if id ∈ ids then some ⟨cs, .dead⟩ else some ⟨cs, .own⟩
    | o => o
  | [], σ, id => by
    simp only [killAll, List.not_mem_nil, if_false]
    cases h : σ.get id with
    | none => rfl
    | some o => obtain ⟨cs, md⟩ := o; cases md <;> rfl
  | i :: l, σ, id => by
    unfold killAll
    split
    · rename_i cs hg
      rw [killAll_get l, AHeap.get_put _ _ _ _ (AHeap.get_lt hg)]
      by_cases e : id = i
      · subst e
        simp [hg]
      · simp only [if_neg e, List.mem_cons, e, false_or, if_false]
    · rename_i hn
      rw [killAll_get l]
      by_cases e : id = i
      · subst e
        cases h : σ.get id with
        | none => rfl
        | some o =>
          obtain ⟨cs, md⟩ := o
          cases md with
          | own => exact absurd h (hn cs)
          | ro => rfl
          | dead => rfl
          | map => rfl
          | tag => rfl
          | loop => rfl
      · simp only [List.mem_cons, e, false_or]

variable {K : Nat → Prop} {ρ1 : Loc} {σ1 : AHeap} {w1 : World}

/-- Where it answers without memory, all is as it was. -/
theorem Post.rd (hr : HR ρ σ.get w) (h : Post (ρ.ownf σ w K) emptyH w ρ1 σ1 w1) : Post ρ σ w ρ σ w1 :=
  have fr : ∀ b, b < w.heap.size → w1.heap[b]? = w.heap[b]? := fun b hb => h.frame b hb (noOwnF b)
  { le := .refl ρ
    size := Nat.le_refl _
    new := fun id h1 h2 => by omega
    old := fun _ _ => rfl
    dom := fun id B hB => hr.lt hB
    same := fun _ _ _ => rfl
    md := fun id B o' h1 h2 h3 => ⟨o', h2, h3⟩
    md' := fun id B o h1 h2 h3 => ⟨o, h2, h3⟩
    hr := {
      dom := fun id B hB => by
        obtain ⟨o, h1, h2, h3⟩ := hr.dom id B hB
        exact ⟨o, h1, h2.of_heap (.refl ρ) (fr _ h3), Nat.lt_of_lt_of_le h3 h.hsize⟩
      excl := hr.excl
      frz := frz_stays hr (fun _ _ _ h => h) (fun b hb _ => fr b hb) (fun _ _ h => h)
      gl := hr.gl
      rows := rows_stays hr (fun b hb _ => fr b hb) }
    hsize := h.hsize
    frame := fun b hb _ => fr b hb
    fresh := fun id B h1 h2 => absurd (hr.lt h2) (by omega)
    fz := fun _ _ _ h => .inl h
    os := h.os
    tape := h.tape
    output := h.output }

/-- The places behind a call that was handed slices for good. -/
noncomputable def Loc.mvd (ρ : Loc) (σ : AHeap) (w w1 : World) (K : Nat → Prop) : Loc := ⟨ρ.at_, fun b o => if w.heap.size ≤ b then w1.cell? ⟨b, o, none⟩ else (ρ.ownf σ w K).fz b o⟩

open Classical in
theorem Post.mv (hr : HR ρ σ.get w) {ids : List Nat} (hids : ∀ i ∈ ids, ∃ B, ρ i = some B) (h : Post (ρ.ownf σ w (· ∈ ids)) emptyH w ρ1 σ1 w1) : Post ρ σ w (ρ.mvd σ w w1 (· ∈ ids)) (killAll σ ids) w1 := by
  have fr : ∀ b, b < w.heap.size → w1.heap[b]? = w.heap[b]? := fun b hb => h.frame b hb (noOwnF b)
  have hblock : ∀ id B, ρ id = some B → B.b < w.heap.size := fun id B hB => by
    obtain ⟨_, _, _, h⟩ := hr.dom id B hB
    exact h
  have hold : ∀ b o v, ρ.fz b o = some v → (ρ.mvd σ w w1 (· ∈ ids)).fz b o = some v := by
    intro b o v hv
    show (if w.heap.size ≤ b then w1.cell? ⟨b, o, none⟩ else (ρ.ownf σ w (· ∈ ids)).fz b o) = some v
    rw [if_neg (by have := hr.frzLt hv; omega)]
    exact ownf_fz hr b o v hv
  have hle : ρ.le (ρ.mvd σ w w1 (· ∈ ids)) := ⟨fun _ _ h => h, hold⟩
  -- an object behind it
  have obj : ∀ id o', (killAll σ ids).get id = some o' → ∃ o, σ.get id = some o ∧ o'.cells = o.cells ∧ (o' = o ∨ (o'.md = .dead ∧ o.md = .own ∧ id ∈ ids)) ∧ (o'.md = .own → id ∉ ids) := by
    intro id o' ho
    rw [killAll_get] at ho
    cases hg : σ.get id with
    | none => rw [hg] at ho; cases ho
    | some o =>
      obtain ⟨cs, md⟩ := o
      rw [hg] at ho
      cases md with
      | own =>
        simp only at ho
        split at ho
        · cases ho; rename_i hm; exact ⟨_, rfl, rfl, .inr ⟨rfl, rfl, hm⟩, fun h => by cases h⟩
        · cases ho; rename_i hm; exact ⟨_, rfl, rfl, .inl rfl, fun _ => hm⟩
      | ro => cases ho; exact ⟨_, rfl, rfl, .inl rfl, fun h => by cases h⟩
      | dead => cases ho; exact ⟨_, rfl, rfl, .inl rfl, fun h => by cases h⟩
      | map => cases ho; exact ⟨_, rfl, rfl, .inl rfl, fun h => by cases h⟩
      | tag => cases ho; exact ⟨_, rfl, rfl, .inl rfl, fun h => by cases h⟩
      | loop => cases ho; exact ⟨_, rfl, rfl, .inl rfl, fun h => by cases h⟩
  have owns : ∀ id o', (killAll σ ids).get id = some o' → o'.md.owns = true → ∃ o, σ.get id = some o ∧ o.md.owns = true ∧ o = o' := by
    intro id o' h1 h2
    obtain ⟨o, k1, _, k3, _⟩ := obj id o' h1
    rcases k3 with rfl | ⟨k3, _⟩
    · exact ⟨_, k1, h2, rfl⟩
    · rw [k3] at h2; cases h2
  have howned : ∀ b, Owned (ρ.mvd σ w w1 (· ∈ ids)) (killAll σ ids).get b → Owned ρ σ.get b := by
    rintro b ⟨id, B, o', k1, k2, k3, k4⟩
    obtain ⟨o, q1, q2, _⟩ := owns id o' k2 k3
    exact ⟨id, B, o, k1, q1, q2, k4⟩
  exact {
    le := hle
    size := by rw [killAll_size]; exact Nat.le_refl _
    new := fun id h1 h2 => absurd h2 (by rw [killAll_size]; omega)
    old := fun _ _ => rfl
    dom := fun id B hB => by rw [killAll_size]; exact hr.lt hB
    same := fun id h1 h2 => by
      rw [killAll_get]
      have hn : id ∉ ids := fun hm => by
        obtain ⟨B, hB⟩ := hids id hm
        rw [hB] at h2; cases h2
      cases hg : σ.get id with
      | none => rfl
      | some o => obtain ⟨cs, md⟩ := o; cases md <;> simp [hn]
    md := fun id B o' h1 h2 h3 => by
      obtain ⟨o, q1, q2, _⟩ := owns id o' h2 h3
      exact ⟨o, q1, q2⟩
    md' := fun id B o h1 h2 h3 => by
      refine ⟨o, ?_, h3⟩
      rw [killAll_get, h2]
      obtain ⟨cs, md⟩ := o
      cases h3
      rfl
    hr := {
      dom := fun id B hB => by
        have hB : ρ id = some B := hB
        obtain ⟨o, k1, k2, k3⟩ := hr.dom id B hB
        cases hg : (killAll σ ids).get id with
        | none =>
          rw [killAll_get, k1] at hg
          obtain ⟨cs, md⟩ := o
          cases md with
          | own => simp only at hg; split at hg <;> cases hg
          | _ => cases hg
        | some o' =>
          obtain ⟨o2, q1, q2, q3, _⟩ := obj id o' hg
          rw [k1] at q1; cases q1
          refine ⟨o', rfl, ?_, Nat.lt_of_lt_of_le k3 h.hsize⟩
          rcases q3 with rfl | ⟨q3, _, _⟩
          · exact k2.of_heap hle (fr _ k3)
          · exact .dead q3 (by rw [q2]; exact k2.len) k2.fit
      excl := fun i j B B' o o' h1 h2 h3 h4 hne h5 h6 => by
        have h1 : ρ i = some B := h1
        have h2 : ρ j = some B' := h2
        obtain ⟨p, q1, q2, _⟩ := owns i o h3 h5
        obtain ⟨p', q3, _, q4, _⟩ := obj j o' h4
        rcases q4 with rfl | ⟨q4, _⟩
        · exact hr.excl i j B B' p _ h1 h2 q1 q3 hne q2 h6
        · exact absurd q4 h6
      frz := fun b o v hv => by
        have hv : (if w.heap.size ≤ b then w1.cell? ⟨b, o, none⟩ else (ρ.ownf σ w (· ∈ ids)).fz b o) = some v := hv
        split at hv
        · rename_i hb
          refine ⟨hv, ?_⟩
          rintro ⟨id, B, o', h1, h2, h3, h4⟩
          have := hblock id B h1
          omega
        · rename_i hb
          have hc := ownf_cell hr hv
          refine ⟨by rw [cell_of_heap (fr b (by omega))]; exact hc, ?_⟩
          rintro ⟨id, B, o', h1, h2, h3, h4⟩
          have h1 : ρ id = some B := h1
          obtain ⟨p, q1, q2, q5⟩ := owns id o' h2 h3
          have hv : (if OwnF ρ σ (· ∈ ids) b then w.cell? ⟨b, o, none⟩ else ρ.fz b o) = some v := hv
          split at hv
          · rename_i hof
            obtain ⟨i, B', cs, m1, m2, m3, m4⟩ := hof
            by_cases e : i = id
            · subst e
              rw [m3] at q1
              cases q1
              subst q5
              obtain ⟨_, _, _, _, q6⟩ := obj i _ h2
              exact q6 rfl m1
            · exact hr.excl i id B' B _ p m2 h1 m3 q1 e rfl (by intro e; rw [e] at q2; cases q2) (by rw [m4, h4])
          · exact (hr.frz b o v hv).2 ⟨id, B, p, h1, q1, q2, h4⟩
      gl := hr.gl.mono hold
      rows := rows_stays hr (fun b hb _ => fr b hb) }
    hsize := h.hsize
    frame := fun b hb _ => fr b hb
    fresh := fun id B h1 h2 => absurd (hr.lt (show ρ id = some B from h2)) (by omega)
    fz := fun b o v hv => by
      have hv : (if w.heap.size ≤ b then w1.cell? ⟨b, o, none⟩ else (ρ.ownf σ w (· ∈ ids)).fz b o) = some v := hv
      split at hv
      · rename_i hb; exact .inr (.inl hb)
      · have hv : (if OwnF ρ σ (· ∈ ids) b then w.cell? ⟨b, o, none⟩ else ρ.fz b o) = some v := hv
        split at hv
        · rename_i hof
          obtain ⟨i, B', cs, m1, m2, m3, m4⟩ := hof
          exact .inr (.inr ⟨i, B', _, m2, m3, rfl, m4⟩)
        · exact .inl hv
    os := h.os
    tape := h.tape
    output := h.output }

open Classical in
/-- What it answers, outside. -/
theorem mv_ans (hr : HR ρ σ.get w) {ids : List Nat} (h : Post (ρ.ownf σ w (· ∈ ids)) emptyH w ρ1 σ1 w1) {f : Nat} {v v' : AV} {i : List Nat} {u : Value} (hf : frzDA f σ1 v = some (v', i)) (hv : VR ρ1 v u) :
    VR (ρ.mvd σ w w1 (· ∈ ids)) v' u := by
  obtain ⟨k1, k2⟩ := frzDA_rel (K := fun _ => True) h.hr hf hv (fun _ _ => trivial)
  refine VR.lo0 (fun b o x hx => ?_) k2 k1
  show (if w.heap.size ≤ b then w1.cell? ⟨b, o, none⟩ else (ρ.ownf σ w (· ∈ ids)).fz b o) = some x
  have hx' : (if OwnF ρ1 σ1 (fun _ => True) b then w1.cell? ⟨b, o, none⟩ else ρ1.fz b o) = some x := hx
  split at hx'
  · rename_i hof
    obtain ⟨j, B, cs, _, m2, m3, m4⟩ := hof
    have hb : w.heap.size ≤ b := by
      rcases h.fresh j B (Nat.zero_le _) m2 with q | q
      · omega
      · exact absurd q (noOwnF _)
    rw [if_pos hb]
    exact hx'
  · by_cases hb : w.heap.size ≤ b
    · rw [if_pos hb]; exact (h.hr.frz b o x hx').1
    · rw [if_neg hb]
      rcases h.fz b o x hx' with q | q | q
      · exact q
      · exact absurd q hb
      · exact absurd q (noOwnF _)
end

/-- The abstract functions are the model's, the laid ones keep their word. -/
structure Ctx.Good (P : Program) (C : Ctx) : Prop where
  code : ∀ f F, C.code f = some F → ∃ fn, P.funcs[f]? = some fn ∧ compFunc P fn = some F
  prim : ∀ f p, C.prim f = some p → ∀ args σ v σ', p args σ = some (v, σ') → Callable P f ∧
    ∀ ρ w vs, VRs ρ args vs → HR ρ σ.get w → Calls P f vs.toArray w (CallPost ρ σ w σ' v)

theorem repUndef_rel {ρ : Loc} : ∀ n, VRs ρ (repUndef n) (List.replicate n undef)
  | 0 => .nil
  | n + 1 => .cons VR.undef (repUndef_rel n)

theorem FR.of_list {ρ : Loc} {fr : List AV} {vs : List Value} (h : VRs ρ fr vs) (hg : GlobOk ρ) : FR ρ fr vs.toArray := by
  refine ⟨by simpa using h.length, fun t => ?_, hg⟩
  rw [getSlot_eq]
  cases hq : fr[t]? with
  | none =>
    have h1 : fr.length ≤ t := List.getElem?_eq_none_iff.1 hq
    have h2 : vs[t]? = none := List.getElem?_eq_none (by rw [← h.length]; exact h1)
    simp [h2]
    exact VR.undef
  | some x =>
    obtain ⟨v, h1, h2⟩ := h.get hq
    simp [h1]
    exact h2

/-- Calls in a context, of which each is X: a laid one as it is laid, one with code because it is a call. -/
theorem calls_sound [IsProg P] {C : Ctx} (X : Nat → List AV → AHeap → AV → AHeap → Prop) (hX : ∀ f args σ v σ', CallP P f args σ v σ' → X f args σ v σ')
    (hX' : ∀ f args σ v σ', X f args σ v σ' → CallP P f args σ v σ' ∨ YieldP P f args σ v σ')
    (hcd : ∀ f F, C.code f = some F → ∃ fn, P.funcs[f]? = some fn ∧ compFunc P fn = some F) (hpr : ∀ f p, C.prim f = some p → ∀ args σ v σ', p args σ = some (v, σ') → X f args σ v σ')
    (hdraw : ∀ n, CallAny P (evCall C n) → DrawSound [] P (evCall C n)) : ∀ n f args σ v σ', evCall C n f args σ = some (v, σ') → X f args σ v σ' := by
  intro n
  induction n with
  | zero => intro f args σ v σ' h; cases h
  | succ n ih =>
    intro f args σ v σ' h
    simp only [evCall] at h
    split at h
    · rename_i p hp
      exact hpr f p hp args σ v σ' h
    · split at h
      · cases h
      · rename_i F hF
        obtain ⟨fn, hfn, hcomp⟩ := hcd f F hF
        refine hX f args σ v σ' ?_
        unfold compFunc at hcomp
        split at hcomp
        · rename_i c hbody hname
          split at hcomp
          · rename_i ac rs hcode hres
            cases hcomp
            have hname' : fn.name ≠ "runtime.NumGoroutine" := by simpa using hname
            refine ⟨⟨fn, hfn, hname', by rw [hbody]; rfl⟩, fun ρ w vs hv hr => ?_⟩
            split at h
            · rename_i args' σ0 hin
              -- the run itself, and what its answer is outside
              have main : ∀ (ρ0 : Loc), VRs ρ0 args' vs → HR ρ0 σ0.get w →
                  (∀ rv σ1 ρ' w' u, hintRes (C.hint f) args σ rv σ1 = some (v, σ') → Post ρ0 σ0 w ρ' σ1 w' → VR ρ' rv u → ∃ ρ2, Post ρ σ w ρ2 σ' w' ∧ VR ρ2 v u) →
                  Calls P f vs.toArray w (CallPost ρ σ w σ' v) := by
                intro ρ0 hv0 hr0 hout
                have fin : ∀ (x : AX) (fr' : List AV) (σ1 : AHeap), (x = .normal ∨ x = .ret) → evCode (evCall C n) n ac (args' ++ repUndef (fn.ntmps - args'.length)) σ0 = some (x, fr', σ1) →
                    (match resOfs fr' σ1 rs with
                      | some vs => hintRes (C.hint f) args σ (tupOf vs) σ1
                      | none => none) = some (v, σ') → Calls P f vs.toArray w (CallPost ρ σ w σ' v) := by
                  intro x fr' σ1 hx hev hrs
                  split at hrs
                  · rename_i rv hrv
                    refine calls_of_wp hfn hbody ?_
                    have hfr : FR ρ0 (args' ++ repUndef (fn.ntmps - args'.length)) (vs.toArray ++ Array.replicate (fn.ntmps - vs.toArray.size) undef) := by
                      have h1 := FR.of_list (hv0.append (repUndef_rel (ρ := ρ0) (fn.ntmps - args'.length))) hr0.gl
                      have h2 : vs.toArray ++ Array.replicate (fn.ntmps - vs.toArray.size) undef = (vs ++ List.replicate (fn.ntmps - args'.length) undef).toArray := by
                        apply Array.ext'
                        simp [hv0.length]
                      rw [h2]
                      exact h1
                    refine wpIn_wide.1 (wpIn_mono (n := 0) (F := Fence.wide) (code_sound (fun f args σ v σ' h => hX' f args σ v σ' (ih f args σ v σ' h)) (hdraw n (fun f args σ v σ' h => hX' f args σ v σ' (ih f args σ v σ' h))) n c ac _ fr' σ0 σ1 x hcode hev ρ0 _ w hfr rfl hr0 none) ?_)
                    rintro e a' w' ⟨rfl, hd, ρ', hp, hf'⟩
                    obtain ⟨u, h1, h2⟩ := results_run (P := P) hres hf' hp.hr hrv
                    obtain ⟨ρ2, hp2, h3⟩ := hout _ _ ρ' _ u hrs hp h2
                    rcases hx with rfl | rfl
                    · exact ⟨hd, u, h1, u, ρ2, rfl, hp2, h3⟩
                    · exact ⟨hd, u, h1, u, ρ2, rfl, hp2, h3⟩
                  · cases hrs
                unfold afterB at h
                split at h
                · rename_i fr' σ1 hev
                  exact fin _ fr' σ1 (.inl rfl) hev h
                · rename_i fr' σ1 hev
                  exact fin _ fr' σ1 (.inr rfl) hev h
                · cases h
              cases hh : C.hint f with
              | no =>
                rw [hh] at hin main
                cases hin
                exact main ρ hv hr (fun rv σ1 ρ' w' u ho hp hu => by cases ho; exact ⟨ρ', hp, hu⟩)
              | pure =>
                rw [hh] at hin main
                cases hin
                exact main ρ hv hr (fun rv σ1 ρ' w' u ho hp hu => frzRes_sound hr hp hu ho)
              | gc =>
                rw [hh] at hin main
                cases hin
                exact main ρ hv hr (fun rv σ1 ρ' w' u ho hp hu => gcRes_sound hr hp hu ho)
              | rd =>
                rw [hh] at hin main
                simp only [inArgs] at hin
                split at hin
                · rename_i a ids hfa
                  cases hin
                  obtain ⟨k1, _⟩ := frzDAs_rel (K := fun _ => True) hr hfa hv (fun _ _ => trivial)
                  refine main (ρ.ownf σ w fun _ => True) k1 hr.ownf (fun rv σ1 ρ' w' u ho hp hu => ?_)
                  simp only [hintRes] at ho
                  split at ho
                  · rename_i hs
                    cases ho
                    exact ⟨ρ, hp.rd hr, hu.scal hs⟩
                  · cases ho
                · cases hin
              | mv =>
                rw [hh] at hin main
                simp only [inArgs] at hin
                split at hin
                · rename_i a ids hfa
                  cases hin
                  obtain ⟨k1, _⟩ := frzDAs_rel (K := (· ∈ ids)) hr hfa hv (fun _ h => h)
                  refine main (ρ.ownf σ w (· ∈ ids)) k1 hr.ownf (fun rv σ1 ρ' w' u ho hp hu => ?_)
                  simp only [hintRes, hfa] at ho
                  split at ho
                  · rename_i b2 ids2 v2 i2 e1 e2
                    cases e1
                    cases ho
                    exact ⟨_, hp.mv hr (frzDAs_ids hr hfa hv), mv_ans hr hp e2 hu⟩
                  · cases ho
                · cases hin
            · cases h
          · cases hcomp
        · cases hcomp

end
end Go.Proofs.YtkolhfpofmpijaaDoor.Ab

/- An operation looks at its own slots alone. -/
namespace Go.Proofs.YtkolhfpofmpijaaDoor.Ab
open Go
set_option linter.unusedSectionVars false
variable [LoopP]
set_option linter.unusedSimpArgs false
set_option linter.unusedVariables false

/-- Two frames that agree at some slots. -/
def Agree (L : List Nat) (f1 f2 : List AV) : Prop := ∀ t ∈ L, getSlot f1 t = getSlot f2 t

theorem Agree.left {L M : List Nat} {f1 f2 : List AV} (h : Agree (L ++ M) f1 f2) : Agree L f1 f2 := fun t ht => h t (List.mem_append_left _ ht)
theorem Agree.right {L M : List Nat} {f1 f2 : List AV} (h : Agree (L ++ M) f1 f2) : Agree M f1 f2 := fun t ht => h t (List.mem_append_right _ ht)

theorem ev_agree {x : AOpd} {f1 f2 : List AV} (h : Agree x.slots f1 f2) : ev f1 x = ev f2 x := by
  cases x with
  | tmp t => exact h t (by simp [AOpd.slots])
  | const v => rfl

theorem evs_agree : ∀ {l : List AOpd} {f1 f2 : List AV}, Agree (listSlots l) f1 f2 → evs f1 l = evs f2 l
  | [], _, _, _ => rfl
  | x :: l, f1, f2, h => by
    simp only [evs]
    rw [ev_agree h.left, evs_agree h.right]

theorem evFns_agree : ∀ {l : List AOpd} {f1 f2 : List AV}, Agree (listSlots l) f1 f2 → evFns f1 l = evFns f2 l
  | [], _, _, _ => rfl
  | x :: l, f1, f2, h => by
    simp only [evFns]
    rw [ev_agree h.left, evFns_agree h.right]

theorem fillA_agree : ∀ {l : List (Nat × Nat × AOpd)} {f1 f2 : List AV} {cs : List SV}, Agree (partSlots l) f1 f2 → fillA f1 cs l = fillA f2 cs l
  | [], _, _, _, _ => rfl
  | (o, n, x) :: l, f1, f2, cs, h => by
    simp only [fillA]
    rw [ev_agree h.left]
    cases ev f2 x <;> simp only [fillA_agree h.right]

theorem optNat_agree {x : Option AOpd} {f1 f2 : List AV} {d : Nat} (h : Agree (optSlots x) f1 f2) : optNat f1 x d = optNat f2 x d := by
  cases x with
  | none => rfl
  | some x => simp only [optNat]; rw [ev_agree h]

theorem evOp_agree {op : AOp} {f1 f2 : List AV} {σ : AHeap} (h : Agree op.slots f1 f2) : evOp f1 σ op = evOp f2 σ op := by
  cases op with
  | mov x => simp only [evOp]; rw [ev_agree h]
  | pick c a b => simp only [evOp]; rw [ev_agree h.left.left, ev_agree h.left.right, ev_agree h.right]
  | new cells => rfl
  | box x => simp only [evOp]; rw [ev_agree h]
  | load agg x => simp only [evOp]; rw [ev_agree h]
  | store n a x => simp only [evOp]; rw [ev_agree h.left, ev_agree h.right]
  | nilck x => simp only [evOp]; rw [ev_agree h]
  | bin op x y => simp only [evOp]; rw [ev_agree h.left, ev_agree h.right]
  | eqv neg k x y => simp only [evOp]; rw [ev_agree h.left, ev_agree h.right]
  | eqvS neg n offs x y => simp only [evOp]; rw [ev_agree h.left, ev_agree h.right]
  | un op x => simp only [evOp]; rw [ev_agree h]
  | conv k x => simp only [evOp]; rw [ev_agree h]
  | build zero parts => simp only [evOp]; rw [fillA_agree h]
  | bslice esz len zero parts => simp only [evOp]; rw [fillA_agree h]
  | mkfn f caps => simp only [evOp]; rw [evFns_agree h]
  | mkslice esz bytes zero l c => simp only [evOp]; rw [ev_agree h.left, ev_agree h.right]
  | slice esz x lo hi mx =>
    simp only [evOp]
    have h1 := ev_agree h.left.left.left
    have h2 : ∀ d, optNat f1 lo d = optNat f2 lo d := fun d => optNat_agree h.left.left.right
    have h3 : ∀ d, optNat f1 hi d = optNat f2 hi d := fun d => optNat_agree h.left.right
    have h4 : ∀ d, optNat f1 mx d = optNat f2 mx d := fun d => optNat_agree h.right
    have h5 : ∀ m, mx = some m → ev f1 m = ev f2 m := by rintro m rfl; exact ev_agree h.right
    rw [h1]
    simp only [h2, h3, h4]
    cases mx with
    | none => rfl
    | some m => simp only [h5 m rfl]
  | slstr x lo hi =>
    simp only [evOp]
    have h2 : ∀ d, optNat f1 lo d = optNat f2 lo d := fun d => optNat_agree h.left.right
    have h3 : ∀ d, optNat f1 hi d = optNat f2 hi d := fun d => optNat_agree h.right
    rw [ev_agree h.left.left]
    simp only [h2, h3]
  | slarr n esz x lo hi =>
    simp only [evOp]
    have h2 : ∀ d, optNat f1 lo d = optNat f2 lo d := fun d => optNat_agree h.left.right
    have h3 : ∀ d, optNat f1 hi d = optNat f2 hi d := fun d => optNat_agree h.right
    rw [ev_agree h.left.left]
    simp only [h2, h3]
  | faddr off x => simp only [evOp]; rw [ev_agree h]
  | field off agg x => simp only [evOp]; rw [ev_agree h]
  | iaddr esz x i => simp only [evOp]; rw [ev_agree h.left, ev_agree h.right]
  | iaddrA n esz x i => simp only [evOp]; rw [ev_agree h.left, ev_agree h.right]
  | idxS x i => simp only [evOp]; rw [ev_agree h.left, ev_agree h.right]
  | idxA n esz agg x i => simp only [evOp]; rw [ev_agree h.left, ev_agree h.right]
  | extract x i => simp only [evOp]; rw [ev_agree h]
  | len x => simp only [evOp]; rw [ev_agree h]
  | lenS x => simp only [evOp]; rw [ev_agree h]
  | cap x => simp only [evOp]; rw [ev_agree h]
  | append esz bytes zero x y => simp only [evOp]; rw [ev_agree h.left, ev_agree h.right]
  | appendZ esz bytes zero x n => simp only [evOp]; rw [ev_agree h.left, ev_agree h.right]
  | copy esz x y => simp only [evOp]; rw [ev_agree h.left, ev_agree h.right]
  | minmax isMax x rest => simp only [evOp]; rw [ev_agree h.left, evs_agree h.right]
  | clear esz zero x => simp only [evOp]; rw [ev_agree h]
  | sbytes x => simp only [evOp]; rw [ev_agree h]
  | bstr x => simp only [evOp]; rw [ev_agree h]
  | call f args => rfl
  | invoke tab r args => rfl
  | ext e =>
    simp only [evOp]
    cases e with
    | bad => rfl
    | mkmap => rfl
    | newT t z => rfl
    | mkiface t x => simp only [evX]; rw [ev_agree h]
    | ifnil neg x => simp only [evX]; rw [ev_agree h]
    | mkmeth t x => simp only [evX]; rw [ev_agree h]
    | assert t z ok x => simp only [evX]; rw [ev_agree h]
    | maplen x => simp only [evX]; rw [ev_agree h]
    | mapget ek z ok x k =>
      have h : Agree (x.slots ++ k.slots) f1 f2 := h
      simp only [evX]; rw [ev_agree h.left, ev_agree h.right]
    | mapent ek z x k =>
      have h : Agree (x.slots ++ k.slots) f1 f2 := h
      simp only [evX]; rw [ev_agree h.left, ev_agree h.right]
    | mapdel ek x k =>
      have h : Agree (x.slots ++ k.slots) f1 f2 := h
      simp only [evX]; rw [ev_agree h.left, ev_agree h.right]
    | mapset ek x k v =>
      have h : Agree (x.slots ++ k.slots ++ v.slots) f1 f2 := h
      simp only [evX]; rw [ev_agree h.left.left, ev_agree h.left.right, ev_agree h.right]
    | mapst x k v =>
      have h : Agree (x.slots ++ k.slots ++ v.slots) f1 f2 := h
      simp only [evX]; rw [ev_agree h.left.left, ev_agree h.left.right, ev_agree h.right]

theorem evStep_agree {call : CallF} {op : AOp} {f1 f2 : List AV} {σ : AHeap} (h : Agree op.slots f1 f2) : evStep call f1 σ op = evStep call f2 σ op := by
  cases op
  case call f args =>
    simp only [evStep]
    rw [ev_agree h.left, evs_agree h.right]
  case invoke tab r args =>
    simp only [evStep]
    rw [ev_agree h.left, evs_agree h.right]
  all_goals exact evOp_agree h

/-! ### a frame of which some slots alone are left -/
def maskF (L : List Nat) : Nat → List AV → List AV
  | _, [] => []
  | i, v :: l => (if L.contains i then v else undefA) :: maskF L (i + 1) l

theorem maskF_length (L : List Nat) : ∀ (i : Nat) (fr : List AV), (maskF L i fr).length = fr.length
  | _, [] => rfl
  | i, v :: l => by simp [maskF, maskF_length L (i + 1) l]

theorem maskF_get (L : List Nat) : ∀ (i : Nat) (fr : List AV) (t : Nat), getSlot (maskF L i fr) t = if L.contains (i + t) then getSlot fr t else undefA
  | _, [], t => by simp [maskF, getSlot]
  | i, v :: l, 0 => by simp [maskF, getSlot]
  | i, v :: l, t + 1 => by
    simp only [maskF, getSlot]
    rw [maskF_get L (i + 1) l t, show i + 1 + t = i + (t + 1) by omega]

def maskV (L : List Nat) (tmps : Array Value) : Array Value := tmps.mapIdx fun i v => if L.contains i then v else undef

theorem maskV_get (L : List Nat) (tmps : Array Value) (t : Nat) : (maskV L tmps).getD t undef = if L.contains t then tmps.getD t undef else undef := by
  unfold maskV
  simp only [Array.getD_eq_getD_getElem?, Array.getElem?_mapIdx]
  cases tmps[t]? <;> simp

theorem FR.mask {ρ : Loc} {L : List Nat} {fr : List AV} {tmps : Array Value} (hl : fr.length = tmps.size) (h : ∀ t ∈ L, VR ρ (getSlot fr t) (tmps.getD t undef)) (hg : GlobOk ρ) :
    FR ρ (maskF L 0 fr) (maskV L tmps) := by
  refine ⟨by simp [maskF_length, maskV, hl], fun t => ?_, hg⟩
  rw [maskF_get, maskV_get, Nat.zero_add]
  by_cases hc : L.contains t = true
  · rw [if_pos hc, if_pos hc]
    exact h t (by simpa using hc)
  · rw [if_neg hc, if_neg hc]
    exact VR.undef

theorem mask_agree (L M : List Nat) (hM : ∀ t ∈ M, t ∈ L) (fr : List AV) : Agree M (maskF L 0 fr) fr := by
  intro t ht
  rw [maskF_get, Nat.zero_add, if_pos (by simpa using hM t ht)]

/-- The model's operation over such a frame. -/
theorem execOp_mask {P : Program} {ops : Array Oper} {o : Oper} {aop : AOp} {L : List Nat} {a : Act} (hc : compOpX P o.op = some aop) (hL : ∀ t ∈ o.looksAt ops, t ∈ L) :
    execOp ({ a with tmps := maskV L a.tmps } : Act).eval o = execOp a.eval o := by
  refine execOp_congr o (fun cs b e => by rw [e] at hc; simp [compOpX, compOp, compX, compInv] at hc) (fun x hx => ?_)
  cases x with
  | tmp t =>
    have ht : t ∈ L := hL t (List.mem_append_left _ (List.mem_filterMap.2 ⟨.tmp t, by simpa using hx, rfl⟩))
    show (maskV L a.tmps).getD t undef = a.tmps.getD t undef
    rw [maskV_get, if_pos (by simpa using ht)]
  | _ => rfl

end Go.Proofs.YtkolhfpofmpijaaDoor.Ab

/- A region whose order is open: the facts that its edges give, the run in the text's order, and memory relations cut and joined. -/
namespace Go.Proofs.YtkolhfpofmpijaaDoor.Ab
open Go
set_option linter.unusedSectionVars false
variable [LoopP]
set_option linter.unusedSimpArgs false
set_option linter.unusedVariables false

/-! ### what the edges say -/
def ancStep (o : Oper) (acc : List Nat) : Nat := o.after.toList.foldl (fun s e => if binding e then s ||| (2 ^ e.on) ||| (acc[e.on]?).getD 0 else s) 0

theorem ancs_cons (o : Oper) (l : List Oper) (acc : List Nat) : ancs (o :: l) acc = ancs l (acc ++ [ancStep o acc]) := rfl

theorem ancs_pre : ∀ (l : List Oper) (acc : List Nat), ∃ t, ancs l acc = acc ++ t
  | [], acc => ⟨[], by simp [ancs]⟩
  | o :: l, acc => by
    obtain ⟨t, ht⟩ := ancs_pre l (acc ++ [ancStep o acc])
    exact ⟨ancStep o acc :: t, by rw [ancs_cons, ht]; simp⟩

theorem ancs_at : ∀ (l : List Oper) (acc : List Nat) (j : Nat) (o : Oper), l[j]? = some o →
    (ancs l acc)[acc.length + j]? = some (ancStep o ((ancs l acc).take (acc.length + j)))
  | [], acc, j, o, h => by simp at h
  | p :: l, acc, 0, o, h => by
    simp at h
    subst h
    obtain ⟨t, ht⟩ := ancs_pre l (acc ++ [ancStep p acc])
    rw [ancs_cons, ht]
    simp
  | p :: l, acc, j + 1, o, h => by
    have h' : l[j]? = some o := by simpa using h
    have := ancs_at l (acc ++ [ancStep p acc]) j o h'
    rw [ancs_cons]
    have e : (acc ++ [ancStep p acc]).length + j = acc.length + (j + 1) := by simp; omega
    rwa [e] at this

def Prec (ops : Array Oper) (j i : Nat) : Prop := ∃ a, (ancs ops.toList [])[j]? = some a ∧ a.testBit i = true

theorem fold_testBit (A : Nat → Nat) (i : Nat) : ∀ (l : List Edge) (s : Nat), (l.foldl (fun s e => if binding e then s ||| (2 ^ e.on) ||| A e.on else s) s).testBit i = true →
    s.testBit i = true ∨ ∃ e ∈ l, binding e = true ∧ (e.on = i ∨ (A e.on).testBit i = true)
  | [], s, h => .inl h
  | e :: l, s, h => by
    simp only [List.foldl_cons] at h
    rcases fold_testBit A i l _ h with h1 | ⟨e', h1, h2⟩
    · split at h1
      · rename_i hb
        rw [Nat.testBit_or, Nat.testBit_or, Nat.testBit_two_pow] at h1
        simp only [Bool.or_eq_true, decide_eq_true_eq] at h1
        rcases h1 with (h1 | h1) | h1
        · exact .inl h1
        · exact .inr ⟨e, by simp, hb, .inl h1⟩
        · exact .inr ⟨e, by simp, hb, .inr h1⟩
      · exact .inl h1
    · exact .inr ⟨e', by simp [h1], h2⟩

theorem Prec.edge {ops : Array Oper} {j i : Nat} {o : Oper} (ho : ops[j]? = some o) (h : Prec ops j i) :
    ∃ e ∈ o.after.toList, binding e = true ∧ (e.on = i ∨ (e.on < j ∧ Prec ops e.on i)) := by
  obtain ⟨a, h1, h2⟩ := h
  have h3 := ancs_at ops.toList [] j o (by simpa using ho)
  simp only [List.length_nil, Nat.zero_add] at h3
  rw [h1] at h3
  cases h3
  unfold ancStep at h2
  rcases fold_testBit (fun e => (((ancs ops.toList []).take j)[e]?).getD 0) i o.after.toList 0 h2 with h | ⟨e, he, hb, h4⟩
  · simp at h
  · refine ⟨e, he, hb, ?_⟩
    rcases h4 with h4 | h4
    · exact .inl h4
    · right
      simp only [List.getElem?_take] at h4
      split at h4
      · rename_i hlt
        refine ⟨hlt, ?_⟩
        cases hq : (ancs ops.toList [])[e.on]? with
        | none => rw [hq] at h4; simp at h4
        | some a => rw [hq] at h4; exact ⟨a, hq, by simpa using h4⟩
      · simp at h4

/-- A set of operations that holds, with each, all that its edges name. -/
def Closed (ops : Array Oper) (S : Nat → Prop) : Prop := ∀ j o, ops[j]? = some o → S j → ∀ e ∈ o.after.toList, binding e = true → S e.on

theorem Closed.prec {ops : Array Oper} {S : Nat → Prop} (hS : Closed ops S) : ∀ (j i : Nat), j < ops.size → Prec ops j i → S j → S i := by
  intro j
  induction j using Nat.strongRecOn with
  | _ j ih =>
    intro i hj hp hs
    have ho : ops[j]? = some ops[j] := by simp [hj]
    obtain ⟨e, he, hb, h | ⟨hlt, h⟩⟩ := hp.edge ho
    · subst h; exact hS j _ ho hs e he hb
    · exact ih e.on hlt i (by omega) h (hS j _ ho hs e he hb)

theorem Closed.ready {ops : Array Oper} {S : Nat → Prop} (hS : Closed ops S) {i m : Nat} {o : Oper} (ho : ops[i]? = some o) (hr : ∀ e ∈ o.after.toList, binding e = true → S e.on) (hp : Prec ops i m) : S m := by
  obtain ⟨e, he, hb, h | ⟨hlt, h⟩⟩ := hp.edge ho
  · subst h; exact hr e he hb
  · exact hS.prec e.on m (by have := (Array.getElem?_eq_some_iff.1 ho).1; omega) h (hr e he hb)

theorem edgesOk_at : ∀ (l : List Oper) (j k : Nat) (o : Oper), edgesOk j l = true → l[k]? = some o → ∀ e ∈ o.after.toList, binding e = true → e.on < j + k
  | [], j, k, o, h, ho => by simp at ho
  | p :: l, j, 0, o, h, ho => by
    simp at ho
    subst ho
    simp only [edgesOk, Bool.and_eq_true, List.all_eq_true] at h
    intro e he hb
    have := h.1 e he
    rw [hb] at this
    simpa [Nat.blt_eq] using this
  | p :: l, j, k + 1, o, h, ho => by
    simp only [edgesOk, Bool.and_eq_true] at h
    intro e he hb
    have := edgesOk_at l (j + 1) k o h.2 (by simpa using ho) e he hb
    omega

theorem drawRow_at (pairs : List (Nat × Nat)) (anc j : Nat) (b : DRow) : ∀ (l : List DRow) (i t : Nat) (a : DRow), drawRow pairs anc j b i l = true → l[t]? = some a →
    anc.testBit (i + t) = true ∨ j ≤ i + t ∨ unordOk pairs (i + t) j a b = true
  | [], i, t, a, h, ha => by simp at ha
  | c :: l, i, 0, a, h, ha => by
    simp at ha
    subst ha
    simp only [drawRow, Bool.and_eq_true, Bool.or_eq_true] at h
    rcases h.1 with (h1 | h1) | h1
    · exact .inl h1
    · exact .inr (.inl (Nat.le_of_ble_eq_true h1))
    · exact .inr (.inr h1)
  | c :: l, i, t + 1, a, h, ha => by
    simp only [drawRow, Bool.and_eq_true] at h
    have := drawRow_at pairs anc j b l (i + 1) t a h.2 (by simpa using ha)
    rwa [show i + 1 + t = i + (t + 1) by omega] at this

theorem drawRows_at (pairs : List (Nat × Nat)) (rows : List DRow) : ∀ (ms : List Nat) (l : List DRow) (j t : Nat) (anc : Nat) (b : DRow), drawRows pairs rows j ms l = true → ms[t]? = some anc → l[t]? = some b →
    drawRow pairs anc (j + t) b 0 rows = true
  | [], l, j, t, anc, b, h, h1, h2 => by simp at h1
  | a :: ms, [], j, t, anc, b, h, h1, h2 => by simp at h2
  | a :: ms, c :: l, j, 0, anc, b, h, h1, h2 => by
    simp at h1 h2
    subst h1; subst h2
    simp only [drawRows, Bool.and_eq_true] at h
    exact h.1
  | a :: ms, c :: l, j, t + 1, anc, b, h, h1, h2 => by
    simp only [drawRows, Bool.and_eq_true] at h
    have := drawRows_at pairs rows ms l (j + 1) t anc b h.2 (by simpa using h1) (by simpa using h2)
    rwa [show j + 1 + t = j + (t + 1) by omega] at this

theorem dRows_at (ops : Array Oper) : ∀ (l : List Oper) (m : List AOper) (t : Nat) (o : Oper) (a : AOper), l[t]? = some o → m[t]? = some a → (dRows ops l m)[t]? = some (a, a.slots ++ o.looksAt ops)
  | [], m, t, o, a, h, _ => by simp at h
  | p :: l, [], t, o, a, _, h => by simp at h
  | p :: l, b :: m, 0, o, a, h1, h2 => by simp at h1 h2; subst h1; subst h2; rfl
  | p :: l, b :: m, t + 1, o, a, h1, h2 => by
    simp only [dRows, List.getElem?_cons_succ]
    exact dRows_at ops l m t o a (by simpa using h1) (by simpa using h2)

theorem compOpers_at {P : Program} {ops : Array Oper} : ∀ (l : List Oper) (m : List AOper) (t : Nat) (o : Oper), compOpers P ops l = some m → l[t]? = some o → ∃ a, m[t]? = some a ∧ compOper P ops o = some a
  | [], m, t, o, _, h => by simp at h
  | p :: l, m, t, o, hc, h => by
    simp only [compOpers] at hc
    split at hc
    · rename_i a r h1 h2
      cases hc
      cases t with
      | zero => simp at h; subst h; exact ⟨a, rfl, h1⟩
      | succ t => exact compOpers_at l r t o h2 (by simpa using h)
    · cases hc

theorem compOpers_length {P : Program} {ops : Array Oper} : ∀ (l : List Oper) (m : List AOper), compOpers P ops l = some m → m.length = l.length
  | [], m, hc => by cases hc; rfl
  | p :: l, m, hc => by
    simp only [compOpers] at hc
    split at hc
    · rename_i a r h1 h2
      cases hc
      simp [compOpers_length l r h2]
    · cases hc

/-! ### the run in the text's order -/
theorem evTr_spec {call : CallF} : ∀ (al : List AOper) (fr : List AV) (σ : AHeap) (tt : List (List AV × AHeap)) (fr' : List AV) (σ' : AHeap), evTr call al fr σ = some (tt, fr', σ') →
    tt.length = al.length + 1 ∧ tt[0]? = some (fr, σ) ∧ tt[al.length]? = some (fr', σ') ∧
    ∀ i o, al[i]? = some o → ∃ f s f2 s2, tt[i]? = some (f, s) ∧ tt[i + 1]? = some (f2, s2) ∧ evOper call f s o = some (f2, s2)
  | [], fr, σ, tt, fr', σ', h => by
    cases h
    exact ⟨rfl, rfl, rfl, fun i o hi => by simp at hi⟩
  | o :: l, fr, σ, tt, fr', σ', h => by
    simp only [evTr] at h
    split at h
    · rename_i f1 s1 h1
      split at h
      · rename_i t f2 s2 h2
        cases h
        obtain ⟨k1, k2, k3, k4⟩ := evTr_spec l f1 s1 t fr' σ' h2
        refine ⟨by simp [k1], rfl, by simpa using k3, fun i p hi => ?_⟩
        cases i with
        | zero =>
          simp at hi
          subst hi
          exact ⟨fr, σ, f1, s1, rfl, by simpa using k2, h1⟩
        | succ i =>
          obtain ⟨f, s, f2, s2, q1, q2, q3⟩ := k4 i p (by simpa using hi)
          exact ⟨f, s, f2, s2, by simpa using q1, by simpa using q2, q3⟩
      · cases h
    · cases h

section
variable {P : Program}

/-- One operation goes somewhere. -/
theorem step_exists [IsProg P] {call : CallF} (hcall : CallAny P call) {ρ : Loc} {o : Oper} {aop : AOp} {fr : List AV} {a : Act} {σ σ' : AHeap} {v : AV} {w : World} (hc : compOpX P o.op = some aop)
    (hf : FR ρ fr a.tmps) (hr : HR ρ σ.get w) (he : evStep call fr σ aop = some (v, σ')) : ∃ u w' ρ', Post ρ σ w ρ' σ' w' ∧ VR ρ' v u := by
  cases hcl : aop.isCall with
  | true =>
    obtain ⟨g, avs, he, vs, h3, hen⟩ := step_enter hc hcl hf he
    rcases hcall _ _ _ _ _ he with ⟨h1, h2⟩ | ⟨id, hg, h2⟩
    · obtain ⟨e, w', _, ⟨u, ρ', rfl, h5, h6⟩, _⟩ := h2 ρ w vs h3 hr []
      exact ⟨u, w', ρ', h5, h6⟩
    · rcases hen with ⟨h4, _⟩ | ⟨id', B, h4, hB, h5⟩
      · omega
      · have e : id' = id := by omega
        subst e
        obtain ⟨fn, tmps, assign, body, h6, h7⟩ := h2 ρ w vs B h3 hr hB
        obtain ⟨e, w', ⟨u, ρ', rfl, h8, h9⟩, _⟩ := h7.2 default [] (room_wide _)
        exact ⟨u, w', ρ', h8, h9⟩
  | false =>
    rw [evStep_notcall hcl] at he
    obtain ⟨r, u, w', ρ', h1, h2, h3, h4⟩ := op_simX hc hf hr he
    exact ⟨u, w', ρ', h3, h4⟩

/-- An operation that is no memory's: it leaves the heap, or makes one object. -/
theorem step_still [IsProg P] {call : CallF} {ρ : Loc} {o : Oper} {aop : AOp} {fr : List AV} {a : Act} {σ σ' : AHeap} {v : AV} (hc : compOpX P o.op = some aop) (hm : aop.memAny = false)
    (hf : FR ρ fr a.tmps) (hl : LenRel ρ σ.get) (he : evStep call fr σ aop = some (v, σ')) : ∀ id, id < σ.size → σ'.get id = σ.get id := by
  have hnc : aop.isCall = false := by cases aop <;> first | rfl | (cases hm)
  rw [evStep_notcall hnc] at he
  have hmm : aop.mem = false := by cases aop <;> first | rfl | exact hm
  rcases op_classX hc hf hl he with ⟨_, rfl, _⟩ | ⟨_, _, _, rfl, _⟩ | ⟨_, cs, _, _, rfl, _⟩ | ⟨h, _⟩
  · exact fun _ _ => rfl
  · exact fun _ _ => rfl
  · exact fun id hid => by rw [AHeap.get_alloc, if_neg (by omega)]
  · rw [hmm] at h; cases h

end

/-! ### relations cut and joined -/
theorem SRs.cells_cut {ρ τ : Loc} {n : Nat} {w wc : World} {B B' : Blk} {cs : List SV} (hd : τ.dom n) (h : Holds ρ w B cs) (k : Holds τ wc B' cs) : Holds (ρ.cut n) w B cs := by
  obtain ⟨vs, h1, h2⟩ := h
  obtain ⟨us, k1, _⟩ := k
  exact ⟨vs, h1.cut hd k1, h2⟩

/-- The relation, of the objects below n alone: what they name lies below n. -/
theorem HR.restrict {ρ τ : Loc} {g g' : Nat → Option AObj} {w wc : World} {n : Nat} (h : HR ρ g w) (k : HR τ g' wc) (hd : τ.dom n)
    (hg : ∀ id B, ρ id = some B → id < n → g' id = g id ∧ τ id ≠ none) : HR (ρ.cut n) g' w where
  dom := fun id B hB => by
    rw [Loc.cut_at] at hB
    split at hB
    · rename_i hlt
      obtain ⟨o, h1, h2, h3⟩ := h.dom id B hB
      obtain ⟨e, ht⟩ := hg id B hB hlt
      obtain ⟨B', hB'⟩ := Option.ne_none_iff_exists'.1 ht
      obtain ⟨o', k1, k2, k3⟩ := k.dom id B' hB'
      rw [e, h1] at k1
      cases k1
      exact ⟨o, by rw [e]; exact h1, ⟨h2.len, h2.fit, fun hd' => SRs.cells_cut hd (h2.holds hd') (k2.holds hd'), h2.own, fun mc es he => by
        obtain ⟨en, q1, q2⟩ := h2.mp mc es he
        obtain ⟨en', _, q3⟩ := k2.mp mc es he
        exact ⟨en, q1, q2.move (Loc.agrees_cut hd) q3⟩, h2.tg, fun he => (h2.lp he).cut hd (k2.lp he)⟩, h3⟩
    · cases hB
  excl := fun i j B B' o o' h1 h2 h3 h4 hne h5 h6 => by
    rw [Loc.cut_at] at h1 h2
    split at h1
    · rename_i hi
      split at h2
      · rename_i hj
        rw [(hg i B h1 hi).1] at h3
        rw [(hg j B' h2 hj).1] at h4
        exact h.excl i j B B' o o' h1 h2 h3 h4 hne h5 h6
      · cases h2
    · cases h1
  frz := fun b o v hv => by
    obtain ⟨h1, h2⟩ := h.frz b o v hv
    refine ⟨h1, ?_⟩
    rintro ⟨id, B, o', k1, k2, k3, k4⟩
    rw [Loc.cut_at] at k1
    split at k1
    · rename_i hlt
      rw [(hg id B k1 hlt).1] at k2
      exact h2 ⟨id, B, o', k1, k2, k3, k4⟩
    · cases k1
  gl := h.gl
  rows := h.rows

/-- One object more. -/
theorem HR.alloc {ρ : Loc} {g : Nat → Option AObj} {w : World} {n : Nat} {cs : List SV} {vs : List Value} {t : TypeId} (h : HR ρ g w) (hn : ρ n = none) (hv : SRs ρ cs vs) :
    HR (ρ.upd n ⟨w.heap.size, 0, vs.length, cs.length⟩) (fun id => if id = n then some ⟨cs, .own⟩ else g id) (w.alloc (.cells vs.toArray t)) := by
  have hle := Loc.le_upd hn (B := ⟨w.heap.size, 0, vs.length, cs.length⟩)
  have hold : ∀ k, k < w.heap.size → (w.alloc (.cells vs.toArray t)).heap[k]? = w.heap[k]? := by
    intro k hk
    show (w.heap.push _)[k]? = _
    rw [Array.getElem?_push, if_neg (by omega)]
  have hnew : (w.alloc (.cells vs.toArray t)).heap[w.heap.size]? = some (.cells vs.toArray t) := by
    show (w.heap.push _)[w.heap.size]? = _
    simp
  have hlt : ∀ i B, (ρ.upd n ⟨w.heap.size, 0, vs.length, cs.length⟩) i = some B → i ≠ n → ρ i = some B ∧ B.b < w.heap.size := by
    intro i B hB hi
    rw [Loc.upd_at, if_neg hi] at hB
    obtain ⟨o, h1, h2, h3⟩ := h.dom i B hB
    exact ⟨hB, h3⟩
  have hself : ∀ B, (ρ.upd n ⟨w.heap.size, 0, vs.length, cs.length⟩) n = some B → B = ⟨w.heap.size, 0, vs.length, cs.length⟩ := by
    intro B hB
    rw [Loc.upd_at, if_pos rfl] at hB
    cases hB
    rfl
  constructor
  · intro id B hB
    by_cases e : id = n
    · subst e
      have := hself B hB
      subst this
      refine ⟨⟨cs, .own⟩, by simp, ⟨rfl, by simp [hv.length], fun _ => ⟨vs, hv.mono hle, fun j v hj => ?_⟩, fun _ => ⟨vs.toArray, t, (0, 0), hnew, by simp, fun o _ => by omega⟩, fun c es he => (by cases he), fun t f he => (by cases he), fun he => (by cases he)⟩, by simp⟩
      simp only [World.cell?, hnew]
      simpa using hj
    · obtain ⟨k1, k2⟩ := hlt id B hB e
      obtain ⟨o, h1, h2, h3⟩ := h.dom id B k1
      exact ⟨o, by rw [if_neg e]; exact h1, h2.of_heap hle (hold _ k2), by simp; omega⟩
  · intro i j B B' o o' h1 h2 h3 h4 hne h5 h6
    by_cases e : i = n
    · subst e
      have e1 := hself B h1
      have := (hlt j B' h2 (fun e => hne e.symm)).2
      subst e1
      simp only
      omega
    · obtain ⟨k1, k2⟩ := hlt i B h1 e
      by_cases e' : j = n
      · subst e'
        have e1 := hself B' h2
        subst e1
        simp only
        omega
      · obtain ⟨q1, q2⟩ := hlt j B' h2 e'
        rw [if_neg e] at h3
        rw [if_neg e'] at h4
        exact h.excl i j B B' o o' k1 q1 h3 h4 hne h5 h6
  · refine frz_stays h (fun _ _ _ h => h) (fun b hb _ => hold b hb) ?_
    rintro b hb ⟨id, B, o, k1, k2, k3, k4⟩
    by_cases e : id = n
    · subst e
      have := hself B k1
      subst this
      simp only at k4
      omega
    · simp only [e, if_false] at k2
      exact ⟨id, B, o, (hlt id B k1 e).1, k2, k3, k4⟩
  · exact h.gl
  · exact rows_stays h (fun b hb _ => hold b hb)

/-- Two places, the first where it knows one. -/
def Loc.join (ρ ρ1 : Loc) : Loc := ⟨fun id => match ρ id with
  | some B => some B
  | none => ρ1 id, ρ1.fz⟩

theorem Loc.join_at (ρ ρ1 : Loc) (id : Nat) : (ρ.join ρ1) id = match ρ id with
  | some B => some B
  | none => ρ1 id := rfl

theorem Loc.le_join (ρ ρ1 : Loc) (hf : ∀ b o v, ρ.fz b o = some v → ρ1.fz b o = some v) : ρ.le (ρ.join ρ1) := by
  refine ⟨fun id B h => ?_, hf⟩
  rw [Loc.join_at, h]

/-- What an operation has done that knows the objects below n, told of all. -/
theorem HR.merge {ρ ρ1 : Loc} {g : Nat → Option AObj} {σ σ1 : AHeap} {w w1 : World} (h : HR ρ g w) (hp : Post (ρ.cut σ.size) σ w ρ1 σ1 w1)
    (hg : ∀ id B, ρ id = some B → id < σ.size → σ.get id = g id) (hno : ∀ id, σ.size ≤ id → id < σ1.size → ρ id = none) :
    HR (ρ.join ρ1) (fun id => if id < σ1.size then σ1.get id else g id) w1 ∧ ρ1.le (ρ.join ρ1) := by
  have hcut : ∀ id, id < σ.size → ρ1 id = ρ id := by
    intro id hid
    rw [hp.old id hid, Loc.cut_at, if_pos hid]
  have hfz : ∀ b o v, ρ.fz b o = some v → ρ1.fz b o = some v := hp.le.fz
  have hle1 : ρ1.le (ρ.join ρ1) := by
    refine ⟨fun id B hB => ?_, fun _ _ _ h => h⟩
    rw [Loc.join_at]
    by_cases hid : id < σ.size
    · rw [hcut id hid] at hB
      rw [hB]
    · rw [hno id (by omega) (hp.dom id B hB)]
      exact hB
  have hjoin : ∀ id B, (ρ.join ρ1) id = some B → (id < σ1.size ∧ ρ1 id = some B) ∨ (σ1.size ≤ id ∧ ρ id = some B) := by
    intro id B hB
    rw [Loc.join_at] at hB
    by_cases hid : id < σ.size
    · left
      refine ⟨Nat.lt_of_lt_of_le hid hp.size, ?_⟩
      rw [hcut id hid]
      cases hq : ρ id with
      | none => rw [hq] at hB; rw [hcut id hid, hq] at hB; cases hB
      | some B' => rw [hq] at hB; exact hB
    · by_cases hid1 : id < σ1.size
      · rw [hno id (by omega) hid1] at hB
        exact .inl ⟨hid1, hB⟩
      · right
        refine ⟨by omega, ?_⟩
        cases hq : ρ id with
        | none =>
          rw [hq] at hB
          exact absurd (hp.dom id B hB) hid1
        | some B' => rw [hq] at hB; exact hB
  -- an object that was there later: its block has stayed
  have later : ∀ id B o, σ1.size ≤ id → ρ id = some B → g id = some o → o.md ≠ .dead → ¬ Owned (ρ.cut σ.size) σ.get B.b := by
    rintro id B o hid hB ho hd ⟨i, B', o', k1, k2, k3, k4⟩
    rw [Loc.cut_at] at k1
    split at k1
    · rename_i hi
      have := h.excl i id B' B o' o k1 hB (by rw [← hg i B' k1 hi]; exact k2) ho (by have := hp.size; omega) k3 hd
      exact this k4
    · cases k1
  refine ⟨⟨?_, ?_, ?_, h.gl.mono hfz, hp.hr.rows⟩, hle1⟩
  · intro id B hB
    rcases hjoin id B hB with ⟨hid, hB1⟩ | ⟨hid, hB1⟩
    · obtain ⟨o, k1, k2, k3⟩ := hp.hr.dom id B hB1
      exact ⟨o, by rw [if_pos hid]; exact k1, k2.of_heap hle1 rfl, k3⟩
    · obtain ⟨o, k1, k2, k3⟩ := h.dom id B hB1
      refine ⟨o, by rw [if_neg (by omega)]; exact k1, ?_, Nat.lt_of_lt_of_le k3 hp.hsize⟩
      by_cases hd : o.md = .dead
      · exact .dead hd k2.len k2.fit
      · exact k2.of_heap (Loc.le_join ρ ρ1 hfz) (hp.frame B.b k3 (later id B o hid hB1 k1 hd))
  · intro i j B B' o o' h1 h2 h3 h4 hne h5 h6
    rcases hjoin i B h1 with ⟨hi, hB1⟩ | ⟨hi, hB1⟩
    · rw [if_pos hi] at h3
      rcases hjoin j B' h2 with ⟨hj, hB2⟩ | ⟨hj, hB2⟩
      · rw [if_pos hj] at h4
        exact hp.hr.excl i j B B' o o' hB1 hB2 h3 h4 hne h5 h6
      · rw [if_neg (by omega)] at h4
        have hl := later j B' o' hj hB2 h4 h6
        obtain ⟨_, _, _, k3⟩ := h.dom j B' hB2
        intro e
        apply hl
        rw [← e]
        have hown : Owned ρ1 σ1.get B.b := ⟨i, B, o, hB1, h3, h5, rfl⟩
        exact hp.owned (by rw [e]; exact k3) hown
    · rw [if_neg (by omega)] at h3
      rcases hjoin j B' h2 with ⟨hj, hB2⟩ | ⟨hj, hB2⟩
      · rw [if_pos hj] at h4
        obtain ⟨_, _, _, k3⟩ := h.dom i B hB1
        have hl := later i B o hi hB1 h3 (by intro e; rw [e] at h5; cases h5)
        by_cases hjo : j < σ.size
        · -- an old object, alive
          rw [hcut j hjo] at hB2
          have hcB : (ρ.cut σ.size) j = some B' := by rw [Loc.cut_at, if_pos hjo]; exact hB2
          obtain ⟨oj, m1, m2, m3⟩ := h.dom j B' hB2
          have hsj : σ.get j = some oj := by rw [hg j B' hB2 hjo]; exact m1
          refine h.excl i j B B' o oj hB1 hB2 h3 m1 hne h5 (fun hd => h6 ?_)
          obtain ⟨o2, n1, n2⟩ := hp.md' j B' oj hcB hsj hd
          rw [h4] at n1
          cases n1
          exact n2
        · rcases hp.fresh j B' (by omega) hB2 with q | q
          · intro e; omega
          · intro e; rw [← e] at q; exact hl q
      · rw [if_neg (by omega)] at h4
        exact h.excl i j B B' o o' hB1 hB2 h3 h4 hne h5 h6
  · intro b o v hv
    have hv : ρ1.fz b o = some v := hv
    obtain ⟨k1, k2⟩ := hp.hr.frz b o v hv
    refine ⟨k1, ?_⟩
    rintro ⟨id, B, o', q1, q2, q3, q4⟩
    rcases hjoin id B q1 with ⟨hid, hB1⟩ | ⟨hid, hB1⟩
    · simp only [hid, if_true] at q2
      exact k2 ⟨id, B, o', hB1, q2, q3, q4⟩
    · have hid' : ¬ id < σ1.size := by omega
      simp only [hid', if_false] at q2
      obtain ⟨_, _, _, hlt⟩ := h.dom id B hB1
      rcases hp.fz b o v hv with h7 | h7 | h7
      · exact (h.frz b o v h7).2 ⟨id, B, o', hB1, q2, q3, q4⟩
      · omega
      · exact later id B o' hid hB1 q2 (by intro e; rw [e] at q3; cases q3) (by rw [q4]; exact h7)

end Go.Proofs.YtkolhfpofmpijaaDoor.Ab

/- A region whose order is open: whatever the order, it ends where the text's order ends. -/
namespace Go.Proofs.YtkolhfpofmpijaaDoor.Ab
open Go
set_option linter.unusedSectionVars false
variable [LoopP]
set_option linter.unusedSimpArgs false
set_option linter.unusedVariables false

/-- The run in the text's order, and what is known of it. -/
structure Tr (P : Program) (call : CallF) (ops : Array Oper) (n : Nat) (F : Nat → List AV) (H : Nat → AHeap) (V : Nat → AV) (ao : Nat → AOper) (lk : Nat → List Nat)
    (ρ0 : Loc) (w0 : World) (pairs : List (Nat × Nat)) : Prop where
  hn : ops.size = n
  comp : ∀ i, i < n → ∃ o, ops[i]? = some o ∧ compOper P ops o = some (ao i) ∧ (∀ t ∈ (ao i).slots, t ∈ lk i) ∧ (∀ t ∈ o.looksAt ops, t ∈ lk i)
  edge : ∀ i o, ops[i]? = some o → ∀ e ∈ o.after.toList, binding e = true → e.on < i
  unord : ∀ i j, i < j → j < n → Prec ops j i ∨ unordOk pairs i j (ao i, lk i) (ao j, lk j) = true
  step : ∀ i, i < n → (wantedA (F i) (ao i).guard = true ∧ evStep call (F i) (H i) (ao i).op = some (V i, H (i + 1))) ∨ (wantedA (F i) (ao i).guard = false ∧ V i = undefA ∧ H (i + 1) = H i)
  frame : ∀ i, i < n → F (i + 1) = putDst (F i) (ao i).dst (V i)
  canon : ∀ j, j ≤ n → ∃ τ wc tm, Post ρ0 (H 0) w0 τ (H j) wc ∧ FR τ (F j) tm
  prs : ∀ i j, (i, j) ∈ pairs → i < n → j < n → wantedA (F j) (ao j).guard = true → ∀ agg x id off, (ao j).op = .load agg x → ev (F j) x = .one (.ptr id off) → (H (i + 1)).get id = (H i).get id

def Lst (listed : Array Bool) (i : Nat) : Prop := listed.getD i false = true

structure DI (D : List Deferred) (ops : Array Oper) (n : Nat) (F : Nat → List AV) (H : Nat → AHeap) (V : Nat → AV) (ao : Nat → AOper)
    (ρ0 : Loc) (w0 : World) (listed : Array Bool) (a : Act) (w : World) (ρ : Loc) (g : Nat → Option AObj) (k : Nat) : Prop where
  lsz : listed.size = n
  closed : Closed ops (Lst listed)
  mem : ∀ i, i < n → (ao i).op.memAny = true → (Lst listed i ↔ i < k)
  kn : k ≤ n
  hr : HR ρ g w
  born : ∀ id B, ρ id = some B → ∃ b, b ≤ n ∧ id < (H b).size ∧ (b = 0 ∨ ∃ m, b = m + 1 ∧ Lst listed m ∧ (H m).size ≤ id) ∧ g id = (H (max k b)).get id
  le0 : ρ0.le ρ
  own : ∀ m, m < n → Lst listed m → ∀ id, (H m).size ≤ id → id < (H (m + 1)).size → ∃ B, ρ id = some B
  tsz : a.tmps.size = (F 0).length
  defers : a.defers = D
  temps : ∀ t, t < (F 0).length → ∃ x, VR ρ x (a.tmps.getD t undef) ∧ ((x = getSlot (F 0) t ∧ ∀ m, m < n → Lst listed m → (ao m).dst ≠ some t) ∨
    ∃ m, m < n ∧ Lst listed m ∧ (ao m).dst = some t ∧ x = V m ∧ ∀ m', m < m' → m' < n → Lst listed m' → (ao m').dst ≠ some t)
  hsize : w0.heap.size ≤ w.heap.size
  frame : ∀ b, b < w0.heap.size → ¬ Owned ρ0 (H 0).get b → w.heap[b]? = w0.heap[b]?
  fresh : ∀ id B, (H 0).size ≤ id → ρ id = some B → w0.heap.size ≤ B.b ∨ Owned ρ0 (H 0).get B.b
  owned : ∀ b, b < w0.heap.size → Owned ρ g b → Owned ρ0 (H 0).get b
  fzn : ∀ b o v, ρ.fz b o = some v → ρ0.fz b o = some v ∨ w0.heap.size ≤ b ∨ Owned ρ0 (H 0).get b
  old : ∀ id, id < (H 0).size → ρ id = ρ0 id
  quiet : ∀ j, j < n → ¬ Lst listed j → ∀ e, e < n → j < e → Lst listed e → (ao e).op.memAny = true → ∀ id, (H j).size ≤ id → id < (H (j + 1)).size → (H (e + 1)).get id = (H e).get id
  os : w.os = w0.os
  tape : w.tape = w0.tape
  output : w.output = w0.output

section
variable {D : List Deferred} {P : Program} {call : CallF} {ops : Array Oper} {n : Nat} {F : Nat → List AV} {H : Nat → AHeap} {V : Nat → AV} {ao : Nat → AOper} {lk : Nat → List Nat}
  {ρ0 : Loc} {w0 : World} {pairs : List (Nat × Nat)}

theorem clash_false {d : Option Nat} {l : List Nat} (h : clash d l = false) : ∀ t, d = some t → t ∉ l := by
  rintro t rfl ht
  unfold clash at h
  simp at h
  exact h ht

theorem unordOk_spec {i j : Nat} {a b : DRow} (h : unordOk pairs i j a b = true) :
    (∀ t, a.1.dst = some t → t ∉ b.2) ∧ (∀ t, b.1.dst = some t → t ∉ a.2) ∧ (∀ t, a.1.dst = some t → b.1.dst ≠ some t) ∧
    ¬ (a.1.op.memAny = true ∧ b.1.op.memAny = true) ∧ (a.1.op.memAny = true → b.1.op.isLoad = true → (i, j) ∈ pairs) ∧ (a.1.op.isLoad = true → b.1.op.memAny = true → (j, i) ∈ pairs) := by
  unfold unordOk at h
  simp only [Bool.and_eq_true, Bool.not_eq_true', Bool.or_eq_true] at h
  obtain ⟨⟨⟨⟨⟨h1, h2⟩, h3⟩, h4⟩, h5⟩, h6⟩ := h
  refine ⟨clash_false h1, clash_false h2, fun t ht e => clash_false h3 t ht (by simp [e]), ?_, ?_, ?_⟩
  · rintro ⟨k1, k2⟩; rw [k1, k2] at h4; cases h4
  · intro k1 k2
    rcases h5 with h5 | h5
    · rw [k1, k2] at h5; cases h5
    · simpa using h5
  · intro k1 k2
    rcases h6 with h6 | h6
    · rw [k1, k2] at h6; cases h6
    · simpa using h6

theorem Tr.mono1 [IsProg P] (tr : Tr P call ops n F H V ao lk ρ0 w0 pairs) (hcall : CallAny P call) {j : Nat} (hj : j < n) : (H j).size ≤ (H (j + 1)).size := by
  obtain ⟨τ, wc, tm, hp, hf⟩ := tr.canon j (by omega)
  rcases tr.step j hj with ⟨_, h⟩ | ⟨_, _, h⟩
  · obtain ⟨o, _, hc, _, _⟩ := tr.comp j hj
    obtain ⟨_, hcop, _⟩ := wanted_rel (a := ⟨tm, []⟩) hc hf
    obtain ⟨u, w', ρ', hp2, _⟩ := step_exists hcall (a := ⟨tm, []⟩) hcop hf hp.hr h
    exact hp2.size
  · rw [h]; exact Nat.le_refl _

theorem Tr.mono [IsProg P] (tr : Tr P call ops n F H V ao lk ρ0 w0 pairs) (hcall : CallAny P call) : ∀ (d i : Nat), i + d ≤ n → (H i).size ≤ (H (i + d)).size
  | 0, i, _ => Nat.le_refl _
  | d + 1, i, h => Nat.le_trans (Tr.mono tr hcall d i (by omega)) (by have := tr.mono1 hcall (j := i + d) (by omega); rwa [Nat.add_assoc] at this)

theorem Tr.le [IsProg P] (tr : Tr P call ops n F H V ao lk ρ0 w0 pairs) (hcall : CallAny P call) {i j : Nat} (h : i ≤ j) (hj : j ≤ n) : (H i).size ≤ (H j).size := by
  have := tr.mono hcall (j - i) i (by omega)
  rwa [show i + (j - i) = j by omega] at this

theorem Tr.stay [IsProg P] (tr : Tr P call ops n F H V ao lk ρ0 w0 pairs) {j : Nat} (hj : j < n) (hm : (ao j).op.memAny = false) {id : Nat} (hid : id < (H j).size) : (H (j + 1)).get id = (H j).get id := by
  obtain ⟨τ, wc, tm, hp, hf⟩ := tr.canon j (by omega)
  rcases tr.step j hj with ⟨_, h⟩ | ⟨_, _, h⟩
  · obtain ⟨o, _, hc, _, _⟩ := tr.comp j hj
    obtain ⟨_, hcop, _⟩ := wanted_rel (a := ⟨tm, []⟩) hc hf
    exact step_still (a := ⟨tm, []⟩) hcop hm hf hp.hr.lenRel h id hid
  · rw [h]

theorem Tr.chain [IsProg P] (tr : Tr P call ops n F H V ao lk ρ0 w0 pairs) (hcall : CallAny P call) {id : Nat} : ∀ (d lo : Nat), lo + d ≤ n → id < (H lo).size →
    (∀ e, lo ≤ e → e < lo + d → (ao e).op.memAny = true → (H (e + 1)).get id = (H e).get id) → (H (lo + d)).get id = (H lo).get id
  | 0, lo, _, _, _ => rfl
  | d + 1, lo, h, hid, hm => by
    have ih := Tr.chain tr hcall d lo (by omega) hid (fun e h1 h2 => hm e h1 (by omega))
    rw [← ih, ← Nat.add_assoc]
    cases hq : (ao (lo + d)).op.memAny with
    | true => exact hm (lo + d) (by omega) (by omega) hq
    | false => exact tr.stay (by omega) hq (Nat.lt_of_lt_of_le hid (tr.mono hcall d lo (by omega)))

theorem Tr.chain' [IsProg P] (tr : Tr P call ops n F H V ao lk ρ0 w0 pairs) (hcall : CallAny P call) {id lo hi : Nat} (h : lo ≤ hi) (hn : hi ≤ n) (hid : id < (H lo).size)
    (hm : ∀ e, lo ≤ e → e < hi → (ao e).op.memAny = true → (H (e + 1)).get id = (H e).get id) : (H hi).get id = (H lo).get id := by
  have := tr.chain hcall (id := id) (hi - lo) lo (by omega) hid (fun e h1 h2 => hm e h1 (by omega))
  rwa [show lo + (hi - lo) = hi by omega] at this

/-- What a slot holds in the text's order. -/
theorem Tr.slot0 (tr : Tr P call ops n F H V ao lk ρ0 w0 pairs) {t : Nat} : ∀ (j : Nat), j ≤ n → (∀ m, m < j → (ao m).dst ≠ some t) → getSlot (F j) t = getSlot (F 0) t
  | 0, _, _ => rfl
  | j + 1, h, hm => by
    rw [tr.frame j (by omega)]
    have ih := Tr.slot0 tr j (by omega) (fun m hm' => hm m (by omega))
    have hd := hm j (by omega)
    cases hq : (ao j).dst with
    | none => exact ih
    | some d =>
      simp only [putDst, getSlot_eq, setSlot_eq]
      rw [List.getElem?_set_ne (fun e => hd (by rw [hq, e])), ← getSlot_eq]
      rw [ih, getSlot_eq]

theorem Tr.flen (tr : Tr P call ops n F H V ao lk ρ0 w0 pairs) : ∀ (j : Nat), j ≤ n → (F j).length = (F 0).length
  | 0, _ => rfl
  | j + 1, h => by
    rw [tr.frame j (by omega), ← Tr.flen tr j (by omega)]
    cases (ao j).dst <;> simp [putDst, setSlot_eq]

theorem Tr.slotV (tr : Tr P call ops n F H V ao lk ρ0 w0 pairs) {t m : Nat} (ht : t < (F 0).length) (hm : m < n) (hd : (ao m).dst = some t) : ∀ (d : Nat), m + 1 + d ≤ n → (∀ m', m < m' → m' < m + 1 + d → (ao m').dst ≠ some t) →
    getSlot (F (m + 1 + d)) t = V m
  | 0, h, _ => by
    simp only [Nat.add_zero]
    rw [tr.frame m hm, hd]
    simp only [putDst, getSlot_eq, setSlot_eq]
    rw [List.getElem?_set_self (by rw [tr.flen m (by omega)]; exact ht)]
    rfl
  | d + 1, h, hno => by
    rw [← Nat.add_assoc, tr.frame (m + 1 + d) (by omega)]
    have ih := Tr.slotV tr ht hm hd d (by omega) (fun m' h1 h2 => hno m' h1 (by omega))
    have hdd := hno (m + 1 + d) (by omega) (by omega)
    cases hq : (ao (m + 1 + d)).dst with
    | none => exact ih
    | some d' =>
      simp only [putDst, getSlot_eq, setSlot_eq]
      rw [List.getElem?_set_ne (fun e => hdd (by rw [hq, e])), ← getSlot_eq]
      exact ih

theorem Lst.lt {listed : Array Bool} {i : Nat} (h : Lst listed i) : i < listed.size := by
  unfold Lst at h
  rcases Nat.lt_or_ge i listed.size with q | q
  · exact q
  · simp [q] at h

theorem Lst.set {listed : Array Bool} {i j : Nat} (hi : i < listed.size) : Lst (listed.setIfInBounds i true) j ↔ Lst listed j ∨ j = i := by
  unfold Lst
  simp only [Array.getD_eq_getD_getElem?, Array.getElem?_setIfInBounds]
  by_cases e : i = j
  · subst e; simp [hi]
  · simp only [e, if_false]
    constructor
    · exact .inl
    · rintro (h | h)
      · exact h
      · exact absurd h.symm e

/-- The slots at which a ready operation looks hold what they hold in the text's order. -/
theorem DI.looked {listed : Array Bool} {a : Act} {w : World} {ρ : Loc} {g : Nat → Option AObj} {k : Nat} (tr : Tr P call ops n F H V ao lk ρ0 w0 pairs)
    (d : DI D ops n F H V ao ρ0 w0 listed a w ρ g k) {i : Nat} {o : Oper} (hi : i < n) (ho : ops[i]? = some o) (hun : ¬ Lst listed i) (hready : ∀ e ∈ o.after.toList, binding e = true → Lst listed e.on)
    {t : Nat} (ht : t ∈ lk i) : VR ρ (getSlot (F i) t) (a.tmps.getD t undef) := by
  by_cases hlt : t < (F 0).length
  · obtain ⟨x, hx, hcase⟩ := d.temps t hlt
    have before : ∀ m, m < i → (ao m).dst = some t → Lst listed m := by
      intro m hm hd
      rcases tr.unord m i hm hi with h | h
      · exact d.closed.ready ho hready h
      · exact absurd ht ((unordOk_spec h).1 t hd)
    have after : ∀ m, i < m → m < n → (ao m).dst = some t → ¬ Lst listed m := by
      intro m hm hmn hd hl
      rcases tr.unord i m hm hmn with h | h
      · exact hun (d.closed.prec m i (by rw [tr.hn]; exact hmn) h hl)
      · exact absurd ht ((unordOk_spec h).2.1 t hd)
    rcases hcase with ⟨rfl, hno⟩ | ⟨m, hm, hl, hd, rfl, hlast⟩
    · rw [tr.slot0 i (by omega) (fun m hm hd => hno m (by omega) (before m hm hd) hd)]
      exact hx
    · have hmi : m < i := by
        rcases Nat.lt_trichotomy m i with h | h | h
        · exact h
        · subst h; exact absurd hl hun
        · exact absurd hl (after m h hm hd)
      have := tr.slotV hlt hm hd (i - (m + 1)) (by omega) (fun m' h1 h2 hd' => hlast m' h1 (by omega) (before m' (by omega) hd') hd')
      rw [show m + 1 + (i - (m + 1)) = i by omega] at this
      rw [this]
      exact hx
  · have h1 : getSlot (F i) t = undefA := by
      rw [getSlot_eq, List.getElem?_eq_none (by rw [tr.flen i (by omega)]; omega)]
      rfl
    have h2 : a.tmps.getD t undef = undef := by
      have : a.tmps.size ≤ t := by rw [d.tsz]; omega
      simp [this]
    rw [h1, h2]
    exact VR.undef

/-- Of an operation that is not listed no object is there. -/
theorem DI.absent [IsProg P] {listed : Array Bool} {a : Act} {w : World} {ρ : Loc} {g : Nat → Option AObj} {k : Nat} (tr : Tr P call ops n F H V ao lk ρ0 w0 pairs) (hcall : CallAny P call)
    (d : DI D ops n F H V ao ρ0 w0 listed a w ρ g k) {i : Nat} (hi : i < n) (hun : ¬ Lst listed i) {id : Nat} (h1 : (H i).size ≤ id) (h2 : id < (H (i + 1)).size) : ρ id = none := by
  cases hq : ρ id with
  | none => rfl
  | some B =>
    obtain ⟨b, hb, hlt, hcase, _⟩ := d.born id B hq
    rcases hcase with rfl | ⟨m, rfl, hl, hm⟩
    · have := tr.le hcall (i := 0) (j := i) (by omega) (by omega)
      omega
    · rcases Nat.lt_trichotomy m i with h | h | h
      · have := tr.le hcall (i := m + 1) (j := i) (by omega) (by omega)
        omega
      · subst h; exact absurd hl hun
      · have := tr.le hcall (i := i + 1) (j := m) (by omega) (by omega)
        omega

/-- An object that is there holds what it holds, in the text's order, ahead of a ready operation: where no unordered operation has touched it. -/
theorem DI.same_at [IsProg P] {listed : Array Bool} {a : Act} {w : World} {ρ : Loc} {g : Nat → Option AObj} {k : Nat} (tr : Tr P call ops n F H V ao lk ρ0 w0 pairs) (hcall : CallAny P call)
    (d : DI D ops n F H V ao ρ0 w0 listed a w ρ g k) {i : Nat} {o : Oper} (hi : i < n) (ho : ops[i]? = some o) (hun : ¬ Lst listed i) (hready : ∀ e ∈ o.after.toList, binding e = true → Lst listed e.on)
    {id : Nat} {B : Blk} (hB : ρ id = some B) (hid : id < (H i).size)
    (hpair : ∀ e, e < n → (ao e).op.memAny = true → (e < i ∧ ¬ Prec ops i e ∨ i < e ∧ ¬ Prec ops e i) → (H (e + 1)).get id = (H e).get id) : g id = (H i).get id := by
  obtain ⟨b, hb, hlt, hcase, hg⟩ := d.born id B hB
  have hbi : b ≤ i := by
    rcases hcase with rfl | ⟨m, rfl, hl, hm⟩
    · omega
    · rcases Nat.lt_or_ge m i with h | h
      · omega
      · have := tr.le hcall (i := i) (j := m) h (by omega)
        omega
  rw [hg]
  by_cases hk : k ≤ i
  · have hmx : id < (H (max k b)).size := Nat.lt_of_lt_of_le hlt (tr.le hcall (by omega) (by omega))
    refine (tr.chain' hcall (by omega) (by omega) hmx (fun e h1 h2 hm => ?_)).symm
    refine hpair e (by omega) hm (.inl ⟨h2, fun hp => ?_⟩)
    have := (d.mem e (by omega) hm).1 (d.closed.ready ho hready hp)
    omega
  · rw [show max k b = k by omega]
    refine tr.chain' hcall (by omega) d.kn hid (fun e h1 h2 hm => ?_)
    by_cases he : e = i
    · subst he
      exact absurd ((d.mem e hi hm).2 h2) hun
    · refine hpair e (by have := d.kn; omega) hm (.inr ⟨by omega, fun hp => ?_⟩)
      have hen : e < n := by have := d.kn; omega
      exact hun (d.closed.prec e i (by rw [tr.hn]; exact hen) hp ((d.mem e hen hm).2 h2))

/-- One operation more is listed. -/
theorem DI.next {listed : Array Bool} {a : Act} {w w' : World} {ρ ρ' : Loc} {g g' : Nat → Option AObj} {k k' : Nat} {u : Value} (tr : Tr P call ops n F H V ao lk ρ0 w0 pairs)
    (d : DI D ops n F H V ao ρ0 w0 listed a w ρ g k) {i : Nat} {o : Oper} (hi : i < n) (ho : ops[i]? = some o) (hun : ¬ Lst listed i) (hready : ∀ e ∈ o.after.toList, binding e = true → Lst listed e.on)
    (hle : ρ.le ρ') (hr' : HR ρ' g' w') (hv : VR ρ' (V i) u)
    (hkn : k' ≤ n) (hmem : ∀ j, j < n → (ao j).op.memAny = true → (Lst listed j ∨ j = i ↔ j < k'))
    (hborn : ∀ id B, ρ' id = some B → ∃ b, b ≤ n ∧ id < (H b).size ∧ (b = 0 ∨ ∃ m, b = m + 1 ∧ (Lst listed m ∨ m = i) ∧ (H m).size ≤ id) ∧ g' id = (H (max k' b)).get id)
    (hown : ∀ id, (H i).size ≤ id → id < (H (i + 1)).size → ∃ B, ρ' id = some B)
    (hsize : w.heap.size ≤ w'.heap.size)
    (hframe : ∀ b, b < w0.heap.size → ¬ Owned ρ0 (H 0).get b → w'.heap[b]? = w.heap[b]?)
    (hfresh : ∀ id B, (H 0).size ≤ id → ρ' id = some B → w0.heap.size ≤ B.b ∨ Owned ρ0 (H 0).get B.b)
    (howned : ∀ b, b < w0.heap.size → Owned ρ' g' b → Owned ρ0 (H 0).get b)
    (hfzn : ∀ b o v, ρ'.fz b o = some v → ρ0.fz b o = some v ∨ w0.heap.size ≤ b ∨ Owned ρ0 (H 0).get b)
    (hold : ∀ id, id < (H 0).size → ρ' id = ρ id)
    (hquiet : (ao i).op.memAny = true → ∀ j, j < i → ¬ Lst listed j → ∀ id, (H j).size ≤ id → id < (H (j + 1)).size → (H (i + 1)).get id = (H i).get id)
    (hos : w'.os = w.os) (htape : w'.tape = w.tape) (hout : w'.output = w.output) :
    DI D ops n F H V ao ρ0 w0 (listed.setIfInBounds i true) (a.put (ao i).dst u) w' ρ' g' k' where
  lsz := by simpa using d.lsz
  closed := fun j oj hoj hl e he hb => by
    have hsz : i < listed.size := by rw [d.lsz]; exact hi
    rw [Lst.set hsz] at hl ⊢
    rcases hl with hl | rfl
    · exact .inl (d.closed j oj hoj hl e he hb)
    · rw [ho] at hoj; cases hoj
      exact .inl (hready e he hb)
  mem := fun j hj hm => by
    have hsz : i < listed.size := by rw [d.lsz]; exact hi
    rw [Lst.set hsz]
    exact hmem j hj hm
  kn := hkn
  hr := hr'
  born := fun id B hB => by
    have hsz : i < listed.size := by rw [d.lsz]; exact hi
    obtain ⟨b, h1, h2, h3, h4⟩ := hborn id B hB
    refine ⟨b, h1, h2, ?_, h4⟩
    rcases h3 with h3 | ⟨m, h5, h6, h7⟩
    · exact .inl h3
    · exact .inr ⟨m, h5, (Lst.set hsz).2 h6, h7⟩
  le0 := d.le0.trans hle
  own := fun m hm hl id h1 h2 => by
    have hsz : i < listed.size := by rw [d.lsz]; exact hi
    rcases (Lst.set hsz).1 hl with hl | rfl
    · obtain ⟨B, hB⟩ := d.own m hm hl id h1 h2
      exact ⟨B, hle.at_ _ _ hB⟩
    · exact hown id h1 h2
  tsz := by
    rw [← d.tsz]
    cases (ao i).dst <;> simp [Act.put]
  defers := by
    rw [← d.defers]
    cases (ao i).dst <;> rfl
  temps := fun t ht => by
    have hsz : i < listed.size := by rw [d.lsz]; exact hi
    by_cases hd : (ao i).dst = some t
    · refine ⟨V i, ?_, .inr ⟨i, hi, (Lst.set hsz).2 (.inr rfl), hd, rfl, fun m' h1 h2 hl hd' => ?_⟩⟩
      · rw [hd]
        have : t < a.tmps.size := by rw [d.tsz]; exact ht
        simp only [Act.put, Array.getD_eq_getD_getElem?, Array.getElem?_setIfInBounds]
        simp [this, hv]
      · rcases (Lst.set hsz).1 hl with hl | rfl
        · rcases tr.unord i m' h1 h2 with h | h
          · exact hun (d.closed.prec m' i (by rw [tr.hn]; exact h2) h hl)
          · exact (unordOk_spec h).2.2.1 t hd hd'
        · omega
    · obtain ⟨x, hx, hcase⟩ := d.temps t ht
      have hput : (a.put (ao i).dst u).tmps.getD t undef = a.tmps.getD t undef := by
        cases hq : (ao i).dst with
        | none => rfl
        | some d' =>
          simp only [Act.put, Array.getD_eq_getD_getElem?]
          rw [Array.getElem?_setIfInBounds_ne (fun e => hd (by rw [hq, e]))]
      refine ⟨x, by rw [hput]; exact hx.mono hle, ?_⟩
      rcases hcase with ⟨h1, h2⟩ | ⟨m, h1, h2, h3, h4, h5⟩
      · refine .inl ⟨h1, fun m hm hl => ?_⟩
        rcases (Lst.set hsz).1 hl with hl | rfl
        · exact h2 m hm hl
        · exact hd
      · refine .inr ⟨m, h1, (Lst.set hsz).2 (.inl h2), h3, h4, fun m' k1 k2 hl => ?_⟩
        rcases (Lst.set hsz).1 hl with hl | rfl
        · exact h5 m' k1 k2 hl
        · exact hd
  hsize := Nat.le_trans d.hsize hsize
  frame := fun b hb hno => by rw [hframe b hb hno, d.frame b hb hno]
  fresh := hfresh
  owned := howned
  fzn := hfzn
  old := fun id hid => by rw [hold id hid, d.old id hid]
  quiet := fun j hj hnl e he hje hl hm id h1 h2 => by
    have hsz : i < listed.size := by rw [d.lsz]; exact hi
    rw [Lst.set hsz] at hnl hl
    rcases hl with hl | rfl
    · exact d.quiet j hj (fun h => hnl (.inl h)) e he hje hl hm id h1 h2
    · exact hquiet hm j hje (fun h => hnl (.inl h)) id h1 h2
  os := hos.trans d.os
  tape := htape.trans d.tape
  output := hout.trans d.output

end
end Go.Proofs.YtkolhfpofmpijaaDoor.Ab

/- A region whose order is open: one operation more, and the whole. -/
namespace Go.Proofs.YtkolhfpofmpijaaDoor.Ab
open Go
set_option linter.unusedSectionVars false
variable [LoopP]
set_option linter.unusedSimpArgs false
set_option linter.unusedVariables false

section
variable {D : List Deferred} {P : Program} {call : CallF} {ops : Array Oper} {n : Nat} {F : Nat → List AV} {H : Nat → AHeap} {V : Nat → AV} {ao : Nat → AOper} {lk : Nat → List Nat}
  {ρ0 : Loc} {w0 : World} {pairs : List (Nat × Nat)}

/-- An object's number of cells stays. -/
theorem Tr.len1 [IsProg P] (tr : Tr P call ops n F H V ao lk ρ0 w0 pairs) (hcall : CallAny P call) {j : Nat} (hj : j < n) {id : Nat} (hid : id < (H j).size) (hdom : id < (H 0).size → ∃ B, ρ0 id = some B)
    {o o' : AObj} (h1 : (H j).get id = some o) (h2 : (H (j + 1)).get id = some o') : o'.cells.length = o.cells.length := by
  obtain ⟨τ, wc, tm, hp, hf⟩ := tr.canon j (by omega)
  obtain ⟨B, hB⟩ : ∃ B, τ id = some B := by
    by_cases h : id < (H 0).size
    · obtain ⟨B, hB⟩ := hdom h
      exact ⟨B, hp.le.at_ _ _ hB⟩
    · exact hp.new id (by omega) hid
  rcases tr.step j hj with ⟨_, h⟩ | ⟨_, _, h⟩
  · obtain ⟨oo, _, hc, _, _⟩ := tr.comp j hj
    obtain ⟨_, hcop, _⟩ := wanted_rel (a := ⟨tm, []⟩) hc hf
    obtain ⟨u, w', ρ', hp2, _⟩ := step_exists hcall (a := ⟨tm, []⟩) hcop hf hp.hr h
    obtain ⟨q1, q2, q3, _⟩ := hp.hr.dom id B hB
    obtain ⟨r1, r2, r3, _⟩ := hp2.hr.dom id B (hp2.le.at_ _ _ hB)
    rw [h1] at q2; cases q2
    rw [h2] at r2; cases r2
    rw [q3.len, r3.len]
  · rw [h, h1] at h2
    cases h2
    rfl

theorem Tr.there (tr : Tr P call ops n F H V ao lk ρ0 w0 pairs) {j : Nat} (hj : j ≤ n) {id : Nat} (hid : id < (H j).size) (hdom : id < (H 0).size → ∃ B, ρ0 id = some B) :
    ∃ o, (H j).get id = some o := by
  obtain ⟨τ, wc, tm, hp, hf⟩ := tr.canon j hj
  obtain ⟨B, hB⟩ : ∃ B, τ id = some B := by
    by_cases h : id < (H 0).size
    · obtain ⟨B, hB⟩ := hdom h
      exact ⟨B, hp.le.at_ _ _ hB⟩
    · exact hp.new id (by omega) hid
  obtain ⟨o, h1, _⟩ := hp.hr.dom id B hB
  exact ⟨o, h1⟩

theorem Tr.lens [IsProg P] (tr : Tr P call ops n F H V ao lk ρ0 w0 pairs) (hcall : CallAny P call) {id : Nat} (hdom : id < (H 0).size → ∃ B, ρ0 id = some B) : ∀ (d j : Nat), j + d ≤ n → id < (H j).size → ∀ (o o' : AObj),
    (H j).get id = some o → (H (j + d)).get id = some o' → o'.cells.length = o.cells.length
  | 0, j, _, _, o, o', h1, h2 => by rw [Nat.add_zero, h1] at h2; cases h2; rfl
  | d + 1, j, h, hid, o, o', h1, h2 => by
    have hid2 : id < (H (j + d)).size := Nat.lt_of_lt_of_le hid (tr.mono hcall d j (by omega))
    obtain ⟨om, hm⟩ := tr.there (j := j + d) (by omega) hid2 hdom
    rw [← Nat.add_assoc] at h2
    rw [tr.len1 hcall (by omega) hid2 hdom hm h2]
    exact Tr.lens tr hcall hdom d j (by omega) hid o om h1 hm

theorem DI.domρ {listed : Array Bool} {a : Act} {w : World} {ρ : Loc} {g : Nat → Option AObj} {k : Nat}
    (d : DI D ops n F H V ao ρ0 w0 listed a w ρ g k) {id : Nat} {B : Blk} (hB : ρ id = some B) : id < (H 0).size → ∃ B, ρ0 id = some B :=
  fun h => ⟨B, by rw [← d.old id h]; exact hB⟩

theorem DI.lenRel [IsProg P] {listed : Array Bool} {a : Act} {w : World} {ρ : Loc} {g : Nat → Option AObj} {k : Nat} (tr : Tr P call ops n F H V ao lk ρ0 w0 pairs) (hcall : CallAny P call)
    (d : DI D ops n F H V ao ρ0 w0 listed a w ρ g k) {i : Nat} (hi : i ≤ n) : LenRel (ρ.cut (H i).size) (H i).get := by
  intro id B o hB ho
  rw [Loc.cut_at] at hB
  split at hB
  · rename_i hid
    obtain ⟨o', h1, h2, _⟩ := d.hr.dom id B hB
    refine ⟨?_, h2.fit⟩
    obtain ⟨b, hb, hlt, _, hg⟩ := d.born id B hB
    have hdom := d.domρ hB
    rw [← h2.len]
    rw [hg] at h1
    have hk := d.kn
    have hlt' : id < (H (max k b)).size := AHeap.get_lt h1
    rcases Nat.le_total (max k b) i with h | h
    · have := tr.lens hcall hdom (i - max k b) (max k b) (by omega) hlt' o' o h1 (by rw [show max k b + (i - max k b) = i by omega]; exact ho)
      exact this
    · have := tr.lens hcall hdom (max k b - i) i (by omega) hid o o' ho (by rw [show i + (max k b - i) = max k b by omega]; exact h1)
      exact this.symm
  · cases hB

theorem owned_cut {ρ : Loc} {g g' : Nat → Option AObj} {N b : Nat} (hg : ∀ id B, ρ id = some B → id < N → g' id = g id) (h : Owned (ρ.cut N) g' b) : Owned ρ g b := by
  obtain ⟨id, B, o, h1, h2, h3, h4⟩ := h
  rw [Loc.cut_at] at h1
  split at h1
  · rename_i hid
    exact ⟨id, B, o, h1, by rw [← hg id B h1 hid]; exact h2, h3, h4⟩
  · cases h1

/-- One operation more, whichever is ready. -/
theorem DI.step [IsProg P] {listed : Array Bool} {a : Act} {w : World} {ρ : Loc} {g : Nat → Option AObj} {k : Nat} (tr : Tr P call ops n F H V ao lk ρ0 w0 pairs) (hcall : CallAny P call)
    (d : DI D ops n F H V ao ρ0 w0 listed a w ρ g k) {i : Nat} {o : Oper} (hi : i < n) (ho : ops[i]? = some o) (hun : ¬ Lst listed i) (hready : ∀ e ∈ o.after.toList, binding e = true → Lst listed e.on)
    {r : Option Nat} {Q : Exit → Act → World → Prop} {K : Act → World → Prop}
    (hK : ∀ a' w' ρ' g' k', DI D ops n F H V ao ρ0 w0 (listed.setIfInBounds i true) a' w' ρ' g' k' → K a' w') : wpOpIn (fen r) 0 P ops Q i K a w := by
  obtain ⟨o', ho', hc, hs1, hs2⟩ := tr.comp i hi
  rw [ho] at ho'; cases ho'
  obtain ⟨τ, wc, tm, hp, hfc⟩ := tr.canon i (by omega)
  have hlook : ∀ t ∈ lk i, VR (ρ.cut (H i).size) (getSlot (F i) t) (a.tmps.getD t undef) :=
    fun t ht => (d.looked tr hi ho hun hready ht).cut hp.dom (hfc.at_ t)
  have hlen : (F i).length = a.tmps.size := by rw [tr.flen i (by omega), d.tsz]
  have hf : FR (ρ.cut (H i).size) (maskF (lk i) 0 (F i)) (maskV (lk i) a.tmps) := FR.mask hlen hlook d.hr.gl
  have hguard : ∀ s want, (ao i).guard = some (s, want) → VR (ρ.cut (H i).size) (getSlot (F i) s) (a.tmps.getD s undef) := by
    intro s want hg
    refine hlook s (hs1 s ?_)
    unfold AOper.slots
    rw [hg]
    simp
  obtain ⟨hw, hcop, hdst⟩ := wanted_rel' hc hlen hguard
  have hag : Agree (ao i).op.slots (maskF (lk i) 0 (F i)) (F i) := by
    refine mask_agree _ _ (fun t ht => hs1 t ?_) _
    unfold AOper.slots
    split
    · simp [ht]
    · exact ht
  have hex : execOp ({ a with tmps := maskV (lk i) a.tmps } : Act).eval o = execOp a.eval o := execOp_mask (ops := ops) hcop hs2
  have hdomτ : ∀ id B, ρ id = some B → id < (H i).size → τ id ≠ none := by
    intro id B hB hid
    by_cases h : id < (H 0).size
    · obtain ⟨B', hB'⟩ := d.domρ hB h
      rw [hp.le.at_ _ _ hB']; simp
    · obtain ⟨B', hB'⟩ := hp.new id (by omega) hid
      rw [hB']; simp
  -- two operations on memory have an order
  have ordered : (ao i).op.memAny = true → ∀ e, e < n → (ao e).op.memAny = true → ¬ (e < i ∧ ¬ Prec ops i e ∨ i < e ∧ ¬ Prec ops e i) := by
    rintro hm e he hme (⟨h1, h2⟩ | ⟨h1, h2⟩)
    · rcases tr.unord e i h1 hi with h | h
      · exact h2 h
      · exact (unordOk_spec h).2.2.2.1 ⟨hme, hm⟩
    · rcases tr.unord i e h1 he with h | h
      · exact h2 h
      · exact (unordOk_spec h).2.2.2.1 ⟨hm, hme⟩
  have same_mem : (ao i).op.memAny = true → ∀ id B, ρ id = some B → id < (H i).size → (H i).get id = g id := by
    intro hm id B hB hid
    exact (d.same_at tr hcall hi ho hun hready hB hid (fun e he hme hu => absurd hu (ordered hm e he hme))).symm
  have mem_iff : (ao i).op.memAny = true → ∀ j, j < n → (ao j).op.memAny = true → (Lst listed j ∨ j = i ↔ j < i + 1) := by
    intro hm j hj hmj
    constructor
    · rintro (hl | rfl)
      · rcases Nat.lt_or_ge i j with h | h
        · have hprec : Prec ops j i := Classical.byContradiction fun hnp => ordered hm j hj hmj (.inr ⟨h, hnp⟩)
          exact absurd (d.closed.prec j i (by rw [tr.hn]; exact hj) hprec hl) hun
        · omega
      · omega
    · intro hlt
      by_cases e : j = i
      · exact .inr e
      · left
        have hprec : Prec ops i j := Classical.byContradiction fun hnp => ordered hm j hj hmj (.inl ⟨by omega, hnp⟩)
        exact d.closed.ready ho hready hprec
  have mem_iff' : (ao i).op.memAny = false → ∀ j, j < n → (ao j).op.memAny = true → (Lst listed j ∨ j = i ↔ j < k) := by
    intro hm j hj hmj
    rw [← d.mem j hj hmj]
    constructor
    · rintro (h | rfl)
      · exact h
      · rw [hm] at hmj; cases hmj
    · exact .inl
  -- an object of a later operation: behind k, or behind i
  have later : (ao i).op.memAny = true → ∀ id b, b ≤ n → i < b → id < (H b).size → (H (max k b)).get id = (H (max (i + 1) b)).get id := by
    intro hm id b hb hib hlt
    rw [show max (i + 1) b = b by omega]
    refine tr.chain' hcall (by omega) (by have := d.kn; omega) hlt (fun e h1 h2 hme => ?_)
    have hen : e < n := by have := d.kn; omega
    have hl := (d.mem e hen hme).2 (by omega)
    have hprec : Prec ops e i := Classical.byContradiction fun hnp => ordered hm e hen hme (.inr ⟨by omega, hnp⟩)
    exact absurd (d.closed.prec e i (by rw [tr.hn]; exact hen) hprec hl) hun
  have blei : ∀ id b, b ≤ n → id < (H i).size → (b = 0 ∨ ∃ m, b = m + 1 ∧ Lst listed m ∧ (H m).size ≤ id) → b ≤ i := by
    intro id b hb hid hcase
    rcases hcase with rfl | ⟨m, rfl, hl, hm⟩
    · omega
    · rcases Nat.lt_or_ge m i with h | h
      · omega
      · have := tr.le hcall (i := i) (j := m) h (by omega)
        omega
  unfold wpOpIn
  simp only [ho]
  rw [hw]
  rcases tr.step i hi with ⟨hwa, hst⟩ | ⟨hwa, hV, hH⟩
  · rw [hwa]
    simp only [if_true]
    have hst' : evStep call (maskF (lk i) 0 (F i)) (H i) (ao i).op = some (V i, H (i + 1)) := by rw [evStep_agree hag]; exact hst
    have hnd := not_defer hcop hst'
    cases hm : (ao i).op.memAny with
    | false =>
      have hnc : (ao i).op.isCall = false := by cases hq : (ao i).op <;> first | rfl | (rw [hq] at hm; cases hm)
      have hmm : (ao i).op.mem = false := by cases hq : (ao i).op <;> rw [hq] at hm <;> first | rfl | exact hm
      rw [evStep_notcall hnc] at hst'
      rcases op_classX (a := { a with tmps := maskV (lk i) a.tmps }) hcop hf (d.lenRel tr hcall (by omega)) hst' with ⟨_, hσ, u, hv, hrun⟩ | ⟨agg, y, hop, hσ, hrun⟩ | ⟨_, cs, vs, t, hσ, hvs, hrun⟩ | ⟨h, _⟩
      · -- no memory
        refine wpIn_val hnd ?_
        rw [← hex, hrun w]
        simp only [Oper.uponIn]
        rw [← hdst]
        refine hK _ _ ρ g k (d.next tr hi ho hun hready (.refl ρ) d.hr (hv.mono (Loc.cut_le _ _)) d.kn (mem_iff' hm) ?_ ?_ (Nat.le_refl _) (fun _ _ _ => rfl) d.fresh d.owned d.fzn (fun _ _ => rfl) (fun h => by rw [hm] at h; cases h) rfl rfl rfl)
        · intro id B hB
          obtain ⟨b, h1, h2, h3, h4⟩ := d.born id B hB
          exact ⟨b, h1, h2, h3.imp (fun h => h) (fun ⟨m, q1, q2, q3⟩ => ⟨m, q1, .inl q2, q3⟩), h4⟩
        · intro id h1 h2
          rw [hσ] at h2
          omega
      · -- a load
        have hob : ∀ id off B ob, ev (maskF (lk i) 0 (F i)) y = .one (.ptr id off) → (ρ.cut (H i).size) id = some B → (H i).get id = some ob → ObjOk (ρ.cut (H i).size) w B ob := by
          intro id off B ob he hB hobj
          have hid : id < (H i).size := AHeap.get_lt hobj
          have hB' : ρ id = some B := (Loc.cut_le _ _).at_ _ _ hB
          have he' : ev (F i) y = .one (.ptr id off) := by
            rw [← ev_agree (x := y) (f1 := maskF (lk i) 0 (F i)) (f2 := F i)]
            · exact he
            · intro t ht
              exact hag t (by rw [hop]; exact ht)
          have hload : (ao i).op.isLoad = true := by rw [hop]; rfl
          have hg := d.same_at tr hcall hi ho hun hready hB' hid (fun e hen hme hu => by
            rcases hu with ⟨h1, h2⟩ | ⟨h1, h2⟩
            · rcases tr.unord e i h1 hi with h | h
              · exact absurd h h2
              · exact tr.prs e i ((unordOk_spec h).2.2.2.2.1 hme hload) hen hi hwa agg y id off hop he'
            · rcases tr.unord i e h1 hen with h | h
              · exact absurd h h2
              · exact tr.prs e i ((unordOk_spec h).2.2.2.2.2 hload hme) hen hi hwa agg y id off hop he')
          obtain ⟨o1, k1, k2, _⟩ := d.hr.dom id B hB'
          rw [hg, hobj] at k1
          cases k1
          obtain ⟨B2, hB2⟩ := Option.ne_none_iff_exists'.1 (hdomτ id B hB' hid)
          obtain ⟨o2, q1, q2, _⟩ := hp.hr.dom id B2 hB2
          rw [hobj] at q1
          cases q1
          exact ⟨k2.len, k2.fit, fun hd => SRs.cells_cut hp.dom (k2.holds hd) (q2.holds hd), k2.own, fun mc es he => by
            obtain ⟨en, r1, r2⟩ := k2.mp mc es he
            obtain ⟨en', _, r3⟩ := q2.mp mc es he
            exact ⟨en, r1, r2.move (Loc.agrees_cut hp.dom) r3⟩, k2.tg, fun he => (k2.lp he).cut hp.dom (q2.lp he)⟩
        obtain ⟨u, hv, hrun'⟩ := hrun w hob (fun b o v hv => (d.hr.frz b o v hv).1)
        refine wpIn_val hnd ?_
        rw [← hex, hrun']
        simp only [Oper.uponIn]
        rw [← hdst]
        refine hK _ _ ρ g k (d.next tr hi ho hun hready (.refl ρ) d.hr (hv.mono (Loc.cut_le _ _)) d.kn (mem_iff' hm) ?_ ?_ (Nat.le_refl _) (fun _ _ _ => rfl) d.fresh d.owned d.fzn (fun _ _ => rfl) (fun h => by rw [hm] at h; cases h) rfl rfl rfl)
        · intro id B hB
          obtain ⟨b, h1, h2, h3, h4⟩ := d.born id B hB
          exact ⟨b, h1, h2, h3.imp (fun h => h) (fun ⟨m, q1, q2, q3⟩ => ⟨m, q1, .inl q2, q3⟩), h4⟩
        · intro id h1 h2
          rw [hσ] at h2
          omega
      · -- a new block
        obtain ⟨u, hrun', hv⟩ := hrun w
        have hsz : (H (i + 1)).size = (H i).size + 1 := by rw [hσ, AHeap.size_alloc]
        have hno : ρ (H i).size = none := d.absent tr hcall hi hun (Nat.le_refl _) (by omega)
        have hle := Loc.le_upd hno (B := ⟨w.heap.size, 0, vs.length, cs.length⟩)
        refine wpIn_val hnd ?_
        rw [← hex, hrun']
        simp only [Oper.uponIn]
        rw [← hdst]
        have h0i := tr.le hcall (i := 0) (j := i) (by omega) (by omega)
        have hself : (ρ.upd (H i).size ⟨w.heap.size, 0, vs.length, cs.length⟩) (H i).size = some ⟨w.heap.size, 0, vs.length, cs.length⟩ := by rw [Loc.upd_at, if_pos rfl]
        have hother : ∀ id, id ≠ (H i).size → (ρ.upd (H i).size ⟨w.heap.size, 0, vs.length, cs.length⟩) id = ρ id := by intro id h; rw [Loc.upd_at, if_neg h]
        refine hK _ _ _ _ k (d.next tr hi ho hun hready hle (d.hr.alloc (t := t) hno (hvs.mono (Loc.cut_le _ _))) (hv _ hself) d.kn (mem_iff' hm) ?_ ?_ (by simp) ?_ ?_ ?_ d.fzn ?_ (fun h => by rw [hm] at h; cases h) rfl rfl rfl)
        · intro id B hB
          by_cases e : id = (H i).size
          · subst e
            refine ⟨i + 1, by omega, by omega, .inr ⟨i, rfl, .inr rfl, Nat.le_refl _⟩, ?_⟩
            simp only [if_true]
            have hget : (H (i + 1)).get (H i).size = some ⟨cs, .own⟩ := by rw [hσ, AHeap.get_alloc, if_pos rfl]
            rw [tr.chain' hcall (lo := i + 1) (hi := max k (i + 1)) (by omega) (by have := d.kn; omega) (by omega) (fun e h1 h2 hme => ?_), hget]
            have hen : e < n := by have := d.kn; omega
            exact d.quiet i hi hun e hen (by omega) ((d.mem e hen hme).2 (by omega)) hme _ (Nat.le_refl _) (by omega)
          · rw [hother id e] at hB
            obtain ⟨b, h1, h2, h3, h4⟩ := d.born id B hB
            exact ⟨b, h1, h2, h3.imp (fun h => h) (fun ⟨m, q1, q2, q3⟩ => ⟨m, q1, .inl q2, q3⟩), by rw [if_neg e]; exact h4⟩
        · intro id h1 h2
          have : id = (H i).size := by omega
          subst this
          exact ⟨_, hself⟩
        · intro b hb _
          have := d.hsize
          show (w.heap.push _)[b]? = _
          rw [Array.getElem?_push, if_neg (by omega)]
        · intro id B h1 h2
          by_cases e : id = (H i).size
          · subst e
            rw [hself] at h2
            cases h2
            exact .inl d.hsize
          · rw [hother id e] at h2
            exact d.fresh id B h1 h2
        · rintro b hb ⟨id, B, ob, h1, h2, h3, h4⟩
          by_cases e : id = (H i).size
          · subst e
            rw [hself] at h1
            cases h1
            have := d.hsize
            simp only at h4
            omega
          · rw [hother id e] at h1
            simp only [if_neg e] at h2
            exact d.owned b hb ⟨id, B, ob, h1, h2, h3, h4⟩
        · intro id hid
          exact hother id (by omega)
      · rw [hmm] at h; cases h
    | true =>
      have hg := same_mem hm
      have hr' : HR (ρ.cut (H i).size) (H i).get w := d.hr.restrict hp.hr hp.dom (fun id B hB hid => ⟨hg id B hB hid, hdomτ id B hB hid⟩)
      refine step_sound' hcall (a := { a with tmps := maskV (lk i) a.tmps }) hcop hf hr' hst' hex (fun u w' ρ1 hp1 hv => ?_)
      have hno : ∀ id, (H i).size ≤ id → id < (H (i + 1)).size → ρ id = none := fun id h1 h2 => d.absent tr hcall hi hun h1 h2
      obtain ⟨hrN, hle1⟩ := d.hr.merge hp1 hg hno
      have h0i := tr.le hcall (i := 0) (j := i) (by omega) (by omega)
      have hcutOwned : ∀ b, Owned (ρ.cut (H i).size) (H i).get b → Owned ρ g b := fun b hb => owned_cut hg hb
      have hjoin : ∀ id B, (ρ.join ρ1) id = some B → ρ id = some B ∨ (ρ id = none ∧ ρ1 id = some B) := by
        intro id B hB
        rw [Loc.join_at] at hB
        cases hq : ρ id with
        | none => rw [hq] at hB; exact .inr ⟨rfl, hB⟩
        | some B' => rw [hq] at hB; exact .inl hB
      have hρ1old : ∀ id, id < (H i).size → ρ1 id = ρ id := by
        intro id hid
        rw [hp1.old id hid, Loc.cut_at, if_pos hid]
      have hfzn1 : ∀ b o v, (ρ.join ρ1).fz b o = some v → ρ0.fz b o = some v ∨ w0.heap.size ≤ b ∨ Owned ρ0 (H 0).get b := fun b o v hv => by
        rcases hp1.fz b o v hv with q | q | q
        · exact d.fzn b o v q
        · exact .inr (.inl (Nat.le_trans d.hsize q))
        · by_cases hb : b < w0.heap.size
          · exact .inr (.inr (d.owned b hb (hcutOwned b q)))
          · exact .inr (.inl (Nat.le_of_not_lt hb))
      rw [← hdst]
      refine hK _ _ _ _ (i + 1) (d.next tr hi ho hun hready (Loc.le_join ρ ρ1 hp1.le.fz) hrN (hv.mono hle1) (by omega) (mem_iff hm) ?_ ?_ hp1.hsize ?_ ?_ ?_ hfzn1 ?_ ?_ hp1.os hp1.tape hp1.output)
      · intro id B hB
        by_cases hid1 : id < (H (i + 1)).size
        · simp only [if_pos hid1]
          by_cases hid : id < (H i).size
          · rcases hjoin id B hB with h | ⟨h, h'⟩
            · obtain ⟨b, h1, h2, h3, h4⟩ := d.born id B h
              have hb := blei id b h1 hid h3
              exact ⟨b, h1, h2, h3.imp (fun h => h) (fun ⟨m, q1, q2, q3⟩ => ⟨m, q1, .inl q2, q3⟩), by rw [show max (i + 1) b = i + 1 by omega]⟩
            · rw [hρ1old id hid, h] at h'; cases h'
          · exact ⟨i + 1, by omega, hid1, .inr ⟨i, rfl, .inr rfl, by omega⟩, by rw [show max (i + 1) (i + 1) = i + 1 by omega]⟩
        · simp only [if_neg hid1]
          rcases hjoin id B hB with h | ⟨h, h'⟩
          · obtain ⟨b, h1, h2, h3, h4⟩ := d.born id B h
            have hib : i < b := by
              rcases Nat.lt_or_ge i b with q | q
              · exact q
              · have := tr.le hcall (i := b) (j := i) q (by omega)
                have := tr.mono1 hcall hi
                omega
            exact ⟨b, h1, h2, h3.imp (fun h => h) (fun ⟨m, q1, q2, q3⟩ => ⟨m, q1, .inl q2, q3⟩), by rw [h4]; exact later hm id b h1 hib h2⟩
          · exact absurd (hp1.dom id B h') hid1
      · intro id h1 h2
        obtain ⟨B, hB⟩ := hp1.new id h1 h2
        exact ⟨B, hle1.at_ _ _ hB⟩
      · intro b hb hnb
        refine hp1.frame b (by have := d.hsize; omega) (fun h => hnb (d.owned b hb (hcutOwned b h)))
      · intro id B h1 h2
        rcases hjoin id B h2 with h | ⟨h, h'⟩
        · exact d.fresh id B h1 h
        · by_cases hid : id < (H i).size
          · rw [hρ1old id hid, h] at h'; cases h'
          · rcases hp1.fresh id B (by omega) h' with q | q
            · exact .inl (Nat.le_trans d.hsize q)
            · by_cases hb : B.b < w0.heap.size
              · exact .inr (d.owned B.b hb (hcutOwned _ q))
              · exact .inl (by omega)
      · rintro b hb ⟨id, B, ob, h1, h2, h3, h4⟩
        by_cases hid1 : id < (H (i + 1)).size
        · simp only [if_pos hid1] at h2
          have h1' : ρ1 id = some B := by
            rcases hjoin id B h1 with h | ⟨h, h'⟩
            · by_cases hid : id < (H i).size
              · rw [hρ1old id hid]; exact h
              · rw [hno id (by omega) hid1] at h; cases h
            · exact h'
          exact d.owned b hb (hcutOwned b (hp1.owned (by have := d.hsize; omega) ⟨id, B, ob, h1', h2, h3, h4⟩))
        · simp only [if_neg hid1] at h2
          rcases hjoin id B h1 with h | ⟨h, h'⟩
          · exact d.owned b hb ⟨id, B, ob, h, h2, h3, h4⟩
          · exact absurd (hp1.dom id B h') hid1
      · intro id hid
        have hid2 : id < (H i).size := by omega
        cases hq : ρ id with
        | none =>
          rw [Loc.join_at, hq]
          show ρ1 id = none
          rw [hρ1old id hid2]
          exact hq
        | some B => exact (Loc.le_join ρ ρ1 hp1.le.fz).at_ _ _ hq
      · intro _ j hj hnl id h1 h2
        have hid : id < (H i).size := Nat.lt_of_lt_of_le h2 (tr.le hcall (by omega) (by omega))
        refine hp1.same id hid ?_
        rw [Loc.cut_at, if_pos hid]
        exact d.absent tr hcall (by omega) hnl h1 h2
  · rw [hwa]
    simp only [Bool.false_eq_true, if_false]
    rw [← hdst]
    cases hm : (ao i).op.memAny with
    | false =>
      refine ⟨fun _ _ => trivial, hK _ _ ρ g k (d.next tr hi ho hun hready (.refl ρ) d.hr (by rw [hV]; exact VR.undef) d.kn (mem_iff' hm) ?_ ?_ (Nat.le_refl _) (fun _ _ _ => rfl) d.fresh d.owned d.fzn (fun _ _ => rfl) (fun h => by rw [hm] at h; cases h) rfl rfl rfl)⟩
      · intro id B hB
        obtain ⟨b, h1, h2, h3, h4⟩ := d.born id B hB
        exact ⟨b, h1, h2, h3.imp (fun h => h) (fun ⟨m, q1, q2, q3⟩ => ⟨m, q1, .inl q2, q3⟩), h4⟩
      · intro id h1 h2
        rw [hH] at h2
        omega
    | true =>
      refine ⟨fun _ _ => trivial, hK _ _ ρ g (i + 1) (d.next tr hi ho hun hready (.refl ρ) d.hr (by rw [hV]; exact VR.undef) (by omega) (mem_iff hm) ?_ ?_ (Nat.le_refl _) (fun _ _ _ => rfl) d.fresh d.owned d.fzn (fun _ _ => rfl) ?_ rfl rfl rfl)⟩
      · intro id B hB
        obtain ⟨b, h1, h2, h3, h4⟩ := d.born id B hB
        refine ⟨b, h1, h2, h3.imp (fun h => h) (fun ⟨m, q1, q2, q3⟩ => ⟨m, q1, .inl q2, q3⟩), ?_⟩
        by_cases hid : id < (H i).size
        · have hb := blei id b h1 hid h3
          rw [show max (i + 1) b = i + 1 by omega, hH]
          exact (same_mem hm id B hB hid).symm
        · have hib : i < b := by
            rcases Nat.lt_or_ge i b with q | q
            · exact q
            · have := tr.le hcall (i := b) (j := i) q (by omega)
              omega
          rw [h4]
          exact later hm id b h1 hib h2
      · intro id h1 h2
        rw [hH] at h2
        omega
      · intro _ j hj hnl id h1 h2
        rw [hH]

/-- How many operations are still to come. -/
def left (listed : Array Bool) (n : Nat) : Nat := ((List.range n).filter fun i => !(listed.getD i false)).length

theorem left_set {listed : Array Bool} {n i : Nat} (hsz : listed.size = n) (hi : i < n) (hun : ¬ Lst listed i) : left (listed.setIfInBounds i true) n + 1 = left listed n := by
  unfold left
  have key : ∀ (l : List Nat), l.Nodup → i ∈ l → (l.filter fun j => !((listed.setIfInBounds i true).getD j false)).length + 1 = (l.filter fun j => !(listed.getD j false)).length := by
    intro l
    induction l with
    | nil => intro _ h; cases h
    | cons j l ih =>
      intro hnd hmem
      rw [List.nodup_cons] at hnd
      have hother : ∀ m, m ≠ i → (listed.setIfInBounds i true).getD m false = listed.getD m false := by
        intro m hm
        simp only [Array.getD_eq_getD_getElem?]
        rw [Array.getElem?_setIfInBounds_ne (fun e => hm e.symm)]
      by_cases e : j = i
      · subst e
        have h1 : (listed.setIfInBounds j true).getD j false = true := (Lst.set (by omega)).2 (.inr rfl)
        have h2 : listed.getD j false = false := by
          cases hq : listed.getD j false with
          | false => rfl
          | true => exact absurd hq hun
        have h3 : (l.filter fun m => !((listed.setIfInBounds j true).getD m false)) = l.filter fun m => !(listed.getD m false) := by
          apply List.filter_congr
          intro m hm
          rw [hother m (fun e => hnd.1 (e ▸ hm))]
        rw [List.filter_cons, List.filter_cons, h1, h2, h3]
        simp
      · have hmem' : i ∈ l := by
          rcases List.mem_cons.1 hmem with h | h
          · exact absurd h.symm e
          · exact h
        have := ih hnd.2 hmem'
        rw [List.filter_cons, List.filter_cons, hother j e]
        split
        · simp only [List.length_cons]; omega
        · exact this
  exact key (List.range n) List.nodup_range (by simpa using hi)

theorem left_zero {listed : Array Bool} {n : Nat} (h : left listed n = 0) : ∀ i, i < n → Lst listed i := by
  intro i hi
  unfold left at h
  have := List.filter_eq_nil_iff.1 (List.eq_nil_of_length_eq_zero h) i (by simpa using hi)
  unfold Lst
  simpa using this

theorem ready_mem {listed : Array Bool} {i : Nat} (hsz : listed.size = ops.size) (h : i ∈ Region.ready .any ops listed) :
    i < ops.size ∧ ¬ Lst listed i ∧ ∃ o, ops[i]? = some o ∧ ∀ e ∈ o.after.toList, binding e = true → Lst listed e.on := by
  unfold Region.ready at h
  rw [List.mem_filter] at h
  obtain ⟨h1, h2⟩ := h
  have hi : i < ops.size := by simpa using h1
  simp only [Bool.and_eq_true] at h2
  obtain ⟨h3, h4⟩ := h2
  have hlt : i < listed.size := by omega
  refine ⟨hi, ?_, ops[i], by simp [hi], ?_⟩
  · intro hl
    unfold Lst at hl
    simp [hlt] at h3 hl
    rw [h3] at hl
    cases hl
  · intro e he hb
    simp [hi] at h4
    obtain ⟨idx, hidx, rfl⟩ := List.getElem_of_mem he
    have := h4 idx (by simpa using hidx)
    unfold binding at hb
    unfold Lst
    simp at hb this
    rcases this with h | h
    · rw [hb] at h; cases h
    · simpa using h

theorem ready_none {listed : Array Bool} (hsz : listed.size = ops.size) (hedge : ∀ i o, ops[i]? = some o → ∀ e ∈ o.after.toList, binding e = true → e.on < i)
    (h : Region.ready .any ops listed = []) : ∀ i, i < ops.size → Lst listed i := by
  intro i
  induction i using Nat.strongRecOn with
  | _ i ih =>
    intro hi
    refine Classical.byContradiction fun hun => ?_
    have : i ∈ Region.ready .any ops listed := by
      unfold Region.ready
      rw [List.mem_filter]
      refine ⟨by simpa using hi, ?_⟩
      have hlt : i < listed.size := by omega
      simp only [Bool.and_eq_true]
      constructor
      · unfold Lst at hun
        simp [hlt] at hun ⊢
        exact hun
      · simp [hi]
        intro idx hidx
        have hmem : ops[i].after[idx] ∈ ops[i].after.toList := by simp
        cases hb : Region.binds .any ops[i].after[idx] with
        | false => exact .inl rfl
        | true =>
          right
          have hlt2 := hedge i ops[i] (by simp [hi]) _ hmem hb
          have := ih _ hlt2 (by omega)
          unfold Lst at this
          simpa using this
    rw [h] at this
    cases this

/-- Where all are listed the region has ended. -/
theorem DI.done [IsProg P] {listed : Array Bool} {a : Act} {w : World} {ρ : Loc} {g : Nat → Option AObj} {k : Nat} (tr : Tr P call ops n F H V ao lk ρ0 w0 pairs) (hcall : CallAny P call)
    (d : DI D ops n F H V ao ρ0 w0 listed a w ρ g k) (hr0 : HR ρ0 (H 0).get w0) (hall : ∀ i, i < n → Lst listed i) : Post ρ0 (H 0) w0 ρ (H n) w ∧ FR ρ (F n) a.tmps := by
  obtain ⟨τ, wc, tm, hp, hfc⟩ := tr.canon n (Nat.le_refl _)
  have hkn := d.kn
  have hg : ∀ id B, ρ id = some B → (H n).get id = g id := by
    intro id B hB
    obtain ⟨b, h1, h2, h3, h4⟩ := d.born id B hB
    rw [h4]
    refine tr.chain' hcall (by omega) (Nat.le_refl _) (Nat.lt_of_lt_of_le h2 (tr.le hcall (by omega) (by omega))) (fun e q1 q2 hme => ?_)
    have := (d.mem e q2 hme).1 (hall e q2)
    omega
  have hown : ∀ b, Owned ρ (H n).get b ↔ Owned ρ g b := by
    intro b
    constructor
    · rintro ⟨id, B, o, h1, h2, h3, h4⟩
      exact ⟨id, B, o, h1, by rw [← hg id B h1]; exact h2, h3, h4⟩
    · rintro ⟨id, B, o, h1, h2, h3, h4⟩
      exact ⟨id, B, o, h1, by rw [hg id B h1]; exact h2, h3, h4⟩
  refine ⟨?_, ?_⟩
  · exact {
      le := d.le0
      size := tr.le hcall (by omega) (Nat.le_refl _)
      new := fun id h1 h2 => by
        -- which operation has made it
        have key : ∀ m, m ≤ n → (H 0).size ≤ id → id < (H m).size → ∃ B, ρ id = some B := by
          intro m
          induction m with
          | zero => intro _ q1 q2; omega
          | succ m ih =>
            intro hm q1 q2
            by_cases q : id < (H m).size
            · exact ih (by omega) q1 q
            · exact d.own m (by omega) (hall m (by omega)) id (by omega) q2
        exact key n (Nat.le_refl _) h1 h2
      old := d.old
      dom := fun id B hB => by
        obtain ⟨b, h1, h2, _⟩ := d.born id B hB
        exact Nat.lt_of_lt_of_le h2 (tr.le hcall h1 (Nat.le_refl _))
      same := hp.same
      md := hp.md
      md' := hp.md'
      hr := {
        dom := fun id B hB => by
          obtain ⟨o, h1, h2, h3⟩ := d.hr.dom id B hB
          exact ⟨o, by rw [hg id B hB]; exact h1, h2, h3⟩
        excl := fun i j B B' o o' h1 h2 h3 h4 hne h5 h6 => by
          rw [hg i B h1] at h3
          rw [hg j B' h2] at h4
          exact d.hr.excl i j B B' o o' h1 h2 h3 h4 hne h5 h6
        frz := fun b o v hv => by
          obtain ⟨h1, h2⟩ := d.hr.frz b o v hv
          exact ⟨h1, fun h => h2 ((hown b).1 h)⟩
        gl := d.hr.gl
        rows := d.hr.rows }
      hsize := d.hsize
      frame := d.frame
      fresh := d.fresh
      fz := d.fzn
      os := d.os
      tape := d.tape
      output := d.output }
  · refine ⟨by rw [tr.flen n (Nat.le_refl _), d.tsz], fun t => ?_, d.hr.gl⟩
    by_cases hlt : t < (F 0).length
    · obtain ⟨x, hx, hcase⟩ := d.temps t hlt
      rcases hcase with ⟨rfl, hno⟩ | ⟨m, hm, hl, hd, rfl, hlast⟩
      · rw [tr.slot0 n (Nat.le_refl _) (fun m hm hd => hno m hm (hall m hm) hd)]
        exact hx
      · have := tr.slotV hlt hm hd (n - (m + 1)) (by omega) (fun m' h1 h2 hd' => hlast m' h1 (by omega) (hall m' (by omega)) hd')
        rw [show m + 1 + (n - (m + 1)) = n by omega] at this
        rw [this]
        exact hx
    · have h1 : getSlot (F n) t = undefA := by
        rw [getSlot_eq, List.getElem?_eq_none (by rw [tr.flen n (Nat.le_refl _)]; omega)]
        rfl
      have h2 : a.tmps.getD t undef = undef := by
        have : a.tmps.size ≤ t := by rw [d.tsz]; omega
        simp [this]
      rw [h1, h2]
      exact VR.undef

theorem any_sound [IsProg P] (tr : Tr P call ops n F H V ao lk ρ0 w0 pairs) (hcall : CallAny P call) (hr0 : HR ρ0 (H 0).get w0) {r : Option Nat} {Q : Exit → Act → World → Prop}
    (hQ : ∀ a w ρ, a.defers = D → Post ρ0 (H 0) w0 ρ (H n) w → FR ρ (F n) a.tmps → Q .normal a w) :
    ∀ (fuel : Nat) (listed : Array Bool) (a : Act) (w : World) (ρ : Loc) (g : Nat → Option AObj) (k : Nat), DI D ops n F H V ao ρ0 w0 listed a w ρ g k → left listed n = fuel → wpAnyIn (fen r) 0 P .any ops Q fuel listed a w := by
  intro fuel
  induction fuel with
  | zero =>
    intro listed a w ρ g k d hl
    have hall := left_zero hl
    simp only [wpAnyIn]
    refine ⟨?_, ?_⟩
    · cases hq : Region.ready .any ops listed with
      | nil => rfl
      | cons i l =>
        have hi : i ∈ Region.ready .any ops listed := by rw [hq]; simp
        obtain ⟨h1, h2, _⟩ := ready_mem (by rw [d.lsz, tr.hn]) hi
        exact absurd (hall i (by rw [← tr.hn]; exact h1)) h2
    · obtain ⟨h1, h2⟩ := d.done tr hcall hr0 hall
      exact hQ a w ρ d.defers h1 h2
  | succ fuel ih =>
    intro listed a w ρ g k d hl
    simp only [wpAnyIn]
    refine ⟨fun hnone => ?_, fun i hi => ?_⟩
    · have hall := ready_none (by rw [d.lsz, tr.hn]) tr.edge hnone
      obtain ⟨h1, h2⟩ := d.done tr hcall hr0 (fun i hi => hall i (by rw [tr.hn]; exact hi))
      exact hQ a w ρ d.defers h1 h2
    · obtain ⟨h1, h2, o, ho, hready⟩ := ready_mem (by rw [d.lsz, tr.hn]) hi
      have hin : i < n := by rw [← tr.hn]; exact h1
      refine d.step tr hcall hin ho h2 hready (fun a' w' ρ' g' k' d' => ih _ a' w' ρ' g' k' d' ?_)
      have := left_set d.lsz hin h2
      omega

end
end Go.Proofs.YtkolhfpofmpijaaDoor.Ab

/- A region whose order is open, and with it all calls: where the abstract machine goes well, the model's call does, whatever the tape says. -/
namespace Go.Proofs.YtkolhfpofmpijaaDoor.Ab
open Go
set_option linter.unusedSectionVars false
variable [LoopP]
set_option linter.unusedSimpArgs false
set_option linter.unusedVariables false
set_option linter.unnecessarySimpa false

mutual
theorem sameSV : ∀ {a b : SV}, SV.same a b = true → a = b
  | .bool a, b, h => by cases b <;> simp [SV.same] at h; subst h; rfl
  | .int k a, b, h => by cases b <;> simp [SV.same] at h; obtain ⟨rfl, rfl⟩ := h; rfl
  | .str a, b, h => by cases b <;> simp [SV.same] at h; rw [beqL_eq] at h; simp at h; subst h; rfl
  | .ptr i o, b, h => by
    cases b <;> simp only [SV.same, Bool.and_eq_true] at h <;> try cases h
    rename_i h1 h2
    rw [Nat.eq_of_beq_eq_true h1, Nat.eq_of_beq_eq_true h2]
  | .nilPtr, b, h => by cases b <;> simp [SV.same] at h; rfl
  | .slice i o e l c, b, h => by
    cases b <;> simp only [SV.same, Bool.and_eq_true, decide_eq_true_eq] at h <;> try (cases h; done)
    obtain ⟨⟨⟨⟨h1, h2⟩, h3⟩, h4⟩, rfl⟩ := h
    rw [Nat.eq_of_beq_eq_true h1, Nat.eq_of_beq_eq_true h2, Nat.eq_of_beq_eq_true h3, Nat.eq_of_beq_eq_true h4]
  | .nilSlice, b, h => by cases b <;> simp [SV.same] at h; rfl
  | .func f c, b, h => by
    cases b <;> simp only [SV.same, Bool.and_eq_true] at h <;> try (cases h; done)
    rw [Nat.eq_of_beq_eq_true h.1, sameCells_eq h.2]
  | .nilFunc, b, h => by cases b <;> simp [SV.same] at h; rfl
  | .iface t g c, b, h => by
    cases b <;> simp only [SV.same, Bool.and_eq_true, beq_iff_eq] at h <;> try (cases h; done)
    obtain ⟨⟨h1, rfl⟩, h3⟩ := h
    rw [Nat.eq_of_beq_eq_true h1, sameCells_eq h3]
  | .nilIface, b, h => by cases b <;> simp [SV.same] at h; rfl
  | .lst l, b, h => by
    cases b <;> simp only [SV.same] at h <;> try (cases h; done)
    rw [sameElems_eq h]
  | .fptr l o, b, h => by
    cases b <;> simp only [SV.same, Bool.and_eq_true] at h <;> try (cases h; done)
    rw [sameCells_eq h.1, Nat.eq_of_beq_eq_true h.2]
  | .emp, b, h => by cases b <;> simp [SV.same] at h; rfl
  | .map i, b, h => by
    cases b <;> simp only [SV.same] at h <;> try (cases h; done)
    rw [Nat.eq_of_beq_eq_true h]
  | .nilMap, b, h => by cases b <;> simp [SV.same] at h; rfl
  | .meth f r, b, h => by
    cases b <;> simp only [SV.same, Bool.and_eq_true] at h <;> try (cases h; done)
    rw [Nat.eq_of_beq_eq_true h.1, sameSV h.2]
  | .lstx l, b, h => by
    cases b <;> simp only [SV.same] at h <;> try (cases h; done)
    rw [sameElems_eq h]
  | .hnd i, b, h => by
    cases b <;> simp only [SV.same] at h <;> try (cases h; done)
    rw [Nat.eq_of_beq_eq_true h]
theorem sameElems_eq : ∀ {a b : List (List SV)}, sameElems a b = true → a = b
  | [], [], _ => rfl
  | [], _ :: _, h => by simp [sameElems] at h
  | _ :: _, [], h => by simp [sameElems] at h
  | a :: l, b :: m, h => by
    simp only [sameElems, Bool.and_eq_true] at h
    rw [sameCells_eq h.1, sameElems_eq h.2]
theorem sameCells_eq : ∀ {a b : List SV}, sameCells a b = true → a = b
  | [], [], _ => rfl
  | [], _ :: _, h => by simp [sameCells] at h
  | _ :: _, [], h => by simp [sameCells] at h
  | a :: l, b :: m, h => by
    simp only [sameCells, Bool.and_eq_true] at h
    rw [sameSV h.1, sameCells_eq h.2]
end

mutual
theorem sameAV : ∀ {a b : AV}, AV.same a b = true → a = b
  | .one a, b, h => by
    cases b <;> simp only [AV.same] at h <;> try (cases h; done)
    rw [sameSV h]
  | .agg a, b, h => by
    cases b <;> simp only [AV.same] at h <;> try (cases h; done)
    rw [sameCells_eq h]
  | .tup a, b, h => by
    cases b <;> simp only [AV.same] at h <;> try (cases h; done)
    rw [sameAVs_eq h]
theorem sameAVs_eq : ∀ {a b : List AV}, sameAVs a b = true → a = b
  | [], [], _ => rfl
  | [], _ :: _, h => by simp [sameAVs] at h
  | _ :: _, [], h => by simp [sameAVs] at h
  | a :: l, b :: m, h => by
    simp only [sameAVs, Bool.and_eq_true] at h
    rw [sameAV h.1, sameAVs_eq h.2]
end

theorem sameEnts_eq : ∀ {a b : List Ent}, sameEnts a b = true → a = b
  | [], [], _ => rfl
  | [], _ :: _, h => by simp [sameEnts] at h
  | _ :: _, [], h => by simp [sameEnts] at h
  | a :: l, b :: m, h => by
    simp only [sameEnts, Bool.and_eq_true] at h
    obtain ⟨a0, a1, a2⟩ := a
    obtain ⟨b0, b1, b2⟩ := b
    obtain ⟨⟨⟨h0, h1⟩, h2⟩, h3⟩ := h
    have e0 : a0 = b0 := Nat.eq_of_beq_eq_true h0
    have e1 : a1 = b1 := sameSV h1
    have e2 : a2 = b2 := sameAV h2
    rw [e0, e1, e2, sameEnts_eq h3]

theorem sameObj_eq {a b : Option AObj} (h : sameObj a b = true) : a = b := by
  cases a with
  | none => cases b with
    | none => rfl
    | some b => cases h
  | some a => cases b with
    | none => cases h
    | some b =>
      obtain ⟨ca, ma⟩ := a
      obtain ⟨cb, mb⟩ := b
      simp only [sameObj, Bool.and_eq_true] at h
      obtain ⟨h1, h2⟩ := h
      have h3 : ca = cb := sameCells_eq h2
      have h4 : ma = mb := by cases ma <;> cases mb <;> first | rfl | (cases h1; done) | (simp only [Md.same, Bool.and_eq_true, beq_iff_eq] at h1; rw [Nat.eq_of_beq_eq_true h1.1, h1.2]; done) | (simp only [Md.same, Bool.and_eq_true] at h1; rw [Nat.eq_of_beq_eq_true h1.1, sameEnts_eq h1.2])
      rw [h3, h4]

theorem pairsOk_at {ops : List AOper} {tt : List (List AV × AHeap)} : ∀ {l : List (Nat × Nat)}, pairsOk ops tt l = true → ∀ p ∈ l, pairOk ops tt p = true
  | [], _, p, hp => by cases hp
  | q :: l, h, p, hp => by
    simp only [pairsOk, Bool.and_eq_true] at h
    rcases List.mem_cons.1 hp with rfl | hp
    · exact h.1
    · exact pairsOk_at h.2 p hp

section
variable {P : Program} {D : List Deferred}

theorem draw_any [IsProg P] {call : CallF} (hcall : CallAny P call) {Q : Exit → Act → World → Prop} (r : Option Nat) (ops : Array Oper) (al : List AOper) (ac : ACode) (fr fr' : List AV) (σ σ' : AHeap) (m : Nat) (x : AX)
    (ρ : Loc) (a : Act) (w : World) (hcomp : compOpers P ops ops.toList = some al) (hdraw : compDraw P ops al = some ac) (hev : evCode call m ac fr σ = some (x, fr', σ'))
    (hf : FR ρ fr a.tmps) (hd : a.defers = D) (hr : HR ρ σ.get w) (hQ : ∀ a' w' ρ', a'.defers = D → Post ρ σ w ρ' σ' w' → FR ρ' fr' a'.tmps → Q .normal a' w') :
    x = .normal ∧ P.follows .mixedOrders = true ∧ wpAnyIn (fen r) 0 P .any ops Q ops.size (Array.replicate ops.size false) a w := by
  unfold compDraw at hdraw
  simp only at hdraw
  split at hdraw
  · rename_i hst
    cases hdraw
    simp only [Bool.and_eq_true] at hst
    obtain ⟨⟨hst1, hst2⟩, hst3⟩ := hst
    simp only [evCode] at hev
    split at hev
    · rename_i fr1 σ1 hdr
      cases hev
      refine ⟨rfl, hst3, ?_⟩
      unfold evDraw at hdr
      split at hdr
      · rename_i tt fr2 σ2 htr
        split at hdr
        · rename_i hpairs
          cases hdr
          obtain ⟨k1, k2, k3, k4⟩ := evTr_spec al fr σ tt fr' σ' htr
          have hlen : al.length = ops.size := by rw [compOpers_length _ _ hcomp]; simp
          let dflt : AOper := ⟨none, .new [], none⟩
          let F : Nat → List AV := fun i => ((tt[i]?).getD (fr, σ)).1
          let H : Nat → AHeap := fun i => ((tt[i]?).getD (fr, σ)).2
          let ao : Nat → AOper := fun i => (al[i]?).getD dflt
          let lk : Nat → List Nat := fun i => (ao i).slots ++ ((ops[i]?).map (·.looksAt ops)).getD []
          let V : Nat → AV := fun i => match wantedA (F i) (ao i).guard with
            | true => match evStep call (F i) (H i) (ao i).op with
              | some (v, _) => v
              | none => undefA
            | false => undefA
          let w0 : World := w
          have hF0 : F 0 = fr := by simp only [F, k2]; rfl
          have hH0 : H 0 = σ := by simp only [H, k2]; rfl
          have hFn : F ops.size = fr' := by simp only [F, ← hlen, k3]; rfl
          have hHn : H ops.size = σ' := by simp only [H, ← hlen, k3]; rfl
          have hr0 : HR ρ (H 0).get w0 := by rw [hH0]; exact hr
          have stepAt : ∀ i, i < ops.size → evOper call (F i) (H i) (ao i) = some (F (i + 1), H (i + 1)) := by
            intro i hi
            have hal : al[i]? = some (ao i) := by
              have : i < al.length := by omega
              simp [ao, this]
            obtain ⟨f, s, f2, s2, q1, q2, q3⟩ := k4 i (ao i) hal
            simp only [F, H, q1, q2]
            exact q3
          have stepV : ∀ i, i < ops.size → ((wantedA (F i) (ao i).guard = true ∧ evStep call (F i) (H i) (ao i).op = some (V i, H (i + 1))) ∨ (wantedA (F i) (ao i).guard = false ∧ V i = undefA ∧ H (i + 1) = H i)) ∧
              F (i + 1) = putDst (F i) (ao i).dst (V i) := by
            intro i hi
            have h := stepAt i hi
            simp only [evOper] at h
            cases hw : wantedA (F i) (ao i).guard with
            | true =>
              rw [hw] at h
              simp only at h
              split at h
              · rename_i v s hst
                have hV : V i = v := by
                  show (match wantedA (F i) (ao i).guard with
                    | true => match evStep call (F i) (H i) (ao i).op with
                      | some (v, _) => v
                      | none => undefA
                    | false => undefA) = v
                  rw [hw, hst]
                have hpr : (putDst (F i) (ao i).dst v, s) = (F (i + 1), H (i + 1)) := Option.some.inj h
                have h1 : putDst (F i) (ao i).dst v = F (i + 1) := (Prod.mk.inj hpr).1
                have h2 : s = H (i + 1) := (Prod.mk.inj hpr).2
                exact ⟨.inl ⟨rfl, by rw [hV, ← h2]; exact hst⟩, by rw [hV, h1]⟩
              · cases h
            | false =>
              rw [hw] at h
              simp only at h
              have hV : V i = undefA := by simp only [V, hw]
              have hpr : (putDst (F i) (ao i).dst undefA, H i) = (F (i + 1), H (i + 1)) := Option.some.inj h
              have h1 : putDst (F i) (ao i).dst undefA = F (i + 1) := (Prod.mk.inj hpr).1
              have h2 : H i = H (i + 1) := (Prod.mk.inj hpr).2
              exact ⟨.inr ⟨rfl, hV, h2.symm⟩, by rw [hV, h1]⟩
          have compAt : ∀ i, i < ops.size → ∃ o, ops[i]? = some o ∧ compOper P ops o = some (ao i) ∧ (∀ t ∈ (ao i).slots, t ∈ lk i) ∧ (∀ t ∈ o.looksAt ops, t ∈ lk i) := by
            intro i hi
            have ho : ops[i]? = some ops[i] := by simp [hi]
            obtain ⟨b, h1, h2⟩ := compOpers_at ops.toList al i ops[i] hcomp (by simpa using ho)
            have hb : ao i = b := by simp only [ao, h1]; rfl
            refine ⟨ops[i], ho, by rw [hb]; exact h2, fun t ht => List.mem_append_left _ ht, fun t ht => List.mem_append_right _ ?_⟩
            rw [ho]
            exact ht
          have canon : ∀ j, j ≤ ops.size → ∃ τ wc tm, Post ρ (H 0) w0 τ (H j) wc ∧ FR τ (F j) tm := by
            intro j
            induction j with
            | zero => intro _; exact ⟨ρ, w0, a.tmps, Post.refl hr0, by rw [hF0]; exact hf⟩
            | succ j ih =>
              intro hj
              obtain ⟨τ, wc, tm, hp, hfc⟩ := ih (by omega)
              obtain ⟨o, _, hc, _, _⟩ := compAt j (by omega)
              obtain ⟨_, hcop, _⟩ := wanted_rel (a := ⟨tm, []⟩) hc hfc
              obtain ⟨hs, hfr⟩ := stepV j (by omega)
              rcases hs with ⟨_, hs⟩ | ⟨_, hV, hs⟩
              · obtain ⟨u, w', ρ', hp2, hv⟩ := step_exists hcall (a := ⟨tm, []⟩) hcop hfc hp.hr hs
                refine ⟨ρ', w', ((⟨tm, []⟩ : Act).put (ao j).dst u).tmps, hp.trans hp2, ?_⟩
                rw [hfr]
                exact (hfc.mono hp2.le).put (a := ⟨tm, []⟩) _ hv
              · refine ⟨τ, wc, ((⟨tm, []⟩ : Act).put (ao j).dst undef).tmps, by rw [hs]; exact hp, ?_⟩
                rw [hfr, hV]
                exact hfc.put (a := ⟨tm, []⟩) _ VR.undef
          have hrow : ∀ i, i < ops.size → (dRows ops ops.toList al)[i]? = some (ao i, lk i) := by
            intro i hi
            have ho : ops[i]? = some ops[i] := by simp [hi]
            obtain ⟨b, h1, h2⟩ := compOpers_at ops.toList al i ops[i] hcomp (by simpa using ho)
            have hb : ao i = b := by simp only [ao, h1]; rfl
            have := dRows_at ops ops.toList al i ops[i] b (by simpa using ho) h1
            rw [this]
            simp only [lk, hb, ho]
            rfl
          have tr : Tr P call ops ops.size F H V ao lk ρ w0 (pairsAll (dRows ops ops.toList al) 0 (ancs ops.toList []) (dRows ops ops.toList al)) := {
            hn := rfl
            comp := compAt
            edge := fun i o ho e he hb => by
              have := edgesOk_at ops.toList 0 i o hst1 (by simpa using ho) e he hb
              omega
            unord := fun i j hij hj => by
              obtain ⟨pre, hpre⟩ := ancs_pre ops.toList []
              have hanc := ancs_at ops.toList [] j ops[j] (by simp [hj])
              simp only [List.length_nil, Nat.zero_add] at hanc
              have hrows := drawRows_at _ _ _ _ 0 j _ _ hst2 hanc (hrow j hj)
              have := drawRow_at _ _ _ _ _ 0 i _ hrows (hrow i (by omega))
              simp only [Nat.zero_add] at this
              rcases this with h | h | h
              · exact .inl ⟨_, hanc, h⟩
              · omega
              · exact .inr h
            step := fun i hi => (stepV i hi).1
            frame := fun i hi => (stepV i hi).2
            canon := canon
            prs := fun i j hij hi hj hw agg x id' off hop he => by
              have hp := pairsOk_at hpairs (i, j) hij
              unfold pairOk at hp
              have e1 : al[j]? = some (ao j) := by
                have : j < al.length := by omega
                simp [ao, this]
              have e2 : ∀ q, q ≤ ops.size → tt[q]? = some (F q, H q) := by
                intro q hq
                have : q < tt.length := by omega
                simp [F, H, this]
              simp only [e1, e2 j (by omega), e2 i (by omega), e2 (i + 1) (by omega), hw, hop, he] at hp
              exact (sameObj_eq hp).symm }
          have hdi : DI D ops ops.size F H V ao ρ w0 (Array.replicate ops.size false) a w0 ρ (H 0).get 0 := {
            lsz := by simp
            closed := fun j o _ hl => by
              unfold Lst at hl
              have := Lst.lt hl
              simp at this
              simp [this] at hl
            mem := fun i hi _ => by
              constructor
              · intro hl; unfold Lst at hl; simp [hi] at hl
              · intro h; omega
            kn := by omega
            hr := hr0
            born := fun id B hB => ⟨0, by omega, hr0.lt hB, .inl rfl, by simp⟩
            le0 := .refl ρ
            own := fun m hm hl => by unfold Lst at hl; simp [hm] at hl
            tsz := by rw [hF0, hf.len]
            defers := hd
            temps := fun t ht => ⟨getSlot (F 0) t, by rw [hF0]; exact hf.at_ t, .inl ⟨rfl, fun m hm hl => by unfold Lst at hl; simp [hm] at hl⟩⟩
            hsize := Nat.le_refl _
            frame := fun _ _ _ => rfl
            fresh := fun id B h1 h2 => absurd (hr0.lt h2) (by omega)
            owned := fun _ _ h => h
            fzn := fun _ _ _ h => .inl h
            old := fun _ _ => rfl
            quiet := fun j _ _ e he _ hl => by unfold Lst at hl; simp [he] at hl
            os := rfl
            tape := rfl
            output := rfl }
          have hleft : left (Array.replicate ops.size false) ops.size = ops.size := by
            unfold left
            rw [List.filter_eq_self.2]
            · simp
            · intro i hi
              have : i < ops.size := by simpa using hi
              simp [this]
          refine any_sound tr hcall hr0 (fun a' w' ρ' h1 h2 h3 => ?_) ops.size _ a w0 ρ _ 0 hdi hleft
          rw [hH0, hHn] at h2
          rw [hFn] at h3
          exact hQ a' w' ρ' h1 h2 h3
        · cases hdr
      · cases hdr
    · cases hev
  · cases hdraw

theorem draw_sound [IsProg P] {call : CallF} (hcall : CallAny P call) : DrawSound D P call := by
  intro r id ops al ac fr fr' σ σ' m x ρ a w hcomp hdraw hev hf hd hr
  have hw : Post ρ σ w ρ σ { w with drawn := w.drawn + 1 } := Post.of_heap hr rfl rfl rfl rfl
  obtain ⟨h1, h2, h3⟩ := draw_any (Q := EndsAt D ρ σ w .normal fr' σ') hcall r ops al ac fr fr' σ σ' m x ρ a { w with drawn := w.drawn + 1 } hcomp hdraw hev hf hd hw.hr
    (fun a' w' ρ' h1 h2 h3 => ⟨rfl, h1, ρ', hw.trans h2, h3⟩)
  exact ⟨h1, wpIn_region_any h2 h3⟩

/-- All calls. -/
theorem sound [IsProg P] {C : Ctx} (hC : C.Good P) (n : Nat) : CallOk P (evCall C n) :=
  calls_sound (CallP P) (fun _ _ _ _ _ h => h) (fun _ _ _ _ _ h => .inl h) hC.code hC.prim (fun _ h => draw_sound h) n

/-- A context that lays yields, too. -/
structure Ctx.GoodY (P : Program) (C : Ctx) : Prop where
  code : ∀ f F, C.code f = some F → ∃ fn, P.funcs[f]? = some fn ∧ compFunc P fn = some F
  prim : ∀ f p, C.prim f = some p → ∀ args σ v σ', p args σ = some (v, σ') → CallP P f args σ v σ' ∨ YieldP P f args σ v σ'

theorem soundY [IsProg P] {C : Ctx} (hC : C.GoodY P) (n : Nat) : CallAny P (evCall C n) :=
  calls_sound (fun f args σ v σ' => CallP P f args σ v σ' ∨ YieldP P f args σ v σ') (fun _ _ _ _ _ h => .inl h) (fun _ _ _ _ _ h => h) hC.code hC.prim (fun _ h => draw_sound h) n

end
end Go.Proofs.YtkolhfpofmpijaaDoor.Ab

/- From a run of the abstract machine to a row: the law returns true, and old memory is as it was. -/
namespace Go.Proofs.YtkolhfpofmpijaaDoor.Ab
open Go Go.RowKit Go.ChangeShapes Go.WideShapes Go.ChangeAt
set_option linter.unusedSimpArgs false
set_option linter.unusedVariables false

/-- Nobody owns anything: what was there stays as it is. -/
theorem Post.below {ρ ρ' : Loc} {σ σ' : AHeap} {w w' : World} (h : Post ρ σ w ρ' σ' w') (hno : ∀ b, ¬ Owned ρ σ.get b) : Below w.heap.size w w' :=
  ⟨h.os, h.tape, h.output, h.hsize, fun k hk => h.frame k hk (hno k)⟩

/-- The memory of which nothing is known. -/
def noLoc : Loc := ⟨fun _ => none, fun _ _ => none⟩
theorem emptyH_get (id : Nat) : emptyH.get id = none := AHeap.get_ge (Nat.zero_le _)

/-- No table is listed. -/
theorem globOk_none (h : globTab = fun _ => none) (ρ : Loc) (h2 : globAny = fun _ => none := by rfl) : GlobOk ρ := ⟨fun g cells hg => (by rw [h] at hg; cases hg), fun g k hg => (by rw [h2] at hg; cases hg)⟩

theorem HR.empty (w : World) (h : globTab = fun _ => none := by rfl) (h2 : globAny = fun _ => none := by rfl) : HR noLoc emptyH.get w where
  dom := fun _ _ h => by cases h
  excl := fun _ _ _ _ _ _ h => by cases h
  frz := fun _ _ _ h => by cases h
  gl := globOk_none h _ h2
  rows := fun g c l hg => by rw [h] at hg; cases hg

/-- All memory that is there, as cells that nobody writes. -/
def allLoc (w : World) : Loc := ⟨fun _ => none, fun b o => w.cell? ⟨b, o, none⟩⟩

/-- What a row lists of package-level variables, at its first world. -/
def GlobAt (w : World) : Prop := GlobOk (allLoc w) ∧ GlobRows w
theorem globAt_none (h : globTab = fun _ => none) (w : World) (h2 : globAny = fun _ => none := by rfl) : GlobAt w := ⟨globOk_none h _ h2, fun g c l hg => by rw [h] at hg; cases hg⟩
theorem HR.all (w : World) (hg : GlobAt w) : HR (allLoc w) emptyH.get w where
  dom := fun _ _ h => by cases h
  excl := fun _ _ _ _ _ _ h => by cases h
  frz := fun b o v h => ⟨h, by rintro ⟨id, B, o, h, _⟩; cases h⟩
  gl := hg.1
  rows := hg.2

/-- The same cells, and no object. -/
def Loc.bare (ρ : Loc) : Loc := ⟨fun _ => none, ρ.fz⟩
theorem HR.bare {ρ : Loc} {g : Nat → Option AObj} {w : World} (h : HR ρ g w) : HR ρ.bare emptyH.get w where
  dom := fun _ _ h => by cases h
  excl := fun _ _ _ _ _ _ h => by cases h
  frz := fun b o v hv => ⟨(h.frz b o v hv).1, by rintro ⟨id, B, o, h, _⟩; cases h⟩
  gl := h.gl
  rows := h.rows
theorem noOwnBare (ρ : Loc) (b : Nat) : ¬ Owned ρ.bare emptyH.get b := by
  rintro ⟨id, B, o, h, _⟩
  cases h

theorem noOwnAll (w : World) (b : Nat) : ¬ Owned (allLoc w) emptyH.get b := by
  rintro ⟨id, B, o, h, _⟩
  cases h

theorem noOwn (b : Nat) : ¬ Owned noLoc emptyH.get b := by
  rintro ⟨id, B, o, h, _⟩
  cases h

/-- A call that the abstract machine sees answer true. -/
theorem law_calls {P : Program} [IsProg P] {C : Ctx} (hC : C.Good P) {n f : Nat} {args : List AV} {σ σ' : AHeap} {ρ : Loc} {w : World} {vs : List Value}
    (h : evCall C n f args σ = some (.one (.bool true), σ')) (hv : VRs ρ args vs) (hr : HR ρ σ.get w) (hno : ∀ b, ¬ Owned ρ σ.get b) :
    Calls P f vs.toArray w fun e w' => e = .returned (.bool true) ∧ Below w.heap.size w w' := by
  refine ((sound hC n f args σ _ σ' h).2 ρ w vs hv hr).mono ?_
  rintro e w' ⟨u, ρ', rfl, hp, hu⟩
  cases hu with
  | one hu => cases hu; exact ⟨rfl, hp.below hno⟩

section
variable {P : Program} {H : Type} {enc : TypeId × Value → H}

theorem trodAll_stays (hl : laidOutB P = true) {W W' : World} {sp' : Nat → Bool} : ∀ {ts : List TypeId} {vs : List Value} {ds : List (DataW H)} {ps : List MemPlace}, (∀ t ∈ ts, P.readableRec t = true ∧ t < P.types.size) →
    DataW.TrodAll enc P W 0 (fun _ => true) true ts vs ds ps → (∀ p ∈ ps, W.sameAt W' p) → (∀ p ∈ ps, sp' p.block = true) → DataW.TrodAll enc P W' 0 sp' true ts vs ds ps
  | [], [], [], ps, _, h, _, _ => h
  | t :: ts, v :: vs, d :: ds, ps, ht, h, hsame, hs => by
    obtain ⟨p, q, h1, h2, rfl⟩ := h
    refine ⟨p, q, WideElems.Trod_stays hl (ht t (by simp)).1 (ht t (by simp)).2 h1 (fun x hx => hsame x (List.mem_append_left _ hx)) (fun x hx => hs x (List.mem_append_left _ hx)), ?_, rfl⟩
    exact trodAll_stays hl (fun t' ht' => ht t' (by simp [ht'])) h2 (fun x hx => hsame x (List.mem_append_right _ hx)) (fun x hx => hs x (List.mem_append_right _ hx))
  | [], [], _ :: _, _, _, h, _, _ => h.elim
  | [], _ :: _, _, _, _, h, _, _ => h.elim
  | _ :: _, [], _, _, _, h, _, _ => h.elim
  | _ :: _, _ :: _, [], _, _, h, _, _ => h.elim

/-- What a law's row asks behind the call: true came back, the arguments read as they did, old memory is as it was. -/
theorem law_post {f : Func} {s : ChangeSpec} {W W' : World} {args : Array Value} {ds : List (DataW H)} {before : List MemPlace} {tb : TypeId}
    (hl : laidOutB P = true) (hread : ∀ t ∈ f.params.toList, P.readableRec t = true ∧ t < P.types.size) (hbt : f.resultTypes = #[tb]) (hb : P.underlying tb = some .bool) (hvars : s.vars = [])
    (hW : DataW.Whole enc P f.params.toList s.vars false W args.toList ds [] before)
    (hfn : s.fn H (ds ++ []) = { results := [.lit (.bool true)], args := ds }) (hbel : Below W.heap.size W W') :
    s.post enc P f false true false false W args (.bool true) W' := by
  have hlt : ∀ p ∈ before, p.block < W.heap.size := fun p hp => hW.lt p hp
  obtain ⟨p, q, hA, hV, rfl, hz, hn⟩ := hW
  have hV0 := hV
  rw [hvars] at hV
  obtain rfl : q = [] := by
    unfold DataW.TrodVars at hV
    exact hV
  have hWW : DataW.Whole enc P f.params.toList s.vars false W args.toList ds [] (p ++ []) := ⟨p, [], hA, hV0, rfl, hz, hn⟩
  refine ⟨ds, [], p ++ [], [], p, [], hWW, ?_, ?_, ?_, ?_, ?_⟩
  · rw [hbt, hfn]
    exact trodAll_cons_mk (shut_bool hb _) trodAll_mk0
  · rw [hfn]
    exact trodAll_stays hl hread hA (fun x hx => hbel.same (hlt x (by simp [hx]))) (fun x hx => by simpa using hlt x (by simp [hx]))
  · rw [hfn, hvars]
    exact rfl
  · exact hbel.frame _
  · intro h; cases h

end
end Go.Proofs.YtkolhfpofmpijaaDoor.Ab
