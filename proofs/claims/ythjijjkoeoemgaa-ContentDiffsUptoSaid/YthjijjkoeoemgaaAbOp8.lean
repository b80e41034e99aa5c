/- Every operation but a call of a Go function. -/
import Derived.Test.YthjijjkoeoemgaaAbOp7
namespace Go.Proofs.Ythjijjkoeoemgaa.Ab
open Go
set_option linter.unusedSimpArgs false
set_option linter.unusedVariables false

section
variable {P : Program} {ρ : Loc}

/-- An operation that looks into memory and may write it. -/
def AOp.mem : AOp → Bool
  | .store .. | .append .. | .appendZ .. | .copy .. | .clear .. => true
  | _ => false

def OpClass (P : Program) (ρ : Loc) (o : Oper) (a : Act) (fr : List AV) (σ σ' : AHeap) (v : AV) (aop : AOp) : Prop :=
  (aop.memless = true ∧ σ' = σ ∧ ∃ u, VR ρ v u ∧ ∀ w, (execOp a.eval o).run P w = .ok (.value u) w) ∨
  (∃ g y, aop = .load g y ∧ σ' = σ ∧ ∀ w, (∀ id off B ob, ev fr y = .one (.ptr id off) → ρ id = some B → σ.get id = some ob → ObjOk ρ w B ob) → ∃ u, VR ρ v u ∧ (execOp a.eval o).run P w = .ok (.value u) w) ∨
  (aop.allocs = true ∧ AllocRes P ρ o a σ σ' v) ∨
  (aop.mem = true ∧ ∀ w, HR ρ σ.get w → OpRes P ρ o a σ w σ' v)

theorem builtin_res {o : Oper} {a : Act} {σ σ' : AHeap} {w : World} {v : AV} {s : Sem Value} (h : ∃ u w' ρ', s.run P w = .ok u w' ∧ Post ρ σ w ρ' σ' w' ∧ VR ρ' v u)
    (hs : ∀ u w', s.run P w = .ok u w' → (execOp a.eval o).run P w = .ok (.value u) w') : OpRes P ρ o a σ w σ' v := by
  obtain ⟨u, w', ρ', h1, h2, h3⟩ := h
  exact ⟨_, u, w', ρ', hs u w' h1, .inl rfl, h2, h3⟩

theorem op_class {o : Oper} {aop : AOp} {fr : List AV} {a : Act} {σ σ' : AHeap} {v : AV} (hc : compOp P o.op = some aop)
    (hf : FR ρ fr a.tmps) (hl : LenRel ρ σ.get) (he : evOp fr σ aop = some (v, σ')) : OpClass P ρ o a fr σ σ' v aop := by
  by_cases hm : aop.memless = true
  · exact .inl ⟨hm, memless_run hc hm hf hl he⟩
  have hc' := hc
  obtain ⟨dst, op, type, pos, after, guard⟩ := o
  simp only at hc hc'
  cases op with
  | load t x =>
    simp only [compOp] at hc
    split at hc
    · rename_i g y hg hy
      cases hc
      refine .inr (.inl ⟨g, y, rfl, ?_⟩)
      have hσ : σ' = σ := by
        simp only [evOp] at he
        split at he
        · split at he
          · cases he; rfl
          · cases he
        · cases he
      refine ⟨hσ, fun w hr => ?_⟩
      exact (load_run (o := ⟨dst, .load t x, type, pos, after, guard⟩) rfl hg hy hf he hr).2
    · cases hc
  | store t x y =>
    simp only [compOp] at hc
    split at hc
    · rename_i n x' y' hn hx hy
      cases hc
      exact .inr (.inr (.inr ⟨rfl, fun w hr => store_run (o := ⟨dst, .store t x y, type, pos, after, guard⟩) rfl hn hx hy hf hr he⟩))
    · cases hc
  | alloc t =>
    simp only [compOp] at hc
    split at hc
    · rename_i z hz
      cases hc
      exact .inr (.inr (.inl ⟨rfl, new_run (o := ⟨dst, .alloc t, type, pos, after, guard⟩) rfl hz he⟩))
    · cases hc
  | box t x =>
    simp only [compOp] at hc
    split at hc
    · rename_i y hy
      cases hc
      exact .inr (.inr (.inl ⟨rfl, box_run (o := ⟨dst, .box t x, type, pos, after, guard⟩) rfl hy hf he⟩))
    · cases hc
  | buildSlice t len parts =>
    simp only [compOp] at hc
    split at hc
    · rename_i e ht
      split at hc
      · rename_i n z hs hz
        split at hc
        · rename_i l hp hle
          cases hc
          exact .inr (.inr (.inl ⟨rfl, bslice_run (o := ⟨dst, .buildSlice t len parts, type, pos, after, guard⟩) rfl ht hs hz hp (by simpa using hle) hf he⟩))
        · cases hc
      · cases hc
    · cases hc
  | makeSlice t l c =>
    simp only [compOp] at hc
    split at hc
    · rename_i e ht
      split at hc
      · rename_i n b z hs hb hz
        split at hc
        · rename_i l' c' hl' hc2
          cases hc
          exact .inr (.inr (.inl ⟨rfl, mkslice_run (o := ⟨dst, .makeSlice t l c, type, pos, after, guard⟩) rfl ht hs hb hz hl' hc2 hf he⟩))
        · cases hc
      · cases hc
    · cases hc
  | call c =>
    obtain ⟨callee, args, argTypes⟩ := c
    simp only [compOp, compCall] at hc
    cases callee with
    | value f =>
      simp only at hc
      split at hc
      · cases hc; cases he
      · cases hc
    | invoke r m => cases hc
    | builtin b =>
      simp only at hc
      split at hc
      · split at hc
        · cases hc; exact absurd rfl hm
        · cases hc; exact absurd rfl hm
        · cases hc; exact absurd rfl hm
        · split at hc
          · cases hc; exact absurd rfl hm
          · cases hc
        · cases hc
      · split at hc
        · cases hc; exact absurd rfl hm
        · cases hc
      · -- append
        rename_i x' y' t u hxy htu
        obtain ⟨x, y, hargs, hx, hy⟩ := compOpds_two hxy
        have hargs' : args = #[x, y] := Array.ext' hargs
        have hat : argTypes = #[t, u] := Array.ext' htu
        subst hargs'
        subst hat
        have k1 := opd_rel hx hf
        have k2 := opd_rel hy hf
        split at hc
        · rename_i e ht
          have two : ∀ n b z, tSize P e = some n → tBytes P e = some b → tZero P e = some z → ((∃ e', P.underlying u = some (.slice e')) ∨ P.underlying u = some .string) →
              (match n with
                | 0 => none
                | n + 1 => some (AOp.append (n + 1) b z x' y')) = some aop → OpClass P ρ ⟨dst, .call ⟨.builtin .append, #[x, y], #[t, u]⟩, type, pos, after, guard⟩ a fr σ σ' v aop := by
            intro n b z hs hb hz hu hc
            cases n with
            | zero => cases hc
            | succ n =>
              cases hc
              refine .inr (.inr (.inr ⟨rfl, fun w hr => ?_⟩))
              simp only [evOp] at he
              split at he
              · rename_i k hk
                split at he
                · rename_i vs hvs
                  obtain ⟨us, q1, q2, q3⟩ := srcCells_run (P := P) hvs k2 hr
                  have happ : ∀ base len c, a.eval x = .slice base len c → InPlace P (Builtin.append_ #[t, u] type #[a.eval x, a.eval y]) base len c (n + 1) k us w ∧
                      InNew P (Builtin.append_ #[t, u] type #[a.eval x, a.eval y]) e len c (n + 1) b k (a.eval x) us w := by
                    intro base len c hX
                    exact append_two type ht hs hb hz hu hX (srcLen_run (P := P) hk k2) q3
                  refine builtin_res (appendA_run k1 hr q1 q2 happ he) (fun u' w' hrun => ?_)
                  simp [execOp, resolve, invoke, builtin, hrun]
                · cases he
              · cases he
          split at hc
          · rename_i n b z ik hs hb hz hu
            cases n with
            | zero => cases hc
            | succ n =>
              cases hc
              refine .inr (.inr (.inr ⟨rfl, fun w hr => ?_⟩))
              simp only [evOp] at he
              split at he
              · rename_i k hk
                split at he
                · rename_i hkm
                  have hkm' : k ≤ 4294967296 := by
                    have : k ≤ maxElems := by simpa using hkm
                    exact this
                  obtain ⟨ik', hY⟩ := asNat_run hk k2
                  have hby : k = 0 ∨ b ≤ 4096 := by
                    cases k with
                    | zero => exact .inl rfl
                    | succ k =>
                      right
                      simp only [appendA, appendK] at he
                      split at he
                      · split at he
                        · rename_i hb'
                          simp only [Bool.and_eq_true] at hb'
                          exact Nat.le_of_ble_eq_true hb'.2
                        · cases he
                      · split at he
                        · rename_i hb' _
                          simp only [Bool.and_eq_true] at hb'
                          exact Nat.le_of_ble_eq_true hb'.2
                        · cases he
                      · cases he
                  have hX : ∃ base len c, a.eval x = .slice base len c := by
                    have : (∃ id off e len cap, ev fr x' = .one (.slice id off e len cap)) ∨ ev fr x' = .one .nilSlice := by
                      cases k with
                      | zero =>
                        simp only [appendA] at he
                        split at he
                        · rename_i h; exact .inr h
                        · rename_i h; exact .inl ⟨_, _, _, _, _, h⟩
                        · cases he
                      | succ k =>
                        simp only [appendA, appendK] at he
                        split at he
                        · rename_i h; exact .inr h
                        · rename_i h; exact .inl ⟨_, _, _, _, _, h⟩
                        · cases he
                    rcases this with ⟨_, _, _, _, _, h⟩ | h
                    · rw [h] at k1
                      generalize a.eval x = X at k1
                      cases k1 with
                      | one k1 => cases k1 <;> exact ⟨_, _, _, rfl⟩
                    · rw [h] at k1
                      generalize a.eval x = X at k1
                      cases k1 with
                      | one k1 => cases k1; exact ⟨_, _, _, rfl⟩
                  obtain ⟨base, len, c, hX⟩ := hX
                  obtain ⟨us, q1, q2, q3⟩ := append_zeros (P := P) (ik' := ik') (w := w) type ht hs hb hz hu hX hkm' hby
                  have hzl : z.length = n + 1 := by
                    obtain ⟨i, v0, h1, h2, h3, h4⟩ := tZero_info hz
                    obtain ⟨i', h1', hsz⟩ := tSize_info hs
                    rw [h1] at h1'; cases h1'
                    omega
                  have hul : us.length = k * (n + 1) := by rw [← (q1 ρ).length, repeatCells_length, hzl]
                  have happ : ∀ base len c, a.eval x = .slice base len c → InPlace P (Builtin.append_ #[t, u] type #[a.eval x, .int ik' k]) base len c (n + 1) k us w ∧
                      InNew P (Builtin.append_ #[t, u] type #[a.eval x, .int ik' k]) e len c (n + 1) b k (a.eval x) us w := by
                    intro base' len' c' hX'
                    rw [hX] at hX'
                    cases hX'
                    exact ⟨q2, q3⟩
                  refine builtin_res (appendA_run k1 hr (q1 ρ) hul happ he) (fun u' w' hrun => ?_)
                  simp [execOp, resolve, invoke, builtin, hY, hrun]
                · cases he
              · cases he
          · rename_i n b z e' hs hb hz hu
            exact two n b z hs hb hz (.inl ⟨e', hu⟩) hc
          · rename_i n b z hs hb hz hu
            exact two n b z hs hb hz (.inr hu) hc
          · cases hc
        · cases hc
      · -- copy
        rename_i x' y' t u hxy htu
        obtain ⟨x, y, hargs, hx, hy⟩ := compOpds_two hxy
        have hargs' : args = #[x, y] := Array.ext' hargs
        have hat : argTypes = #[t, u] := Array.ext' htu
        subst hargs'
        subst hat
        split at hc
        · rename_i e ht
          split at hc
          · rename_i n hs
            cases hc
            refine .inr (.inr (.inr ⟨rfl, fun w hr => ?_⟩))
            refine builtin_res (copy_run (t2 := u) type ht hs (opd_rel hx hf) (opd_rel hy hf) hr he) (fun u' w' hrun => ?_)
            simp [execOp, resolve, invoke, builtin, hrun]
          · cases hc
        · cases hc
      · cases hc; exact absurd rfl hm
      · cases hc; exact absurd rfl hm
      · -- clear
        rename_i x' t hxy htu
        obtain ⟨x, hargs, hx⟩ := compOpds_one hxy
        have hargs' : args = #[x] := Array.ext' hargs
        have hat : argTypes = #[t] := Array.ext' htu
        subst hargs'
        subst hat
        split at hc
        · rename_i e ht
          split at hc
          · rename_i n z hs hz
            cases hc
            refine .inr (.inr (.inr ⟨rfl, fun w hr => ?_⟩))
            refine builtin_res (clear_run type ht hs hz (opd_rel hx hf) hr he) (fun u' w' hrun => ?_)
            simp [execOp, resolve, invoke, builtin, hrun]
          · cases hc
        · cases hc
      · cases hc
  | binOp op t x y yt =>
    simp only [compOp] at hc
    split at hc
    · rename_i x' y' hx hy
      exact absurd (compBin_run (X := x) (Y := y) hc (opd_rel hx hf) (opd_rel hy hf) he).1 hm
    · cases hc
  | makeFunc fn first captured =>
    cases fn with
    | func f =>
      simp only [compOp] at hc
      split at hc
      · cases hc; exact absurd rfl hm
      · cases hc
    | _ => simp [compOp] at hc
  | _ =>
    exfalso
    revert hc
    simp only [compOp]
    intro hc
    repeat' (split at hc)
    all_goals (cases hc)
    all_goals (exact hm rfl)

/-- An operation, in a memory that is known whole. -/
theorem op_sim {o : Oper} {aop : AOp} {fr : List AV} {a : Act} {σ σ' : AHeap} {v : AV} {w : World} (hc : compOp P o.op = some aop)
    (hf : FR ρ fr a.tmps) (hr : HR ρ σ.get w) (he : evOp fr σ aop = some (v, σ')) : OpRes P ρ o a σ w σ' v := by
  rcases op_class hc hf hr.lenRel he with ⟨_, rfl, u, h1, h2⟩ | ⟨g, y, rfl, rfl, h⟩ | ⟨_, cs, vs, t, rfl, h1, h2⟩ | ⟨_, h⟩
  · exact ⟨_, u, w, ρ, h2 w, .inl rfl, Post.refl hr, h1⟩
  · obtain ⟨u, h1, h2⟩ := h w (fun id off B ob _ hB hob => by
      obtain ⟨o', k1, k2, _⟩ := hr.dom id B hB
      rw [hob] at k1; cases k1
      exact k2)
    exact ⟨_, u, w, ρ, h2, .inl rfl, Post.refl hr, h1⟩
  · obtain ⟨u, h3, h4⟩ := h2 w
    have hp := Post.alloc (t := t) (fz := (0, 0)) hr h1 (extra := []) (arr := vs.toArray) (by simp) (fun o _ => by omega)
    refine ⟨_, u, _, _, h3, .inl rfl, hp, h4 _ ?_⟩
    unfold Loc.upd
    rw [if_pos rfl]
    simp
  · exact h w hr

end
end Go.Proofs.Ythjijjkoeoemgaa.Ab
