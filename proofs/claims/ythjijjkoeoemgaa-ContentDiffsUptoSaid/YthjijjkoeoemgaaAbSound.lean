/- Whole functions: where the abstract machine goes well, so does the model's call, whatever the tape says. -/
import Derived.Test.YthjijjkoeoemgaaAbStep
namespace Go.Proofs.Ythjijjkoeoemgaa.Ab
open Go
set_option linter.unusedSimpArgs false
set_option linter.unusedVariables false

/-- Where a way through code ends, and in which memory. -/
def EndsAt (ρ : Loc) (σ : AHeap) (w : World) (x : Exit) (fr' : List AV) (σ' : AHeap) : Exit → Act → World → Prop :=
  fun e a' w' => e = x ∧ a'.defers = [] ∧ ∃ ρ', Post ρ σ w ρ' σ' w' ∧ FR ρ' fr' a'.tmps

/-- What is asked of a region whose order is open. -/
def DrawSound (P : Program) (call : CallF) : Prop :=
  ∀ (id : Nat) (ops : Array Oper) (al : List AOper) (ac : ACode) (fr fr' : List AV) (σ σ' : AHeap) (m : Nat) (x : AX) (ρ : Loc) (a : Act) (w : World),
    compOpers P ops ops.toList = some al → compDraw P ops al = some ac → evCode call m ac fr σ = some (x, fr', σ') →
    FR ρ fr a.tmps → a.defers = [] → HR ρ σ.get w → x = .normal ∧ (Code.region id ops true).wp P (EndsAt ρ σ w .normal fr' σ') a w

def AX.toExit : AX → Exit
  | .normal => .normal
  | .exit id => .exit id
  | .ret => .ret

section
variable {P : Program}

theorem rounds_mono {c : Code} {Q Q' : Exit → Act → World → Prop} (hq : ∀ e a w, Q e a w → Q' e a w) : ∀ {n : Nat} {a : Act} {w : World}, Code.rounds P c Q n a w → Code.rounds P c Q' n a w
  | 0, _, _, h => h.elim
  | n + 1, a, w, h => by
    rw [rounds_succ] at *
    refine wp_mono h (fun e a w h => ?_)
    cases e <;> first | exact hq _ _ _ h | exact rounds_mono hq h

theorem code_sound {call : CallF} (hcall : CallOk P call) (hdraw : DrawSound P call) (m : Nat) : ∀ (c : Code) (ac : ACode) (fr fr' : List AV) (σ σ' : AHeap) (x : AX),
    compCode P c = some ac → evCode call m ac fr σ = some (x, fr', σ') → ∀ (ρ : Loc) (a : Act) (w : World), FR ρ fr a.tmps → a.defers = [] → HR ρ σ.get w →
    c.wp P (EndsAt ρ σ w x.toExit fr' σ') a w := by
  intro c
  induction c with
  | skip =>
    intro ac fr fr' σ σ' x hc he ρ a w hf hd hr
    cases hc; cases he
    exact wp_skip ⟨rfl, hd, ρ, Post.refl hr, hf⟩
  | region id ops draw =>
    intro ac fr fr' σ σ' x hc he ρ a w hf hd hr
    simp only [compCode] at hc
    split at hc
    · rename_i l hl
      cases draw with
      | false =>
        cases hc
        simp only [evCode] at he
        split at he
        · rename_i fr1 σ1 hops
          cases he
          exact region_sound hcall hl hf hr hops (fun a' w' ρ' h1 h2 h3 => ⟨rfl, by rw [h1]; exact hd, ρ', h2, h3⟩)
        · cases he
      | true =>
        obtain ⟨rfl, h⟩ := hdraw id ops l ac fr fr' σ σ' m x ρ a w hl hc he hf hd hr
        exact h
    · cases hc
  | seq c1 c2 ih1 ih2 =>
    intro ac fr fr' σ σ' x hc he ρ a w hf hd hr
    simp only [compCode] at hc
    split at hc
    · rename_i a1 a2 h1 h2
      cases hc
      simp only [evCode] at he
      split at he
      · rename_i fr1 σ1 hfirst
        refine wp_seq (wp_mono (ih1 _ _ _ _ _ _ h1 hfirst ρ a w hf hd hr) ?_)
        rintro e a' w' ⟨rfl, hd', ρ', hp, hf'⟩
        simp only [AX.toExit, Exit.then]
        refine wp_mono (ih2 _ _ _ _ _ _ h2 he ρ' a' w' hf' hd' hp.hr) ?_
        rintro e a2 w2 ⟨rfl, hd2, ρ2, hp2, hf2⟩
        exact ⟨rfl, hd2, ρ2, hp.trans hp2, hf2⟩
      · rename_i hnn
        refine wp_seq (wp_mono (ih1 _ _ _ _ _ _ h1 he ρ a w hf hd hr) ?_)
        rintro e a' w' ⟨rfl, hd', ρ', hp, hf'⟩
        cases x with
        | normal => exact absurd he (hnn _ _)
        | exit id => exact ⟨rfl, hd', ρ', hp, hf'⟩
        | ret => exact ⟨rfl, hd', ρ', hp, hf'⟩
    · cases hc
  | cond b c1 c2 ih1 ih2 =>
    intro ac fr fr' σ σ' x hc he ρ a w hf hd hr
    simp only [compCode] at hc
    split at hc
    · rename_i b' a1 a2 h0 h1 h2
      cases hc
      simp only [evCode] at he
      have k1 := opd_rel h0 hf
      split at he
      · rename_i e
        rw [e] at k1
        have e2 : a.eval b = .bool true := by
          cases k1 with
          | one k1 => generalize a.eval b = u at k1; cases k1; rfl
        exact wp_cond_true e2 (ih1 _ _ _ _ _ _ h1 he ρ a w hf hd hr)
      · rename_i e
        rw [e] at k1
        have e2 : a.eval b = .bool false := by
          cases k1 with
          | one k1 => generalize a.eval b = u at k1; cases k1; rfl
        exact wp_cond_false e2 (ih2 _ _ _ _ _ _ h2 he ρ a w hf hd hr)
      · cases he
    · cases hc
  | block id c ih =>
    intro ac fr fr' σ σ' x hc he ρ a w hf hd hr
    simp only [compCode] at hc
    split at hc
    · rename_i a1 h1
      cases hc
      simp only [evCode] at he
      split at he
      · rename_i id' fr1 σ1 hin
        refine wp_block (wp_mono (ih _ _ _ _ _ _ h1 hin ρ a w hf hd hr) ?_)
        rintro e a' w' ⟨rfl, hd', ρ', hp, hf'⟩
        simp only [AX.toExit, Exit.inBlock]
        split at he
        · rename_i hid
          cases he
          rw [if_pos (Nat.eq_of_beq_eq_true hid)]
          exact ⟨rfl, hd', ρ', hp, hf'⟩
        · rename_i hid
          cases he
          rw [if_neg (fun e => by subst e; simp at hid)]
          exact ⟨rfl, hd', ρ', hp, hf'⟩
      · rename_i hne
        refine wp_block (wp_mono (ih _ _ _ _ _ _ h1 he ρ a w hf hd hr) ?_)
        rintro e a' w' ⟨rfl, hd', ρ', hp, hf'⟩
        cases x with
        | normal => exact ⟨rfl, hd', ρ', hp, hf'⟩
        | exit id' => exact absurd he (hne _ _ _)
        | ret => exact ⟨rfl, hd', ρ', hp, hf'⟩
    · cases hc
  | loop c ih =>
    intro ac fr fr' σ σ' x hc he ρ a w hf hd hr
    simp only [compCode] at hc
    split at hc
    · rename_i a1 h1
      cases hc
      simp only [evCode] at he
      have key : ∀ (k : Nat) (fr : List AV) (σ : AHeap) (ρ : Loc) (a : Act) (w : World), evLoop (evCode call m a1) k fr σ = some (x, fr', σ') → FR ρ fr a.tmps → a.defers = [] → HR ρ σ.get w →
          Code.rounds P c (EndsAt ρ σ w x.toExit fr' σ') k a w := by
        intro k
        induction k with
        | zero => intro fr σ ρ a w he; cases he
        | succ k ihk =>
          intro fr σ ρ a w he hf hd hr
          simp only [evLoop] at he
          rw [rounds_succ]
          split at he
          · rename_i fr1 σ1 hbody
            refine wp_mono (ih _ _ _ _ _ _ h1 hbody ρ a w hf hd hr) ?_
            rintro e a' w' ⟨rfl, hd', ρ', hp, hf'⟩
            simp only [AX.toExit, Exit.then]
            have := ihk fr1 σ1 ρ' a' w' he hf' hd' hp.hr
            refine rounds_mono ?_ this
            rintro e a2 w2 ⟨rfl, hd2, ρ2, hp2, hf2⟩
            exact ⟨rfl, hd2, ρ2, hp.trans hp2, hf2⟩
          · rename_i hnn
            refine wp_mono (ih _ _ _ _ _ _ h1 he ρ a w hf hd hr) ?_
            rintro e a' w' ⟨rfl, hd', ρ', hp, hf'⟩
            cases x with
            | normal => exact absurd he (hnn _ _)
            | exit id => exact ⟨rfl, hd', ρ', hp, hf'⟩
            | ret => exact ⟨rfl, hd', ρ', hp, hf'⟩
      exact wp_loop_rounds m (key m fr σ ρ a w he hf hd hr)
    · cases hc
  | exit id =>
    intro ac fr fr' σ σ' x hc he ρ a w hf hd hr
    cases hc; cases he
    exact wp_exit ⟨rfl, hd, ρ, Post.refl hr, hf⟩
  | ret =>
    intro ac fr fr' σ σ' x hc he ρ a w hf hd hr
    cases hc; cases he
    exact wp_ret ⟨rfl, hd, ρ, Post.refl hr, hf⟩
  | _ =>
    intro ac fr fr' σ σ' x hc
    simp [compCode] at hc

/-- The abstract functions are the model's, the laid ones keep their word. -/
structure Ctx.Good (P : Program) (C : Ctx) : Prop where
  code : ∀ f F, C.code f = some F → ∃ fn, P.funcs[f]? = some fn ∧ compFunc P fn = some F
  prim : ∀ f p, C.prim f = some p → ∀ args σ v σ', p args σ = some (v, σ') → Callable P f ∧
    ∀ ρ w vs, VRs ρ args vs → HR ρ σ.get w → Calls P f vs.toArray w (CallPost ρ σ w σ' v)

theorem repUndef_rel {ρ : Loc} : ∀ n, VRs ρ (repUndef n) (List.replicate n undef)
  | 0 => .nil
  | n + 1 => .cons VR.undef (repUndef_rel n)

theorem FR.of_list {ρ : Loc} {fr : List AV} {vs : List Value} (h : VRs ρ fr vs) : FR ρ fr vs.toArray := by
  refine ⟨by simpa using h.length, fun t => ?_⟩
  rw [getSlot_eq]
  cases hq : fr[t]? with
  | none =>
    have h1 : fr.length ≤ t := List.getElem?_eq_none_iff.1 hq
    have h2 : vs[t]? = none := List.getElem?_eq_none (by rw [← h.length]; exact h1)
    simp [h2]
    exact VR.undef
  | some x =>
    obtain ⟨v, h1, h2⟩ := h.get hq
    simp [h1]
    exact h2

theorem calls_sound {C : Ctx} (hC : C.Good P) (hdraw : ∀ n, CallOk P (evCall C n) → DrawSound P (evCall C n)) : ∀ n, CallOk P (evCall C n) := by
  intro n
  induction n with
  | zero => intro f args σ v σ' h; cases h
  | succ n ih =>
    intro f args σ v σ' h
    simp only [evCall] at h
    split at h
    · rename_i p hp
      exact hC.prim f p hp args σ v σ' h
    · split at h
      · cases h
      · rename_i F hF
        obtain ⟨fn, hfn, hcomp⟩ := hC.code f F hF
        unfold compFunc at hcomp
        split at hcomp
        · rename_i c hbody hname
          split at hcomp
          · rename_i ac rs hcode hres
            cases hcomp
            have hname' : fn.name ≠ "runtime.NumGoroutine" := by simpa using hname
            refine ⟨⟨fn, hfn, hname', by rw [hbody]; rfl⟩, fun ρ w vs hv hr => ?_⟩
            have fin : ∀ (x : AX) (fr' : List AV) (σ1 : AHeap), (x = .normal ∨ x = .ret) → evCode (evCall C n) n ac (args ++ repUndef (fn.ntmps - args.length)) σ = some (x, fr', σ1) →
                (match resOfs fr' σ1 rs with
                  | some vs => some (tupOf vs, σ1)
                  | none => none) = some (v, σ') → Calls P f vs.toArray w (CallPost ρ σ w σ' v) := by
              intro x fr' σ1 hx hev hrs
              split at hrs
              · rename_i rv hrv
                cases hrs
                refine calls_of_wp hfn hbody ?_
                have hfr : FR ρ (args ++ repUndef (fn.ntmps - args.length)) (vs.toArray ++ Array.replicate (fn.ntmps - vs.toArray.size) undef) := by
                  have h1 := FR.of_list (hv.append (repUndef_rel (ρ := ρ) (fn.ntmps - args.length)))
                  have h2 : vs.toArray ++ Array.replicate (fn.ntmps - vs.toArray.size) undef = (vs ++ List.replicate (fn.ntmps - args.length) undef).toArray := by
                    apply Array.ext'
                    simp [hv.length]
                  rw [h2]
                  exact h1
                refine wp_mono (code_sound ih (hdraw n ih) n c ac _ fr' σ σ' x hcode hev ρ _ w hfr rfl hr) ?_
                rintro e a' w' ⟨rfl, hd, ρ', hp, hf'⟩
                obtain ⟨u, h1, h2⟩ := results_run (P := P) hres hf' hp.hr hrv
                rcases hx with rfl | rfl
                · exact ⟨hd, u, h1, u, ρ', rfl, hp, h2⟩
                · exact ⟨hd, u, h1, u, ρ', rfl, hp, h2⟩
              · cases hrs
            split at h
            · rename_i fr' σ1 hev
              exact fin _ fr' σ1 (.inl rfl) hev h
            · rename_i fr' σ1 hev
              exact fin _ fr' σ1 (.inr rfl) hev h
            · cases h
          · cases hcomp
        · cases hcomp

end
end Go.Proofs.Ythjijjkoeoemgaa.Ab
