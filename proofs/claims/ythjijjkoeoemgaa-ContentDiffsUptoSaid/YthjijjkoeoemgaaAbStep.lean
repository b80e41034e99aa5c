/- One operation, a row of operations, results: what the model does where the abstract machine goes well. -/
import Derived.Test.YthjijjkoeoemgaaAbCode
namespace Go.Proofs.Ythjijjkoeoemgaa.Ab
open Go
set_option linter.unusedSimpArgs false
set_option linter.unusedVariables false

/-- What a call leaves. -/
def CallPost (ρ : Loc) (σ : AHeap) (w : World) (σ' : AHeap) (v : AV) : Ending → World → Prop :=
  fun e w' => ∃ u ρ', e = .returned u ∧ Post ρ σ w ρ' σ' w' ∧ VR ρ' v u

/-- A function that may be called: it has a body. -/
def Callable (P : Program) (f : Nat) : Prop := ∃ fn, P.funcs[f]? = some fn ∧ fn.name ≠ "runtime.NumGoroutine" ∧ fn.body.isSome = true

def CallOk (P : Program) (call : CallF) : Prop :=
  ∀ f args σ v σ', call f args σ = some (v, σ') → Callable P f ∧
    ∀ ρ w vs, VRs ρ args vs → HR ρ σ.get w → Calls P f vs.toArray w (CallPost ρ σ w σ' v)

section
variable {P : Program} {ρ : Loc}

theorem compCall_value {op : Op} {f : AOpd} {args : List AOpd} (h : compOp P op = some (.call f args)) :
    ∃ c fo, op = .call c ∧ c.callee = .value fo ∧ compOpd fo = some f ∧ compOpds c.args.toList = some args := by
  cases op with
  | call c =>
    obtain ⟨callee, as, tys⟩ := c
    simp only [compOp, compCall] at h
    cases callee with
    | value fo =>
      simp only at h
      split at h
      · rename_i f' l h1 h2
        cases h
        exact ⟨_, fo, rfl, rfl, h1, h2⟩
      · cases h
    | invoke r m => cases h
    | builtin b =>
      simp only at h
      repeat' (split at h)
      all_goals (cases h)
  | binOp op t x y yt =>
    simp only [compOp] at h
    split at h
    · unfold compBin at h
      repeat' (split at h)
      all_goals (cases h)
    · cases h
  | makeFunc fn first captured =>
    cases fn with
    | func f =>
      simp only [compOp] at h
      split at h <;> cases h
    | _ => simp [compOp] at h
  | _ =>
    exfalso
    revert h
    simp only [compOp]
    intro h
    repeat' (split at h)
    all_goals (cases h)

theorem evStep_notcall {call : CallF} {fr : List AV} {σ : AHeap} {aop : AOp} (h : ∀ f args, aop ≠ .call f args) : evStep call fr σ aop = evOp fr σ aop := by
  cases aop <;> first | rfl | exact absurd rfl (h _ _)

/-- A call of a Go function: what is asked of the model. -/
theorem call_enter {o : Oper} {f : AOpd} {args : List AOpd} {fr : List AV} {a : Act} {g : Nat} {caps : List SV} (hc : compOp P o.op = some (.call f args))
    (hf : FR ρ fr a.tmps) (he : ev fr f = .one (.func g caps)) (hg : Callable P g) :
    ∃ vs, VRs ρ (evs fr args ++ caps.map AV.one) vs ∧ ∀ w, (execOp a.eval o).run P w = .ok (.enter g vs.toArray) w := by
  obtain ⟨c, fo, ho, hcal, h1, h2⟩ := compCall_value hc
  obtain ⟨callee, as, tys⟩ := c
  simp only at hcal h2
  subst hcal
  have k1 := opd_rel h1 hf
  rw [he] at k1
  generalize hu : a.eval fo = u at k1
  cases k1 with
  | one k1 =>
    cases k1 with
    | func k1 =>
      rename_i cvs
      obtain ⟨fn, hfn, hname, hbody⟩ := hg
      refine ⟨as.toList.map a.eval ++ cvs, (opds_rel h2 hf).append k1.toVRs, fun w => ?_⟩
      have hb : ¬ fn.body = none := by
        intro hq
        rw [hq] at hbody; cases hbody
      have harr : as.map a.eval ++ cvs.toArray = (as.toList.map a.eval ++ cvs).toArray := by
        apply Array.ext'; simp
      simp [execOp, ho, resolve, hu, Deferred.ofValue, invoke, callFunc, hfn, hname, hb]

/-- One operation, seen from another frame at which it does the same. -/
theorem step_sound' {call : CallF} (hcall : CallOk P call) {o : Oper} {aop : AOp} {fr : List AV} {a a2 : Act} {σ σ' : AHeap} {v : AV} {w : World}
    {next : Act → World → Prop} {Q : Exit → Act → World → Prop} (hc : compOp P o.op = some aop)
    (hf : FR ρ fr a.tmps) (hr : HR ρ σ.get w) (he : evStep call fr σ aop = some (v, σ')) (heq : execOp a.eval o = execOp a2.eval o)
    (hn : ∀ u w' ρ', Post ρ σ w ρ' σ' w' → VR ρ' v u → next (a2.put o.dst u) w') : o.wp P a2 w next Q := by
  by_cases hcl : ∃ f args, aop = .call f args
  · obtain ⟨f, args, rfl⟩ := hcl
    simp only [evStep] at he
    split at he
    · rename_i g caps e
      obtain ⟨h1, h2⟩ := hcall _ _ _ _ _ he
      obtain ⟨vs, h3, h4⟩ := call_enter hc hf e h1
      unfold Oper.wp
      rw [← heq, h4 w]
      simp only [Oper.upon]
      refine (h2 ρ w vs h3 hr).mono ?_
      rintro e w' ⟨u, ρ', rfl, h5, h6⟩
      exact hn u w' ρ' h5 h6
    · cases he
  · rw [evStep_notcall (fun f args e => hcl ⟨f, args, e⟩)] at he
    obtain ⟨r, u, w', ρ', h1, h2, h3, h4⟩ := op_sim hc hf hr he
    unfold Oper.wp
    rw [← heq, h1]
    rcases h2 with rfl | ⟨rfl, rfl⟩
    · exact hn u w' ρ' h3 h4
    · exact hn undef w' ρ' h3 h4

/-- One operation. -/
theorem step_sound {call : CallF} (hcall : CallOk P call) {o : Oper} {aop : AOp} {fr : List AV} {a : Act} {σ σ' : AHeap} {v : AV} {w : World}
    {next : Act → World → Prop} {Q : Exit → Act → World → Prop} (hc : compOp P o.op = some aop)
    (hf : FR ρ fr a.tmps) (hr : HR ρ σ.get w) (he : evStep call fr σ aop = some (v, σ'))
    (hn : ∀ u w' ρ', Post ρ σ w ρ' σ' w' → VR ρ' v u → next (a.put o.dst u) w') : o.wp P a w next Q :=
  step_sound' hcall hc hf hr he rfl hn

/-- Is an operation wanted? -/
theorem wanted_rel' {ops : Array Oper} {o : Oper} {ao : AOper} {fr : List AV} {a : Act} (hc : compOper P ops o = some ao) (h2 : fr.length = a.tmps.size)
    (hs : ∀ s want, ao.guard = some (s, want) → VR ρ (getSlot fr s) (a.tmps.getD s undef)) :
    Region.wanted o (yielded ops a.tmps) = wantedA fr ao.guard ∧ compOp P o.op = some ao.op ∧ ao.dst = o.dst := by
  unfold compOper at hc
  split at hc
  · rename_i op hop
    split at hc
    · rename_i hg
      cases hc
      exact ⟨by simp [Region.wanted, hg, wantedA], hop, rfl⟩
    · rename_i j want hg
      split at hc
      · rename_i g hj
        split at hc
        · rename_i d hd
          cases hc
          refine ⟨?_, hop, rfl⟩
          simp only [Region.wanted, hg, wantedA, yielded, hj, Option.bind_some, hd]
          have h1 := hs d want rfl
          by_cases hlt : d < a.tmps.size
          · have h3 : a.tmps[d]? = some (a.tmps.getD d undef) := by simp [hlt]
            rw [h3]
            generalize a.tmps.getD d undef = u at h1
            generalize getSlot fr d = x at h1
            cases h1 with
            | one h1 => cases h1 <;> simp
            | agg h1 => simp
            | tup h1 => simp
          · have h3 : a.tmps[d]? = none := Array.getElem?_eq_none (Nat.le_of_not_lt hlt)
            rw [h3]
            have h4 : getSlot fr d = undefA := by
              rw [getSlot_eq, List.getElem?_eq_none (by rw [h2]; exact Nat.le_of_not_lt hlt)]
              rfl
            rw [h4]
            simp [undefA]
        · cases hc
      · cases hc
  · cases hc

theorem wanted_rel {ops : Array Oper} {o : Oper} {ao : AOper} {fr : List AV} {a : Act} (hc : compOper P ops o = some ao) (hf : FR ρ fr a.tmps) :
    Region.wanted o (yielded ops a.tmps) = wantedA fr ao.guard ∧ compOp P o.op = some ao.op ∧ ao.dst = o.dst :=
  wanted_rel' hc hf.len (fun s _ _ => hf.at_ s)

/-- A region in the text's order: from the i-th operation on. -/
theorem ops_sound {call : CallF} (hcall : CallOk P call) {ops : Array Oper} {Q : Exit → Act → World → Prop} :
    ∀ (l : List Oper) (al : List AOper) (i : Nat) (ρ : Loc) (fr : List AV) (a : Act) (σ : AHeap) (w : World) (fr' : List AV) (σ' : AHeap),
    ops.toList.drop i = l → compOpers P ops l = some al → FR ρ fr a.tmps → HR ρ σ.get w → evOps call al fr σ = some (fr', σ') →
    (∀ a' w' ρ', a'.defers = a.defers → Post ρ σ w ρ' σ' w' → FR ρ' fr' a'.tmps → Q .normal a' w') →
    wpOps P ops Q ((List.range l.length).map (i + ·)) a w
  | [], al, i, ρ, fr, a, σ, w, fr', σ', hd, hc, hf, hr, he, hq => by
    cases hc
    cases he
    simp only [List.length_nil, List.range_zero, List.map_nil, wpOps]
    exact hq a w ρ rfl (Post.refl hr) hf
  | o :: l, al, i, ρ, fr, a, σ, w, fr', σ', hd, hc, hf, hr, he, hq => by
    simp only [compOpers] at hc
    split at hc
    · rename_i ao r h1 h2
      cases hc
      have hi : i < ops.toList.length := by
        rcases Nat.lt_or_ge i ops.toList.length with h | h
        · exact h
        · rw [List.drop_eq_nil_of_le h] at hd; cases hd
      have hoi : ops[i]? = some o := by
        rw [List.drop_eq_getElem_cons hi] at hd
        cases hd
        simp at hi
        simp [hi]
      have hd' : ops.toList.drop (i + 1) = l := by
        rw [List.drop_eq_getElem_cons hi] at hd
        cases hd
        rfl
      have hrange : (List.range (o :: l).length).map (i + ·) = i :: (List.range l.length).map (i + 1 + ·) := by
        simp only [List.length_cons, List.range_succ_eq_map, List.map_cons, List.map_map, Nat.add_zero]
        congr 1
        apply List.map_congr_left
        intro x _
        simp; omega
      rw [hrange]
      simp only [wpOps, hoi]
      obtain ⟨hw, hcop, hdst⟩ := wanted_rel h1 hf
      simp only [evOps] at he
      rw [hw]
      cases hwa : wantedA fr ao.guard with
      | true =>
        simp only [evOper, hwa] at he
        split at he
        · rename_i fr1 σ1 hs
          split at hs
          · rename_i v σ2 hst
            cases hs
            simp only [if_true]
            left
            refine step_sound hcall hcop hf hr hst (fun u w' ρ' hp hv => ?_)
            have hf' : FR ρ' (putDst fr ao.dst v) (a.put o.dst u).tmps := by
              rw [hdst]
              exact (hf.mono hp.le).put o.dst hv
            refine ops_sound hcall l r (i + 1) ρ' _ _ _ w' fr' σ' hd' h2 hf' hp.hr he (fun a' w2 ρ2 hdf hp2 hf2 => ?_)
            refine hq a' w2 ρ2 ?_ (hp.trans hp2) hf2
            rw [hdf]
            cases o.dst <;> rfl
          · cases hs
        · cases he
      | false =>
        simp only [evOper, hwa] at he
        simp only [Bool.false_eq_true, if_false]
        have hf' : FR ρ (putDst fr ao.dst undefA) (a.put o.dst undef).tmps := by
          rw [hdst]
          exact hf.put o.dst VR.undef
        refine ops_sound hcall l r (i + 1) ρ _ _ _ w fr' σ' hd' h2 hf' hr he (fun a' w2 ρ2 hdf hp2 hf2 => ?_)
        refine hq a' w2 ρ2 ?_ hp2 hf2
        rw [hdf]
        cases o.dst <;> rfl
    · cases hc

theorem region_sound {call : CallF} (hcall : CallOk P call) {ops : Array Oper} {id : Nat} {al : List AOper} {Q : Exit → Act → World → Prop} {fr fr' : List AV} {a : Act} {σ σ' : AHeap} {w : World}
    (hc : compOpers P ops ops.toList = some al) (hf : FR ρ fr a.tmps) (hr : HR ρ σ.get w) (he : evOps call al fr σ = some (fr', σ'))
    (hq : ∀ a' w' ρ', a'.defers = a.defers → Post ρ σ w ρ' σ' w' → FR ρ' fr' a'.tmps → Q .normal a' w') : (Code.region id ops false).wp P Q a w := by
  refine wp_region ?_
  have := ops_sound (Q := Q) hcall ops.toList al 0 ρ fr a σ w fr' σ' (by simp) hc hf hr he hq
  simpa using this

/-! ### results -/
theorem results_run {fn : Func} {rs : List AResult} {fr : List AV} {tmps : Array Value} {σ : AHeap} {w : World} {vs : List AV} (hc : compResults P fn.results.toList = some rs)
    (hf : FR ρ fr tmps) (hr : HR ρ σ.get w) (he : resOfs fr σ rs = some vs) : ∃ u, (results fn tmps).run P w = .ok u w ∧ VR ρ (tupOf vs) u := by
  have one : ∀ (r : ResultVar) (ar : AResult) (v : AV), compResult P r = some ar → resOf fr σ ar = some v →
      ∃ u, ((match r with | .tmp t => (pure (tmps.getD t undef) : Sem Value) | .cell a t => do loadVar t (← asAddr (tmps.getD a undef))) : Sem Value).run P w = .ok u w ∧ VR ρ v u := by
    intro r ar v h1 h2
    cases r with
    | tmp t =>
      cases h1
      cases h2
      exact ⟨_, rfl, hf.at_ t⟩
    | cell t ty =>
      simp only [compResult] at h1
      split at h1
      · rename_i g hg
        cases h1
        simp only [resOf] at h2
        split at h2
        · rename_i id off e
          have k1 := hf.at_ t
          rw [e] at k1
          generalize hu : tmps.getD t undef = u at k1
          cases k1 with
          | one k1 =>
            cases k1 with
            | ptr hB =>
              rename_i B
              obtain ⟨ob, hob, hmd, hp⟩ := loadA_obj h2
              obtain ⟨o', q1, q2, _⟩ := hr.dom id B hB
              rw [hob] at q1; cases q1
              have hh := q2.holds hmd
              cases g with
              | none =>
                simp only [partA] at hp
                split at hp
                · rename_i s hs
                  cases hp
                  obtain ⟨us, p1, p2⟩ := hh
                  obtain ⟨u, p3, p4⟩ := p1.get hs
                  have := p2 off u p3
                  exact ⟨u, by simp [hu, asAddr, loadVar, tAgg_none hg, this], .one p4⟩
                · cases hp
              | some n =>
                simp only [partA] at hp
                split at hp
                · rename_i hl
                  cases hp
                  obtain ⟨us, p1, p2, p3⟩ := hh.load (P := P) (by simpa using hl)
                  exact ⟨.agg us.toArray, by simp [hu, asAddr, loadVar, (tAgg_some hg w).1, (tAgg_some hg w).2.1, p3], .agg p1⟩
                · cases hp
        · cases h2
      · cases h1
  have all : ∀ (l : List ResultVar) (rs : List AResult) (vs : List AV), compResults P l = some rs → resOfs fr σ rs = some vs →
      ∃ us, (l.mapM (fun r => (match r with | .tmp t => (pure (tmps.getD t undef) : Sem Value) | .cell a t => do loadVar t (← asAddr (tmps.getD a undef))) : ResultVar → Sem Value)).run P w = .ok us w ∧ VRs ρ vs us := by
    intro l
    induction l with
    | nil =>
      intro rs vs h1 h2
      cases h1
      cases h2
      exact ⟨[], rfl, .nil⟩
    | cons r l ih =>
      intro rs vs h1 h2
      simp only [compResults] at h1
      split at h1
      · rename_i ar rr q1 q2
        cases h1
        simp only [resOfs] at h2
        split at h2
        · rename_i v vs' q3 q4
          cases h2
          obtain ⟨u, p1, p2⟩ := one r ar v q1 q3
          obtain ⟨us, p3, p4⟩ := ih rr vs' q2 q4
          exact ⟨u :: us, by simp only [List.mapM_cons, Sem.run_bind, p1, p3, Result.andThen_ok, Sem.run_pure], .cons p2 p4⟩
        · cases h2
      · cases h1
  obtain ⟨us, h1, h2⟩ := all fn.results.toList rs vs hc he
  have h3 : (results fn tmps).run P w = .ok (if h : us.toArray.size = 1 then us.toArray[0] else .tuple us.toArray) w := by
    unfold results
    rw [Array.mapM_eq_mapM_toList]
    simp only [Sem.run_bind, Sem.run_map, Sem.run_pure]
    erw [h1]
    rfl
  refine ⟨_, h3, ?_⟩
  have hlen := h2.length
  cases h2 with
  | nil => exact VR.undef
  | cons p q =>
    cases q with
    | nil => simpa [tupOf] using p
    | cons p2 q2 =>
      have := VR.tup (ρ := ρ) (.cons p (.cons p2 q2))
      simpa [tupOf] using this

end
end Go.Proofs.Ythjijjkoeoemgaa.Ab
