/- Several of my texts in one: AbCtx, AbPrim, AbSim, AbSim2, AbSim3, AbIn, AbLaw, AbClosed, AbSl, AbLim, AbInV. -/
import Derived.Test.YtkolhfpofmpijaaDoorAbB
import Derived.Test.YtkolhfpofmpijaaDoorRows
import Derived.WalkKit
import Derived.JoinedCond
/- The program's own functions as the abstract machine's, looked up by number. -/
namespace Go.Proofs.YtkolhfpofmpijaaDoor.Ab
open Go
set_option maxRecDepth 100000

instance : IsProg Tryd.prog := ⟨rfl⟩

/-- A function's code, made of the loaded program's. -/
noncomputable def codeOf (f : Nat) : Option AFunc := match Tryd.prog.funcs[f]? with
  | some fn => compFunc Tryd.prog fn
  | none => none

/-- Nothing laid. -/
noncomputable def plainC : Ctx := ⟨codeOf, fun _ => none, fun _ => .no⟩

theorem codeOf_good {f : Nat} {F : AFunc} (h : codeOf f = some F) : ∃ fn, Tryd.prog.funcs[f]? = some fn ∧ compFunc Tryd.prog fn = some F := by
  unfold codeOf at h
  split at h
  · rename_i fn hfn
    exact ⟨fn, hfn, h⟩
  · cases h

theorem plainC_good : plainC.Good Tryd.prog := ⟨fun _ _ h => codeOf_good h, fun _ _ h => by cases h⟩

/-- The answer is true. -/
def saysTrue : Option (AV × AHeap) → Bool
  | some (.one (.bool true), _) => true
  | _ => false

theorem saysTrue_spec {r : Option (AV × AHeap)} (h : saysTrue r = true) : ∃ σ, r = some (.one (.bool true), σ) := by
  unfold saysTrue at h
  split at h
  · exact ⟨_, rfl⟩
  · cases h

theorem laidOut : laidOutB Tryd.prog = true := by kernel_rfl
theorem ownKn : ownKnob Tryd.prog.godebug = none := by kernel_rfl

end Go.Proofs.YtkolhfpofmpijaaDoor.Ab

/- A function whose run is known may be laid as one step: its answer up to the numbers of new objects, what is left over dropped. -/
namespace Go.Proofs.YtkolhfpofmpijaaDoor.Ab
open Go
set_option linter.unusedSimpArgs false
set_option linter.unusedVariables false

/-! ### other numbers for objects -/
mutual
def SV.ren (π : Nat → Nat) : SV → SV
  | .ptr id off => .ptr (π id) off
  | .slice id off e l c => .slice (π id) off e l c
  | .func f caps => .func f (renL π caps)
  | .iface t a cs => .iface t a (renL π cs)
  | .bool b => .bool b
  | .int k n => .int k n
  | .str s => .str s
  | .nilPtr => .nilPtr
  | .nilSlice => .nilSlice
  | .nilFunc => .nilFunc
  | .nilIface => .nilIface
  | .lst es => .lst (renE π es)
  | .lstx es => .lstx (renE π es)
  | .hnd t => .hnd t
  | .fptr e o => .fptr (renL π e) o
  | .emp => .emp
  | .map id => .map (π id)
  | .nilMap => .nilMap
  | .meth f r => .meth f (r.ren π)
def renE (π : Nat → Nat) : List (List SV) → List (List SV)
  | [] => []
  | e :: l => renL π e :: renE π l
def renL (π : Nat → Nat) : List SV → List SV
  | [] => []
  | s :: l => s.ren π :: renL π l
end

mutual
def AV.ren (π : Nat → Nat) : AV → AV
  | .one s => .one (s.ren π)
  | .agg cs => .agg (renL π cs)
  | .tup l => .tup (renVs π l)
def renVs (π : Nat → Nat) : List AV → List AV
  | [] => []
  | s :: l => s.ren π :: renVs π l
end


/-- Where the objects of the one heap lie, out of where those of the other do. -/
def Loc.back (ρ : Loc) (π : Nat → Nat) (n : Nat) : Loc := ⟨fun id => if id < n then ρ (π id) else none, ρ.fz⟩

theorem Loc.back_at (ρ : Loc) (π : Nat → Nat) (n id : Nat) : (ρ.back π n) id = if id < n then ρ (π id) else none := rfl

theorem renL_length (π : Nat → Nat) : ∀ l : List SV, (renL π l).length = l.length
  | [] => rfl
  | s :: l => by simp [renL, renL_length π l]

theorem renE_map (π : Nat → Nat) : ∀ l : List (List SV), renE π l = l.map (renL π)
  | [] => rfl
  | s :: l => by simp [renE, renE_map π l]

theorem renE_length (π : Nat → Nat) (l : List (List SV)) : (renE π l).length = l.length := by rw [renE_map]; simp

mutual
theorem SR.back {ρ : Loc} {π : Nat → Nat} {n : Nat} : ∀ {s : SV} {v : Value}, s.lo n = true → SR ρ (s.ren π) v → SR (ρ.back π n) s v
  | .bool b, _, _, h => by cases h; exact .bool b
  | .int k i, _, _, h => by cases h; exact .int k i
  | .str s, _, _, h => by cases h; exact .str s
  | .ptr id off, _, hb, h => by
    simp only [SV.ren] at h
    cases h with
    | ptr h => exact .ptr (by rw [Loc.back_at, if_pos (by simpa [SV.lo, Nat.blt_eq] using hb)]; exact h)
  | .nilPtr, _, _, h => by cases h; exact .nilPtr
  | .slice id off e l c, _, hb, h => by
    simp only [SV.ren] at h
    have hid : id < n := by simpa [SV.lo, Nat.blt_eq] using hb
    cases h with
    | slice h h1 h2 h3 h4 h5 => exact .slice (by rw [Loc.back_at, if_pos hid]; exact h) h1 h2 h3 h4 h5
    | slice0 h h2 h4 h5 => exact .slice0 (by rw [Loc.back_at, if_pos hid]; exact h) h2 h4 h5
  | .nilSlice, _, _, h => by cases h; exact .nilSlice
  | .func f caps, _, hb, h => by
    simp only [SV.ren] at h
    simp only [SV.lo, Bool.and_eq_true] at hb
    generalize hg : renL π caps = cs at h
    cases h with
    | func hN h => subst hg; exact .func hN (SRs.back hb.2 h)
    | yld hf _ => have := blt_lt hb.1; omega
  | .nilFunc, _, _, h => by cases h; exact .nilFunc
  | .iface t true cs, _, hb, h => by
    simp only [SV.ren] at h
    cases h with
    | ifaceA h => exact .ifaceA (SRs.back (by simpa [SV.lo] using hb) h)
  | .iface t false [], _, hb, h => by
    simp only [SV.ren, renL] at h
    cases h
  | .iface t false [s], _, hb, h => by
    simp only [SV.ren, renL] at h
    cases h with
    | iface1 h => exact .iface1 (SR.back (by simpa [SV.lo, loL] using hb) h)
  | .iface t false (s :: s2 :: l), _, hb, h => by
    simp only [SV.ren, renL] at h
    cases h
  | .nilIface, _, _, h => by cases h; exact .nilIface
  | .lst es, v, hb, h => by
    simp only [SV.ren] at h
    have hlen := renE_length π es
    generalize hg : renE π es = fs at h
    cases h with
    | lst k h0 hE hc hf =>
      rename_i vss E b o c
      subst hg
      have := SR.lst (ρ := ρ.back π n) (b := b) (o := o) (c := c) (SRss.back (by simpa [SV.lo] using hb) k) h0 (fun e he => by
        have := hE (renL π e) (by rw [renE_map]; exact List.mem_map.2 ⟨e, he, rfl⟩)
        rwa [renL_length] at this) (by rw [← hlen]; exact hc) hf
      rwa [← hlen] at this
    | lst0 =>
      have : es = [] := List.eq_nil_of_length_eq_zero (by rw [← hlen, hg]; rfl)
      subst this
      exact .lst0
    | lstNil =>
      have : es = [] := List.eq_nil_of_length_eq_zero (by rw [← hlen, hg]; rfl)
      subst this
      exact .lstNil
  | .lstx es, v, hb, h => by
    simp only [SV.ren] at h
    have hlen := renE_length π es
    generalize hg : renE π es = fs at h
    cases h with
    | lstx k h0 hE hf =>
      rename_i vss E b o
      subst hg
      have := SR.lstx (ρ := ρ.back π n) (b := b) (o := o) (SRss.back (by simpa [SV.lo] using hb) k) h0 (fun e he => by
        have := hE (renL π e) (by rw [renE_map]; exact List.mem_map.2 ⟨e, he, rfl⟩)
        rwa [renL_length] at this) hf
      rwa [← hlen] at this
  | .hnd t, _, hb, h => by
    simp only [SV.ren] at h
    cases h with
    | hnd => exact .hnd
  | .fptr e o, _, hb, h => by
    simp only [SV.ren] at h
    cases h with
    | fptr k hf => exact .fptr (SRs.back (by simpa [SV.lo] using hb) k) hf
  | .emp, _, _, h => by
    cases h with
    | emp0 => exact .emp0
    | empNil => exact .empNil
  | .map id, _, hb, h => by
    simp only [SV.ren] at h
    cases h with
    | map h => exact .map (by rw [Loc.back_at, if_pos (by simpa [SV.lo, Nat.blt_eq] using hb)]; exact h)
  | .nilMap, _, _, h => by cases h; exact .nilMap
  | .meth f r, _, hb, h => by
    simp only [SV.ren] at h
    cases h with
    | meth hN h hm => exact .meth hN (SR.back (by simpa [SV.lo] using hb) h) hm
theorem SRss.back {ρ : Loc} {π : Nat → Nat} {n : Nat} : ∀ {l : List (List SV)} {vs : List (List Value)}, loE n l = true → SRss ρ (renE π l) vs → SRss (ρ.back π n) l vs
  | [], _, _, h => by cases h; exact .nil
  | s :: l, _, hb, h => by
    simp only [renE] at h
    simp only [loE, Bool.and_eq_true] at hb
    cases h with
    | cons h t => exact .cons (SRs.back hb.1 h) (SRss.back hb.2 t)
theorem SRs.back {ρ : Loc} {π : Nat → Nat} {n : Nat} : ∀ {l : List SV} {vs : List Value}, loL n l = true → SRs ρ (renL π l) vs → SRs (ρ.back π n) l vs
  | [], _, _, h => by cases h; exact .nil
  | s :: l, _, hb, h => by
    simp only [renL] at h
    simp only [loL, Bool.and_eq_true] at hb
    cases h with
    | cons h t => exact .cons (SR.back hb.1 h) (SRs.back hb.2 t)
end
mutual
theorem VR.back {ρ : Loc} {π : Nat → Nat} {n : Nat} : ∀ {s : AV} {v : Value}, s.lo n = true → VR ρ (s.ren π) v → VR (ρ.back π n) s v
  | .one s, _, hb, h => by
    simp only [AV.ren] at h
    cases h with
    | one h => exact .one (SR.back (by simpa [AV.lo] using hb) h)
  | .agg cs, _, hb, h => by
    simp only [AV.ren] at h
    cases h with
    | agg h => exact .agg (SRs.back (by simpa [AV.lo] using hb) h)
  | .tup l, _, hb, h => by
    simp only [AV.ren] at h
    cases h with
    | tup h => exact .tup (VRs.back (by simpa [AV.lo] using hb) h)
theorem VRs.back {ρ : Loc} {π : Nat → Nat} {n : Nat} : ∀ {l : List AV} {vs : List Value}, loVs n l = true → VRs ρ (renVs π l) vs → VRs (ρ.back π n) l vs
  | [], _, _, h => by cases h; exact .nil
  | s :: l, _, hb, h => by
    simp only [renVs] at h
    simp only [loVs, Bool.and_eq_true] at hb
    cases h with
    | cons h t => exact .cons (VR.back hb.1 h) (VRs.back hb.2 t)
end

/-- The answer (v, σ') is the run's (v1, σ1) from σ on, but for the numbers of new objects, and for objects left over. -/
structure Iso (σ σ' σ1 : AHeap) (v v1 : AV) (π : Nat → Nat) : Prop where
  size : σ.size ≤ σ'.size
  old : ∀ id, id < σ.size → π id = id
  new : ∀ id, σ.size ≤ id → id < σ'.size → σ.size ≤ π id ∧ π id < σ1.size
  inj : ∀ i j, σ.size ≤ i → i < σ'.size → σ.size ≤ j → j < σ'.size → π i = π j → i = j
  val : v1 = v.ren π
  vbelow : v.lo σ'.size = true
  kept : ∀ id, id < σ.size → (σ'.get id = σ.get id ∧ σ1.get id = σ.get id) ∨
    (∃ o, σ'.get id = some o ∧ σ1.get id = some ⟨renL π o.cells, o.md⟩ ∧ loL σ'.size o.cells = true ∧ σ1.get id ≠ σ.get id ∧ ∀ mc es, o.md ≠ .map mc es)
  made : ∀ id, σ.size ≤ id → id < σ'.size → ∃ o, σ'.get id = some o ∧ σ1.get (π id) = some ⟨renL π o.cells, o.md⟩ ∧ loL σ'.size o.cells = true ∧ ∀ mc es, o.md ≠ .map mc es

theorem CallPost.iso {ρ : Loc} {σ σ' σ1 : AHeap} {w : World} {v v1 : AV} {π : Nat → Nat} (hi : Iso σ σ' σ1 v v1 π) (hr : HR ρ σ.get w) {e : Ending} {w' : World} (h : CallPost ρ σ w σ1 v1 e w') :
    CallPost ρ σ w σ' v e w' := by
  obtain ⟨u, ρ1, rfl, hp, hv⟩ := h
  have hback : ∀ id B, (ρ1.back π σ'.size) id = some B → id < σ'.size ∧ ρ1 (π id) = some B := by
    intro id B hB
    rw [Loc.back_at] at hB
    split at hB
    · exact ⟨by assumption, hB⟩
    · cases hB
  have hold : ∀ id, id < σ.size → (ρ1.back π σ'.size) id = ρ id := by
    intro id hid
    rw [Loc.back_at, if_pos (Nat.lt_of_lt_of_le hid hi.size), hi.old id hid, hp.old id hid]
  -- an object of the answer, and the run's
  have obj : ∀ id B, (ρ1.back π σ'.size) id = some B → ∃ o o1, σ'.get id = some o ∧ σ1.get (π id) = some o1 ∧ o1.md = o.md ∧ o1.cells.length = o.cells.length ∧
      (o.md ≠ .dead → ∀ w2 : World, Holds ρ1 w2 B o1.cells → Holds (ρ1.back π σ'.size) w2 B o.cells) ∧ (∀ mc es, o.md = .map mc es → ∀ w2 : World, MapHolds ρ1 w2 B mc es → MapHolds (ρ1.back π σ'.size) w2 B mc es) := by
    intro id B hB
    obtain ⟨hid, hB1⟩ := hback id B hB
    by_cases hlt : id < σ.size
    · rcases hi.kept id hlt with ⟨k1, k2⟩ | ⟨o, k1, k2, k3, _, k5⟩
      · have hρ : ρ id = some B := by rw [← hold id hlt]; exact hB
        obtain ⟨o, q1, q2, _⟩ := hr.dom id B hρ
        have ha : Loc.Agrees ρ1 ρ (ρ1.back π σ'.size) := ⟨fun i B' hB' => by rw [hold i (hr.lt hB'), ← hp.old i (hr.lt hB')], fun _ _ _ h => h⟩
        refine ⟨o, o, by rw [k1]; exact q1, by rw [hi.old id hlt, k2]; exact q1, rfl, rfl, ?_, ?_⟩
        -- what it holds names old objects alone
        · rintro hd w2 ⟨vs, h1, h2⟩
          obtain ⟨us, g1, _⟩ := q2.holds hd
          exact ⟨vs, h1.move ha g1, h2⟩
        · rintro mc es he w2 ⟨en, h1, h2⟩
          obtain ⟨en', _, g1⟩ := q2.mp mc es he
          exact ⟨en, h1, h2.move ha g1⟩
      · exact ⟨o, ⟨renL π o.cells, o.md⟩, k1, by rw [hi.old id hlt]; exact k2, rfl, renL_length π _, fun _ w2 ⟨vs, h1, h2⟩ => ⟨vs, SRs.back k3 h1, h2⟩, fun mc es he => absurd he (k5 mc es)⟩
    · obtain ⟨o, k1, k2, k3, k5⟩ := hi.made id (by omega) hid
      exact ⟨o, ⟨renL π o.cells, o.md⟩, k1, k2, rfl, renL_length π _, fun _ w2 ⟨vs, h1, h2⟩ => ⟨vs, SRs.back k3 h1, h2⟩, fun mc es he => absurd he (k5 mc es)⟩
  have inj : ∀ i j, i < σ'.size → j < σ'.size → π i = π j → i = j := by
    intro i j h1 h2 h3
    by_cases a : i < σ.size
    · by_cases b : j < σ.size
      · rw [hi.old i a, hi.old j b] at h3; exact h3
      · have := (hi.new j (by omega) h2).1
        rw [hi.old i a] at h3
        omega
    · by_cases b : j < σ.size
      · have := (hi.new i (by omega) h1).1
        rw [hi.old j b] at h3
        omega
      · exact hi.inj i j (by omega) h1 (by omega) h2 h3
  refine ⟨u, ρ1.back π σ'.size, rfl, ?_, VR.back hi.vbelow (by rw [← hi.val]; exact hv)⟩
  exact {
    le := ⟨fun id B hB => by rw [hold id (hr.lt hB)]; exact hB, hp.le.fz⟩
    size := hi.size
    new := fun id h1 h2 => by
      obtain ⟨k1, k2⟩ := hi.new id h1 h2
      obtain ⟨B, hB⟩ := hp.new (π id) k1 k2
      exact ⟨B, by rw [Loc.back_at, if_pos h2]; exact hB⟩
    old := hold
    dom := fun id B hB => (hback id B hB).1
    same := fun id h1 h2 => by
      rcases hi.kept id h1 with ⟨k1, _⟩ | ⟨o, _, _, _, k4⟩
      · exact k1
      · exact absurd (hp.same id h1 h2) k4.1
    md := fun id B o' h1 h2 h3 => by
      have hid := hr.lt h1
      rcases hi.kept id hid with ⟨k1, k2⟩ | ⟨o, k1, k2, _, _⟩
      · rw [k1] at h2; exact ⟨o', h2, h3⟩
      · rw [h2] at k1; cases k1
        exact hp.md id B _ h1 k2 h3
    md' := fun id B o h1 h2 h3 => by
      have hid := hr.lt h1
      obtain ⟨o1, q1, q2⟩ := hp.md' id B o h1 h2 h3
      rcases hi.kept id hid with ⟨k1, k2⟩ | ⟨o', k1, k2, _, _⟩
      · exact ⟨o, by rw [k1]; exact h2, h3⟩
      · rw [q1] at k2; cases k2
        exact ⟨o', k1, q2⟩
    hr := {
      dom := fun id B hB => by
        obtain ⟨o, o1, k1, k2, k3, k4, k5, k6⟩ := obj id B hB
        obtain ⟨o2, q1, q2, q3⟩ := hp.hr.dom (π id) B (hback id B hB).2
        rw [k2] at q1; cases q1
        exact ⟨o, k1, ⟨by rw [← k4]; exact q2.len, q2.fit, fun hd => k5 hd _ (q2.holds (by rw [k3]; exact hd)), fun ho => q2.own (by rw [k3]; exact ho), fun mc es he => k6 mc es he _ (q2.mp mc es (by rw [k3]; exact he)), fun t f ht => q2.tg t f (by rw [k3]; exact ht), fun hl => by
          obtain ⟨r, e1, _⟩ := q2.lp (by rw [k3]; exact hl)
          exact ⟨r, e1, fun _ _ _ _ hp => by cases hp⟩⟩, q3⟩
      excl := fun i j B B' o o' h1 h2 h3 h4 hne h5 h6 => by
        obtain ⟨a1, a2, k1, k2, k3, _, _⟩ := obj i B h1
        obtain ⟨b1, b2, q1, q2, q3, _, _⟩ := obj j B' h2
        rw [h3] at k1; cases k1
        rw [h4] at q1; cases q1
        refine hp.hr.excl (π i) (π j) B B' a2 b2 (hback i B h1).2 (hback j B' h2).2 k2 q2 (fun e => hne (inj i j (hback i B h1).1 (hback j B' h2).1 e)) (by rw [k3]; exact h5) (by rw [q3]; exact h6)
      frz := fun b o v hv => by
        obtain ⟨h1, h2⟩ := hp.hr.frz b o v hv
        refine ⟨h1, ?_⟩
        rintro ⟨id, B, o', k1, k2, k3, k4⟩
        obtain ⟨a1, a2, q1, q2, q3, _⟩ := obj id B k1
        rw [k2] at q1; cases q1
        exact h2 ⟨π id, B, a2, (hback id B k1).2, q2, by rw [q3]; exact k3, k4⟩
      gl := hp.hr.gl
      rows := hp.hr.rows }
    hsize := hp.hsize
    frame := hp.frame
    fresh := fun id B h1 h2 => by
      obtain ⟨hid, hB⟩ := hback id B h2
      exact hp.fresh (π id) B (hi.new id h1 hid).1 hB
    fz := hp.fz
    os := hp.os
    tape := hp.tape
    output := hp.output }

/-! ### a function laid as one step -/
def PrimOk (P : Program) (f : Nat) (p : Prim) : Prop := ∀ args σ v σ', p args σ = some (v, σ') → Callable P f ∧
    ∀ ρ w vs, VRs ρ args vs → HR ρ σ.get w → Calls P f vs.toArray w (CallPost ρ σ w σ' v)

theorem primOk_of_run {P : Program} [IsProg P] {C : Ctx} (hC : C.Good P) {f : Nat} {p : Prim}
    (h : ∀ args σ v σ', p args σ = some (v, σ') → ∃ n v1 σ1 π, evCall C n f args σ = some (v1, σ1) ∧ Iso σ σ' σ1 v v1 π) : PrimOk P f p := by
  intro args σ v σ' hp
  obtain ⟨n, v1, σ1, π, he, hi⟩ := h args σ v σ' hp
  obtain ⟨h1, h2⟩ := sound hC n f args σ v1 σ1 he
  exact ⟨h1, fun ρ w vs hv hr => (h2 ρ w vs hv hr).mono (fun e w' he => CallPost.iso hi hr he)⟩

/-- A context with one function more laid. -/
def Ctx.lay (C : Ctx) (f : Nat) (p : Prim) : Ctx := ⟨C.code, fun g => if g = f then some p else C.prim g, C.hint⟩

theorem Ctx.lay_good {P : Program} {C : Ctx} (hC : C.Good P) {f : Nat} {p : Prim} (hp : PrimOk P f p) : (C.lay f p).Good P where
  code := hC.code
  prim := fun g q hq => by
    unfold Ctx.lay at hq
    simp only at hq
    split at hq
    · rename_i e
      subst e
      cases hq
      exact hp
    · exact hC.prim g q hq

/-- The usual answers: nothing new, nothing written. -/
theorem Iso.drop {σ σ1 : AHeap} {v : AV} (hsz : σ.size ≤ σ1.size) (hk : ∀ id, id < σ.size → σ1.get id = σ.get id) (hv : v.ren id = v) (hb : v.lo σ.size = true) : Iso σ σ σ1 v v id where
  size := Nat.le_refl _
  old := fun _ _ => rfl
  new := fun id h1 h2 => by omega
  inj := fun i j h1 h2 => by omega
  val := hv.symm
  vbelow := hb
  kept := fun id h => .inl ⟨rfl, hk id h⟩
  made := fun id h1 h2 => by omega

mutual
theorem SV.ren_id : ∀ s : SV, s.ren id = s
  | .ptr _ _ => rfl
  | .slice .. => rfl
  | .func f caps => by simp only [SV.ren, renL_id caps]
  | .iface t a cs => by simp only [SV.ren, renL_id cs]
  | .lst es => by simp only [SV.ren, renE_id es]
  | .lstx es => by simp only [SV.ren, renE_id es]
  | .fptr e o => by simp only [SV.ren, renL_id e]
  | .map _ => rfl
  | .meth f r => by simp only [SV.ren, SV.ren_id r]
  | .bool _ | .int _ _ | .str _ | .nilPtr | .nilSlice | .nilFunc | .nilIface | .emp | .nilMap | .hnd _ => rfl
theorem renE_id : ∀ l : List (List SV), renE id l = l
  | [] => rfl
  | s :: l => by simp only [renE, renL_id s, renE_id l]
theorem renL_id : ∀ l : List SV, renL id l = l
  | [] => rfl
  | s :: l => by simp only [renL, SV.ren_id s, renL_id l]
end
mutual
theorem AV.ren_id : ∀ s : AV, s.ren id = s
  | .one s => by simp only [AV.ren, SV.ren_id s]
  | .agg cs => by simp only [AV.ren, renL_id cs]
  | .tup l => by simp only [AV.ren, renVs_id l]
theorem renVs_id : ∀ l : List AV, renVs id l = l
  | [] => rfl
  | s :: l => by simp only [renVs, AV.ren_id s, renVs_id l]
end

/-- Nothing new, nothing written: the run's own answer. -/
theorem Iso.pure {σ σ1 : AHeap} {v : AV} (hsz : σ.size ≤ σ1.size) (hk : ∀ id, id < σ.size → σ1.get id = σ.get id) (hb : v.lo σ.size = true) : Iso σ σ σ1 v v id :=
  Iso.drop hsz hk (AV.ren_id v) hb

end Go.Proofs.YtkolhfpofmpijaaDoor.Ab

/- Reasoning about a run of the abstract machine: what must hold ahead of code so that it ends, and so. -/
namespace Go.Proofs.YtkolhfpofmpijaaDoor.Ab
open Go
set_option linter.unusedSimpArgs false
set_option linter.unusedVariables false

/-- A mark: only what bears 'go' is run by the rewriting; what waits for its turn bears a variable. -/
inductive Tok where
  | go | idle

abbrev KN := Tok → List AV → AHeap → Prop
abbrev KE := Nat → Tok → List AV → AHeap → Prop

/-- Code ends: on its way (N), by an exit (E), by a return (R). -/
def Ends (o : Out) (N : KN) (E : KE) (R : KN) : Prop :=
  ∃ x fr σ, o = some (x, fr, σ) ∧ match x with
    | .normal => N .go fr σ
    | .exit i => E i .go fr σ
    | .ret => R .go fr σ

/-- The same of code that is about to run (its parts are looked at one by one, as they come). -/
def EndsC (_ : Tok) (call : CallF) (m : Nat) (c : ACode) (fr : List AV) (σ : AHeap) (N : KN) (E : KE) (R : KN) : Prop :=
  Ends (evCode call m c fr σ) N E R

def guardP (b : Bool) (A B : Tok → Prop) : Prop := (b = true → A .go) ∧ (b = false → B .go)

def OptP (o : Option (AV × AHeap)) (K : Tok → AV → AHeap → Prop) : Prop := ∃ v σ, o = some (v, σ) ∧ K .go v σ

def POps (_ : Tok) (call : CallF) (l : List AOper) (fr : List AV) (σ : AHeap) (N : KN) : Prop :=
  ∃ fr' σ', evOps call l fr σ = some (fr', σ') ∧ N .go fr' σ'

def PStep (_ : Tok) (call : CallF) (op : AOp) (fr : List AV) (σ : AHeap) (K : Tok → AV → AHeap → Prop) : Prop := OptP (evStep call fr σ op) K

theorem pstep_go {call : CallF} {op : AOp} {fr : List AV} {σ : AHeap} {K : Tok → AV → AHeap → Prop} : PStep .go call op fr σ K = OptP (evStep call fr σ op) K := rfl

def condP (v : AV) (A B : Tok → Prop) : Prop := match v with
  | .one (.bool b) => (b = true → A .go) ∧ (b = false → B .go)
  | _ => False

theorem optP_some (v : AV) (σ : AHeap) (K : Tok → AV → AHeap → Prop) : OptP (some (v, σ)) K = K .go v σ := by
  apply propext
  exact ⟨fun ⟨_, _, h, k⟩ => by cases h; exact k, fun k => ⟨v, σ, rfl, k⟩⟩

theorem OptP.mono {o : Option (AV × AHeap)} {K K' : Tok → AV → AHeap → Prop} (h : OptP o K) (hk : ∀ v σ, K .go v σ → K' .go v σ) : OptP o K' := by
  obtain ⟨v, σ, e, k⟩ := h
  exact ⟨v, σ, e, hk v σ k⟩

theorem condP_true (A B : Tok → Prop) : condP (.one (.bool true)) A B = A .go := by simp [condP]
theorem condP_false (A B : Tok → Prop) : condP (.one (.bool false)) A B = B .go := by simp [condP]
theorem guardP_true (A B : Tok → Prop) : guardP true A B = A .go := by simp [guardP]
theorem guardP_false (A B : Tok → Prop) : guardP false A B = B .go := by simp [guardP]
theorem condP_intro {b : Bool} {A B : Tok → Prop} (h1 : b = true → A .go) (h2 : b = false → B .go) : condP (.one (.bool b)) A B := ⟨h1, h2⟩
theorem guardP_intro {b : Bool} {A B : Tok → Prop} (h1 : b = true → A .go) (h2 : b = false → B .go) : guardP b A B := ⟨h1, h2⟩

section
variable {call : CallF} {m : Nat} {N : KN} {E : KE} {R : KN} {fr : List AV} {σ : AHeap}

theorem ends_skip : EndsC .go call m .skip fr σ N E R = N .go fr σ  := by
  unfold EndsC
  apply propext; constructor
  · rintro ⟨x, a, b, h, k⟩
    simp only [evCode, Option.some.injEq, Prod.mk.injEq] at h
    obtain ⟨rfl, rfl, rfl⟩ := h
    exact k
  · intro k; exact ⟨.normal, fr, σ, by simp only [evCode], k⟩

theorem ends_ret : EndsC .go call m .ret fr σ N E R = R .go fr σ  := by
  unfold EndsC
  apply propext; constructor
  · rintro ⟨x, a, b, h, k⟩
    simp only [evCode, Option.some.injEq, Prod.mk.injEq] at h
    obtain ⟨rfl, rfl, rfl⟩ := h
    exact k
  · intro k; exact ⟨.ret, fr, σ, by simp only [evCode], k⟩

theorem ends_exit {i : Nat} : EndsC .go call m (.exit i) fr σ N E R = E i .go fr σ  := by
  unfold EndsC
  apply propext; constructor
  · rintro ⟨x, a, b, h, k⟩
    simp only [evCode, Option.some.injEq, Prod.mk.injEq] at h
    obtain ⟨rfl, rfl, rfl⟩ := h
    exact k
  · intro k; exact ⟨.exit i, fr, σ, by simp only [evCode], k⟩

theorem ends_seq {a b : ACode} : EndsC .go call m (.seq a b) fr σ N E R = EndsC .go call m a fr σ (fun t fr σ => EndsC t call m b fr σ N E R) E R  := by
  unfold EndsC
  apply propext; constructor
  · rintro ⟨x, u, v, h, k⟩
    simp only [evCode] at h
    split at h
    · rename_i fr' σ' ha
      exact ⟨.normal, _, _, ha, x, u, v, h, k⟩
    · rename_i r hr
      refine ⟨x, u, v, h, ?_⟩
      cases x with
      | normal => exact absurd h (hr _ _)
      | exit i => exact k
      | ret => exact k
  · rintro ⟨x, u, v, h, k⟩
    cases x with
    | normal =>
      obtain ⟨y, u', v', h', k'⟩ := k
      exact ⟨y, u', v', by simp only [evCode, h]; exact h', k'⟩
    | exit i => exact ⟨.exit i, u, v, by simp only [evCode, h], k⟩
    | ret => exact ⟨.ret, u, v, by simp only [evCode, h], k⟩

theorem ends_cond {c : AOpd} {a b : ACode} : EndsC .go call m (.cond c a b) fr σ N E R = condP (ev fr c) (fun t => EndsC t call m a fr σ N E R) (fun t => EndsC t call m b fr σ N E R)  := by
  unfold EndsC
  apply propext
  simp only [evCode]
  constructor
  · intro h
    split at h
    · rename_i e; rw [e, condP_true]; exact h
    · rename_i e; rw [e, condP_false]; exact h
    · obtain ⟨_, _, _, h, _⟩ := h; cases h
  · intro h
    unfold condP at h
    split at h
    · rename_i b' e
      cases b' with
      | true => rw [e]; exact h.1 rfl
      | false => rw [e]; exact h.2 rfl
    · exact h.elim

theorem ends_block {i : Nat} {a : ACode} : EndsC .go call m (.block i a) fr σ N E R = EndsC .go call m a fr σ N (fun j t fr σ => if j = i then N t fr σ else E j t fr σ) R  := by
  unfold EndsC
  apply propext
  simp only [evCode]
  constructor
  · rintro ⟨x, u, v, h, k⟩
    split at h
    · rename_i j fr' σ' ha
      by_cases e : j = i
      · subst e
        simp only [Nat.beq_refl, Option.some.injEq, Prod.mk.injEq] at h
        obtain ⟨rfl, rfl, rfl⟩ := h
        exact ⟨.exit j, _, _, ha, by simpa using k⟩
      · have : Nat.beq j i = false := by
          cases hb : Nat.beq j i with
          | false => rfl
          | true => exact absurd (Nat.eq_of_beq_eq_true hb) e
        simp only [this, Option.some.injEq, Prod.mk.injEq] at h
        obtain ⟨rfl, rfl, rfl⟩ := h
        exact ⟨.exit j, _, _, ha, by simp only [if_neg e]; exact k⟩
    · rename_i r hr
      refine ⟨x, u, v, h, ?_⟩
      cases x with
      | normal => exact k
      | exit j => exact absurd h (hr _ _ _)
      | ret => exact k
  · rintro ⟨x, u, v, h, k⟩
    cases x with
    | normal => exact ⟨.normal, u, v, by rw [h], k⟩
    | ret => exact ⟨.ret, u, v, by rw [h], k⟩
    | exit j =>
      by_cases e : j = i
      · subst e
        exact ⟨.normal, u, v, by rw [h]; simp, by simpa using k⟩
      · have : Nat.beq j i = false := by
          cases hb : Nat.beq j i with
          | false => rfl
          | true => exact absurd (Nat.eq_of_beq_eq_true hb) e
        simp only [if_neg e] at k
        exact ⟨.exit j, u, v, by rw [h]; simp only [this], k⟩

theorem ends_region {l : List AOper} : EndsC .go call m (.region l) fr σ N E R = POps .go call l fr σ N  := by
  unfold EndsC
  apply propext
  simp only [evCode]
  constructor
  · rintro ⟨x, u, v, h, k⟩
    split at h
    · rename_i fr' σ' ho
      simp only [Option.some.injEq, Prod.mk.injEq] at h
      obtain ⟨rfl, rfl, rfl⟩ := h
      exact ⟨_, _, ho, k⟩
    · cases h
  · rintro ⟨u, v, h, k⟩
    exact ⟨.normal, u, v, by rw [h], k⟩

theorem Ends.mono {o : Out} {N' : KN} {E' : KE} {R' : KN} (h : Ends o N E R)
    (hn : ∀ t fr σ, N t fr σ → N' t fr σ) (he : ∀ i t fr σ, E i t fr σ → E' i t fr σ) (hr : ∀ t fr σ, R t fr σ → R' t fr σ) : Ends o N' E' R' := by
  obtain ⟨x, u, v, h, k⟩ := h
  refine ⟨x, u, v, h, ?_⟩
  cases x with
  | normal => exact hn _ _ _ k
  | exit i => exact he _ _ _ _ k
  | ret => exact hr _ _ _ k

/-- A loop by what holds ahead of each round, with a number that goes down. -/
theorem ends_loop {a : ACode} {I : Nat → List AV → AHeap → Prop}
    (step : ∀ k fr σ, I k fr σ → EndsC .go call m a fr σ (fun _ fr σ => ∃ j, j < k ∧ I j fr σ) E R) {k : Nat} (h0 : I k fr σ) (hk : k < m) :
    EndsC .go call m (.loop a) fr σ N E R := by
  unfold EndsC at *
  have go : ∀ (f k : Nat) (fr : List AV) (σ : AHeap), k < f → I k fr σ → Ends (evLoop (evCode call m a) f fr σ) N E R := by
    intro f
    induction f with
    | zero => intro k fr σ h; omega
    | succ f ih =>
      intro k fr σ hkf hi
      obtain ⟨x, u, v, h, q⟩ := step k fr σ hi
      cases x with
      | normal =>
        obtain ⟨j, hj, hi'⟩ := q
        obtain ⟨y, u', v', h', q'⟩ := ih j u v (by omega) hi'
        exact ⟨y, u', v', by simp only [evLoop, h]; exact h', q'⟩
      | exit i => exact ⟨.exit i, u, v, by simp only [evLoop, h], q⟩
      | ret => exact ⟨.ret, u, v, by simp only [evLoop, h], q⟩
  obtain ⟨y, u', v', h', q'⟩ := go m k fr σ hk h0
  exact ⟨y, u', v', by simp only [evCode]; exact h', q'⟩

theorem pops_nil : POps .go call [] fr σ N = N .go fr σ := by
  apply propext; constructor
  · rintro ⟨u, v, h, k⟩
    simp only [evOps, Option.some.injEq, Prod.mk.injEq] at h
    obtain ⟨rfl, rfl⟩ := h
    exact k
  · intro k; exact ⟨fr, σ, rfl, k⟩

theorem pops_cons {d : Option Nat} {op : AOp} {l : List AOper} :
    POps .go call (⟨d, op, none⟩ :: l) fr σ N = OptP (evStep call fr σ op) (fun t v σ' => POps t call l (putDst fr d v) σ' N) := by
  apply propext
  unfold POps OptP
  simp only [evOps, evOper, wantedA]
  constructor
  · rintro ⟨u, v, h, k⟩
    split at h
    · rename_i fr' σ' h1
      split at h1
      · rename_i v' σ'' h2
        simp only [Option.some.injEq, Prod.mk.injEq] at h1
        obtain ⟨rfl, rfl⟩ := h1
        exact ⟨_, _, h2, _, _, h, k⟩
      · cases h1
    · cases h
  · rintro ⟨v, σ', h, u, v', h', k⟩
    exact ⟨u, v', by rw [h]; exact h', k⟩

theorem pops_consG {d : Option Nat} {op : AOp} {l : List AOper} {s : Nat} {w : Bool} :
    POps .go call (⟨d, op, some (s, w)⟩ :: l) fr σ N = guardP (wantedA fr (some (s, w))) (fun t => PStep t call op fr σ (fun t v σ' => POps t call l (putDst fr d v) σ' N))
      (fun t => POps t call l (putDst fr d undefA) σ N) := by
  apply propext
  unfold POps PStep OptP guardP
  simp only [evOps, evOper]
  cases hw : wantedA fr (some (s, w)) with
  | false => simp
  | true =>
    simp only [true_imp_iff, reduceCtorEq, false_imp_iff, and_true]
    constructor
    · rintro ⟨u, v, h, k⟩
      split at h
      · rename_i fr' σ' h1
        split at h1
        · rename_i v' σ'' h2
          simp only [Option.some.injEq, Prod.mk.injEq] at h1
          obtain ⟨rfl, rfl⟩ := h1
          exact ⟨_, _, h2, _, _, h, k⟩
        · cases h1
      · cases h
    · rintro ⟨v, σ', h, u, v', h', k⟩
      exact ⟨u, v', by rw [h]; exact h', k⟩

theorem wanted_eq {s : Nat} {w b : Bool} (h : getSlot fr s = .one (.bool b)) : wantedA fr (some (s, w)) = (b == w) := by
  simp only [wantedA, h]

theorem step_call {f : AOpd} {args : List AOpd} : evStep call fr σ (.call f args) = match ev fr f with
    | .one (.func f caps) => call f (evs fr args ++ caps.map AV.one) σ
    | .one (.meth f rv) => call f (.one rv :: evs fr args) σ
    | _ => none := rfl
theorem step_invoke {tab : List (Nat × Nat × Option Nat)} {r : AOpd} {args : List AOpd} : evStep call fr σ (.invoke tab r args) = match invokeF tab (ev fr r) with
    | some (f, v) => call f (v :: evs fr args) σ
    | none => none := rfl
end

/-! ### a whole function -/
theorem evCall_prim {C : Ctx} {f : Nat} {p : Prim} (h : C.prim f = some p) (n : Nat) (args : List AV) (σ : AHeap) : evCall C (n + 1) f args σ = p args σ := by
  simp only [evCall, h]

theorem evCall_code {C : Ctx} {f : Nat} {F : AFunc} (h : C.prim f = none) (hc : C.code f = some F) (hh : C.hint f = .no := by rfl) {n : Nat} {args : List AV} {σ : AHeap} {K : Tok → AV → AHeap → Prop}
    (hb : EndsC .go (evCall C n) n F.body (args ++ repUndef (F.ntmps - args.length)) σ
      (fun t fr σ' => ∃ vs, resOfs fr σ' F.results = some vs ∧ K t (tupOf vs) σ') (fun _ _ _ _ => False) (fun t fr σ' => ∃ vs, resOfs fr σ' F.results = some vs ∧ K t (tupOf vs) σ')) :
    OptP (evCall C (n + 1) f args σ) K := by
  obtain ⟨x, u, v, h1, h2⟩ := hb
  unfold OptP
  simp only [evCall, h, hc, hh, inArgs, hintRes, h1]
  cases x with
  | normal =>
    obtain ⟨vs, h3, h4⟩ := h2
    exact ⟨_, _, by simp only [afterB, hintRes, h3], h4⟩
  | exit i => exact h2.elim
  | ret =>
    obtain ⟨vs, h3, h4⟩ := h2
    exact ⟨_, _, by simp only [afterB, hintRes, h3], h4⟩

/-! ### frames -/
theorem getSlot_setSlot : ∀ (fr : List AV) (d t : Nat) (v : AV), getSlot (setSlot fr d v) t = if t = d ∧ d < fr.length then v else getSlot fr t
  | [], d, t, v => by simp [setSlot, getSlot]
  | a :: l, 0, 0, v => by simp [setSlot, getSlot]
  | a :: l, 0, t + 1, v => by simp [setSlot, getSlot]
  | a :: l, d + 1, 0, v => by simp [setSlot, getSlot]
  | a :: l, d + 1, t + 1, v => by simp [setSlot, getSlot, getSlot_setSlot l d t v]

theorem setSlot_length : ∀ (fr : List AV) (d : Nat) (v : AV), (setSlot fr d v).length = fr.length
  | [], _, _ => rfl
  | _ :: _, 0, _ => rfl
  | _ :: l, d + 1, v => by simp [setSlot, setSlot_length l d v]


theorem optP_pure1 (s : SV) (σ : AHeap) : pure1 σ (some s) = some (.one s, σ) := rfl

theorem blt_dec (a b : Nat) : Nat.blt a b = decide (a < b) := by
  cases h : Nat.blt a b with
  | true => simp [Nat.blt_eq] at h; simp [h]
  | false => simp only [Bool.eq_false_iff, ne_eq, Nat.blt_eq] at h; simp [h]
theorem ble_dec (a b : Nat) : Nat.ble a b = decide (a ≤ b) := by
  cases h : Nat.ble a b with
  | true => simp [Nat.ble_eq] at h; simp [h]
  | false => simp only [Bool.eq_false_iff, ne_eq, Nat.ble_eq] at h; simp [h]
theorem beq_dec (a b : Nat) : Nat.beq a b = decide (a = b) := by
  cases h : Nat.beq a b with
  | true => simp at h; simp [h]
  | false => simp only [Bool.eq_false_iff, ne_eq, Nat.beq_eq] at h; simp [h]

theorem AHeap.get_put' (σ : AHeap) (o : AObj) (i id : Nat) : (σ.put i o).get id = if id = i ∧ i < σ.size then some o else σ.get id := by
  by_cases h : i < σ.size
  · rw [AHeap.get_put σ o i id h]; simp [h]
  · rw [if_neg (by omega)]
    unfold AHeap.get AHeap.put
    simp only [PT.get_set]
    cases hb : Nat.blt id σ.size with
    | false => rfl
    | true =>
      have : id < σ.size := by simpa [Nat.blt_eq] using hb
      rw [if_neg (by omega)]

/-- What an object gives to a load. -/
def rd (o : Option AObj) (agg : Option Nat) (off : Nat) : Option AV := match o with
  | some ⟨cs, .own⟩ | some ⟨cs, .ro⟩ => partA cs agg off
  | _ => none
theorem loadA_rd (σ : AHeap) (agg : Option Nat) (id off : Nat) : loadA σ agg id off = rd (σ.get id) agg off := rfl
theorem rd_own (cs : List SV) (agg : Option Nat) (off : Nat) : rd (some ⟨cs, .own⟩) agg off = partA cs agg off := rfl
theorem rd_ro (cs : List SV) (agg : Option Nat) (off : Nat) : rd (some ⟨cs, .ro⟩) agg off = partA cs agg off := rfl

/-- What was there is there, as it was. -/
def Keeps (σ σ' : AHeap) : Prop := σ.size ≤ σ'.size ∧ ∀ id, id < σ.size → σ'.get id = σ.get id
theorem Keeps.refl (σ : AHeap) : Keeps σ σ := ⟨Nat.le_refl _, fun _ _ => rfl⟩
theorem Keeps.trans {a b c : AHeap} (h1 : Keeps a b) (h2 : Keeps b c) : Keeps a c :=
  ⟨Nat.le_trans h1.1 h2.1, fun id h => by rw [h2.2 id (Nat.lt_of_lt_of_le h h1.1), h1.2 id h]⟩
theorem Keeps.alloc {σ τ : AHeap} {o : AObj} (h : Keeps σ τ) : Keeps σ (τ.alloc o) :=
  ⟨Nat.le_trans h.1 (by rw [AHeap.size_alloc]; omega), fun id hid => by rw [AHeap.get_alloc, if_neg (by have := h.1; omega), h.2 id hid]⟩
theorem Keeps.put {σ τ : AHeap} {i : Nat} {o : AObj} (h : Keeps σ τ) (hi : σ.size ≤ i) : Keeps σ (τ.put i o) :=
  ⟨h.1, fun id hid => by rw [AHeap.get_put', if_neg (by omega), h.2 id hid]⟩

/-- A function laid whose answer holds nothing new and that wrote nothing old. -/
theorem primOk_pure {P : Program} [IsProg P] {C : Ctx} (hC : C.Good P) {f : Nat} {p : Prim}
    (h : ∀ args σ v σ', p args σ = some (v, σ') → σ' = σ ∧ v.lo σ.size = true ∧ ∃ n, OptP (evCall C n f args σ) (fun _ v1 σ1 => v1 = v ∧ Keeps σ σ1)) : PrimOk P f p :=
  primOk_of_run hC fun args σ v σ' hp => by
    obtain ⟨rfl, hlo, n, v1, σ1, he, rfl, hk⟩ := h args σ v σ' hp
    exact ⟨n, v1, σ1, id, he, Iso.pure hk.1 hk.2 hlo⟩

/-- The elements of a slice, read one by one. -/
def rdList (o : Option AObj) (agg : Option Nat) (esz : Nat) : Nat → Nat → Option (List AV)
  | _, 0 => some []
  | off, n + 1 => match rd o agg off, rdList o agg esz (off + esz) n with
    | some v, some l => some (v :: l)
    | _, _ => none

theorem rdList_spec {o : Option AObj} {agg : Option Nat} {esz : Nat} : ∀ {n off : Nat} {l : List AV}, rdList o agg esz off n = some l →
    l.length = n ∧ ∀ i (h : i < l.length), rd o agg (off + i * esz) = some l[i]
  | 0, off, l, h => by
    simp only [rdList, Option.some.injEq] at h
    subst h
    exact ⟨rfl, fun i h => absurd h (by simp)⟩
  | n + 1, off, l, h => by
    simp only [rdList] at h
    split at h
    · rename_i v l' h1 h2
      cases h
      obtain ⟨k1, k2⟩ := rdList_spec h2
      refine ⟨by simp [k1], fun i hi => ?_⟩
      cases i with
      | zero => simpa using h1
      | succ i =>
        have := k2 i (by simpa using hi)
        rw [show off + (i + 1) * esz = off + esz + i * esz by rw [Nat.succ_mul]; omega]
        simpa using this
    · cases h

theorem wr64 {n : Int} (h1 : -9223372036854775808 ≤ n) (h2 : n ≤ 9223372036854775807) : wr .i64 n = n := by
  simp only [wr, h1, h2, and_self, if_true]
theorem wru64 {n : Int} (h1 : 0 ≤ n) (h2 : n ≤ 18446744073709551615) : wr .u64 n = n := by
  simp only [wr, h1, h2, and_self, if_true]
/-- A counter's next. -/
theorem wr_next {i n : Nat} (h : i < n) (hn : n ≤ maxElems) : wr .i64 ((i : Int) + 1) = ((i + 1 : Nat) : Int) := by
  unfold maxElems at hn
  rw [wr64 (by omega) (by omega)]
  simp

def wantB (v : AV) (w : Bool) : Bool := match v with
  | .one (.bool b) => b == w
  | _ => false
theorem wanted_some (fr : List AV) (s : Nat) (w : Bool) : wantedA fr (some (s, w)) = wantB (getSlot fr s) w := rfl
theorem wanted_none (fr : List AV) : wantedA fr none = true := rfl
theorem wantB_bool (b w : Bool) : wantB (.one (.bool b)) w = (b == w) := rfl
theorem wantB_undef (w : Bool) : wantB undefA w = false := rfl

attribute [simp] wanted_some wanted_none wantB_bool wantB_undef getSlot_setSlot setSlot_length
attribute [simp] loadA_rd rd_own rd_ro Keeps.refl Keeps.alloc Keeps.put
attribute [simp] blt_dec ble_dec beq_dec
attribute [simp] ends_skip ends_ret ends_exit ends_seq ends_cond ends_block ends_region pops_nil pops_cons pops_consG pstep_go step_call optP_some condP_true condP_false guardP_true guardP_false
  step_invoke evX okRes invokeF AV.plain keyIs keyEq findE setE findB
  evStep evOp ev evs putDst setSlot getSlot repUndef pure1 evBin ibin resOfs resOf tupOf AV.cells partA evUn evEq evEqS eqS eqOffs fillA evFns asNat optNat
  writeAt splice AHeap.get_alloc AHeap.get_put' AHeap.size_alloc AHeap.size_put

end Go.Proofs.YtkolhfpofmpijaaDoor.Ab

/- Reasoning about a region that draws its order: run in the text's order, with what its checks ask. -/
namespace Go.Proofs.YtkolhfpofmpijaaDoor.Ab
open Go
set_option linter.unusedSimpArgs false
set_option linter.unusedVariables false

def lookN {α : Type} : List (Nat × α) → Nat → Option α
  | [], _ => none
  | (k, a) :: l, n => if k = n then some a else lookN l n

/-- What a load reads: none where it is not run. -/
def loadOf (fr : List AV) (o : AOper) : Option (Option Nat) := match wantedA fr o.guard with
  | false => some none
  | true => match o.op with
    | .load _ x => match ev fr x with
      | .one (.ptr id _) => some (some id)
      | .one (.fptr _ _) => some none
      | _ => none
    | _ => none

abbrev RecH := List (Nat × (AHeap × AHeap))
abbrev RecI := List (Nat × Option (Option Nat))

def fin1 (H : RecH) (I : RecI) (p : Nat × Nat) : Bool := match lookN I p.2, lookN H p.1 with
  | some (some none), some _ => true
  | some (some (some id)), some (s1, s2) => sameObj (s1.get id) (s2.get id)
  | _, _ => false

def finAll (H : RecH) (I : RecI) : List (Nat × Nat) → Bool
  | [] => true
  | p :: l => fin1 H I p && finAll H I l

def hasFst (pairs : List (Nat × Nat)) (i : Nat) : Bool := match pairs with
  | [] => false
  | p :: l => Nat.beq p.1 i || hasFst l i
def hasSnd (pairs : List (Nat × Nat)) (i : Nat) : Bool := match pairs with
  | [] => false
  | p :: l => Nat.beq p.2 i || hasSnd l i

def pushH (b : Bool) (i : Nat) (s1 s2 : AHeap) (H : RecH) : RecH := match b with
  | true => (i, (s1, s2)) :: H
  | false => H
def pushI (b : Bool) (i : Nat) (fr : List AV) (o : AOper) (I : RecI) : RecI := match b with
  | true => (i, loadOf fr o) :: I
  | false => I

def chkGo (pairs : List (Nat × Nat)) : Nat → List AOper → List (List AV × AHeap) → RecH → RecI → Bool
  | _, [], _, H, I => finAll H I pairs
  | i, o :: l, (fr, s) :: (fr2, s2) :: rest, H, I => chkGo pairs (i + 1) l ((fr2, s2) :: rest) (pushH (hasFst pairs i) i s s2 H) (pushI (hasSnd pairs i) i fr o I)
  | _, _, _, _, _ => false

theorem finAll_mono {A : List AOper} {T : List (List AV × AHeap)} {H : RecH} {I : RecI}
    (hH : ∀ k s1 s2, lookN H k = some (s1, s2) → ∃ f1 f2, T[k]? = some (f1, s1) ∧ T[k + 1]? = some (f2, s2))
    (hI : ∀ k x, lookN I k = some x → ∃ o f s, A[k]? = some o ∧ T[k]? = some (f, s) ∧ x = loadOf f o) :
    ∀ pairs, finAll H I pairs = true → pairsOk A T pairs = true
  | [], _ => rfl
  | p :: l, h => by
    simp only [finAll, Bool.and_eq_true] at h
    simp only [pairsOk, Bool.and_eq_true]
    refine ⟨?_, finAll_mono hH hI l h.2⟩
    have h1 := h.1
    unfold fin1 at h1
    split at h1
    · rename_i x e1 e2
      obtain ⟨s1, s2⟩ := x
      obtain ⟨f1, f2, k1, k2⟩ := hH _ _ _ e2
      obtain ⟨o, f, s, k3, k4, k5⟩ := hI _ _ e1
      unfold pairOk
      rw [k3, k4, k1, k2]
      unfold loadOf at k5
      simp only
      split at k5
      · rename_i hw; rw [hw]
      · rename_i hw
        rw [hw]
        simp only
        split at k5
        · rename_i ho
          rw [ho]
          simp only
          split at k5
          · cases k5
          · rename_i he
            rw [he]
          · cases k5
        · cases k5
    · rename_i id s1 s2 e1 e2
      obtain ⟨f1, f2, k1, k2⟩ := hH _ _ _ e2
      obtain ⟨o, f, s, k3, k4, k5⟩ := hI _ _ e1
      unfold pairOk
      rw [k3, k4, k1, k2]
      unfold loadOf at k5
      simp only
      split at k5
      · cases k5
      · rename_i hw
        rw [hw]
        simp only
        split at k5
        · rename_i ho
          rw [ho]
          simp only
          split at k5
          · rename_i he
            cases k5
            rw [he]
            exact h1
          · cases k5
          · cases k5
        · cases k5
    · cases h1

theorem chkGo_ok (pairs : List (Nat × Nat)) : ∀ (l : List AOper) (A : List AOper) (T0 tt : List (List AV × AHeap)) (H : RecH) (I : RecI),
    A.length = T0.length → (∀ k s1 s2, lookN H k = some (s1, s2) → ∃ f1 f2, (T0 ++ tt)[k]? = some (f1, s1) ∧ (T0 ++ tt)[k + 1]? = some (f2, s2)) →
    (∀ k x, lookN I k = some x → ∃ o f s, A[k]? = some o ∧ T0[k]? = some (f, s) ∧ x = loadOf f o) →
    chkGo pairs A.length l tt H I = true → pairsOk (A ++ l) (T0 ++ tt) pairs = true
  | [], A, T0, tt, H, I, hl, hH, hI, h => by
    unfold chkGo at h
    rw [List.append_nil]
    refine finAll_mono hH (fun k x hx => ?_) pairs h
    obtain ⟨o, f, s, k1, k2, k3⟩ := hI k x hx
    refine ⟨o, f, s, k1, ?_, k3⟩
    have : k < T0.length := by
      have := List.getElem?_eq_some_iff.1 k2
      exact this.1
    rw [List.getElem?_append_left this, k2]
  | o :: l, A, T0, [], H, I, hl, hH, hI, h => by unfold chkGo at h; cases h
  | o :: l, A, T0, [_], H, I, hl, hH, hI, h => by unfold chkGo at h; cases h
  | o :: l, A, T0, (fr, s) :: (fr2, s2) :: rest, H, I, hl, hH, hI, h => by
    unfold chkGo at h
    have e1 : A ++ o :: l = (A ++ [o]) ++ l := by simp
    have e2 : T0 ++ (fr, s) :: (fr2, s2) :: rest = (T0 ++ [(fr, s)]) ++ (fr2, s2) :: rest := by simp
    have e3 : (A ++ [o]).length = A.length + 1 := by simp
    rw [e1, e2]
    refine chkGo_ok pairs l (A ++ [o]) (T0 ++ [(fr, s)]) ((fr2, s2) :: rest) _ _ (by simp [hl]) ?_ ?_ (by rw [e3]; exact h)
    · intro k a b hk
      rw [← e2]
      unfold pushH at hk
      split at hk
      · unfold lookN at hk
        split at hk
        · rename_i e
          cases hk
          subst e
          refine ⟨fr, fr2, ?_, ?_⟩
          · rw [hl, List.getElem?_append_right (Nat.le_refl _)]; simp
          · rw [hl, List.getElem?_append_right (by omega)]; simp
        · exact hH k a b hk
      · exact hH k a b hk
    · intro k x hk
      have old : ∀ k x, lookN I k = some x → ∃ o' f s', (A ++ [o])[k]? = some o' ∧ (T0 ++ [(fr, s)])[k]? = some (f, s') ∧ x = loadOf f o' := by
        intro k x hx
        obtain ⟨o', f, s', k1, k2, k3⟩ := hI k x hx
        have l1 : k < A.length := (List.getElem?_eq_some_iff.1 k1).1
        have l2 : k < T0.length := (List.getElem?_eq_some_iff.1 k2).1
        exact ⟨o', f, s', by rw [List.getElem?_append_left l1, k1], by rw [List.getElem?_append_left l2, k2], k3⟩
      unfold pushI at hk
      split at hk
      · unfold lookN at hk
        split at hk
        · rename_i e
          cases hk
          subst e
          refine ⟨o, fr, s, ?_, ?_, rfl⟩
          · rw [List.getElem?_append_right (Nat.le_refl _)]; simp
          · rw [hl, List.getElem?_append_right (Nat.le_refl _)]; simp
        · exact old k x hk
      · exact old k x hk

def PDraw (_ : Tok) (call : CallF) (pairs : List (Nat × Nat)) (i : Nat) (ops : List AOper) (H : RecH) (I : RecI) (fr : List AV) (σ : AHeap) (N : KN) : Prop :=
  ∃ tt fr' σ', evTr call ops fr σ = some (tt, fr', σ') ∧ chkGo pairs i ops tt H I = true ∧ N .go fr' σ'

section
variable {call : CallF} {m : Nat} {N : KN} {E : KE} {R : KN} {fr : List AV} {σ : AHeap} {pairs : List (Nat × Nat)} {H : RecH} {I : RecI} {i : Nat}

/-- A region that draws. -/
theorem ends_draw {ops : List AOper} (h : PDraw .go call pairs 0 ops [] [] fr σ N) : EndsC .go call m (.draw ops pairs) fr σ N E R := by
  obtain ⟨tt, fr', σ', h1, h2, h3⟩ := h
  refine ⟨.normal, fr', σ', ?_, h3⟩
  have := chkGo_ok pairs ops [] [] tt [] [] rfl (fun k a b h => by cases h) (fun k x h => by cases h) h2
  simp only [List.nil_append] at this
  simp only [evCode, evDraw, h1, this]

theorem evTr_head : ∀ {l : List AOper} {fr : List AV} {σ : AHeap} {t fr' σ'}, evTr call l fr σ = some (t, fr', σ') → ∃ t', t = (fr, σ) :: t'
  | [], fr, σ, t, fr', σ', h => by simp only [evTr, Option.some.injEq, Prod.mk.injEq] at h; exact ⟨[], h.1.symm⟩
  | o :: l, fr, σ, t, fr', σ', h => by
    simp only [evTr] at h
    split at h
    · split at h
      · cases h; exact ⟨_, rfl⟩
      · cases h
    · cases h

theorem pdraw_nil : PDraw .go call pairs i [] H I fr σ N = (finAll H I pairs = true ∧ N .go fr σ) := by
  apply propext; constructor
  · rintro ⟨tt, u, v, h, h2, k⟩
    simp only [evTr, Option.some.injEq, Prod.mk.injEq] at h
    obtain ⟨rfl, rfl, rfl⟩ := h
    exact ⟨h2, k⟩
  · intro k; exact ⟨_, fr, σ, rfl, k.1, k.2⟩

theorem pdraw_oper {o : AOper} {l : List AOper} :
    PDraw .go call pairs i (o :: l) H I fr σ N = ∃ fr' σ', evOper call fr σ o = some (fr', σ') ∧ PDraw .go call pairs (i + 1) l (pushH (hasFst pairs i) i σ σ' H) (pushI (hasSnd pairs i) i fr o I) fr' σ' N := by
  apply propext
  unfold PDraw
  constructor
  · rintro ⟨tt, u, v, h, h2, k⟩
    simp only [evTr] at h
    split at h
    · rename_i fr' σ' ho
      split at h
      · rename_i t fr2 σ2 ht
        cases h
        obtain ⟨t', rfl⟩ := evTr_head ht
        exact ⟨fr', σ', ho, _, _, _, ht, h2, k⟩
      · cases h
    · cases h
  · rintro ⟨fr', σ', ho, t, u, v, ht, h2, k⟩
    obtain ⟨t', rfl⟩ := evTr_head ht
    exact ⟨(fr, σ) :: (fr', σ') :: t', u, v, by simp only [evTr, ho, ht], by unfold chkGo; exact h2, k⟩

theorem pdraw_cons {d : Option Nat} {op : AOp} {l : List AOper} :
    PDraw .go call pairs i (⟨d, op, none⟩ :: l) H I fr σ N = OptP (evStep call fr σ op) (fun t v σ' => PDraw t call pairs (i + 1) l (pushH (hasFst pairs i) i σ σ' H) (pushI (hasSnd pairs i) i fr ⟨d, op, none⟩ I) (putDst fr d v) σ' N) := by
  rw [pdraw_oper]
  apply propext
  unfold OptP
  simp only [evOper, wantedA]
  constructor
  · rintro ⟨fr', σ', h, k⟩
    split at h
    · rename_i v σ'' h2
      simp only [Option.some.injEq, Prod.mk.injEq] at h
      obtain ⟨rfl, rfl⟩ := h
      exact ⟨v, σ'', h2, k⟩
    · cases h
  · rintro ⟨v, σ', h, k⟩
    exact ⟨_, σ', by rw [h], k⟩

theorem pdraw_consG {d : Option Nat} {op : AOp} {l : List AOper} {s : Nat} {w : Bool} :
    PDraw .go call pairs i (⟨d, op, some (s, w)⟩ :: l) H I fr σ N = guardP (wantedA fr (some (s, w)))
      (fun t => PStep t call op fr σ (fun t v σ' => PDraw t call pairs (i + 1) l (pushH (hasFst pairs i) i σ σ' H) (pushI (hasSnd pairs i) i fr ⟨d, op, some (s, w)⟩ I) (putDst fr d v) σ' N))
      (fun t => PDraw t call pairs (i + 1) l (pushH (hasFst pairs i) i σ σ H) (pushI (hasSnd pairs i) i fr ⟨d, op, some (s, w)⟩ I) (putDst fr d undefA) σ N) := by
  rw [pdraw_oper]
  apply propext
  unfold PStep OptP guardP
  simp only [evOper]
  cases hw : wantedA fr (some (s, w)) with
  | false =>
    simp only [reduceCtorEq, false_imp_iff, true_imp_iff, true_and]
    constructor
    · rintro ⟨fr', σ', h, k⟩
      simp only [Option.some.injEq, Prod.mk.injEq] at h
      obtain ⟨rfl, rfl⟩ := h
      exact k
    · intro k; exact ⟨_, _, rfl, k⟩
  | true =>
    simp only [true_imp_iff, reduceCtorEq, false_imp_iff, and_true]
    constructor
    · rintro ⟨fr', σ', h, k⟩
      split at h
      · rename_i v σ'' h2
        simp only [Option.some.injEq, Prod.mk.injEq] at h
        obtain ⟨rfl, rfl⟩ := h
        exact ⟨v, σ'', h2, k⟩
      · cases h
    · rintro ⟨v, σ', h, k⟩
      exact ⟨_, σ', by rw [h], k⟩
end

theorem beqL_refl : ∀ l : List UInt8, beqL l l = true
  | [] => rfl
  | a :: l => by simp [beqL, beqL_refl l]
theorem beqL_iff : ∀ a b : List UInt8, beqL a b = decide (a = b)
  | [], [] => rfl
  | [], _ :: _ => rfl
  | _ :: _, [] => rfl
  | a :: x, b :: y => by
    simp only [beqL]
    by_cases h : a = b
    · subst h; simp [beqL_iff x y]
    · have : a.toNat ≠ b.toNat := fun e => h (UInt8.toNat_inj.1 e)
      simp [h, this]

theorem evTr_ops {call : CallF} : ∀ (l : List AOper) (fr : List AV) (σ : AHeap), (evTr call l fr σ).map (fun t => t.2) = evOps call l fr σ
  | [], fr, σ => rfl
  | o :: l, fr, σ => by
    simp only [evTr, evOps]
    cases evOper call fr σ o with
    | none => rfl
    | some x =>
      obtain ⟨fr', σ'⟩ := x
      simp only
      rw [← evTr_ops l fr' σ']
      cases evTr call l fr' σ' with
      | none => rfl
      | some y => rfl

theorem ends_draw0 {call : CallF} {m : Nat} {N : KN} {E : KE} {R : KN} {fr : List AV} {σ : AHeap} {ops : List AOper} :
    EndsC .go call m (.draw ops []) fr σ N E R = POps .go call ops fr σ N := by
  rw [← ends_region (m := m) (E := E) (R := R)]
  unfold EndsC
  congr 1
  simp only [evCode, evDraw, pairsOk]
  rw [← evTr_ops]
  cases evTr call ops fr σ with
  | none => rfl
  | some y => rfl

mutual
theorem SV.same_refl : ∀ s : SV, SV.same s s = true
  | .bool a => by simp [SV.same]
  | .int k a => by simp [SV.same]
  | .str a => by simp [SV.same, beqL_refl]
  | .ptr i o => by simp [SV.same]
  | .nilPtr => by simp [SV.same]
  | .slice i o e l c => by simp [SV.same]
  | .nilSlice => by simp [SV.same]
  | .func f c => by simp [SV.same, sameCells_refl c]
  | .nilFunc => by simp [SV.same]
  | .iface t g c => by simp [SV.same, sameCells_refl c]
  | .nilIface => by simp [SV.same]
  | .lst l => by simp [SV.same, sameElems_refl l]
  | .lstx l => by simp [SV.same, sameElems_refl l]
  | .hnd t => by simp [SV.same]
  | .fptr l o => by simp [SV.same, sameCells_refl l]
  | .emp => by simp [SV.same]
  | .map _ => by simp [SV.same]
  | .nilMap => by simp [SV.same]
  | .meth f r => by simp [SV.same, SV.same_refl r]
theorem sameElems_refl : ∀ l : List (List SV), sameElems l l = true
  | [] => by simp [sameElems]
  | s :: l => by simp [sameElems, sameCells_refl s, sameElems_refl l]
theorem sameCells_refl : ∀ l : List SV, sameCells l l = true
  | [] => by simp [sameCells]
  | s :: l => by simp [sameCells, SV.same_refl s, sameCells_refl l]
end
mutual
theorem AV.same_refl : ∀ s : AV, AV.same s s = true
  | .one a => by simp [AV.same, SV.same_refl a]
  | .agg a => by simp [AV.same, sameCells_refl a]
  | .tup a => by simp [AV.same, sameAVs_refl a]
theorem sameAVs_refl : ∀ l : List AV, sameAVs l l = true
  | [] => by simp [sameAVs]
  | s :: l => by simp [sameAVs, AV.same_refl s, sameAVs_refl l]
end
theorem sameEnts_refl : ∀ l : List Ent, sameEnts l l = true
  | [] => rfl
  | s :: l => by simp [sameEnts, SV.same_refl s.key, AV.same_refl s.val, sameEnts_refl l]
theorem sameObj_refl (o : AObj) : sameObj (some o) (some o) = true := by
  obtain ⟨c, m⟩ := o
  cases m <;> simp [sameObj, Md.same, sameCells_refl, sameEnts_refl, Nat.beq_refl]
theorem sameObj_refl' (o : Option AObj) : sameObj o o = true := by
  cases o with
  | none => rfl
  | some o => exact sameObj_refl o

attribute [simp] SV.same_refl sameCells_refl sameElems_refl sameObj_refl'
attribute [simp] repeatCells ends_draw0 lookN loadOf fin1 finAll hasFst hasSnd pushH pushI pdraw_nil pdraw_cons pdraw_consG beqL_refl SV.same sameCells Md.same sameObj

end Go.Proofs.YtkolhfpofmpijaaDoor.Ab

/- A slice that grows by append, as the machine keeps it: its cells, and what is laid in its place. -/
namespace Go.Proofs.YtkolhfpofmpijaaDoor.Ab
open Go
set_option linter.unusedSimpArgs false
set_option linter.unusedVariables false

/-- A slice that was grown by append alone from nil: its object lies at b or above and holds just its cells. -/
def OutSl (b : Nat) (τ : AHeap) (esz : Nat) (s : AV) (cells : List SV) (n : Nat) : Prop :=
  cells.length = n * esz ∧ ((s = .one .nilSlice ∧ n = 0) ∨ ∃ q, s = .one (.slice q 0 esz n none) ∧ 0 < n ∧ b ≤ q ∧ τ.get q = some ⟨cells, .own⟩)

theorem OutSl.nil (b : Nat) (τ : AHeap) (esz : Nat) : OutSl b τ esz (.one .nilSlice) [] 0 := ⟨by simp, .inl ⟨rfl, rfl⟩⟩

theorem OutSl.stay {b : Nat} {τ τ' : AHeap} {esz : Nat} {s : AV} {cells : List SV} {n : Nat} (h : OutSl b τ esz s cells n) (hk : ∀ id, b ≤ id → id < τ.size → τ'.get id = τ.get id) :
    OutSl b τ' esz s cells n := by
  refine ⟨h.1, ?_⟩
  rcases h.2 with h | ⟨q, h1, h0, h2, h3⟩
  · exact .inl h
  · exact .inr ⟨q, h1, h0, h2, by rw [hk q h2 (AHeap.get_lt h3), h3]⟩

theorem append_out {b : Nat} {τ : AHeap} {esz bytes : Nat} {s : AV} {cells vs : List SV} {n : Nat} (h : OutSl b τ esz s cells n) (hb : b ≤ τ.size) (he : 0 < esz)
    (hv : vs.length = esz) (hn : n + 1 ≤ maxElems) (hby : bytes ≤ maxBytes) :
    OptP (appendA τ esz bytes s 1 vs) (fun _ s' τ' => OutSl b τ' esz s' (cells ++ vs) (n + 1) ∧ τ'.size = τ.size + 1 ∧ ∀ id, id < b → τ'.get id = τ.get id) := by
  obtain ⟨hc, h⟩ := h
  rcases h with ⟨rfl, rfl⟩ | ⟨q, rfl, h0, hq, hg⟩
  · have h1 : 1 ≤ maxElems := by decide
    have hc0 : cells = [] := by simpa using hc
    subst hc0
    simp [appendA, appendK, h1, hby]
    refine ⟨⟨by simpa using hv, .inr ⟨τ.size, rfl, by omega, hb, by simp⟩⟩, fun id hid hid' => by omega⟩
  · have hlt := AHeap.get_lt hg
    have h2 : ¬ ((n + 1) * esz ≤ cells.length) := by rw [hc, Nat.succ_mul]; omega
    simp [appendA, appendK, hn, hby, hg, h2, hc.symm]
    have hmul : cells.length + esz = (n + 1) * esz := by rw [hc, Nat.succ_mul]
    refine ⟨⟨by simp [hv, hmul], .inr ⟨τ.size, rfl, by omega, hb, by simp⟩⟩, fun id hid => ?_⟩
    rw [if_neg (by omega), if_neg (by omega)]

theorem ar1 (k : Nat) : (k ≤ k + 1 + 1) = True := eq_true (by omega)
theorem ar2 (k : Nat) : (k ≤ k + 1 + 1 + 1) = True := eq_true (by omega)
theorem ar3 (k : Nat) : (k ≤ k + 1 + 1 + 1 + 1) = True := eq_true (by omega)
theorem ar4 (k : Nat) : (k < k + 1 + 1) = True := eq_true (by omega)
theorem ar5 (k : Nat) : (k < k + 1 + 1 + 1) = True := eq_true (by omega)
theorem ar6 (k : Nat) : (k < k + 1 + 1 + 1 + 1) = True := eq_true (by omega)
theorem ar7 (k : Nat) : (k = k + 1 + 1) = False := eq_false (by omega)
theorem ar8 (k : Nat) : (k = k + 1 + 1 + 1) = False := eq_false (by omega)
theorem ar9 (k : Nat) : (k = k + 1 + 1 + 1 + 1) = False := eq_false (by omega)
theorem ar10 (k : Nat) : (k + 1 + 1 = k) = False := eq_false (by omega)
theorem ar11 (k : Nat) : (k + 1 + 1 + 1 = k) = False := eq_false (by omega)
theorem ar12 (k : Nat) : (k + 1 + 1 + 1 + 1 = k) = False := eq_false (by omega)


/-- A loop that is left by one exit alone, with what holds there. -/
theorem ends_to {call : CallF} {m : Nat} {N : KN} {E : KE} {R : KN} {fr : List AV} {σ : AHeap} {c : ACode} (i : Nat) (Q : List AV → AHeap → Prop)
    (h : EndsC .go call m c fr σ (fun _ _ _ => False) (fun j _ fr σ => j = i ∧ Q fr σ) R) (k : ∀ fr σ, Q fr σ → E i .go fr σ) : EndsC .go call m c fr σ N E R := by
  obtain ⟨x, u, v, h1, h2⟩ := h
  refine ⟨x, u, v, h1, ?_⟩
  cases x with
  | normal => exact h2.elim
  | exit j => obtain ⟨rfl, hq⟩ := h2; exact k u v hq
  | ret => exact h2

/-- Values that name no object. -/
def plainS : SV → Bool
  | .bool _ | .int _ _ | .str _ | .nilPtr | .nilSlice | .nilFunc | .nilIface => true
  | _ => false
def plainL : List SV → Bool
  | [] => true
  | s :: l => plainS s && plainL l
theorem plainS_ren {s : SV} (h : plainS s = true) (π : Nat → Nat) : s.ren π = s := by cases s <;> first | rfl | cases h
theorem plainS_lo {s : SV} (h : plainS s = true) (n : Nat) : s.lo n = true := by cases s <;> first | rfl | cases h
theorem plainL_ren : ∀ {l : List SV}, plainL l = true → ∀ π, renL π l = l
  | [], _, _ => rfl
  | s :: l, h, π => by
    simp only [plainL, Bool.and_eq_true] at h
    simp only [renL, plainS_ren h.1, plainL_ren h.2]
theorem plainL_lo : ∀ {l : List SV}, plainL l = true → ∀ n, loL n l = true
  | [], _, _ => rfl
  | s :: l, h, n => by
    simp only [plainL, Bool.and_eq_true] at h
    simp only [loL, plainS_lo h.1, plainL_lo h.2, Bool.and_self]
theorem plainL_append : ∀ {l m : List SV}, plainL l = true → plainL m = true → plainL (l ++ m) = true
  | [], _, _, h => h
  | s :: l, m, h, k => by
    simp only [plainL, Bool.and_eq_true] at h
    simp only [List.cons_append, plainL, h.1, plainL_append h.2 k, Bool.and_self]

/-- What is laid for such a slice. -/
def outRes (σ : AHeap) (esz : Nat) (cells : List SV) (n : Nat) : AV × AHeap := match n with
  | 0 => (.one .nilSlice, σ)
  | n + 1 => (.one (.slice σ.size 0 esz (n + 1) none), σ.alloc ⟨cells, .own⟩)

theorem iso_out {σ τ : AHeap} {b : Nat} {esz n : Nat} {s : AV} {cells : List SV} (h : OutSl b τ esz s cells n) (hb : σ.size ≤ b) (hk : Keeps σ τ) (hp : plainL cells = true) :
    ∃ π, Iso σ (outRes σ esz cells n).2 τ (outRes σ esz cells n).1 s π := by
  obtain ⟨hc, h⟩ := h
  rcases h with ⟨rfl, rfl⟩ | ⟨q, rfl, h0, hq, hg⟩
  · exact ⟨id, Iso.pure hk.1 hk.2 rfl⟩
  · cases n with
    | zero => omega
    | succ n =>
      have hlt := AHeap.get_lt hg
      refine ⟨fun id => if id < σ.size then id else q, ?_⟩
      exact {
        size := by simp [outRes]
        old := fun id h => by simp [h]
        new := fun id h1 h2 => by
          simp [outRes] at h2
          rw [if_neg (by omega)]
          exact ⟨by omega, hlt⟩
        inj := fun i j h1 h2 h3 h4 _ => by simp [outRes] at h2 h4; omega
        val := by simp [outRes, AV.ren, SV.ren]
        vbelow := by simp [outRes, AV.lo, SV.lo]
        kept := fun id h => .inl ⟨by simp [outRes, Nat.ne_of_lt h], hk.2 id h⟩
        made := fun id h1 h2 => by
          simp [outRes] at h2
          have : id = σ.size := by omega
          subst this
          exact ⟨⟨cells, .own⟩, by simp [outRes], by simp [plainL_ren hp, hg], plainL_lo hp _, fun c es h => (by cases h)⟩ }

end Go.Proofs.YtkolhfpofmpijaaDoor.Ab

/- Arguments, read out of a world, as the abstract machine's own: every slice is an object that is read alone. -/
namespace Go.Proofs.YtkolhfpofmpijaaDoor.Ab
open Go Go.RowKit Go.ChangeShapes Go.WideShapes Go.ChangeAt
set_option linter.unusedSimpArgs false
set_option linter.unusedVariables false

/-! ### the types that are read -/
def aggT (P : Program) (t : TypeId) : Bool := match P.underlying t with
  | some (.struct _) | some (.array _ _) => true
  | _ => false

def offsOk (P : Program) : Nat → List Field → Option Nat
  | a, [] => some a
  | a, f :: l => match Nat.beq f.offset a with
    | true => offsOk P (a + P.cellsOf f.type) l
    | false => none

def plainTy (P : Program) (T : List TypeId) (t : TypeId) : Bool := match P.underlying t with
  | some .bool | some (.int _) | some .string => true
  | some (.slice e) => T.contains e && Nat.ble 1 (P.cellsOf e)
  | some (.struct fs) => (match offsOk P 0 fs.toList with | some n => Nat.beq n (P.cellsOf t) | none => false) && fs.toList.all fun f => T.contains f.type
  | some (.array n e) => T.contains e && Nat.beq (P.cellsOf t) (n * P.cellsOf e)
  | _ => false

def plainTs (P : Program) (T : List TypeId) : Bool := T.all (plainTy P T)

/-! ### what is there to be read, in the abstract heap -/
mutual
inductive Rd (P : Program) (g : Nat → Option AObj) : TypeId → List SV → Nat → Prop where
  | bool {t : TypeId} (ht : P.underlying t = some .bool) (b : Bool) : Rd P g t [.bool b] 1
  | int {t : TypeId} {k : IntKind} (ht : P.underlying t = some (.int k)) (n : Int) (h : (Lit.int k n).wf = true) : Rd P g t [.int k n] 1
  | str {t : TypeId} (ht : P.underlying t = some .string) (s : List UInt8) : Rd P g t [.str s] (s.length + 1)
  | nilSlice {t e : TypeId} (ht : P.underlying t = some (.slice e)) : Rd P g t [.nilSlice] 1
  | slice {t e : TypeId} (ht : P.underlying t = some (.slice e)) (id len b : Nat) (cells : List SV) (h : g id = some ⟨cells, .ro⟩) (hl : RdL P g e cells len b) :
      Rd P g t [.slice id 0 (P.cellsOf e) len none] (b + 1)
  | struct {t : TypeId} {fs : Array Field} (ht : P.underlying t = some (.struct fs)) (cells : List SV) (b : Nat) (h : RdF P g (fs.toList.map (·.type)) cells b) : Rd P g t cells (b + 1)
  | array {t e : TypeId} {n : Nat} (ht : P.underlying t = some (.array n e)) (cells : List SV) (b : Nat) (h : RdL P g e cells n b) : Rd P g t cells (b + 1)
/-- So many of one type, one behind the other. -/
inductive RdL (P : Program) (g : Nat → Option AObj) : TypeId → List SV → Nat → Nat → Prop where
  | nil {e : TypeId} : RdL P g e [] 0 0
  | cons {e : TypeId} {ss l : List SV} {b n bs : Nat} (h : Rd P g e ss b) (t : RdL P g e l n bs) : RdL P g e (ss ++ l) (n + 1) (b + bs)
/-- One of each type, one behind the other. -/
inductive RdF (P : Program) (g : Nat → Option AObj) : List TypeId → List SV → Nat → Prop where
  | nil : RdF P g [] [] 0
  | cons {e : TypeId} {es : List TypeId} {ss l : List SV} {b bs : Nat} (h : Rd P g e ss b) (t : RdF P g es l bs) : RdF P g (e :: es) (ss ++ l) (b + bs)
end

def gLe (g g' : Nat → Option AObj) : Prop := ∀ id o, g id = some o → g' id = some o

mutual
theorem Rd.mono {P : Program} {g g' : Nat → Option AObj} (hl : gLe g g') : ∀ {t : TypeId} {ss : List SV} {b : Nat}, Rd P g t ss b → Rd P g' t ss b
  | _, _, _, .bool ht b => .bool ht b
  | _, _, _, .int ht n h => .int ht n h
  | _, _, _, .str ht s => .str ht s
  | _, _, _, .nilSlice ht => .nilSlice ht
  | _, _, _, .slice ht id len b cells h k => .slice ht id len b cells (hl _ _ h) (RdL.mono hl k)
  | _, _, _, .struct ht cells b h => .struct ht cells b (RdF.mono hl h)
  | _, _, _, .array ht cells b h => .array ht cells b (RdL.mono hl h)
theorem RdL.mono {P : Program} {g g' : Nat → Option AObj} (hl : gLe g g') : ∀ {t : TypeId} {ss : List SV} {n b : Nat}, RdL P g t ss n b → RdL P g' t ss n b
  | _, _, _, _, .nil => .nil
  | _, _, _, _, .cons h t => .cons (Rd.mono hl h) (RdL.mono hl t)
theorem RdF.mono {P : Program} {g g' : Nat → Option AObj} (hl : gLe g g') : ∀ {ts : List TypeId} {ss : List SV} {b : Nat}, RdF P g ts ss b → RdF P g' ts ss b
  | _, _, _, .nil => .nil
  | _, _, _, .cons h t => .cons (Rd.mono hl h) (RdF.mono hl t)
end

/-! ### the state of an import -/
structure In (w : World) (ρ : Loc) (σ : AHeap) : Prop where
  hr : HR ρ σ.get w
  ro : ∀ id o, σ.get id = some o → o.md = .ro
  all : ∀ id, id < σ.size → ∃ B, ρ id = some B

theorem In.noOwn {w : World} {ρ : Loc} {σ : AHeap} (h : In w ρ σ) (b : Nat) : ¬ Owned ρ σ.get b := by
  rintro ⟨id, B, o, h1, h2, h3, h4⟩
  rw [h.ro id o h2] at h3
  cases h3

theorem In.empty (w : World) (hg : globTab = fun _ => none) (hg2 : globAny = fun _ => none := by rfl) : In w noLoc emptyH where
  hr := HR.empty w hg hg2
  ro := fun id o h => by rw [emptyH_get] at h; cases h
  all := fun id h => absurd h (Nat.not_lt_zero _)

structure Ext (ρ : Loc) (σ : AHeap) (ρ' : Loc) (σ' : AHeap) : Prop where
  le : ρ.le ρ'
  get : gLe σ.get σ'.get

theorem Ext.refl (ρ : Loc) (σ : AHeap) : Ext ρ σ ρ σ := ⟨.refl ρ, fun _ _ h => h⟩
theorem Ext.trans {ρ ρ1 ρ2 : Loc} {σ σ1 σ2 : AHeap} (h : Ext ρ σ ρ1 σ1) (k : Ext ρ1 σ1 ρ2 σ2) : Ext ρ σ ρ2 σ2 := ⟨h.le.trans k.le, fun id o x => k.get id o (h.get id o x)⟩

theorem ObjOk.le {ρ ρ' : Loc} (hl : ρ.le ρ') {w : World} {B : Blk} {o : AObj} (h : ObjOk ρ w B o) : ObjOk ρ' w B o where
  len := h.len
  fit := h.fit
  holds := fun hd => by
    obtain ⟨vs, h1, h2⟩ := h.holds hd
    exact ⟨vs, h1.mono hl, h2⟩
  own := h.own
  mp := fun c es he => by
    obtain ⟨en, h1, h2⟩ := h.mp c es he
    exact ⟨en, h1, h2.mono hl⟩
  tg := h.tg
  lp := fun he => (h.lp he).of_heap hl rfl

/-- One object more. -/
theorem In.more {w : World} {ρ : Loc} {σ : AHeap} (h : In w ρ σ) (B : Blk) (cells : List SV) (vs : List Value) (hv : SRs ρ cells vs) (hlen : cells.length = B.clen) (hfit : B.base + B.clen ≤ B.n)
    (hc : ∀ j v, vs[j]? = some v → w.cell? ⟨B.b, B.base + j, none⟩ = some v) (hb : B.b < w.heap.size) :
    ∃ ρ', In w ρ' (σ.alloc ⟨cells, .ro⟩) ∧ Ext ρ σ ρ' (σ.alloc ⟨cells, .ro⟩) ∧ ρ' σ.size = some B := by
  refine ⟨ρ.upd σ.size B, ?_, ?_, by rw [Loc.upd_at, if_pos rfl]⟩
  · have hle : ρ.le (ρ.upd σ.size B) := Loc.le_upd (h.hr.none_size (Nat.le_refl _)) B
    refine ⟨⟨fun id B' hB' => ?_, fun i j B1 B2 o o' h1 h2 h3 h4 h5 h6 h7 => ?_, fun b o v hv => ⟨(h.hr.frz b o v hv).1, ?_⟩, h.hr.gl, h.hr.rows⟩, fun id o ho => ?_, fun id hid => ?_⟩
    · have hB' : (if id = σ.size then some B else ρ id) = some B' := hB'
      split at hB'
      · rename_i e
        cases hB'
        subst e
        refine ⟨⟨cells, .ro⟩, by rw [AHeap.get_alloc, if_pos rfl], ⟨hlen, hfit, fun _ => ⟨vs, hv.mono hle, hc⟩, fun e => (by cases e), fun c es e => (by cases e), fun t f e => (by cases e), fun e => (by cases e)⟩, hb⟩
      · rename_i e
        obtain ⟨o, k1, k2, k3⟩ := h.hr.dom id B' hB'
        exact ⟨o, by rw [AHeap.get_alloc, if_neg e]; exact k1, k2.le hle, k3⟩
    · rw [AHeap.get_alloc] at h3
      split at h3
      · cases h3; cases h6
      · rw [h.ro i o h3] at h6; cases h6
    · rintro ⟨id, B', o', k1, k2, k3, k4⟩
      rw [AHeap.get_alloc] at k2
      split at k2
      · cases k2; cases k3
      · rw [h.ro id o' k2] at k3; cases k3
    · rw [AHeap.get_alloc] at ho
      split at ho
      · cases ho; rfl
      · exact h.ro id o ho
    · show ∃ B', (if id = σ.size then some B else ρ id) = some B'
      split
      · exact ⟨_, rfl⟩
      · rename_i e
        exact h.all id (by rw [AHeap.size_alloc] at hid; omega)
  · refine ⟨Loc.le_upd (h.hr.none_size (Nat.le_refl _)) B, fun id o ho => ?_⟩
    · have := AHeap.get_lt ho
      rw [AHeap.get_alloc, if_neg (by omega)]
      exact ho

/-! ### the import -/
section
variable {P : Program} {H : Type} {enc : TypeId × Value → H} {w : World}

/-- Whoever holds a slice holds memory. -/
def Some1 (w : World) (cs : List Value) : Prop := ∀ a l c, Value.slice (some a) l c ∈ cs → 0 < w.heap.size

theorem heap_pos {a : Addr} {v : Value} (h : w.cell? a = some v) : 0 < w.heap.size := by
  unfold World.cell? at h
  split at h
  · rename_i hb
    have := (Array.getElem?_eq_some_iff.1 hb).1
    omega
  · cases h

theorem heap_lt {a : Addr} {v : Value} (h : w.cell? a = some v) : a.block < w.heap.size ∧ a.spot = none := by
  unfold World.cell? at h
  split at h
  · rename_i hb
    have := (Array.getElem?_eq_some_iff.1 hb).1
    refine ⟨this, ?_⟩
    split at h
    · cases h
    · rename_i e
      simpa using e
  · cases h

def Got (P : Program) (w : World) (ρ : Loc) (σ : AHeap) (t : TypeId) (cs : List Value) (m : Nat) : Prop :=
  ∃ ρ' σ' ss b, Ext ρ σ ρ' σ' ∧ In w ρ' σ' ∧ SRs ρ' ss cs ∧ Rd P σ'.get t ss b ∧ b ≤ m

theorem imports_list {n : Nat} {e : TypeId}
    (ih : ∀ cs x, DataW.trod enc P w 0 (fun _ => true) true n e cs = some x → Some1 w cs → ∀ ρ σ, In w ρ σ → Got P w ρ σ e cs (Rows.uptoBulk x.1)) :
    ∀ (css : List (List Value)) (xs : List (DataW H × List MemPlace)), css.length = xs.length → (∀ (i : Nat) (cs : List Value) (x : DataW H × List MemPlace), css[i]? = some cs → xs[i]? = some x → DataW.trod enc P w 0 (fun _ => true) true n e cs = some x) →
      Some1 w css.flatten → ∀ ρ σ, In w ρ σ → ∃ ρ' σ' ss b, Ext ρ σ ρ' σ' ∧ In w ρ' σ' ∧ SRs ρ' ss css.flatten ∧ RdL P σ'.get e ss css.length b ∧ b ≤ Rows.uptoBulkAll (xs.map (·.1))
  | [], xs, hl, _, _, ρ, σ, hin => by
    refine ⟨ρ, σ, [], 0, .refl ρ σ, hin, .nil, .nil, Nat.zero_le _⟩
  | cs :: css, [], hl, _, _, ρ, σ, hin => by simp at hl
  | cs :: css, x :: xs, hl, h, hs, ρ, σ, hin => by
    obtain ⟨ρ1, σ1, ss1, b1, e1, i1, s1, r1, l1⟩ := ih cs x (h 0 cs x rfl rfl) (fun a l c hm => hs a l c (by simp [hm])) ρ σ hin
    obtain ⟨ρ2, σ2, ss2, b2, e2, i2, s2, r2, l2⟩ := imports_list ih css xs (by simpa using hl) (fun i cs' x' h1 h2 => h (i + 1) cs' x' (by simpa using h1) (by simpa using h2))
      (fun a l c hm => hs a l c (by simp only [List.flatten_cons, List.mem_append]; exact .inr hm)) ρ1 σ1 i1
    refine ⟨ρ2, σ2, ss1 ++ ss2, b1 + b2, e1.trans e2, i2, ?_, .cons (r1.mono e2.get) r2, ?_⟩
    · rw [List.flatten_cons]
      exact (s1.mono e2.le).append s2
    · simp only [List.map_cons, Rows.uptoBulkAll]
      omega

theorem imports_fields {n : Nat} {T : List TypeId}
    (ih : ∀ t ∈ T, ∀ cs x, DataW.trod enc P w 0 (fun _ => true) true n t cs = some x → Some1 w cs → ∀ ρ σ, In w ρ σ → Got P w ρ σ t cs (Rows.uptoBulk x.1)) (cs : List Value) (hs : Some1 w cs) :
    ∀ (fs : List Field) (xs : List (DataW H × List MemPlace)) (o : Nat), fs.length = xs.length → (∀ (i : Nat) (f : Field) (x : DataW H × List MemPlace), fs[i]? = some f → xs[i]? = some x → DataW.trod enc P w 0 (fun _ => true) true n f.type ((cs.drop f.offset).take (P.cellsOf f.type)) = some x) →
      (∀ f ∈ fs, f.type ∈ T) → offsOk P o fs = some cs.length → o ≤ cs.length → ∀ ρ σ, In w ρ σ →
        ∃ ρ' σ' ss b, Ext ρ σ ρ' σ' ∧ In w ρ' σ' ∧ SRs ρ' ss (cs.drop o) ∧ RdF P σ'.get (fs.map (·.type)) ss b ∧ b ≤ Rows.uptoBulkAll (xs.map (·.1))
  | [], xs, o, hl, _, _, ho, _, ρ, σ, hin => by
    unfold offsOk at ho
    cases ho
    exact ⟨ρ, σ, [], 0, .refl ρ σ, hin, by simp; exact .nil, .nil, Nat.zero_le _⟩
  | f :: fs, [], _, hl, _, _, _, _, ρ, σ, hin => by simp at hl
  | f :: fs, x :: xs, o, hl, h, hT, ho, hle, ρ, σ, hin => by
    unfold offsOk at ho
    split at ho
    · rename_i e
      obtain rfl : f.offset = o := Nat.eq_of_beq_eq_true e
      have hle2 : f.offset + P.cellsOf f.type ≤ cs.length := by
        have key : ∀ (l : List Field) (a : Nat) (m : Nat), offsOk P a l = some m → a ≤ m := by
          intro l
          induction l with
          | nil => intro a m hm; unfold offsOk at hm; cases hm; exact Nat.le_refl _
          | cons g l ihl =>
            intro a m hm
            unfold offsOk at hm
            split at hm
            · have := ihl _ _ hm; omega
            · cases hm
        exact key _ _ _ ho
      obtain ⟨ρ1, σ1, ss1, b1, e1, i1, s1, r1, l1⟩ := ih f.type (hT f (by simp)) _ x (h 0 f x rfl rfl) (fun a l c hm => hs a l c (List.mem_of_mem_drop (List.mem_of_mem_take hm))) ρ σ hin
      obtain ⟨ρ2, σ2, ss2, b2, e2, i2, s2, r2, l2⟩ := imports_fields ih cs hs fs xs (f.offset + P.cellsOf f.type) (by simpa using hl) (fun i g y h1 h2 => h (i + 1) g y (by simpa using h1) (by simpa using h2))
        (fun g hg => hT g (by simp [hg])) ho hle2 ρ1 σ1 i1
      refine ⟨ρ2, σ2, ss1 ++ ss2, b1 + b2, e1.trans e2, i2, ?_, .cons (r1.mono e2.get) r2, ?_⟩
      · have : cs.drop f.offset = (cs.drop f.offset).take (P.cellsOf f.type) ++ cs.drop (f.offset + P.cellsOf f.type) := by
          rw [← List.drop_drop, List.take_append_drop]
        rw [this]
        exact (s1.mono e2.le).append s2
      · simp only [List.map_cons, Rows.uptoBulkAll]
        omega
    · cases ho

theorem flat_len {α : Type} {c : Nat} : ∀ (l : List (List α)), (∀ x ∈ l, x.length = c) → l.flatten.length = l.length * c
  | [], _ => by simp
  | y :: l, hy => by
    simp only [List.flatten_cons, List.length_append, List.length_cons, hy y (by simp), flat_len l (fun z hz => hy z (by simp [hz])), Nat.succ_mul]
    omega

theorem pieces {α : Type} (c : Nat) : ∀ (n : Nat) (l : List α), l.length = n * c → ((List.range n).map fun i => (l.drop (i * c)).take c).flatten = l
  | 0, l, h => by
    have : l = [] := List.eq_nil_of_length_eq_zero (by simpa using h)
    simp [this]
  | n + 1, l, h => by
    rw [List.range_succ_eq_map, List.map_cons, List.flatten_cons, List.map_map]
    have h2 : (List.drop c l).length = n * c := by
      rw [List.length_drop, h, Nat.succ_mul]; omega
    have ih := pieces c n (l.drop c) h2
    have : (List.range n).map ((fun i => (l.drop (i * c)).take c) ∘ Nat.succ) = (List.range n).map fun i => ((l.drop c).drop (i * c)).take c := by
      apply List.map_congr_left
      intro i _
      simp only [Function.comp, List.drop_drop]
      rw [Nat.succ_mul, Nat.add_comm]
    rw [this, ih]
    simp

theorem imports {T : List TypeId} (hT : plainTs P T = true) : ∀ (n : Nat) (t : TypeId), t ∈ T → ∀ (cs : List Value) (x : DataW H × List MemPlace), DataW.trod enc P w 0 (fun _ => true) true n t cs = some x → Some1 w cs →
    ∀ ρ σ, In w ρ σ → Got P w ρ σ t cs (Rows.uptoBulk x.1)
  | 0, t, _, cs, x, h, _, _, _, _ => by simp [DataW.trod] at h
  | n + 1, t, ht, cs, x, h, hs, ρ, σ, hin => by
    have hp : plainTy P T t = true := List.all_eq_true.1 hT t ht
    unfold plainTy at hp
    split at hp
    · rename_i hu
      obtain ⟨b, rfl, rfl⟩ := DataW.trod_bool hu h
      exact ⟨ρ, σ, [.bool b], 1, .refl ρ σ, hin, .cons (.bool b) .nil, .bool hu b, by simp [Rows.uptoBulk]⟩
    · rename_i k hu
      obtain ⟨m, rfl, rfl, hw⟩ := DataW.trod_int hu h
      exact ⟨ρ, σ, [.int k m], 1, .refl ρ σ, hin, .cons (.int k m) .nil, .int hu m hw, by simp [Rows.uptoBulk]⟩
    · rename_i hu
      obtain ⟨s, rfl, rfl, hw⟩ := DataW.trod_string hu h
      refine ⟨ρ, σ, [.str s.data.toList], s.data.toList.length + 1, .refl ρ σ, hin, .cons ?_ .nil, .str hu _, by simp [Rows.uptoBulk]⟩
      have := SR.str (ρ := ρ) s.data.toList
      simpa using this
    · rename_i e hu
      simp only [Bool.and_eq_true] at hp
      have he : e ∈ T := by simpa using hp.1
      have hc : 0 < P.cellsOf e := Nat.le_of_ble_eq_true hp.2
      rcases DataW.trod_slice hu h with ⟨rfl, rfl⟩ | ⟨a, len, cap, elems, rest, m, hm, rfl, rfl, hb, hl, hmx, hlen, hel, hsp, hns⟩
      · exact ⟨ρ, σ, [.nilSlice], 1, .refl ρ σ, hin, .cons .nilSlice .nil, .nilSlice hu, by simp [Rows.uptoBulk]⟩
      · obtain rfl : n = m := by omega
        have hpos : 0 < w.heap.size := hs a len cap (by simp)
        obtain ⟨hrl, hr⟩ := hsp rfl
        -- the cells of every element
        have each : ∀ i, i < len → ∃ cs' y, w.cells? 0 (a.add (i * P.cellsOf e)) (P.cellsOf e) = some cs' ∧ elems[i]? = some y ∧ DataW.trod enc P w 0 (fun _ => true) true n e cs' = some y := by
          intro i hi
          have h1 := hel i hi
          have h2 : elems[i]? = some (elems[i]'(by omega)) := List.getElem?_eq_getElem (by omega)
          rw [h2, Option.bind_eq_some_iff] at h1
          obtain ⟨cs', h3, h4⟩ := h1
          exact ⟨cs', _, h3, h2, h4⟩
        let css : List (List Value) := (List.range len).map fun i => (w.cells? 0 (a.add (i * P.cellsOf e)) (P.cellsOf e)).getD []
        have hcl : css.length = len := by simp [css]
        have hcss : ∀ i cs', css[i]? = some cs' → i < len ∧ w.cells? 0 (a.add (i * P.cellsOf e)) (P.cellsOf e) = some cs' := by
          intro i cs' hi
          have hlt : i < len := by rw [← hcl]; exact (List.getElem?_eq_some_iff.1 hi).1
          obtain ⟨cs2, y, k1, _⟩ := each i hlt
          have : css[i]? = some cs2 := by simp [css, hlt, k1]
          rw [this] at hi
          cases hi
          exact ⟨hlt, k1⟩
        obtain ⟨ρ1, σ1, ss, b, e1, i1, s1, r1, l1⟩ := imports_list (n := n) (e := e) (fun cs' y hy hs' => imports hT n e he cs' y hy hs') css elems (by omega)
          (fun i cs' y h1 h2 => by
            obtain ⟨h3, h4⟩ := hcss i cs' h1
            obtain ⟨cs2, y2, k1, k2, k3⟩ := each i h3
            rw [h4] at k1; cases k1
            rw [h2] at k2; cases k2
            exact k3) (fun _ _ _ _ => hpos) ρ σ hin
        have hfl : ∀ k, k ≤ len → ∀ j v, ((css.take k).flatten)[j]? = some v → w.cell? (a.add j) = some v := by
          intro k
          induction k with
          | zero => intro _ j v hv; simp at hv
          | succ k ihk =>
            intro hk j v hv
            have hck : css[k]? = some (css[k]'(by omega)) := List.getElem?_eq_getElem (by omega)
            obtain ⟨_, hcell⟩ := hcss k _ hck
            obtain ⟨_, hl2, hg⟩ := World.cells?_some hcell
            have hlk : ((css.take k).flatten).length = k * P.cellsOf e := by
              rw [flat_len (c := P.cellsOf e) (css.take k) (fun y hy => by
                obtain ⟨i, hi⟩ := List.getElem?_of_mem (List.mem_of_mem_take hy)
                exact (World.cells?_some (hcss i y hi).2).2.1), List.length_take]
              rw [Nat.min_eq_left (by omega)]
            rw [List.take_add_one, hck] at hv
            simp only [Option.toList_some, List.flatten_append, List.flatten_cons, List.flatten_nil, List.append_nil] at hv
            by_cases hj : j < k * P.cellsOf e
            · rw [List.getElem?_append_left (by omega)] at hv
              exact ihk (by omega) j v hv
            · rw [List.getElem?_append_right (by omega), hlk] at hv
              have hj2 : j - k * P.cellsOf e < P.cellsOf e := by
                have := (List.getElem?_eq_some_iff.1 hv).1
                omega
              have := hg (j - k * P.cellsOf e) hj2
              rw [hv] at this
              have ea : (a.add (k * P.cellsOf e)).add (j - k * P.cellsOf e) = a.add j := by
                unfold Addr.add
                by_cases z1 : k * P.cellsOf e = 0
                · rw [if_pos z1, z1]; simp
                · rw [if_neg z1]
                  by_cases z2 : j - k * P.cellsOf e = 0
                  · rw [if_pos z2, if_neg (by omega)]
                    have : j = k * P.cellsOf e := by omega
                    rw [this]
                  · rw [if_neg z2, if_neg (by omega)]
                    simp only [Addr.mk.injEq, true_and, and_true]
                    omega
              rw [ea] at this
              exact this
        have hflat : ∀ j v, css.flatten[j]? = some v → w.cell? (a.add j) = some v := by
          have := hfl len (Nat.le_refl _)
          rwa [List.take_of_length_le (by omega)] at this
        have hsl : ss.length = css.flatten.length := s1.length
        have hssl : ss.length = len * P.cellsOf e := by
          rw [hsl]
          rw [flat_len (c := P.cellsOf e) css (fun y hy => by
            obtain ⟨i, hi⟩ := List.getElem?_of_mem hy
            exact (World.cells?_some (hcss i y hi).2).2.1), hcl]
        rw [hcl] at r1
        by_cases hc0 : cap = 0
        · -- nothing there at all
          subst hc0
          obtain rfl : len = 0 := by omega
          have hss0 : ss = [] := List.eq_nil_of_length_eq_zero (by rw [hssl]; simp)
          subst hss0
          obtain ⟨ρ2, i2, e2, hB⟩ := i1.more ⟨0, 0, 0, 0⟩ [] [] .nil rfl (Nat.le_refl _) (fun j v hv => by simp at hv) hpos
          refine ⟨ρ2, _, [.slice σ1.size 0 (P.cellsOf e) 0 none], b + 1, e1.trans e2, i2, .cons (.slice0 hB rfl hc (.inl rfl)) .nil, .slice hu _ _ _ [] (by rw [AHeap.get_alloc, if_pos rfl]) (r1.mono e2.get), ?_⟩
          simp only [Rows.uptoBulk]; omega
        · have hsp : a.block < w.heap.size ∧ a.spot = none := by
            by_cases hl0 : len = 0
            · have h1 := hr 0 (by omega)
              have h2 : rest[0]? = some (rest[0]'(by omega)) := List.getElem?_eq_getElem (by omega)
              rw [h2, Option.bind_eq_some_iff] at h1
              obtain ⟨cs', h3, _⟩ := h1
              obtain ⟨_, h4, h5⟩ := World.cells?_some h3
              have h6 := h5 0 hc
              have h7 : cs'[0]? = some (cs'[0]'(by omega)) := List.getElem?_eq_getElem (by omega)
              rw [h7] at h6
              have : (a.add ((len + 0) * P.cellsOf e)).add 0 = a := by subst hl0; simp [Addr.add]
              rw [this] at h6
              exact heap_lt h6
            · obtain ⟨cs', y, h3, _⟩ := each 0 (by omega)
              obtain ⟨_, h4, h5⟩ := World.cells?_some h3
              have h6 := h5 0 hc
              have h7 : cs'[0]? = some (cs'[0]'(by omega)) := List.getElem?_eq_getElem (by omega)
              rw [h7] at h6
              have : (a.add (0 * P.cellsOf e)).add 0 = a := by simp [Addr.add]
              rw [this] at h6
              exact heap_lt h6
          obtain ⟨ab, ao, asp⟩ := a
          obtain ⟨hab, hasp⟩ := hsp
          simp only at hab hasp
          subst hasp
          have hle : len * P.cellsOf e ≤ cap * P.cellsOf e := Nat.mul_le_mul_right _ hl
          obtain ⟨ρ2, i2, e2, hB⟩ := i1.more ⟨ab, ao, ao + cap * P.cellsOf e, len * P.cellsOf e⟩ ss css.flatten s1 hssl (by simp only; omega)
            (fun j v hv => by rw [← addr_add]; exact hflat j v hv) hab
          refine ⟨ρ2, _, [.slice σ1.size 0 (P.cellsOf e) len none], b + 1, e1.trans e2, i2, .cons ?_ .nil, .slice hu _ _ _ ss (by rw [AHeap.get_alloc, if_pos rfl]) (r1.mono e2.get), ?_⟩
          · exact .slice (B := ⟨ab, ao, ao + cap * P.cellsOf e, len * P.cellsOf e⟩) hB hl (by simp only; omega) (by simp only; omega) hc (.inr ⟨rfl, by simp only; omega⟩)
          · simp only [Rows.uptoBulk]; omega
    · rename_i fs hu
      simp only [Bool.and_eq_true] at hp
      obtain ⟨xs, m, hm, rfl, hl, hxl, hx⟩ := DataW.trod_struct hu h
      obtain rfl : n = m := by omega
      have ho : offsOk P 0 fs.toList = some cs.length := by
        have := hp.1
        split at this
        · rename_i k hk
          rw [hk, hl, Nat.eq_of_beq_eq_true this]
        · cases this
      have hT2 : ∀ f ∈ fs.toList, f.type ∈ T := by
        intro f hf
        have := List.all_eq_true.1 hp.2 f hf
        simpa using this
      obtain ⟨ρ1, σ1, ss, b, e1, i1, s1, r1, l1⟩ := imports_fields (n := n) (T := T) (fun t' ht' cs' y hy hs' => imports hT n t' ht' cs' y hy hs') cs hs fs.toList xs 0 (by simpa using hxl.symm)
        (fun i f y h1 h2 => by rw [hx i f (by simpa using h1)]; exact h2) hT2 ho (Nat.zero_le _) ρ σ hin
      exact ⟨ρ1, σ1, ss, b + 1, e1, i1, by simpa using s1, .struct hu ss b r1, by simp only [Rows.uptoBulk]; omega⟩
    · rename_i k e hu
      simp only [Bool.and_eq_true] at hp
      have he : e ∈ T := by simpa using hp.1
      obtain ⟨xs, m, hm, rfl, hl, hxl, hx⟩ := DataW.trod_array hu h
      obtain rfl : n = m := by omega
      have hck : cs.length = k * P.cellsOf e := by rw [hl]; exact Nat.eq_of_beq_eq_true hp.2
      have hfl := pieces (P.cellsOf e) k cs hck
      obtain ⟨ρ1, σ1, ss, b, e1, i1, s1, r1, l1⟩ := imports_list (n := n) (e := e) (fun cs' y hy hs' => imports hT n e he cs' y hy hs') ((List.range k).map fun i => (cs.drop (i * P.cellsOf e)).take (P.cellsOf e)) xs (by simp [hxl])
        (fun i cs' y h1 h2 => by
          have hlt : i < k := by
            have := (List.getElem?_eq_some_iff.1 h1).1
            simpa using this
          have h3 := hx i hlt
          simp [hlt] at h1
          rw [← h1, h3]; exact h2) (by rw [hfl]; exact hs) ρ σ hin
      rw [hfl] at s1
      refine ⟨ρ1, σ1, ss, b + 1, e1, i1, s1, .array hu ss b (by simpa using r1), by simp only [Rows.uptoBulk]; omega⟩
    · cases hp

theorem shape_pos {r : Nat} {x : TypeId × Nat} (h : w.shape? r = some x) : 0 < w.heap.size := by
  unfold World.shape? at h
  split at h
  · rename_i hb
    have := (Array.getElem?_eq_some_iff.1 hb).1
    omega
  · cases h

theorem cellWide_pos {r : Reach} {base : Nat} {u : TypeId} {a : Addr} {l c : Nat} (h : Cell.okWide P w r base u (.slice (some a) l c)) : 0 < w.heap.size := by
  unfold Cell.okWide at h
  split at h <;> try (rename_i e1 e2; cases e2)
  unfold Cell.ok at h
  split at h
  all_goals first
    | exact h.elim
    | (rename_i e1 e2; cases e2; done)
    | (rename_i e1 e2; cases e2
       obtain ⟨_, _, _, _, row, cells, h4, _⟩ := h
       exact shape_pos h4)
    | (obtain ⟨_, _, _, _, row, cells, h4, _⟩ := h
       exact shape_pos h4)
    | trace_state

theorem some1_of_ok {r : Reach} {base : Nat} {t : TypeId} {v : Value} (h : Value.okWide P w r base t v) : Some1 w v.cells.toList := by
  intro a l c hm
  unfold Value.okWide at h
  split at h
  · obtain ⟨cs, rfl, _, ts, _, _, h3⟩ := h
    have hm : Value.slice (some a) l c ∈ cs.toList := hm
    obtain ⟨i, hi⟩ := List.getElem?_of_mem hm
    obtain ⟨u, _, h4⟩ := h3 i (.slice (some a) l c) (by simpa using hi)
    exact cellWide_pos h4
  · obtain ⟨cs, rfl, _, ts, _, _, h3⟩ := h
    have hm : Value.slice (some a) l c ∈ cs.toList := hm
    obtain ⟨i, hi⟩ := List.getElem?_of_mem hm
    obtain ⟨u, _, h4⟩ := h3 i (.slice (some a) l c) (by simpa using hi)
    exact cellWide_pos h4
  · cases v with
    | slice a' l' c' =>
      have hm : Value.slice (some a) l c ∈ [Value.slice a' l' c'] := hm
      simp at hm
      obtain ⟨rfl, rfl, rfl⟩ := hm
      exact cellWide_pos h
    | agg cs =>
      exfalso
      unfold Cell.okWide at h
      split at h <;> try (rename_i e1 e2; cases e2)
      unfold Cell.ok at h
      split at h <;> first | exact h | (rename_i e1 e2; cases e2)
    | _ =>
      have hm : Value.slice (some a) l c ∈ [_] := hm
      simp at hm

/-- The arguments. -/
inductive RdA (P : Program) (g : Nat → Option AObj) : List TypeId → List AV → Nat → Prop where
  | nil : RdA P g [] [] 0
  | one {t : TypeId} {ts : List TypeId} {s : SV} {l : List AV} {b bs : Nat} (ha : aggT P t = false) (h : Rd P g t [s] b) (k : RdA P g ts l bs) : RdA P g (t :: ts) (.one s :: l) (b + bs)
  | agg {t : TypeId} {ts : List TypeId} {ss : List SV} {l : List AV} {b bs : Nat} (ha : aggT P t = true) (h : Rd P g t ss b) (k : RdA P g ts l bs) : RdA P g (t :: ts) (.agg ss :: l) (b + bs)

theorem imports_args {T : List TypeId} (hT : plainTs P T = true) {base : Nat} : ∀ (ts : List TypeId) (vs : List Value) (ds : List (DataW H)) (ps : List MemPlace), (∀ t ∈ ts, t ∈ T) →
    DataW.TrodAll enc P w 0 (fun _ => true) true ts vs ds ps → (∀ (j : Nat) (t : TypeId) (v : Value), ts[j]? = some t → vs[j]? = some v → Value.okWide P w .any base t v) →
    ∀ ρ σ, In w ρ σ → ∃ ρ' σ' avs b, Ext ρ σ ρ' σ' ∧ In w ρ' σ' ∧ VRs ρ' avs vs ∧ RdA P σ'.get ts avs b ∧ b ≤ Rows.uptoBulkAll ds
  | [], [], [], ps, _, _, _, ρ, σ, hin => ⟨ρ, σ, [], 0, .refl ρ σ, hin, .nil, .nil, Nat.zero_le _⟩
  | t :: ts, v :: vs, d :: ds, ps, hts, h, hok, ρ, σ, hin => by
    obtain ⟨p, q, ⟨n, h1⟩, h2, _⟩ := h
    have ht : t ∈ T := hts t (by simp)
    have hv := hok 0 t v rfl rfl
    obtain ⟨ρ1, σ1, ss, b1, e1, i1, s1, r1, l1⟩ := imports hT n t ht v.cells.toList (d, p) h1 (some1_of_ok hv) ρ σ hin
    obtain ⟨ρ2, σ2, avs, b2, e2, i2, s2, r2, l2⟩ := imports_args hT ts vs ds q (fun t' ht' => hts t' (by simp [ht'])) h2 (fun j t' v' k1 k2 => hok (j + 1) t' v' (by simpa using k1) (by simpa using k2)) ρ1 σ1 i1
    have hbulk : b1 + b2 ≤ Rows.uptoBulkAll (d :: ds) := by
      simp only [Rows.uptoBulkAll]
      simp only at l1
      omega
    have hp : plainTy P T t = true := List.all_eq_true.1 hT t ht
    cases ha : aggT P t with
    | true =>
      have hagg : ∃ cs, v = .agg cs := by
        unfold aggT at ha
        unfold Value.okWide at hv
        split at ha
        · rename_i e; rw [e] at hv; obtain ⟨cs, rfl, _⟩ := hv; exact ⟨cs, rfl⟩
        · rename_i e; rw [e] at hv; obtain ⟨cs, rfl, _⟩ := hv; exact ⟨cs, rfl⟩
        · cases ha
      obtain ⟨cs, rfl⟩ := hagg
      have hs : SRs ρ2 ss cs.toList := s1.mono e2.le
      refine ⟨ρ2, σ2, .agg ss :: avs, b1 + b2, e1.trans e2, i2, .cons ?_ s2, .agg ha (r1.mono e2.get) r2, hbulk⟩
      have := VR.agg hs
      simpa using this
    | false =>
      have hone : v.cells = #[v] := by
        cases v with
        | agg cs =>
          exfalso
          unfold plainTy at hp
          unfold aggT at ha
          unfold Value.okWide at hv
          split at hp
          all_goals first
            | (cases hp; done)
            | (rename_i e; rw [e] at hv ha; first | (cases ha; done) | (simp only [Cell.okWide, e, Cell.ok] at hv; done))
        | _ => rfl
      rw [hone] at s1
      have hs : ∃ s, ss = [s] ∧ SR ρ1 s v := by
        cases s1 with
        | cons h1 h2 => cases h2; exact ⟨_, rfl, h1⟩
      obtain ⟨s, rfl, hs⟩ := hs
      exact ⟨ρ2, σ2, .one s :: avs, b1 + b2, e1.trans e2, i2, .cons (.one (hs.mono e2.le)) s2, .one ha (r1.mono e2.get) r2, hbulk⟩
  | [], [], _ :: _, _, _, h, _, _, _, _ => h.elim
  | [], _ :: _, _, _, _, h, _, _, _, _ => h.elim
  | _ :: _, [], _, _, _, h, _, _, _, _ => h.elim
  | _ :: _, _ :: _, [], _, _, h, _, _, _, _ => h.elim
end
end Go.Proofs.YtkolhfpofmpijaaDoor.Ab

/- From a run of the abstract machine over read arguments to what a row asks. -/
namespace Go.Proofs.YtkolhfpofmpijaaDoor.Ab
open Go Go.RowKit Go.ChangeShapes Go.WideShapes Go.ChangeAt
set_option linter.unusedSimpArgs false
set_option linter.unusedVariables false

theorem trodAll_length {P : Program} {H : Type} {enc : TypeId × Value → H} {w : World} {base : Nat} {spare : Nat → Bool} {held : Bool} : ∀ {ts : List TypeId} {vs : List Value} {ds : List (DataW H)} {ps : List MemPlace},
    DataW.TrodAll enc P w base spare held ts vs ds ps → ds.length = ts.length
  | [], [], [], _, _ => rfl
  | _ :: ts, _ :: vs, _ :: ds, _, h => by
    obtain ⟨_, _, _, h2, _⟩ := h
    simp [trodAll_length h2]
  | [], [], _ :: _, _, h => h.elim
  | [], _ :: _, _, _, h => h.elim
  | _ :: _, [], _, _, h => h.elim
  | _ :: _, _ :: _, [], _, h => h.elim

theorem law_contract (hgt : globTab = fun _ => none := by rfl) (hga : globAny = fun _ => none := by rfl) {P : Program} [IsProg P] {C : Ctx} (hC : C.Good P) {f : Nat} {fn : Func} {s : ChangeSpec} {T : List TypeId} {tb : TypeId} (hT : plainTs P T = true)
    (hpar : (fn.params.toList.all fun t => T.contains t && P.readableRec t && Nat.blt t P.types.size) = true) (hl : laidOutB P = true) (hbt : fn.resultTypes = #[tb]) (hb : P.underlying tb = some .bool) (hvars : s.vars = [])
    (hfn : ∀ (H : Type) (ds : List (DataW H)), ds.length = fn.params.size → s.fn H (ds ++ []) = { results := [.lit (.bool true)], args := ds })
    (run : ∀ σ avs b, RdA P σ.get fn.params.toList avs b → b ≤ 1048576 → ∃ n σ', evCall C n f avs σ = some (.one (.bool true), σ'))
    (H : Type) (enc : TypeId × Value → H) (W : World) (base : Nat) (args : Array Value) (ds gs : List (DataW H)) (before : List MemPlace)
    (hval : ∀ (j : Nat) t v, fn.params[j]? = some t → args[j]? = some v → Value.okWide P W .any base t v)
    (hW : DataW.Whole enc P fn.params.toList s.vars false W args.toList ds gs before) (hk : Rows.uptoBulkAll (ds ++ gs) ≤ 1048576) :
    Calls P f args W fun e W' => ∃ v, e = .returned v ∧ s.post enc P fn false true false false W args v W' := by
  have hW' := hW
  obtain ⟨p, q, hA, hV, rfl, hfz, hnd⟩ := hW
  have hgs : gs = [] := by
    rw [hvars] at hV
    cases gs with
    | nil => rfl
    | cons => exact hV.elim
  subst hgs
  have hq : q = [] := by
    rw [hvars] at hV
    exact hV
  subst hq
  rw [List.append_nil] at hk
  rw [List.all_eq_true] at hpar
  have hts : ∀ t ∈ fn.params.toList, t ∈ T := by
    intro t ht
    have := hpar t ht
    simp only [Bool.and_eq_true] at this
    simpa using this.1.1
  obtain ⟨ρ, σ, avs, b, _, hin, hvs, hrd, hle⟩ := imports_args (H := H) (enc := enc) (w := W) hT (base := base) fn.params.toList args.toList ds p hts hA
    (fun j t v h1 h2 => hval j t v (by simpa using h1) (by simpa using h2)) noLoc emptyH (In.empty W hgt hga)
  obtain ⟨n, σ', he⟩ := run σ avs b hrd (by omega)
  have hcalls := law_calls hC he hvs hin.hr hin.noOwn
  have hcalls : Calls P f args W fun e w' => e = .returned (.bool true) ∧ Below W.heap.size W w' := by simpa using hcalls
  refine hcalls.mono fun e W' ⟨he, hbel⟩ => ?_
  subst he
  refine ⟨_, rfl, law_post (tb := tb) hl ?_ hbt hb hvars hW' (hfn H ds ?_) hbel⟩
  · intro t ht
    have := hpar t ht
    simp only [Bool.and_eq_true] at this
    exact ⟨this.1.2, by simpa [Nat.blt_eq] using this.2⟩
  · have := trodAll_length hA
    simpa using this

/-! ### what is read, as lists -/
section
variable {P : Program} {g : Nat → Option AObj}

theorem rd_int {t : TypeId} {k : IntKind} (ht : P.underlying t = some (.int k)) {ss : List SV} {b : Nat} (h : Rd P g t ss b) : ∃ n, ss = [.int k n] ∧ (Lit.int k n).wf = true := by
  cases h with
  | int h1 n hn => rw [ht] at h1; cases h1; exact ⟨n, rfl, hn⟩
  | bool h1 => rw [ht] at h1; cases h1
  | str h1 => rw [ht] at h1; cases h1
  | nilSlice h1 => rw [ht] at h1; cases h1
  | slice h1 => rw [ht] at h1; cases h1
  | struct h1 => rw [ht] at h1; cases h1
  | array h1 => rw [ht] at h1; cases h1
theorem rd_bool {t : TypeId} (ht : P.underlying t = some .bool) {ss : List SV} {b : Nat} (h : Rd P g t ss b) : ∃ n, ss = [.bool n] := by
  cases h with
  | int h1 n hn => rw [ht] at h1; cases h1
  | bool h1 b => exact ⟨b, rfl⟩
  | str h1 => rw [ht] at h1; cases h1
  | nilSlice h1 => rw [ht] at h1; cases h1
  | slice h1 => rw [ht] at h1; cases h1
  | struct h1 => rw [ht] at h1; cases h1
  | array h1 => rw [ht] at h1; cases h1
theorem rd_str {t : TypeId} (ht : P.underlying t = some .string) {ss : List SV} {b : Nat} (h : Rd P g t ss b) : ∃ s, ss = [.str s] ∧ b = s.length + 1 := by
  cases h with
  | int h1 n hn => rw [ht] at h1; cases h1
  | bool h1 b => rw [ht] at h1; cases h1
  | str h1 s => exact ⟨s, rfl, rfl⟩
  | nilSlice h1 => rw [ht] at h1; cases h1
  | slice h1 => rw [ht] at h1; cases h1
  | struct h1 => rw [ht] at h1; cases h1
  | array h1 => rw [ht] at h1; cases h1
theorem rd_slice {t e : TypeId} (ht : P.underlying t = some (.slice e)) {ss : List SV} {b : Nat} (h : Rd P g t ss b) :
    (ss = [.nilSlice]) ∨ ∃ id len c cap cells, ss = [.slice id 0 (P.cellsOf e) len cap] ∧ b = c + 1 ∧ g id = some ⟨cells, .ro⟩ ∧ RdL P g e cells len c := by
  cases h with
  | int h1 n hn => rw [ht] at h1; cases h1
  | bool h1 b => rw [ht] at h1; cases h1
  | str h1 s => rw [ht] at h1; cases h1
  | nilSlice h1 => exact .inl rfl
  | slice h1 id len c cells h2 h3 => rw [ht] at h1; cases h1; exact .inr ⟨id, len, c, none, cells, rfl, rfl, h2, h3⟩
  | struct h1 => rw [ht] at h1; cases h1
  | array h1 => rw [ht] at h1; cases h1
theorem rd_sliceN {t e : TypeId} (ht : P.underlying t = some (.slice e)) {ss : List SV} {b : Nat} (h : Rd P g t ss b) :
    (ss = [.nilSlice]) ∨ ∃ id len c cells, ss = [.slice id 0 (P.cellsOf e) len none] ∧ b = c + 1 ∧ g id = some ⟨cells, .ro⟩ ∧ RdL P g e cells len c := by
  cases h with
  | int h1 n hn => rw [ht] at h1; cases h1
  | bool h1 b => rw [ht] at h1; cases h1
  | str h1 s => rw [ht] at h1; cases h1
  | nilSlice h1 => exact .inl rfl
  | slice h1 id len c cells h2 h3 => rw [ht] at h1; cases h1; exact .inr ⟨id, len, c, cells, rfl, rfl, h2, h3⟩
  | struct h1 => rw [ht] at h1; cases h1
  | array h1 => rw [ht] at h1; cases h1
theorem rd_struct {t : TypeId} {fs : Array Field} (ht : P.underlying t = some (.struct fs)) {ss : List SV} {b : Nat} (h : Rd P g t ss b) : ∃ c, b = c + 1 ∧ RdF P g (fs.toList.map (·.type)) ss c := by
  cases h with
  | int h1 n hn => rw [ht] at h1; cases h1
  | bool h1 b => rw [ht] at h1; cases h1
  | str h1 s => rw [ht] at h1; cases h1
  | nilSlice h1 => rw [ht] at h1; cases h1
  | slice h1 => rw [ht] at h1; cases h1
  | struct h1 _ c h2 => rw [ht] at h1; cases h1; exact ⟨c, rfl, h2⟩
  | array h1 => rw [ht] at h1; cases h1
theorem rd_array {t e : TypeId} {n : Nat} (ht : P.underlying t = some (.array n e)) {ss : List SV} {b : Nat} (h : Rd P g t ss b) : ∃ c, b = c + 1 ∧ RdL P g e ss n c := by
  cases h with
  | int h1 n hn => rw [ht] at h1; cases h1
  | bool h1 b => rw [ht] at h1; cases h1
  | str h1 s => rw [ht] at h1; cases h1
  | nilSlice h1 => rw [ht] at h1; cases h1
  | slice h1 => rw [ht] at h1; cases h1
  | struct h1 => rw [ht] at h1; cases h1
  | array h1 _ c h2 => rw [ht] at h1; cases h1; exact ⟨c, rfl, h2⟩
theorem rdF_nil {ss : List SV} {b : Nat} (h : RdF P g [] ss b) : ss = [] ∧ b = 0 := by cases h; exact ⟨rfl, rfl⟩
theorem rdF_cons {t : TypeId} {ts : List TypeId} {ss : List SV} {b : Nat} (h : RdF P g (t :: ts) ss b) : ∃ s1 s2 b1 b2, ss = s1 ++ s2 ∧ b = b1 + b2 ∧ Rd P g t s1 b1 ∧ RdF P g ts s2 b2 := by
  cases h with
  | cons h k => exact ⟨_, _, _, _, rfl, rfl, h, k⟩
theorem rdL_nil {e : TypeId} {ss : List SV} {b : Nat} (h : RdL P g e ss 0 b) : ss = [] ∧ b = 0 := by cases h; exact ⟨rfl, rfl⟩
theorem rdL_cons {e : TypeId} {n : Nat} {ss : List SV} {b : Nat} (h : RdL P g e ss (n + 1) b) : ∃ s1 s2 b1 b2, ss = s1 ++ s2 ∧ b = b1 + b2 ∧ Rd P g e s1 b1 ∧ RdL P g e s2 n b2 := by
  cases h with
  | cons h k => exact ⟨_, _, _, _, rfl, rfl, h, k⟩
theorem rdA_one {t : TypeId} (ha : aggT P t = false) {ts : List TypeId} {avs : List AV} {b : Nat} (h : RdA P g (t :: ts) avs b) : ∃ s l b1 b2, avs = .one s :: l ∧ b = b1 + b2 ∧ Rd P g t [s] b1 ∧ RdA P g ts l b2 := by
  cases h with
  | one _ h k => exact ⟨_, _, _, _, rfl, rfl, h, k⟩
  | agg h1 => rw [ha] at h1; cases h1
theorem rdA_agg {t : TypeId} (ha : aggT P t = true) {ts : List TypeId} {avs : List AV} {b : Nat} (h : RdA P g (t :: ts) avs b) : ∃ s l b1 b2, avs = .agg s :: l ∧ b = b1 + b2 ∧ Rd P g t s b1 ∧ RdA P g ts l b2 := by
  cases h with
  | one h1 => rw [ha] at h1; cases h1
  | agg _ h k => exact ⟨_, _, _, _, rfl, rfl, h, k⟩
theorem rdA_nil {avs : List AV} {b : Nat} (h : RdA P g [] avs b) : avs = [] := by cases h; rfl
theorem Rd.pos : ∀ {t : TypeId} {ss : List SV} {b : Nat}, Rd P g t ss b → 1 ≤ b
  | _, _, _, .bool _ _ => Nat.le_refl _
  | _, _, _, .int _ _ _ => Nat.le_refl _
  | _, _, _, .str _ _ => by omega
  | _, _, _, .nilSlice _ => Nat.le_refl _
  | _, _, _, .slice _ _ _ _ _ _ _ => by omega
  | _, _, _, .struct _ _ _ _ => by omega
  | _, _, _, .array _ _ _ _ => by omega
theorem RdL.le : ∀ {n : Nat} {t : TypeId} {ss : List SV} {b : Nat}, RdL P g t ss n b → n ≤ b
  | 0, _, _, _, _ => Nat.zero_le _
  | n + 1, _, _, _, h => by
    obtain ⟨s1, s2, b1, b2, rfl, rfl, h1, h2⟩ := rdL_cons h
    have := h1.pos
    have := RdL.le h2
    omega

/-- Ints, one behind the other. -/
theorem rdL_ints {e : TypeId} {k : IntKind} (he : P.underlying e = some (.int k)) : ∀ {n : Nat} {ss : List SV} {b : Nat}, RdL P g e ss n b → ∃ l : List Int, l.length = n ∧ ss = l.map (SV.int k) ∧ ∀ x ∈ l, (Lit.int k x).wf = true
  | 0, _, _, h => by
    obtain ⟨rfl, rfl⟩ := rdL_nil h
    exact ⟨[], rfl, rfl, fun x hx => by cases hx⟩
  | n + 1, _, _, h => by
    obtain ⟨s1, s2, b1, b2, rfl, rfl, h1, h2⟩ := rdL_cons h
    obtain ⟨x, rfl, hx⟩ := rd_int he h1
    obtain ⟨l, h3, rfl, h4⟩ := rdL_ints he h2
    exact ⟨x :: l, by simp [h3], rfl, fun y hy => by
      cases hy with
      | head => exact hx
      | tail _ hy => exact h4 y hy⟩
end

theorem wf64 {n : Int} (h : (Lit.int .i64 n).wf = true) : -9223372036854775808 ≤ n ∧ n ≤ 9223372036854775807 := by
  have e1 : IntKind.i64.min = -9223372036854775808 := by decide
  have e2 : IntKind.i64.max = 9223372036854775807 := by decide
  simpa [Lit.wf, e1, e2] using h

theorem rdList_one (md : Md) (hmd : md = .own ∨ md = .ro) : ∀ (l pre suf : List SV), rdList (some ⟨pre ++ l ++ suf, md⟩) none 1 pre.length l.length = some (l.map AV.one)
  | [], pre, suf => rfl
  | v :: l, pre, suf => by
    have ih := rdList_one md hmd l (pre ++ [v]) suf
    have e : pre ++ [v] ++ l ++ suf = pre ++ (v :: l) ++ suf := by simp
    rw [e] at ih
    simp only [List.length_append, List.length_cons, List.length_nil, Nat.zero_add] at ih
    simp only [List.length_cons, rdList, ih]
    have : rd (some ⟨pre ++ (v :: l) ++ suf, md⟩) none pre.length = some (.one v) := by
      rcases hmd with rfl | rfl <;> simp
    rw [this]
    rfl
end Go.Proofs.YtkolhfpofmpijaaDoor.Ab

/- Closed calls: what they answer, laid as one step. -/
namespace Go.Proofs.YtkolhfpofmpijaaDoor.Ab
open Go

/-- What a run without any memory does leaves all memory as it was. -/
theorem Post.ofEmpty {ρ ρ1 : Loc} {σ σ1 : AHeap} {w w1 : World} (hr : HR ρ σ.get w) (h : Post ρ.bare emptyH w ρ1 σ1 w1) : Post ρ σ w ρ σ w1 :=
  have fr : ∀ b, b < w.heap.size → w1.heap[b]? = w.heap[b]? := fun b hb => h.frame b hb (noOwnBare ρ b)
  { le := .refl ρ
    size := Nat.le_refl _
    new := fun id h1 h2 => by omega
    old := fun _ _ => rfl
    dom := fun id B hB => hr.lt hB
    same := fun _ _ _ => rfl
    md := fun id B o' h1 h2 h3 => ⟨o', h2, h3⟩
    md' := fun id B o h1 h2 h3 => ⟨o, h2, h3⟩
    hr := {
      dom := fun id B hB => by
        obtain ⟨o, h1, h2, h3⟩ := hr.dom id B hB
        exact ⟨o, h1, h2.of_heap (.refl ρ) (fr _ h3), Nat.lt_of_lt_of_le h3 h.hsize⟩
      excl := hr.excl
      frz := frz_stays hr (fun _ _ _ h => h) (fun b hb _ => fr b hb) (fun _ _ h => h)
      gl := hr.gl
      rows := rows_stays hr (fun b hb _ => fr b hb) }
    hsize := h.hsize
    frame := fun b hb _ => fr b hb
    fresh := fun id B h1 h2 => absurd (hr.lt h2) (by omega)
    fz := fun _ _ _ h => .inl h
    os := h.os
    tape := h.tape
    output := h.output }

def pBool (b : Bool) : Prim := fun args σ => match args with
  | [] => some (.one (.bool b), σ)
  | _ => none
theorem primOk_closed {P : Program} [IsProg P] {C : Ctx} (hC : C.Good P) {f n : Nat} (h : saysTrue (evCall C n f [] emptyH) = true) : PrimOk P f (pBool true) := by
  intro args σ v σ' hp
  unfold pBool at hp
  split at hp
  · cases hp
    obtain ⟨σ1, h1⟩ := saysTrue_spec h
    obtain ⟨h2, h3⟩ := sound hC n f [] emptyH _ σ1 h1
    refine ⟨h2, fun ρ w vs hv hr => ?_⟩
    cases hv
    refine (h3 ρ.bare w [] .nil hr.bare).mono ?_
    rintro e w' ⟨u, ρ', rfl, hpost, hu⟩
    refine ⟨u, ρ, rfl, hpost.ofEmpty hr, ?_⟩
    cases hu with
    | one hu => cases hu; exact .one (.bool _)
  · cases hp

end Go.Proofs.YtkolhfpofmpijaaDoor.Ab

/- Slices of rows of cells. -/
namespace Go.Proofs.YtkolhfpofmpijaaDoor.Ab
open Go
set_option linter.unusedSimpArgs false
set_option linter.unusedVariables false

def rowAt (rows : List (List SV)) (i : Nat) : List SV := rows.getD i []
def cellAt (r : List SV) (j : Nat) : SV := r.getD j (.bool false)
/-- A slice of rows of so many cells each. -/
def SlOf (σ : AHeap) (s : AV) (e : Nat) (rows : List (List SV)) : Prop :=
  rows.length ≤ maxElems ∧ (∀ r ∈ rows, r.length = e) ∧
    ((s = .one .nilSlice ∧ rows = []) ∨ ∃ id off cap md pre suf, s = .one (.slice id off e rows.length cap) ∧ (md = .own ∨ md = .ro) ∧ pre.length = off ∧ σ.get id = some ⟨pre ++ rows.flatten ++ suf, md⟩)

theorem SlOf.keeps {σ τ : AHeap} {s : AV} {e : Nat} {rows : List (List SV)} (h : SlOf σ s e rows) (hk : Keeps σ τ) : SlOf τ s e rows := by
  refine ⟨h.1, h.2.1, ?_⟩
  rcases h.2.2 with h | ⟨id, off, cap, md, pre, suf, h1, h2, h3, h4⟩
  · exact .inl h
  · exact .inr ⟨id, off, cap, md, pre, suf, h1, h2, h3, by rw [hk.2 id (AHeap.get_lt h4), h4]⟩
theorem SlOf.nil (σ : AHeap) (e : Nat) : SlOf σ (.one .nilSlice) e [] := ⟨Nat.zero_le _, (fun r hr => by cases hr), .inl ⟨rfl, rfl⟩⟩

theorem flatten_len {e : Nat} : ∀ {rows : List (List SV)}, (∀ r ∈ rows, r.length = e) → rows.flatten.length = rows.length * e
  | [], _ => by simp
  | r :: l, h => by
    have ih := flatten_len (e := e) (rows := l) (fun x hx => h x (by simp [hx]))
    simp only [List.flatten_cons, List.length_append, List.length_cons, h r (by simp), ih, Nat.succ_mul]
    omega
theorem flatten_drop {e : Nat} : ∀ {rows : List (List SV)} {i : Nat}, (∀ r ∈ rows, r.length = e) → rows.flatten.drop (i * e) = (rows.drop i).flatten
  | [], i, _ => by simp
  | r :: l, 0, _ => by simp
  | r :: l, i + 1, h => by
    have := flatten_drop (i := i) (fun x hx => h x (by simp [hx]) : ∀ x ∈ l, x.length = e)
    rw [List.flatten_cons, Nat.succ_mul, Nat.add_comm, ← List.drop_drop, List.drop_left' (h r (by simp))]
    simpa using this
theorem flatten_take {e : Nat} : ∀ {rows : List (List SV)} {i : Nat}, (∀ r ∈ rows, r.length = e) → rows.flatten.take (i * e) = (rows.take i).flatten
  | [], i, _ => by simp
  | r :: l, 0, _ => by simp
  | r :: l, i + 1, h => by
    have := flatten_take (i := i) (fun x hx => h x (by simp [hx]) : ∀ x ∈ l, x.length = e)
    rw [List.flatten_cons, Nat.succ_mul, Nat.add_comm, List.take_append]
    simp only [h r (by simp)]
    rw [show e + i * e - e = i * e by omega, this, List.take_of_length_le (by rw [h r (by simp)]; omega)]
    simp
theorem part_row {e : Nat} {rows : List (List SV)} (hr : ∀ r ∈ rows, r.length = e) {pre suf : List SV} {i : Nat} (hi : i < rows.length) : partA (pre ++ rows.flatten ++ suf) (some e) (pre.length + i * e) = some (.agg (rowAt rows i)) := by
  have hl := flatten_len hr
  have hm : rowAt rows i ∈ rows := by simp only [rowAt, List.getD, List.getElem?_eq_getElem hi, Option.getD_some]; exact List.getElem_mem hi
  have hle : (i + 1) * e ≤ rows.length * e := Nat.mul_le_mul_right e hi
  rw [Nat.succ_mul] at hle
  have h1 : pre.length + i * e + e ≤ (pre ++ rows.flatten ++ suf).length := by simp only [List.length_append, hl]; omega
  simp only [partA, ble_dec, h1, decide_true]
  rw [List.append_assoc, ← List.drop_drop, List.drop_left, List.drop_append_of_le_length (by rw [hl]; omega), flatten_drop hr, List.drop_eq_getElem_cons hi, List.flatten_cons, List.append_assoc]
  have h2 : rows[i] = rowAt rows i := by simp [rowAt, List.getD, hi]
  rw [h2, List.take_left' (hr _ hm)]
theorem part_cell {e : Nat} {rows : List (List SV)} (hr : ∀ r ∈ rows, r.length = e) {pre suf : List SV} {i j : Nat} (hi : i < rows.length) (hj : j < e) :
    partA (pre ++ rows.flatten ++ suf) none (pre.length + i * e + j) = some (.one (cellAt (rowAt rows i) j)) := by
  have h := part_row hr hi (pre := pre) (suf := suf)
  have hm : rowAt rows i ∈ rows := by simp only [rowAt, List.getD, List.getElem?_eq_getElem hi, Option.getD_some]; exact List.getElem_mem hi
  simp only [partA, ble_dec] at h ⊢
  split at h
  · rename_i hb
    have h3 : ((pre ++ rows.flatten ++ suf).drop (pre.length + i * e)).take e = rowAt rows i := by simpa using h
    have h4 : (pre ++ rows.flatten ++ suf)[pre.length + i * e + j]? = (rowAt rows i)[j]? := by
      rw [← h3, List.getElem?_take, if_pos hj, List.getElem?_drop]
    rw [h4]
    have : j < (rowAt rows i).length := by rw [hr _ hm]; exact hj
    simp [cellAt, List.getD, this]
  · cases h
/-- What a load reads: a whole row, or one of its cells. -/
theorem SlOf.rd {σ : AHeap} {s : AV} {e : Nat} {rows : List (List SV)} (h : SlOf σ s e rows) : (s = .one .nilSlice ∧ rows = []) ∨ ∃ id off cap, s = .one (.slice id off e rows.length cap) ∧ id < σ.size ∧ rows.length ≤ maxElems ∧
    ∀ i, i < rows.length → rd (σ.get id) (some e) (off + i * e) = some (.agg (rowAt rows i)) ∧ ∀ j, j < e → rd (σ.get id) none (off + i * e + j) = some (.one (cellAt (rowAt rows i) j)) := by
  rcases h.2.2 with h' | ⟨id, off, cap, md, pre, suf, h1, h2, h3, h4⟩
  · exact .inl h'
  · refine .inr ⟨id, off, cap, h1, AHeap.get_lt h4, h.1, fun i hi => ?_⟩
    subst h3
    rw [h4]
    rcases h2 with rfl | rfl
    · exact ⟨part_row h.2.1 hi, fun j hj => part_cell h.2.1 hi hj⟩
    · exact ⟨part_row h.2.1 hi, fun j hj => part_cell h.2.1 hi hj⟩
/-- A part of a slice. -/
theorem SlOf.sub {σ : AHeap} {id off e n : Nat} {cap : Option Nat} {rows : List (List SV)} (h : SlOf σ (.one (.slice id off e n cap)) e rows) {l k : Nat} (hl : l + k ≤ n) (cap' : Option Nat) :
    SlOf σ (.one (.slice id (off + l * e) e k cap')) e ((rows.drop l).take k) := by
  rcases h.2.2 with ⟨h', _⟩ | ⟨id', off', cap2, md, pre, suf, h1, h2, h3, h4⟩
  · cases h'
  · cases h1
    have hlen : ((rows.drop l).take k).length = k := by rw [List.length_take, List.length_drop]; omega
    refine ⟨by rw [hlen]; have := h.1; omega, fun r hr => h.2.1 r (List.mem_of_mem_drop (List.mem_of_mem_take hr)), .inr ⟨id, off + l * e, cap', md, pre ++ (rows.take l).flatten, ((rows.drop l).drop k).flatten ++ suf, by rw [hlen], h2, ?_, ?_⟩⟩
    · rw [List.length_append, h3, flatten_len (e := e) (fun r hr => h.2.1 r (List.mem_of_mem_take hr)), List.length_take, Nat.min_eq_left (by omega)]
    · rw [h4]
      have e1 : rows.flatten = (rows.take l).flatten ++ (((rows.drop l).take k).flatten ++ ((rows.drop l).drop k).flatten) := by
        rw [← List.flatten_append, List.take_append_drop, ← List.flatten_append, List.take_append_drop]
      rw [e1]
      simp only [List.append_assoc]
/-- An empty part. -/
theorem SlOf.empty {σ : AHeap} {id off e n : Nat} {cap : Option Nat} {rows : List (List SV)} (h : SlOf σ (.one (.slice id off e n cap)) e rows) (cap' : Option Nat) : SlOf σ (.one (.slice id off e 0 cap')) e [] := by
  have := h.sub (l := 0) (k := 0) (by omega) cap'
  simpa using this
theorem SlOf.of_out {b : Nat} {τ : AHeap} {s : AV} {e : Nat} {rows : List (List SV)} (h : OutSl b τ e s rows.flatten rows.length) (hr : ∀ r ∈ rows, r.length = e) (hm : rows.length ≤ maxElems) : SlOf τ s e rows := by
  refine ⟨hm, hr, ?_⟩
  rcases h.2 with ⟨rfl, h0⟩ | ⟨q, rfl, _, _, hg⟩
  · exact .inl ⟨rfl, List.length_eq_zero_iff.1 h0⟩
  · exact .inr ⟨q, 0, none, .own, [], [], rfl, .inl rfl, rfl, by simpa using hg⟩
/-- A slice's form: nil or not, and how many. -/
def lenA (s : AV) (e n : Nat) : Prop := (s = .one .nilSlice ∧ n = 0) ∨ ∃ id off cap, s = .one (.slice id off e n cap)
theorem SlOf.lenA {σ : AHeap} {s : AV} {e : Nat} {rows : List (List SV)} (h : SlOf σ s e rows) : lenA s e rows.length := by
  rcases h.2.2 with ⟨h, h0⟩ | ⟨id, off, cap, _, _, _, h, _⟩
  · exact .inl ⟨h, by rw [h0]; rfl⟩
  · exact .inr ⟨id, off, cap, h⟩

/-! ### what was read -/
section
variable {P : Program} {g : Nat → Option AObj}
theorem rdL_rows {e : TypeId} : ∀ {n : Nat} {ss : List SV} {b : Nat}, RdL P g e ss n b → ∃ rows : List (List SV), ss = rows.flatten ∧ rows.length = n ∧ ∀ r ∈ rows, ∃ b', b' ≤ b ∧ Rd P g e r b'
  | 0, _, _, h => by
    obtain ⟨rfl, rfl⟩ := rdL_nil h
    exact ⟨[], rfl, rfl, fun r hr => by cases hr⟩
  | n + 1, _, _, h => by
    obtain ⟨s1, s2, b1, b2, rfl, rfl, h1, h2⟩ := rdL_cons h
    obtain ⟨rows, rfl, h3, h4⟩ := rdL_rows h2
    refine ⟨s1 :: rows, rfl, by simp [h3], fun r hr => ?_⟩
    cases hr with
    | head => exact ⟨b1, by omega, h1⟩
    | tail _ hr => obtain ⟨b', k1, k2⟩ := h4 r hr; exact ⟨b', by omega, k2⟩
end
/-- A slice that was read: its rows, each read by its type. -/
theorem rd_rows {P : Program} {σ : AHeap} {tl t : TypeId} (htl : P.underlying tl = some (.slice t)) {k : Nat} (hc : P.cellsOf t = k) (hlen : ∀ r b, Rd P σ.get t r b → r.length = k) {s : SV} {b : Nat} (h : Rd P σ.get tl [s] b) (hb : b ≤ 1048576) :
    ∃ rows, SlOf σ (.one s) k rows ∧ rows.length ≤ b ∧ ∀ r ∈ rows, ∃ b', b' ≤ b ∧ Rd P σ.get t r b' := by
  rcases rd_slice htl h with h3 | ⟨id, len, c, cap, cells, h3, rfl, hg, hl⟩
  · cases h3
    exact ⟨[], SlOf.nil _ _, Nat.zero_le _, fun r hr => by cases hr⟩
  · cases h3
    have hle := hl.le
    obtain ⟨rows, rfl, rfl, h5⟩ := rdL_rows hl
    rw [hc]
    refine ⟨rows, ⟨by unfold maxElems; omega, fun r hr => ?_, .inr ⟨id, 0, cap, .ro, [], [], rfl, .inr rfl, rfl, by simpa using hg⟩⟩, by omega, fun r hr => ?_⟩
    · obtain ⟨b', _, h6⟩ := h5 r hr; exact hlen r b' h6
    · obtain ⟨b', h6, h7⟩ := h5 r hr; exact ⟨b', by omega, h7⟩
end Go.Proofs.YtkolhfpofmpijaaDoor.Ab

/- Runs without a bound: the abstract machine's calls and loops, as far as they end at all. -/
namespace Go.Proofs.YtkolhfpofmpijaaDoor.Ab
open Go
set_option linter.unusedSimpArgs false
set_option linter.unusedVariables false

/-! ### more fuel -/
def CLe (c1 c2 : CallF) : Prop := ∀ f args σ r, c1 f args σ = some r → c2 f args σ = some r

section
variable {c1 c2 : CallF}

theorem evStep_le (h : CLe c1 c2) {fr : List AV} {σ : AHeap} {o : AOp} {r : AV × AHeap} (he : evStep c1 fr σ o = some r) : evStep c2 fr σ o = some r := by
  cases o
  case call f args =>
    simp only [evStep] at he ⊢
    split at he
    · exact h _ _ _ _ he
    · exact h _ _ _ _ he
    · cases he
  case invoke tab r args =>
    simp only [evStep] at he ⊢
    split at he
    · exact h _ _ _ _ he
    · cases he
  all_goals exact he

theorem evOper_le (h : CLe c1 c2) {fr : List AV} {σ : AHeap} {o : AOper} {r : List AV × AHeap} (he : evOper c1 fr σ o = some r) : evOper c2 fr σ o = some r := by
  unfold evOper at he ⊢
  split at he
  · split at he
    · rename_i v σ' h1
      rw [evStep_le h h1]
      exact he
    · cases he
  · exact he

theorem evOps_le (h : CLe c1 c2) : ∀ {l : List AOper} {fr : List AV} {σ : AHeap} {r : List AV × AHeap}, evOps c1 l fr σ = some r → evOps c2 l fr σ = some r
  | [], _, _, _, he => he
  | o :: l, fr, σ, r, he => by
    simp only [evOps] at he ⊢
    split at he
    · rename_i fr' σ' h1
      rw [evOper_le h h1]
      exact evOps_le h he
    · cases he

theorem evTr_le (h : CLe c1 c2) : ∀ {l : List AOper} {fr : List AV} {σ : AHeap} {r : List (List AV × AHeap) × List AV × AHeap}, evTr c1 l fr σ = some r → evTr c2 l fr σ = some r
  | [], _, _, _, he => he
  | o :: l, fr, σ, r, he => by
    simp only [evTr] at he ⊢
    split at he
    · rename_i fr' σ' h1
      rw [evOper_le h h1]
      simp only
      split at he
      · rename_i t fr2 σ2 h2
        rw [evTr_le h h2]
        exact he
      · cases he
    · cases he

theorem evDraw_le (h : CLe c1 c2) {l : List AOper} {ps : List (Nat × Nat)} {fr : List AV} {σ : AHeap} {r : List AV × AHeap} (he : evDraw c1 l ps fr σ = some r) : evDraw c2 l ps fr σ = some r := by
  unfold evDraw at he ⊢
  split at he
  · rename_i tt fr' σ' h1
    rw [evTr_le h h1]
    exact he
  · cases he

theorem evLoop_le {b1 b2 : List AV → AHeap → Out} (hb : ∀ fr σ r, b1 fr σ = some r → b2 fr σ = some r) : ∀ {k k' : Nat} {fr : List AV} {σ : AHeap} {r : AX × List AV × AHeap}, k ≤ k' → evLoop b1 k fr σ = some r → evLoop b2 k' fr σ = some r
  | 0, _, _, _, _, _, he => by cases he
  | k + 1, 0, _, _, _, hk, _ => by omega
  | k + 1, k' + 1, fr, σ, r, hk, he => by
    simp only [evLoop] at he ⊢
    split at he
    · rename_i fr' σ' h1
      rw [hb _ _ _ h1]
      exact evLoop_le hb (by omega) he
    · rename_i h1
      have := hb _ _ _ he
      rw [this]
      obtain ⟨x, f, s⟩ := r
      cases x with
      | normal => exact absurd he (h1 _ _)
      | exit i => rfl
      | ret => rfl

theorem evCode_le (h : CLe c1 c2) {m m' : Nat} (hm : m ≤ m') : ∀ (c : ACode) {fr : List AV} {σ : AHeap} {r : AX × List AV × AHeap}, evCode c1 m c fr σ = some r → evCode c2 m' c fr σ = some r := by
  intro c
  induction c with
  | skip => intro fr σ r he; simpa only [evCode] using he
  | region ops =>
    intro fr σ r he
    simp only [evCode] at he ⊢
    split at he
    · rename_i h1
      rw [evOps_le h h1]
      exact he
    · cases he
  | draw ops ps =>
    intro fr σ r he
    simp only [evCode] at he ⊢
    split at he
    · rename_i h1
      rw [evDraw_le h h1]
      exact he
    · cases he
  | seq a b iha ihb =>
    intro fr σ r he
    simp only [evCode] at he ⊢
    split at he
    · rename_i h1
      rw [iha h1]
      exact ihb he
    · rename_i h1
      rw [iha he]
      obtain ⟨x, f, s⟩ := r
      cases x with
      | normal => exact absurd he (h1 _ _)
      | exit i => rfl
      | ret => rfl
  | cond c a b iha ihb =>
    intro fr σ r he
    simp only [evCode] at he ⊢
    split at he
    · exact iha he
    · exact ihb he
    · cases he
  | block id a iha =>
    intro fr σ r he
    simp only [evCode] at he ⊢
    split at he
    · rename_i h1
      rw [iha h1]
      exact he
    · rename_i h1
      rw [iha he]
      obtain ⟨x, f, s⟩ := r
      cases x with
      | normal => rfl
      | exit i => exact absurd he (h1 _ _ _)
      | ret => rfl
  | loop a iha =>
    intro fr σ r he
    simp only [evCode] at he ⊢
    exact evLoop_le (fun fr σ r => iha) hm he
  | exit id => intro fr σ r he; simpa only [evCode] using he
  | ret => intro fr σ r he; simpa only [evCode] using he
  | bad => intro fr σ r he; cases he
end

theorem evCall_succ (C : Ctx) : ∀ n, CLe (evCall C n) (evCall C (n + 1))
  | 0 => fun f args σ r h => by cases h
  | n + 1 => fun f args σ r h => by
    have ih := evCall_succ C n
    rw [evCall] at h ⊢
    split at h
    · exact h
    · split at h
      · cases h
      · rename_i F hF
        split at h
        · rename_i args' σ0 hin
          unfold afterB at h ⊢
          split at h
          · rename_i h1
            rw [evCode_le ih (Nat.le_succ n) _ h1]
            exact h
          · rename_i h1
            rw [evCode_le ih (Nat.le_succ n) _ h1]
            exact h
          · cases h
        · cases h

theorem evCall_le (C : Ctx) {n m : Nat} (h : n ≤ m) : CLe (evCall C n) (evCall C m) := by
  induction h with
  | refl => exact fun _ _ _ _ h => h
  | step _ ih => exact fun f args σ r h => evCall_succ C _ f args σ r (ih f args σ r h)

/-! ### as far as they end at all -/
open Classical in
noncomputable def lim (C : Ctx) : CallF := fun f args σ => if h : ∃ r n, evCall C n f args σ = some r then some (Classical.choose h) else none

theorem lim_iff {C : Ctx} {f : Nat} {args : List AV} {σ : AHeap} {r : AV × AHeap} : lim C f args σ = some r ↔ ∃ n, evCall C n f args σ = some r := by
  unfold lim
  constructor
  · intro h
    split at h
    · rename_i hx
      cases h
      exact Classical.choose_spec hx
    · cases h
  · rintro ⟨n, h⟩
    have hx : ∃ r n, evCall C n f args σ = some r := ⟨r, n, h⟩
    rw [dif_pos hx]
    obtain ⟨m, hm⟩ := Classical.choose_spec hx
    have h1 := evCall_le C (Nat.le_max_left n m) _ _ _ _ h
    have h2 := evCall_le C (Nat.le_max_right n m) _ _ _ _ hm
    rw [h1] at h2
    exact h2.symm

theorem lim_of {C : Ctx} {n f : Nat} {args : List AV} {σ : AHeap} {r : AV × AHeap} (h : evCall C n f args σ = some r) : lim C f args σ = some r := lim_iff.2 ⟨n, h⟩

theorem lim_optP {C : Ctx} {n f : Nat} {args : List AV} {σ : AHeap} {K : Tok → AV → AHeap → Prop} (h : OptP (evCall C n f args σ) K) : OptP (lim C f args σ) K := by
  obtain ⟨v, τ, h1, h2⟩ := h
  exact ⟨v, τ, lim_of h1, h2⟩

open Classical in
noncomputable def evLoopI (body : List AV → AHeap → Out) (fr : List AV) (σ : AHeap) : Out := if h : ∃ r k, evLoop body k fr σ = some r then some (Classical.choose h) else none

theorem loopI_iff {body : List AV → AHeap → Out} {fr : List AV} {σ : AHeap} {r : AX × List AV × AHeap} : evLoopI body fr σ = some r ↔ ∃ k, evLoop body k fr σ = some r := by
  unfold evLoopI
  constructor
  · intro h
    split at h
    · rename_i hx
      cases h
      exact Classical.choose_spec hx
    · cases h
  · rintro ⟨n, h⟩
    have hx : ∃ r n, evLoop body n fr σ = some r := ⟨r, n, h⟩
    rw [dif_pos hx]
    obtain ⟨m, hm⟩ := Classical.choose_spec hx
    have h1 := evLoop_le (fun _ _ _ h => h) (Nat.le_max_left n m) h
    have h2 := evLoop_le (fun _ _ _ h => h) (Nat.le_max_right n m) hm
    rw [h1] at h2
    exact h2.symm

noncomputable def evCodeI (call : CallF) : ACode → List AV → AHeap → Out
  | .skip, fr, σ => some (.normal, fr, σ)
  | .region ops, fr, σ => match evOps call ops fr σ with
    | some (fr', σ') => some (.normal, fr', σ')
    | none => none
  | .draw ops pairs, fr, σ => match evDraw call ops pairs fr σ with
    | some (fr', σ') => some (.normal, fr', σ')
    | none => none
  | .seq a b, fr, σ => match evCodeI call a fr σ with
    | some (.normal, fr', σ') => evCodeI call b fr' σ'
    | r => r
  | .cond c a b, fr, σ => match ev fr c with
    | .one (.bool true) => evCodeI call a fr σ
    | .one (.bool false) => evCodeI call b fr σ
    | _ => none
  | .block id a, fr, σ => match evCodeI call a fr σ with
    | some (.exit id', fr', σ') => match Nat.beq id' id with
      | true => some (.normal, fr', σ')
      | false => some (.exit id', fr', σ')
    | r => r
  | .loop a, fr, σ => evLoopI (evCodeI call a) fr σ
  | .exit id, fr, σ => some (.exit id, fr, σ)
  | .ret, fr, σ => some (.ret, fr, σ)
  | .bad, _, _ => none

/-! ### what ends has a bound -/
section
variable {C : Ctx}

theorem oper_fin {fr : List AV} {σ : AHeap} {o : AOper} {r : List AV × AHeap} (he : evOper (lim C) fr σ o = some r) : ∃ n, evOper (evCall C n) fr σ o = some r := by
  have step : ∀ {v : AV × AHeap}, evStep (lim C) fr σ o.op = some v → ∃ n, evStep (evCall C n) fr σ o.op = some v := by
    intro v h
    cases hop : o.op
    case call f args =>
      rw [hop] at h
      simp only [evStep] at h ⊢
      split at h
      · obtain ⟨n, h⟩ := lim_iff.1 h
        exact ⟨n, h⟩
      · obtain ⟨n, h⟩ := lim_iff.1 h
        exact ⟨n, h⟩
      · cases h
    case invoke tab r args =>
      rw [hop] at h
      simp only [evStep] at h ⊢
      split at h
      · obtain ⟨n, h⟩ := lim_iff.1 h
        exact ⟨n, h⟩
      · cases h
    all_goals
      rw [hop] at h
      exact ⟨0, h⟩
  unfold evOper at he ⊢
  split at he
  · split at he
    · rename_i v σ' h1
      obtain ⟨n, h2⟩ := step h1
      exact ⟨n, by rw [h2]; exact he⟩
    · cases he
  · exact ⟨0, he⟩

theorem ops_fin : ∀ {l : List AOper} {fr : List AV} {σ : AHeap} {r : List AV × AHeap}, evOps (lim C) l fr σ = some r → ∃ n, evOps (evCall C n) l fr σ = some r
  | [], _, _, _, he => ⟨0, he⟩
  | o :: l, fr, σ, r, he => by
    simp only [evOps] at he ⊢
    split at he
    · rename_i fr' σ' h1
      obtain ⟨n1, k1⟩ := oper_fin h1
      obtain ⟨n2, k2⟩ := ops_fin he
      refine ⟨max n1 n2, ?_⟩
      rw [evOper_le (evCall_le C (Nat.le_max_left n1 n2)) k1]
      exact evOps_le (evCall_le C (Nat.le_max_right n1 n2)) k2
    · cases he

theorem tr_fin : ∀ {l : List AOper} {fr : List AV} {σ : AHeap} {r : List (List AV × AHeap) × List AV × AHeap}, evTr (lim C) l fr σ = some r → ∃ n, evTr (evCall C n) l fr σ = some r
  | [], _, _, _, he => ⟨0, he⟩
  | o :: l, fr, σ, r, he => by
    simp only [evTr] at he ⊢
    split at he
    · rename_i fr' σ' h1
      split at he
      · rename_i t fr2 σ2 h2
        obtain ⟨n1, k1⟩ := oper_fin h1
        obtain ⟨n2, k2⟩ := tr_fin h2
        refine ⟨max n1 n2, ?_⟩
        rw [evOper_le (evCall_le C (Nat.le_max_left n1 n2)) k1]
        simp only
        rw [evTr_le (evCall_le C (Nat.le_max_right n1 n2)) k2]
        exact he
      · cases he
    · cases he

theorem code_fin : ∀ (c : ACode) {fr : List AV} {σ : AHeap} {r : AX × List AV × AHeap}, evCodeI (lim C) c fr σ = some r → ∃ n, evCode (evCall C n) n c fr σ = some r := by
  intro c
  induction c with
  | skip => intro fr σ r he; exact ⟨0, by simpa only [evCode, evCodeI] using he⟩
  | region ops =>
    intro fr σ r he
    simp only [evCodeI] at he
    split at he
    · rename_i h1
      obtain ⟨n, h2⟩ := ops_fin h1
      exact ⟨n, by simp only [evCode]; rw [h2]; exact he⟩
    · cases he
  | draw ops ps =>
    intro fr σ r he
    simp only [evCodeI] at he
    split at he
    · rename_i h1
      unfold evDraw at h1
      split at h1
      · rename_i h2
        obtain ⟨n, h3⟩ := tr_fin h2
        exact ⟨n, by simp only [evCode, evDraw]; rw [h3]; simp only; rw [h1]; exact he⟩
      · cases h1
    · cases he
  | seq a b iha ihb =>
    intro fr σ r he
    simp only [evCodeI] at he
    split at he
    · rename_i h1
      obtain ⟨n1, k1⟩ := iha h1
      obtain ⟨n2, k2⟩ := ihb he
      refine ⟨max n1 n2, ?_⟩
      simp only [evCode]
      rw [evCode_le (evCall_le C (Nat.le_max_left n1 n2)) (Nat.le_max_left n1 n2) _ k1]
      exact evCode_le (evCall_le C (Nat.le_max_right n1 n2)) (Nat.le_max_right n1 n2) _ k2
    · rename_i h1
      obtain ⟨n, k⟩ := iha he
      refine ⟨n, ?_⟩
      simp only [evCode]
      rw [k]
      obtain ⟨x, f, s⟩ := r
      cases x with
      | normal => exact absurd he (h1 _ _)
      | exit i => rfl
      | ret => rfl
  | cond c a b iha ihb =>
    intro fr σ r he
    simp only [evCodeI] at he
    split at he
    · rename_i hc
      obtain ⟨n, h⟩ := iha he
      exact ⟨n, by simp only [evCode, hc]; exact h⟩
    · rename_i hc
      obtain ⟨n, h⟩ := ihb he
      exact ⟨n, by simp only [evCode, hc]; exact h⟩
    · cases he
  | block id a iha =>
    intro fr σ r he
    simp only [evCodeI] at he
    split at he
    · rename_i h1
      obtain ⟨n, h⟩ := iha h1
      exact ⟨n, by simp only [evCode]; rw [h]; exact he⟩
    · rename_i h1
      obtain ⟨n, h⟩ := iha he
      refine ⟨n, ?_⟩
      simp only [evCode]
      rw [h]
      obtain ⟨x, f, s⟩ := r
      cases x with
      | normal => rfl
      | exit i => exact absurd he (h1 _ _ _)
      | ret => rfl
  | loop a iha =>
    intro fr σ r he
    simp only [evCodeI] at he
    obtain ⟨k, hk⟩ := loopI_iff.1 he
    have key : ∀ (k : Nat) (fr : List AV) (σ : AHeap), evLoop (evCodeI (lim C) a) k fr σ = some r → ∃ n, ∀ m, n ≤ m → evLoop (evCode (evCall C m) m a) m fr σ = some r := by
      intro k
      induction k with
      | zero => intro fr σ h; cases h
      | succ k ih =>
        intro fr σ h
        simp only [evLoop] at h
        split at h
        · rename_i fr' σ' h1
          obtain ⟨n1, k1⟩ := iha h1
          obtain ⟨n2, k2⟩ := ih fr' σ' h
          refine ⟨max n1 n2 + 1, fun m hm => ?_⟩
          obtain ⟨m, rfl⟩ : ∃ q, m = q + 1 := ⟨m - 1, by omega⟩
          simp only [evLoop]
          rw [evCode_le (evCall_le C (by omega : n1 ≤ m + 1)) (by omega : n1 ≤ m + 1) _ k1]
          have := k2 m (by omega)
          exact evLoop_le (fun fr σ r h => evCode_le (evCall_le C (Nat.le_succ m)) (Nat.le_succ m) _ h) (Nat.le_refl m) this
        · rename_i h1
          obtain ⟨n1, k1⟩ := iha h
          refine ⟨n1 + 1, fun m hm => ?_⟩
          obtain ⟨m, rfl⟩ : ∃ q, m = q + 1 := ⟨m - 1, by omega⟩
          simp only [evLoop]
          rw [evCode_le (evCall_le C (by omega : n1 ≤ m + 1)) (by omega : n1 ≤ m + 1) _ k1]
          obtain ⟨x, f, s⟩ := r
          cases x with
          | normal => exact absurd h (h1 _ _)
          | exit i => rfl
          | ret => rfl
    obtain ⟨n, hn⟩ := key k fr σ hk
    exact ⟨n, by simp only [evCode]; exact hn n (Nat.le_refl n)⟩
  | exit id => intro fr σ r he; exact ⟨0, by simpa only [evCode, evCodeI] using he⟩
  | ret => intro fr σ r he; exact ⟨0, by simpa only [evCode, evCodeI] using he⟩
  | bad => intro fr σ r he; cases he
end

/-! ### the rules -/
def EndsI (_ : Tok) (call : CallF) (c : ACode) (fr : List AV) (σ : AHeap) (N : KN) (E : KE) (R : KN) : Prop :=
  Ends (evCodeI call c fr σ) N E R

section
variable {call : CallF} {N : KN} {E : KE} {R : KN} {fr : List AV} {σ : AHeap}

theorem endsi_skip : EndsI .go call .skip fr σ N E R = N .go fr σ  := by
  unfold EndsI
  apply propext; constructor
  · rintro ⟨x, a, b, h, k⟩
    simp only [evCodeI, Option.some.injEq, Prod.mk.injEq] at h
    obtain ⟨rfl, rfl, rfl⟩ := h
    exact k
  · intro k; exact ⟨.normal, fr, σ, by simp only [evCodeI], k⟩

theorem endsi_ret : EndsI .go call .ret fr σ N E R = R .go fr σ  := by
  unfold EndsI
  apply propext; constructor
  · rintro ⟨x, a, b, h, k⟩
    simp only [evCodeI, Option.some.injEq, Prod.mk.injEq] at h
    obtain ⟨rfl, rfl, rfl⟩ := h
    exact k
  · intro k; exact ⟨.ret, fr, σ, by simp only [evCodeI], k⟩

theorem endsi_exit {i : Nat} : EndsI .go call (.exit i) fr σ N E R = E i .go fr σ  := by
  unfold EndsI
  apply propext; constructor
  · rintro ⟨x, a, b, h, k⟩
    simp only [evCodeI, Option.some.injEq, Prod.mk.injEq] at h
    obtain ⟨rfl, rfl, rfl⟩ := h
    exact k
  · intro k; exact ⟨.exit i, fr, σ, by simp only [evCodeI], k⟩

theorem endsi_seq {a b : ACode} : EndsI .go call (.seq a b) fr σ N E R = EndsI .go call a fr σ (fun t fr σ => EndsI t call b fr σ N E R) E R  := by
  unfold EndsI
  apply propext; constructor
  · rintro ⟨x, u, v, h, k⟩
    simp only [evCodeI] at h
    split at h
    · rename_i fr' σ' ha
      exact ⟨.normal, _, _, ha, x, u, v, h, k⟩
    · rename_i r hr
      refine ⟨x, u, v, h, ?_⟩
      cases x with
      | normal => exact absurd h (hr _ _)
      | exit i => exact k
      | ret => exact k
  · rintro ⟨x, u, v, h, k⟩
    cases x with
    | normal =>
      obtain ⟨y, u', v', h', k'⟩ := k
      exact ⟨y, u', v', by simp only [evCodeI, h]; exact h', k'⟩
    | exit i => exact ⟨.exit i, u, v, by simp only [evCodeI, h], k⟩
    | ret => exact ⟨.ret, u, v, by simp only [evCodeI, h], k⟩

theorem endsi_cond {c : AOpd} {a b : ACode} : EndsI .go call (.cond c a b) fr σ N E R = condP (ev fr c) (fun t => EndsI t call a fr σ N E R) (fun t => EndsI t call b fr σ N E R)  := by
  unfold EndsI
  apply propext
  simp only [evCodeI]
  constructor
  · intro h
    split at h
    · rename_i e; rw [e, condP_true]; exact h
    · rename_i e; rw [e, condP_false]; exact h
    · obtain ⟨_, _, _, h, _⟩ := h; cases h
  · intro h
    unfold condP at h
    split at h
    · rename_i b' e
      cases b' with
      | true => rw [e]; exact h.1 rfl
      | false => rw [e]; exact h.2 rfl
    · exact h.elim

theorem endsi_block {i : Nat} {a : ACode} : EndsI .go call (.block i a) fr σ N E R = EndsI .go call a fr σ N (fun j t fr σ => if j = i then N t fr σ else E j t fr σ) R  := by
  unfold EndsI
  apply propext
  simp only [evCodeI]
  constructor
  · rintro ⟨x, u, v, h, k⟩
    split at h
    · rename_i j fr' σ' ha
      by_cases e : j = i
      · subst e
        simp only [Nat.beq_refl, Option.some.injEq, Prod.mk.injEq] at h
        obtain ⟨rfl, rfl, rfl⟩ := h
        exact ⟨.exit j, _, _, ha, by simpa using k⟩
      · have : Nat.beq j i = false := by
          cases hb : Nat.beq j i with
          | false => rfl
          | true => exact absurd (Nat.eq_of_beq_eq_true hb) e
        simp only [this, Option.some.injEq, Prod.mk.injEq] at h
        obtain ⟨rfl, rfl, rfl⟩ := h
        exact ⟨.exit j, _, _, ha, by simp only [if_neg e]; exact k⟩
    · rename_i r hr
      refine ⟨x, u, v, h, ?_⟩
      cases x with
      | normal => exact k
      | exit j => exact absurd h (hr _ _ _)
      | ret => exact k
  · rintro ⟨x, u, v, h, k⟩
    cases x with
    | normal => exact ⟨.normal, u, v, by rw [h], k⟩
    | ret => exact ⟨.ret, u, v, by rw [h], k⟩
    | exit j =>
      by_cases e : j = i
      · subst e
        exact ⟨.normal, u, v, by rw [h]; simp, by simpa using k⟩
      · have : Nat.beq j i = false := by
          cases hb : Nat.beq j i with
          | false => rfl
          | true => exact absurd (Nat.eq_of_beq_eq_true hb) e
        simp only [if_neg e] at k
        exact ⟨.exit j, u, v, by rw [h]; simp only [this], k⟩

theorem endsi_region {l : List AOper} : EndsI .go call (.region l) fr σ N E R = POps .go call l fr σ N  := by
  unfold EndsI
  apply propext
  simp only [evCodeI]
  constructor
  · rintro ⟨x, u, v, h, k⟩
    split at h
    · rename_i fr' σ' ho
      simp only [Option.some.injEq, Prod.mk.injEq] at h
      obtain ⟨rfl, rfl, rfl⟩ := h
      exact ⟨_, _, ho, k⟩
    · cases h
  · rintro ⟨u, v, h, k⟩
    exact ⟨.normal, u, v, by rw [h], k⟩

/-- A region that draws. -/
theorem endsi_draw {ops : List AOper} {pairs : List (Nat × Nat)} (h : PDraw .go call pairs 0 ops [] [] fr σ N) : EndsI .go call (.draw ops pairs) fr σ N E R := by
  obtain ⟨tt, fr', σ', h1, h2, h3⟩ := h
  refine ⟨.normal, fr', σ', ?_, h3⟩
  have := chkGo_ok pairs ops [] [] tt [] [] rfl (fun k a b h => by cases h) (fun k x h => by cases h) h2
  simp only [List.nil_append] at this
  simp only [evCodeI, evDraw, h1, this]

theorem endsi_draw0 {ops : List AOper} : EndsI .go call (.draw ops []) fr σ N E R = POps .go call ops fr σ N := by
  rw [← endsi_region (E := E) (R := R)]
  unfold EndsI
  congr 1
  simp only [evCodeI, evDraw, pairsOk]
  rw [← evTr_ops]
  cases evTr call ops fr σ with
  | none => rfl
  | some y => rfl

/-- A loop by what holds ahead of each round, with a number that goes down. -/
theorem endsi_loop {a : ACode} {I : Nat → List AV → AHeap → Prop}
    (step : ∀ k fr σ, I k fr σ → EndsI .go call a fr σ (fun _ fr σ => ∃ j, j < k ∧ I j fr σ) E R) {k : Nat} (h0 : I k fr σ) :
    EndsI .go call (.loop a) fr σ N E R := by
  unfold EndsI at *
  have go : ∀ (f k : Nat) (fr : List AV) (σ : AHeap), k < f → I k fr σ → Ends (evLoop (evCodeI call a) f fr σ) N E R := by
    intro f
    induction f with
    | zero => intro k fr σ h; omega
    | succ f ih =>
      intro k fr σ hkf hi
      obtain ⟨x, u, v, h, q⟩ := step k fr σ hi
      cases x with
      | normal =>
        obtain ⟨j, hj, hi'⟩ := q
        obtain ⟨y, u', v', h', q'⟩ := ih j u v (by omega) hi'
        exact ⟨y, u', v', by simp only [evLoop, h]; exact h', q'⟩
      | exit i => exact ⟨.exit i, u, v, by simp only [evLoop, h], q⟩
      | ret => exact ⟨.ret, u, v, by simp only [evLoop, h], q⟩
  obtain ⟨y, u', v', h', q'⟩ := go (k + 1) k fr σ (Nat.lt_succ_self k) h0
  exact ⟨y, u', v', by simp only [evCodeI]; exact loopI_iff.2 ⟨_, h'⟩, q'⟩

/-- A loop that counts up to n. -/
theorem endsi_range {a : ACode} (n : Nat) (I : Nat → List AV → AHeap → Prop) (h0 : I 0 fr σ)
    (step : ∀ i fr σ, i < n → I i fr σ → EndsI .go call a fr σ (fun _ fr σ => I (i + 1) fr σ) E R)
    (last : ∀ fr σ, I n fr σ → EndsI .go call a fr σ (fun _ _ _ => False) E R) : EndsI .go call (.loop a) fr σ N E R := by
  refine endsi_loop (I := fun k fr σ => ∃ i, k = n - i ∧ i ≤ n ∧ I i fr σ) ?_ (k := n) ⟨0, rfl, Nat.zero_le _, h0⟩
  rintro k fr σ ⟨i, rfl, hi, hI⟩
  by_cases hlt : i < n
  · obtain ⟨x, u, v, h, q⟩ := step i fr σ hlt hI
    refine ⟨x, u, v, h, ?_⟩
    cases x with
    | normal => exact ⟨n - (i + 1), by omega, i + 1, rfl, hlt, q⟩
    | exit j => exact q
    | ret => exact q
  · obtain rfl : i = n := by omega
    obtain ⟨x, u, v, h, q⟩ := last fr σ hI
    refine ⟨x, u, v, h, ?_⟩
    cases x with
    | normal => exact q.elim
    | exit j => exact q
    | ret => exact q

/-- A loop that is left by one exit alone, with what holds there. -/
theorem endsi_to {c : ACode} (i : Nat) (Q : List AV → AHeap → Prop)
    (h : EndsI .go call c fr σ (fun _ _ _ => False) (fun j _ fr σ => j = i ∧ Q fr σ) R) (k : ∀ fr σ, Q fr σ → E i .go fr σ) : EndsI .go call c fr σ N E R := by
  obtain ⟨x, u, v, h1, h2⟩ := h
  refine ⟨x, u, v, h1, ?_⟩
  cases x with
  | normal => exact h2.elim
  | exit j => obtain ⟨rfl, hq⟩ := h2; exact k u v hq
  | ret => exact h2
end

/-! ### whole functions -/
section
variable {C : Ctx} {f : Nat} {F : AFunc} {args : List AV} {σ : AHeap} {K : Tok → AV → AHeap → Prop}

theorem lim_prim {p : Prim} (h : C.prim f = some p) : lim C f args σ = p args σ := by
  cases hp : p args σ with
  | some r => exact lim_of (n := 1) (by simp only [evCall, h]; exact hp)
  | none =>
    cases hl : lim C f args σ with
    | none => rfl
    | some r =>
      obtain ⟨n, hn⟩ := lim_iff.1 hl
      cases n with
      | zero => cases hn
      | succ n => simp only [evCall, h, hp] at hn; cases hn

/-- What is asked of a function's body: its answer, and its memory. -/
def BodyP (C : Ctx) (F : AFunc) (args : List AV) (σ : AHeap) (Z : Tok → AV → AHeap → Prop) : Prop :=
  EndsI .go (lim C) F.body (args ++ repUndef (F.ntmps - args.length)) σ
      (fun t fr σ' => ∃ vs, resOfs fr σ' F.results = some vs ∧ Z t (tupOf vs) σ') (fun _ _ _ _ => False) (fun t fr σ' => ∃ vs, resOfs fr σ' F.results = some vs ∧ Z t (tupOf vs) σ')

theorem body_fin {Z : Tok → AV → AHeap → Prop} (hb : BodyP C F args σ Z) : ∃ n x fr σ' vs, (x = .normal ∨ x = .ret) ∧ evCode (evCall C n) n F.body (args ++ repUndef (F.ntmps - args.length)) σ = some (x, fr, σ') ∧
    resOfs fr σ' F.results = some vs ∧ Z .go (tupOf vs) σ' := by
  obtain ⟨x, fr, σ', h1, h2⟩ := hb
  obtain ⟨n, h3⟩ := code_fin _ h1
  cases x with
  | normal =>
    obtain ⟨vs, h4, h5⟩ := h2
    exact ⟨n, _, fr, σ', vs, .inl rfl, h3, h4, h5⟩
  | exit i => exact h2.elim
  | ret =>
    obtain ⟨vs, h4, h5⟩ := h2
    exact ⟨n, _, fr, σ', vs, .inr rfl, h3, h4, h5⟩

theorem lim_code (h : C.prim f = none) (hc : C.code f = some F) (hh : C.hint f = .no) (hb : BodyP C F args σ K) : OptP (lim C f args σ) K := by
  obtain ⟨n, x, fr, σ', vs, hx, h1, h2, h3⟩ := body_fin hb
  refine ⟨_, _, lim_of (n := n + 1) ?_, h3⟩
  rcases hx with rfl | rfl <;> simp only [evCall, h, hc, hh, inArgs, hintRes, h1, afterB, h2]

/-- A function that leaves all that was there as it was. -/
theorem lim_pure (h : C.prim f = none) (hc : C.code f = some F) (hh : C.hint f = .pure)
    (hb : BodyP C F args σ (fun t v σ' => Keeps σ σ' ∧ ∃ v', frzA σ.size σ' v = some v' ∧ K t v' σ)) : OptP (lim C f args σ) K := by
  obtain ⟨n, x, fr, σ', vs, hx, h1, h2, ⟨_, h3⟩, v', h4, h5⟩ := body_fin hb
  refine ⟨v', σ, lim_of (n := n + 1) ?_, h5⟩
  have : frzRes σ σ' (tupOf vs) = some (v', σ) := by
    unfold frzRes
    rw [if_pos h3]
    simp only [h4]
  rcases hx with rfl | rfl <;> simp only [evCall, h, hc, hh, inArgs, hintRes, h1, afterB, h2, this]

/-- The same, of one answer that is known. -/
theorem lim_eq (h : C.prim f = none) (hc : C.code f = some F) (hh : C.hint f = .pure) {V : AV}
    (hb : BodyP C F args σ (fun t v σ' => Keeps σ σ' ∧ frzA σ.size σ' v = some V)) : lim C f args σ = some (V, σ) := by
  have := lim_pure (K := fun _ v τ => v = V ∧ τ = σ) h hc hh (by
    obtain ⟨x, fr, σ', h1, h2⟩ := hb
    refine ⟨x, fr, σ', h1, ?_⟩
    cases x with
    | normal => obtain ⟨vs, h3, h4, h5⟩ := h2; exact ⟨vs, h3, h4, V, h5, rfl, rfl⟩
    | exit i => exact h2
    | ret => obtain ⟨vs, h3, h4, h5⟩ := h2; exact ⟨vs, h3, h4, V, h5, rfl, rfl⟩)
  obtain ⟨v, τ, h1, rfl, rfl⟩ := this
  exact h1

/-- A function whose own memory nothing names behind it. -/
theorem lim_gc (h : C.prim f = none) (hc : C.code f = some F) (hh : C.hint f = .gc)
    (hb : BodyP C F args σ (fun t v σ' => GcOk σ σ' ∧ ∃ v', frzA σ.size σ' v = some v' ∧ K t v' (σ'.cutTo σ.size))) : OptP (lim C f args σ) K := by
  obtain ⟨n, x, fr, σ', vs, hx, h1, h2, h3, v', h4, h5⟩ := body_fin hb
  refine ⟨v', _, lim_of (n := n + 1) ?_, h5⟩
  have : gcRes σ σ' (tupOf vs) = some (v', σ'.cutTo σ.size) := by
    unfold gcRes
    rw [if_pos (show ∀ id, id < σ.size → σ'.get id = σ.get id ∨ ∃ cs, σ'.get id = some ⟨cs, .own⟩ ∧ loL σ.size cs = true from h3)]
    simp only [h4]
  rcases hx with rfl | rfl <;> simp only [evCall, h, hc, hh, inArgs, hintRes, h1, afterB, h2, this]
/-- A function that is handed what slices hold, and answers without memory. -/
theorem lim_rd (h : C.prim f = none) (hc : C.code f = some F) (hh : C.hint f = .rd) {args' : List AV} {ids : List Nat} (ha : frzDAs frzDepth σ args = some (args', ids)) {V : AV}
    (hb : BodyP C F args' emptyH (fun _ v _ => v = V)) (hs : V.scal = true) : lim C f args σ = some (V, σ) := by
  obtain ⟨n, x, fr, σ', vs, hx, h1, h2, h3⟩ := body_fin hb
  subst h3
  have : evCall C (n + 1) f args σ = some (tupOf vs, σ) := by
    rcases hx with rfl | rfl <;> simp only [evCall, h, hc, hh, inArgs, hintRes, ha, h1, afterB, h2, hs]
  exact lim_of this

/-- A function that is handed slices for good. -/
theorem lim_mv (h : C.prim f = none) (hc : C.code f = some F) (hh : C.hint f = .mv) {args' : List AV} {ids : List Nat} (ha : frzDAs frzDepth σ args = some (args', ids)) {V : AV}
    (hb : BodyP C F args' emptyH (fun _ v σ' => ∃ i, frzDA frzDepth σ' v = some (V, i))) : lim C f args σ = some (V, killAll σ ids) := by
  obtain ⟨n, x, fr, σ', vs, hx, h1, h2, i, h3⟩ := body_fin hb
  have : evCall C (n + 1) f args σ = some (V, killAll σ ids) := by
    rcases hx with rfl | rfl <;> simp only [evCall, h, hc, hh, inArgs, hintRes, ha, h1, afterB, h2, h3]
  exact lim_of this

end

theorem cutTo_size (σ : AHeap) (n : Nat) : (σ.cutTo n).size = n := rfl

attribute [simp] endsi_skip endsi_ret endsi_exit endsi_seq endsi_cond endsi_block endsi_region endsi_draw0
attribute [simp] frzA frzAs frzL frzS SV.lo loL loE chunks cutTo_size

end Go.Proofs.YtkolhfpofmpijaaDoor.Ab

/- Arguments, read out of a world, as values that nobody writes. -/
namespace Go.Proofs.YtkolhfpofmpijaaDoor.Ab
open Go Go.RowKit Go.ChangeShapes Go.WideShapes Go.ChangeAt
set_option linter.unusedSimpArgs false
set_option linter.unusedVariables false

/-! ### what is read, as values -/
mutual
inductive RdV (P : Program) : TypeId → List SV → Nat → Prop where
  | bool {t : TypeId} (ht : P.underlying t = some .bool) (b : Bool) : RdV P t [.bool b] 1
  | int {t : TypeId} {k : IntKind} (ht : P.underlying t = some (.int k)) (n : Int) (h : (Lit.int k n).wf = true) : RdV P t [.int k n] 1
  | str {t : TypeId} (ht : P.underlying t = some .string) (s : List UInt8) : RdV P t [.str s] (s.length + 1)
  | slice {t e : TypeId} (ht : P.underlying t = some (.slice e)) (elems : List (List SV)) (b : Nat) (hl : RdVE P e elems b) : RdV P t [.lst elems] (b + 1)
  | struct {t : TypeId} {fs : Array Field} (ht : P.underlying t = some (.struct fs)) (cells : List SV) (b : Nat) (h : RdVF P (fs.toList.map (·.type)) cells b) : RdV P t cells (b + 1)
  | array {t e : TypeId} {n : Nat} (ht : P.underlying t = some (.array n e)) (elems : List (List SV)) (b : Nat) (hn : elems.length = n) (h : RdVE P e elems b) : RdV P t elems.flatten (b + 1)
/-- Elements of one type. -/
inductive RdVE (P : Program) : TypeId → List (List SV) → Nat → Prop where
  | nil {e : TypeId} : RdVE P e [] 0
  | cons {e : TypeId} {ss : List SV} {l : List (List SV)} {b bs : Nat} (h : RdV P e ss b) (t : RdVE P e l bs) : RdVE P e (ss :: l) (b + bs)
/-- One of each type, one behind the other. -/
inductive RdVF (P : Program) : List TypeId → List SV → Nat → Prop where
  | nil : RdVF P [] [] 0
  | cons {e : TypeId} {es : List TypeId} {ss l : List SV} {b bs : Nat} (h : RdV P e ss b) (t : RdVF P es l bs) : RdVF P (e :: es) (ss ++ l) (b + bs)
end

section
variable {P : Program} {H : Type} {enc : TypeId × Value → H} {w : World}

def GotV (P : Program) (w : World) (t : TypeId) (cs : List Value) (m : Nat) : Prop := ∃ ss b, SRs (allLoc w) ss cs ∧ RdV P t ss b ∧ b ≤ m

theorem importsV_list {n : Nat} {e : TypeId}
    (ih : ∀ cs x, DataW.trod enc P w 0 (fun _ => true) true n e cs = some x → GotV P w e cs (Rows.uptoBulk x.1)) :
    ∀ (css : List (List Value)) (xs : List (DataW H × List MemPlace)), css.length = xs.length → (∀ (i : Nat) (cs : List Value) (x : DataW H × List MemPlace), css[i]? = some cs → xs[i]? = some x → DataW.trod enc P w 0 (fun _ => true) true n e cs = some x) →
      ∃ elems b, SRss (allLoc w) elems css ∧ RdVE P e elems b ∧ b ≤ Rows.uptoBulkAll (xs.map (·.1))
  | [], xs, hl, _ => ⟨[], 0, .nil, .nil, Nat.zero_le _⟩
  | cs :: css, [], hl, _ => by simp at hl
  | cs :: css, x :: xs, hl, h => by
    obtain ⟨ss1, b1, s1, r1, l1⟩ := ih cs x (h 0 cs x rfl rfl)
    obtain ⟨ss2, b2, s2, r2, l2⟩ := importsV_list ih css xs (by simpa using hl) (fun i cs' x' h1 h2 => h (i + 1) cs' x' (by simpa using h1) (by simpa using h2))
    exact ⟨ss1 :: ss2, b1 + b2, .cons s1 s2, .cons r1 r2, by simp only [List.map_cons, Rows.uptoBulkAll]; omega⟩

theorem importsV_fields {n : Nat} {T : List TypeId}
    (ih : ∀ t ∈ T, ∀ cs x, DataW.trod enc P w 0 (fun _ => true) true n t cs = some x → GotV P w t cs (Rows.uptoBulk x.1)) (cs : List Value) :
    ∀ (fs : List Field) (xs : List (DataW H × List MemPlace)) (o : Nat), fs.length = xs.length → (∀ (i : Nat) (f : Field) (x : DataW H × List MemPlace), fs[i]? = some f → xs[i]? = some x → DataW.trod enc P w 0 (fun _ => true) true n f.type ((cs.drop f.offset).take (P.cellsOf f.type)) = some x) →
      (∀ f ∈ fs, f.type ∈ T) → offsOk P o fs = some cs.length → o ≤ cs.length →
        ∃ ss b, SRs (allLoc w) ss (cs.drop o) ∧ RdVF P (fs.map (·.type)) ss b ∧ b ≤ Rows.uptoBulkAll (xs.map (·.1))
  | [], xs, o, hl, _, _, ho, _ => by
    unfold offsOk at ho
    cases ho
    exact ⟨[], 0, by simp; exact .nil, .nil, Nat.zero_le _⟩
  | f :: fs, [], _, hl, _, _, _, _ => by simp at hl
  | f :: fs, x :: xs, o, hl, h, hT, ho, hle => by
    unfold offsOk at ho
    split at ho
    · rename_i e
      obtain rfl : f.offset = o := Nat.eq_of_beq_eq_true e
      have hle2 : f.offset + P.cellsOf f.type ≤ cs.length := by
        have key : ∀ (l : List Field) (a : Nat) (m : Nat), offsOk P a l = some m → a ≤ m := by
          intro l
          induction l with
          | nil => intro a m hm; unfold offsOk at hm; cases hm; exact Nat.le_refl _
          | cons g l ihl =>
            intro a m hm
            unfold offsOk at hm
            split at hm
            · have := ihl _ _ hm; omega
            · cases hm
        exact key _ _ _ ho
      obtain ⟨ss1, b1, s1, r1, l1⟩ := ih f.type (hT f (by simp)) _ x (h 0 f x rfl rfl)
      obtain ⟨ss2, b2, s2, r2, l2⟩ := importsV_fields ih cs fs xs (f.offset + P.cellsOf f.type) (by simpa using hl) (fun i g y h1 h2 => h (i + 1) g y (by simpa using h1) (by simpa using h2))
        (fun g hg => hT g (by simp [hg])) ho hle2
      refine ⟨ss1 ++ ss2, b1 + b2, ?_, .cons r1 r2, ?_⟩
      · have : cs.drop f.offset = (cs.drop f.offset).take (P.cellsOf f.type) ++ cs.drop (f.offset + P.cellsOf f.type) := by
          rw [← List.drop_drop, List.take_append_drop]
        rw [this]
        exact s1.append s2
      · simp only [List.map_cons, Rows.uptoBulkAll]
        omega
    · cases ho

theorem importsV {T : List TypeId} (hT : plainTs P T = true) : ∀ (n : Nat) (t : TypeId), t ∈ T → ∀ (cs : List Value) (x : DataW H × List MemPlace), DataW.trod enc P w 0 (fun _ => true) true n t cs = some x →
    GotV P w t cs (Rows.uptoBulk x.1)
  | 0, t, _, cs, x, h => by simp [DataW.trod] at h
  | n + 1, t, ht, cs, x, h => by
    have hp : plainTy P T t = true := List.all_eq_true.1 hT t ht
    unfold plainTy at hp
    split at hp
    · rename_i hu
      obtain ⟨b, rfl, rfl⟩ := DataW.trod_bool hu h
      exact ⟨[.bool b], 1, .cons (.bool b) .nil, .bool hu b, by simp [Rows.uptoBulk]⟩
    · rename_i k hu
      obtain ⟨m, rfl, rfl, hw⟩ := DataW.trod_int hu h
      exact ⟨[.int k m], 1, .cons (.int k m) .nil, .int hu m hw, by simp [Rows.uptoBulk]⟩
    · rename_i hu
      obtain ⟨s, rfl, rfl, hw⟩ := DataW.trod_string hu h
      refine ⟨[.str s.data.toList], s.data.toList.length + 1, .cons ?_ .nil, .str hu _, by simp [Rows.uptoBulk]⟩
      have := SR.str (ρ := allLoc w) s.data.toList
      simpa using this
    · rename_i e hu
      simp only [Bool.and_eq_true] at hp
      have he : e ∈ T := by simpa using hp.1
      have hc : 0 < P.cellsOf e := Nat.le_of_ble_eq_true hp.2
      rcases DataW.trod_slice hu h with ⟨rfl, rfl⟩ | ⟨a, len, cap, elems, rest, m, hm, rfl, rfl, hb, hl, hmx, hlen, hel, hsp, hns⟩
      · exact ⟨[.lst []], 0 + 1, .cons .lstNil .nil, .slice hu [] 0 .nil, by simp [Rows.uptoBulk]⟩
      · obtain rfl : n = m := by omega
        -- the cells of every element
        have each : ∀ i, i < len → ∃ cs' y, w.cells? 0 (a.add (i * P.cellsOf e)) (P.cellsOf e) = some cs' ∧ elems[i]? = some y ∧ DataW.trod enc P w 0 (fun _ => true) true n e cs' = some y := by
          intro i hi
          have h1 := hel i hi
          have h2 : elems[i]? = some (elems[i]'(by omega)) := List.getElem?_eq_getElem (by omega)
          rw [h2, Option.bind_eq_some_iff] at h1
          obtain ⟨cs', h3, h4⟩ := h1
          exact ⟨cs', _, h3, h2, h4⟩
        let css : List (List Value) := (List.range len).map fun i => (w.cells? 0 (a.add (i * P.cellsOf e)) (P.cellsOf e)).getD []
        have hcl : css.length = len := by simp [css]
        have hcss : ∀ i cs', css[i]? = some cs' → i < len ∧ w.cells? 0 (a.add (i * P.cellsOf e)) (P.cellsOf e) = some cs' := by
          intro i cs' hi
          have hlt : i < len := by rw [← hcl]; exact (List.getElem?_eq_some_iff.1 hi).1
          obtain ⟨cs2, y, k1, _⟩ := each i hlt
          have : css[i]? = some cs2 := by simp [css, hlt, k1]
          rw [this] at hi
          cases hi
          exact ⟨hlt, k1⟩
        obtain ⟨ss, b, s1, r1, l1⟩ := importsV_list (n := n) (e := e) (fun cs' y hy => importsV hT n e he cs' y hy) css elems (by omega)
          (fun i cs' y h1 h2 => by
            obtain ⟨h3, h4⟩ := hcss i cs' h1
            obtain ⟨cs2, y2, k1, k2, k3⟩ := each i h3
            rw [h4] at k1; cases k1
            rw [h2] at k2; cases k2
            exact k3)
        have hfl : ∀ k, k ≤ len → ∀ j v, ((css.take k).flatten)[j]? = some v → w.cell? (a.add j) = some v := by
          intro k
          induction k with
          | zero => intro _ j v hv; simp at hv
          | succ k ihk =>
            intro hk j v hv
            have hck : css[k]? = some (css[k]'(by omega)) := List.getElem?_eq_getElem (by omega)
            obtain ⟨_, hcell⟩ := hcss k _ hck
            obtain ⟨_, hl2, hg⟩ := World.cells?_some hcell
            have hlk : ((css.take k).flatten).length = k * P.cellsOf e := by
              rw [flat_len (c := P.cellsOf e) (css.take k) (fun y hy => by
                obtain ⟨i, hi⟩ := List.getElem?_of_mem (List.mem_of_mem_take hy)
                exact (World.cells?_some (hcss i y hi).2).2.1), List.length_take]
              rw [Nat.min_eq_left (by omega)]
            rw [List.take_add_one, hck] at hv
            simp only [Option.toList_some, List.flatten_append, List.flatten_cons, List.flatten_nil, List.append_nil] at hv
            by_cases hj : j < k * P.cellsOf e
            · rw [List.getElem?_append_left (by omega)] at hv
              exact ihk (by omega) j v hv
            · rw [List.getElem?_append_right (by omega), hlk] at hv
              have hj2 : j - k * P.cellsOf e < P.cellsOf e := by
                have := (List.getElem?_eq_some_iff.1 hv).1
                omega
              have := hg (j - k * P.cellsOf e) hj2
              rw [hv] at this
              have ea : (a.add (k * P.cellsOf e)).add (j - k * P.cellsOf e) = a.add j := by
                unfold Addr.add
                by_cases z1 : k * P.cellsOf e = 0
                · rw [if_pos z1, z1]; simp
                · rw [if_neg z1]
                  by_cases z2 : j - k * P.cellsOf e = 0
                  · rw [if_pos z2, if_neg (by omega)]
                    have : j = k * P.cellsOf e := by omega
                    rw [this]
                  · rw [if_neg z2, if_neg (by omega)]
                    simp only [Addr.mk.injEq, true_and, and_true]
                    omega
              rw [ea] at this
              exact this
        have hflat : ∀ j v, css.flatten[j]? = some v → w.cell? (a.add j) = some v := by
          have := hfl len (Nat.le_refl _)
          rwa [List.take_of_length_le (by omega)] at this
        have hsl : ss.length = len := by rw [s1.length, hcl]
        have hE : ∀ q ∈ ss, q.length = P.cellsOf e := by
          intro q hq
          obtain ⟨i, hi⟩ := List.getElem?_of_mem hq
          obtain ⟨vs, hvs, hrel⟩ := s1.get hi
          rw [hrel.length]
          exact (World.cells?_some (hcss i vs hvs).2).2.1
        by_cases hl0 : len = 0
        · subst hl0
          have : ss = [] := List.eq_nil_of_length_eq_zero hsl
          subst this
          exact ⟨[.lst []], b + 1, .cons .lst0 .nil, .slice hu [] b r1, by simp only [Rows.uptoBulk]; omega⟩
        · have hsp : a.spot = none := by
            obtain ⟨cs', y, h3, _⟩ := each 0 (by omega)
            obtain ⟨_, h4, h5⟩ := World.cells?_some h3
            have h6 := h5 0 hc
            have h7 : cs'[0]? = some (cs'[0]'(by omega)) := List.getElem?_eq_getElem (by omega)
            rw [h7] at h6
            have : (a.add (0 * P.cellsOf e)).add 0 = a := by simp [Addr.add]
            rw [this] at h6
            exact (heap_lt h6).2
          obtain ⟨ab, ao, asp⟩ := a
          simp only at hsp
          subst hsp
          refine ⟨[.lst ss], b + 1, .cons ?_ .nil, .slice hu ss b r1, by simp only [Rows.uptoBulk]; omega⟩
          have := SR.lst (ρ := allLoc w) (b := ab) (o := ao) (c := cap) s1 hc hE (by rw [hsl]; exact hl) (fun j v hj => by
            show w.cell? ⟨ab, ao + j, none⟩ = some v
            rw [← addr_add]
            exact hflat j v hj)
          rwa [hsl] at this
    · rename_i fs hu
      simp only [Bool.and_eq_true] at hp
      obtain ⟨xs, m, hm, rfl, hl, hxl, hx⟩ := DataW.trod_struct hu h
      obtain rfl : n = m := by omega
      have ho : offsOk P 0 fs.toList = some cs.length := by
        have := hp.1
        split at this
        · rename_i k hk
          rw [hk, hl, Nat.eq_of_beq_eq_true this]
        · cases this
      have hT2 : ∀ f ∈ fs.toList, f.type ∈ T := by
        intro f hf
        have := List.all_eq_true.1 hp.2 f hf
        simpa using this
      obtain ⟨ss, b, s1, r1, l1⟩ := importsV_fields (n := n) (T := T) (fun t' ht' cs' y hy => importsV hT n t' ht' cs' y hy) cs fs.toList xs 0 (by simpa using hxl.symm)
        (fun i f y h1 h2 => by rw [hx i f (by simpa using h1)]; exact h2) hT2 ho (Nat.zero_le _)
      exact ⟨ss, b + 1, by simpa using s1, .struct hu ss b r1, by simp only [Rows.uptoBulk]; omega⟩
    · rename_i k e hu
      simp only [Bool.and_eq_true] at hp
      have he : e ∈ T := by simpa using hp.1
      obtain ⟨xs, m, hm, rfl, hl, hxl, hx⟩ := DataW.trod_array hu h
      obtain rfl : n = m := by omega
      have hck : cs.length = k * P.cellsOf e := by rw [hl]; exact Nat.eq_of_beq_eq_true hp.2
      have hfl := pieces (P.cellsOf e) k cs hck
      obtain ⟨ss, b, s1, r1, l1⟩ := importsV_list (n := n) (e := e) (fun cs' y hy => importsV hT n e he cs' y hy) ((List.range k).map fun i => (cs.drop (i * P.cellsOf e)).take (P.cellsOf e)) xs (by simp [hxl])
        (fun i cs' y h1 h2 => by
          have hlt : i < k := by
            have := (List.getElem?_eq_some_iff.1 h1).1
            simpa using this
          have h3 := hx i hlt
          simp [hlt] at h1
          rw [← h1, h3]; exact h2)
      have hsl : ss.length = k := by rw [s1.length]; simp
      have hs := s1.flatten
      rw [hfl] at hs
      exact ⟨ss.flatten, b + 1, hs, .array hu ss b hsl r1, by simp only [Rows.uptoBulk]; omega⟩
    · cases hp

/-- The arguments. -/
inductive RdVA (P : Program) : List TypeId → List AV → Nat → Prop where
  | nil : RdVA P [] [] 0
  | one {t : TypeId} {ts : List TypeId} {s : SV} {l : List AV} {b bs : Nat} (ha : aggT P t = false) (h : RdV P t [s] b) (k : RdVA P ts l bs) : RdVA P (t :: ts) (.one s :: l) (b + bs)
  | agg {t : TypeId} {ts : List TypeId} {ss : List SV} {l : List AV} {b bs : Nat} (ha : aggT P t = true) (h : RdV P t ss b) (k : RdVA P ts l bs) : RdVA P (t :: ts) (.agg ss :: l) (b + bs)

theorem importsV_args {T : List TypeId} (hT : plainTs P T = true) {base : Nat} : ∀ (ts : List TypeId) (vs : List Value) (ds : List (DataW H)) (ps : List MemPlace), (∀ t ∈ ts, t ∈ T) →
    DataW.TrodAll enc P w 0 (fun _ => true) true ts vs ds ps → (∀ (j : Nat) (t : TypeId) (v : Value), ts[j]? = some t → vs[j]? = some v → Value.okWide P w .any base t v) →
    ∃ avs b, VRs (allLoc w) avs vs ∧ RdVA P ts avs b ∧ b ≤ Rows.uptoBulkAll ds
  | [], [], [], ps, _, _, _ => ⟨[], 0, .nil, .nil, Nat.zero_le _⟩
  | t :: ts, v :: vs, d :: ds, ps, hts, h, hok => by
    obtain ⟨p, q, ⟨n, h1⟩, h2, _⟩ := h
    have ht : t ∈ T := hts t (by simp)
    have hv := hok 0 t v rfl rfl
    obtain ⟨ss, b1, s1, r1, l1⟩ := importsV hT n t ht v.cells.toList (d, p) h1
    obtain ⟨avs, b2, s2, r2, l2⟩ := importsV_args hT ts vs ds q (fun t' ht' => hts t' (by simp [ht'])) h2 (fun j t' v' k1 k2 => hok (j + 1) t' v' (by simpa using k1) (by simpa using k2))
    have hbulk : b1 + b2 ≤ Rows.uptoBulkAll (d :: ds) := by
      simp only [Rows.uptoBulkAll]
      simp only at l1
      omega
    have hp : plainTy P T t = true := List.all_eq_true.1 hT t ht
    cases ha : aggT P t with
    | true =>
      have hagg : ∃ cs, v = .agg cs := by
        unfold aggT at ha
        unfold Value.okWide at hv
        split at ha
        · rename_i e; rw [e] at hv; obtain ⟨cs, rfl, _⟩ := hv; exact ⟨cs, rfl⟩
        · rename_i e; rw [e] at hv; obtain ⟨cs, rfl, _⟩ := hv; exact ⟨cs, rfl⟩
        · cases ha
      obtain ⟨cs, rfl⟩ := hagg
      have hs : SRs (allLoc w) ss cs.toList := s1
      refine ⟨.agg ss :: avs, b1 + b2, .cons ?_ s2, .agg ha r1 r2, hbulk⟩
      have := VR.agg hs
      simpa using this
    | false =>
      have hone : v.cells = #[v] := by
        cases v with
        | agg cs =>
          exfalso
          unfold plainTy at hp
          unfold aggT at ha
          unfold Value.okWide at hv
          split at hp
          all_goals first
            | (cases hp; done)
            | (rename_i e; rw [e] at hv ha; first | (cases ha; done) | (simp only [Cell.okWide, e, Cell.ok] at hv; done))
        | _ => rfl
      rw [hone] at s1
      have hs : ∃ s, ss = [s] ∧ SR (allLoc w) s v := by
        cases s1 with
        | cons h1 h2 => cases h2; exact ⟨_, rfl, h1⟩
      obtain ⟨s, rfl, hs⟩ := hs
      exact ⟨.one s :: avs, b1 + b2, .cons (.one hs) s2, .one ha r1 r2, hbulk⟩
  | [], [], _ :: _, _, _, h, _ => h.elim
  | [], _ :: _, _, _, _, h, _ => h.elim
  | _ :: _, [], _, _, _, h, _ => h.elim
  | _ :: _, _ :: _, [], _, _, h, _ => h.elim
end

theorem law_contractV {P : Program} [IsProg P] {C : Ctx} (hC : C.Good P) {f : Nat} {fn : Func} {s : ChangeSpec} {T : List TypeId} {tb : TypeId} (hT : plainTs P T = true)
    (hpar : (fn.params.toList.all fun t => T.contains t && P.readableRec t && Nat.blt t P.types.size) = true) (hl : laidOutB P = true) (hbt : fn.resultTypes = #[tb]) (hb : P.underlying tb = some .bool) (hvars : s.vars = [])
    (hfn : ∀ (H : Type) (ds : List (DataW H)), ds.length = fn.params.size → s.fn H (ds ++ []) = { results := [.lit (.bool true)], args := ds })
    (run : ∀ avs b, RdVA P fn.params.toList avs b → b ≤ 1048576 → ∃ σ', lim C f avs emptyH = some (.one (.bool true), σ'))
    (H : Type) (enc : TypeId × Value → H) (W : World) (base : Nat) (args : Array Value) (ds gs : List (DataW H)) (before : List MemPlace)
    (hval : ∀ (j : Nat) t v, fn.params[j]? = some t → args[j]? = some v → Value.okWide P W .any base t v)
    (hW : DataW.Whole enc P fn.params.toList s.vars false W args.toList ds gs before) (hk : Rows.uptoBulkAll (ds ++ gs) ≤ 1048576) (hgl : GlobAt W) :
    Calls P f args W fun e W' => ∃ v, e = .returned v ∧ s.post enc P fn false true false false W args v W' := by
  have hW' := hW
  obtain ⟨p, q, hA, hV, rfl, hfz, hnd⟩ := hW
  have hgs : gs = [] := by
    rw [hvars] at hV
    cases gs with
    | nil => rfl
    | cons => exact hV.elim
  subst hgs
  have hq : q = [] := by
    rw [hvars] at hV
    exact hV
  subst hq
  rw [List.append_nil] at hk
  rw [List.all_eq_true] at hpar
  have hts : ∀ t ∈ fn.params.toList, t ∈ T := by
    intro t ht
    have := hpar t ht
    simp only [Bool.and_eq_true] at this
    simpa using this.1.1
  obtain ⟨avs, b, hvs, hrd, hle⟩ := importsV_args (H := H) (enc := enc) (w := W) hT (base := base) fn.params.toList args.toList ds p hts hA
    (fun j t v h1 h2 => hval j t v (by simpa using h1) (by simpa using h2))
  obtain ⟨σ', hlim⟩ := run avs b hrd (by omega)
  obtain ⟨n, he⟩ := lim_iff.1 hlim
  have hcalls := law_calls hC he hvs (HR.all W hgl) (noOwnAll W)
  have hcalls : Calls P f args W fun e w' => e = .returned (.bool true) ∧ Below W.heap.size W w' := by simpa using hcalls
  refine hcalls.mono fun e W' ⟨he, hbel⟩ => ?_
  subst he
  refine ⟨_, rfl, law_post (tb := tb) hl ?_ hbt hb hvars hW' (hfn H ds ?_) hbel⟩
  · intro t ht
    have := hpar t ht
    simp only [Bool.and_eq_true] at this
    exact ⟨this.1.2, by simpa [Nat.blt_eq] using this.2⟩
  · have := trodAll_length hA
    simpa using this


end Go.Proofs.YtkolhfpofmpijaaDoor.Ab
