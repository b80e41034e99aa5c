/- A function whose run is known may be laid as one step: its answer up to the numbers of new objects, what is left over dropped. -/
import Derived.Test.YthjijjkoeoemgaaAbRow
namespace Go.Proofs.Ythjijjkoeoemgaa.Ab
open Go
set_option linter.unusedSimpArgs false
set_option linter.unusedVariables false

/-! ### other numbers for objects -/
mutual
def SV.ren (π : Nat → Nat) : SV → SV
  | .ptr id off => .ptr (π id) off
  | .slice id off e l c => .slice (π id) off e l c
  | .func f caps => .func f (renL π caps)
  | .iface t a cs => .iface t a (renL π cs)
  | .bool b => .bool b
  | .int k n => .int k n
  | .str s => .str s
  | .nilPtr => .nilPtr
  | .nilSlice => .nilSlice
  | .nilFunc => .nilFunc
  | .nilIface => .nilIface
def renL (π : Nat → Nat) : List SV → List SV
  | [] => []
  | s :: l => s.ren π :: renL π l
end

mutual
/-- Every object named lies below n. -/
def SV.lo (n : Nat) : SV → Bool
  | .ptr id _ => Nat.blt id n
  | .slice id _ _ _ _ => Nat.blt id n
  | .func _ caps => loL n caps
  | .iface _ _ cs => loL n cs
  | _ => true
def loL (n : Nat) : List SV → Bool
  | [] => true
  | s :: l => s.lo n && loL n l
end

mutual
def AV.ren (π : Nat → Nat) : AV → AV
  | .one s => .one (s.ren π)
  | .agg cs => .agg (renL π cs)
  | .tup l => .tup (renVs π l)
def renVs (π : Nat → Nat) : List AV → List AV
  | [] => []
  | s :: l => s.ren π :: renVs π l
end

mutual
def AV.lo (n : Nat) : AV → Bool
  | .one s => s.lo n
  | .agg cs => loL n cs
  | .tup l => loVs n l
def loVs (n : Nat) : List AV → Bool
  | [] => true
  | s :: l => s.lo n && loVs n l
end

/-- Where the objects of the one heap lie, out of where those of the other do. -/
def Loc.back (ρ : Loc) (π : Nat → Nat) (n : Nat) : Loc := fun id => if id < n then ρ (π id) else none

mutual
theorem SR.back {ρ : Loc} {π : Nat → Nat} {n : Nat} : ∀ {s : SV} {v : Value}, s.lo n = true → SR ρ (s.ren π) v → SR (ρ.back π n) s v
  | .bool b, _, _, h => by cases h; exact .bool b
  | .int k i, _, _, h => by cases h; exact .int k i
  | .str s, _, _, h => by cases h; exact .str s
  | .ptr id off, _, hb, h => by
    simp only [SV.ren] at h
    cases h with
    | ptr h => exact .ptr (by unfold Loc.back; rw [if_pos (by simpa [SV.lo, Nat.blt_eq] using hb)]; exact h)
  | .nilPtr, _, _, h => by cases h; exact .nilPtr
  | .slice id off e l c, _, hb, h => by
    simp only [SV.ren] at h
    have hid : id < n := by simpa [SV.lo, Nat.blt_eq] using hb
    cases h with
    | slice h h1 h2 h3 h4 h5 => exact .slice (by unfold Loc.back; rw [if_pos hid]; exact h) h1 h2 h3 h4 h5
    | slice0 h h2 h4 h5 => exact .slice0 (by unfold Loc.back; rw [if_pos hid]; exact h) h2 h4 h5
  | .nilSlice, _, _, h => by cases h; exact .nilSlice
  | .func f caps, _, hb, h => by
    simp only [SV.ren] at h
    cases h with
    | func h => exact .func (SRs.back (by simpa [SV.lo] using hb) h)
  | .nilFunc, _, _, h => by cases h; exact .nilFunc
  | .iface t true cs, _, hb, h => by
    simp only [SV.ren] at h
    cases h with
    | ifaceA h => exact .ifaceA (SRs.back (by simpa [SV.lo] using hb) h)
  | .iface t false [], _, hb, h => by
    simp only [SV.ren, renL] at h
    cases h
  | .iface t false [s], _, hb, h => by
    simp only [SV.ren, renL] at h
    cases h with
    | iface1 h => exact .iface1 (SR.back (by simpa [SV.lo, loL] using hb) h)
  | .iface t false (s :: s2 :: l), _, hb, h => by
    simp only [SV.ren, renL] at h
    cases h
  | .nilIface, _, _, h => by cases h; exact .nilIface
theorem SRs.back {ρ : Loc} {π : Nat → Nat} {n : Nat} : ∀ {l : List SV} {vs : List Value}, loL n l = true → SRs ρ (renL π l) vs → SRs (ρ.back π n) l vs
  | [], _, _, h => by cases h; exact .nil
  | s :: l, _, hb, h => by
    simp only [renL] at h
    simp only [loL, Bool.and_eq_true] at hb
    cases h with
    | cons h t => exact .cons (SR.back hb.1 h) (SRs.back hb.2 t)
end
mutual
theorem VR.back {ρ : Loc} {π : Nat → Nat} {n : Nat} : ∀ {s : AV} {v : Value}, s.lo n = true → VR ρ (s.ren π) v → VR (ρ.back π n) s v
  | .one s, _, hb, h => by
    simp only [AV.ren] at h
    cases h with
    | one h => exact .one (SR.back (by simpa [AV.lo] using hb) h)
  | .agg cs, _, hb, h => by
    simp only [AV.ren] at h
    cases h with
    | agg h => exact .agg (SRs.back (by simpa [AV.lo] using hb) h)
  | .tup l, _, hb, h => by
    simp only [AV.ren] at h
    cases h with
    | tup h => exact .tup (VRs.back (by simpa [AV.lo] using hb) h)
theorem VRs.back {ρ : Loc} {π : Nat → Nat} {n : Nat} : ∀ {l : List AV} {vs : List Value}, loVs n l = true → VRs ρ (renVs π l) vs → VRs (ρ.back π n) l vs
  | [], _, _, h => by cases h; exact .nil
  | s :: l, _, hb, h => by
    simp only [renVs] at h
    simp only [loVs, Bool.and_eq_true] at hb
    cases h with
    | cons h t => exact .cons (VR.back hb.1 h) (VRs.back hb.2 t)
end

theorem renL_length (π : Nat → Nat) : ∀ l : List SV, (renL π l).length = l.length
  | [] => rfl
  | s :: l => by simp [renL, renL_length π l]

/-- The answer (v, σ') is the run's (v1, σ1) from σ on, but for the numbers of new objects, and for objects left over. -/
structure Iso (σ σ' σ1 : AHeap) (v v1 : AV) (π : Nat → Nat) : Prop where
  size : σ.size ≤ σ'.size
  old : ∀ id, id < σ.size → π id = id
  new : ∀ id, σ.size ≤ id → id < σ'.size → σ.size ≤ π id ∧ π id < σ1.size
  inj : ∀ i j, σ.size ≤ i → i < σ'.size → σ.size ≤ j → j < σ'.size → π i = π j → i = j
  val : v1 = v.ren π
  vbelow : v.lo σ'.size = true
  kept : ∀ id, id < σ.size → (σ'.get id = σ.get id ∧ σ1.get id = σ.get id) ∨
    (∃ o, σ'.get id = some o ∧ σ1.get id = some ⟨renL π o.cells, o.md⟩ ∧ loL σ'.size o.cells = true ∧ σ1.get id ≠ σ.get id)
  made : ∀ id, σ.size ≤ id → id < σ'.size → ∃ o, σ'.get id = some o ∧ σ1.get (π id) = some ⟨renL π o.cells, o.md⟩ ∧ loL σ'.size o.cells = true

theorem CallPost.iso {ρ : Loc} {σ σ' σ1 : AHeap} {w : World} {v v1 : AV} {π : Nat → Nat} (hi : Iso σ σ' σ1 v v1 π) (hr : HR ρ σ.get w) {e : Ending} {w' : World} (h : CallPost ρ σ w σ1 v1 e w') :
    CallPost ρ σ w σ' v e w' := by
  obtain ⟨u, ρ1, rfl, hp, hv⟩ := h
  have hback : ∀ id B, (ρ1.back π σ'.size) id = some B → id < σ'.size ∧ ρ1 (π id) = some B := by
    intro id B hB
    unfold Loc.back at hB
    split at hB
    · exact ⟨by assumption, hB⟩
    · cases hB
  have hold : ∀ id, id < σ.size → (ρ1.back π σ'.size) id = ρ id := by
    intro id hid
    unfold Loc.back
    rw [if_pos (Nat.lt_of_lt_of_le hid hi.size), hi.old id hid, hp.old id hid]
  -- an object of the answer, and the run's
  have obj : ∀ id B, (ρ1.back π σ'.size) id = some B → ∃ o o1, σ'.get id = some o ∧ σ1.get (π id) = some o1 ∧ o1.md = o.md ∧ o1.cells.length = o.cells.length ∧
      (o.md ≠ .dead → ∀ w2 : World, Holds ρ1 w2 B o1.cells → Holds (ρ1.back π σ'.size) w2 B o.cells) := by
    intro id B hB
    obtain ⟨hid, hB1⟩ := hback id B hB
    by_cases hlt : id < σ.size
    · rcases hi.kept id hlt with ⟨k1, k2⟩ | ⟨o, k1, k2, k3, _⟩
      · have hρ : ρ id = some B := by rw [← hold id hlt]; exact hB
        obtain ⟨o, q1, q2, _⟩ := hr.dom id B hρ
        refine ⟨o, o, by rw [k1]; exact q1, by rw [hi.old id hlt, k2]; exact q1, rfl, rfl, ?_⟩
        -- what it holds names old objects alone
        rintro hd w2 ⟨vs, h1, h2⟩
        · obtain ⟨us, g1, _⟩ := q2.holds hd
          refine ⟨vs, ?_, h2⟩
          have hdom : Loc.dom ρ σ.size := fun i B' hB' => hr.lt hB'
          have := h1.cut hdom g1
          refine this.mono ?_
          intro i B' hB'
          unfold Loc.cut at hB'
          split at hB'
          · rename_i hi'
            rw [hold i hi', ← hp.old i hi']
            exact hB'
          · cases hB'
      · exact ⟨o, ⟨renL π o.cells, o.md⟩, k1, by rw [hi.old id hlt]; exact k2, rfl, renL_length π _, fun _ w2 ⟨vs, h1, h2⟩ => ⟨vs, SRs.back k3 h1, h2⟩⟩
    · obtain ⟨o, k1, k2, k3⟩ := hi.made id (by omega) hid
      exact ⟨o, ⟨renL π o.cells, o.md⟩, k1, k2, rfl, renL_length π _, fun _ w2 ⟨vs, h1, h2⟩ => ⟨vs, SRs.back k3 h1, h2⟩⟩
  have inj : ∀ i j, i < σ'.size → j < σ'.size → π i = π j → i = j := by
    intro i j h1 h2 h3
    by_cases a : i < σ.size
    · by_cases b : j < σ.size
      · rw [hi.old i a, hi.old j b] at h3; exact h3
      · have := (hi.new j (by omega) h2).1
        rw [hi.old i a] at h3
        omega
    · by_cases b : j < σ.size
      · have := (hi.new i (by omega) h1).1
        rw [hi.old j b] at h3
        omega
      · exact hi.inj i j (by omega) h1 (by omega) h2 h3
  refine ⟨u, ρ1.back π σ'.size, rfl, ?_, VR.back hi.vbelow (by rw [← hi.val]; exact hv)⟩
  exact {
    le := fun id B hB => by rw [hold id (hr.lt hB)]; exact hB
    size := hi.size
    new := fun id h1 h2 => by
      obtain ⟨k1, k2⟩ := hi.new id h1 h2
      obtain ⟨B, hB⟩ := hp.new (π id) k1 k2
      exact ⟨B, by unfold Loc.back; rw [if_pos h2]; exact hB⟩
    old := hold
    dom := fun id B hB => (hback id B hB).1
    same := fun id h1 h2 => by
      rcases hi.kept id h1 with ⟨k1, _⟩ | ⟨o, _, _, _, k4⟩
      · exact k1
      · exact absurd (hp.same id h1 h2) k4
    md := fun id B o' h1 h2 h3 => by
      have hid := hr.lt h1
      rcases hi.kept id hid with ⟨k1, k2⟩ | ⟨o, k1, k2, _, _⟩
      · rw [k1] at h2; exact ⟨o', h2, h3⟩
      · rw [h2] at k1; cases k1
        exact hp.md id B _ h1 k2 h3
    md' := fun id B o h1 h2 h3 => by
      have hid := hr.lt h1
      obtain ⟨o1, q1, q2⟩ := hp.md' id B o h1 h2 h3
      rcases hi.kept id hid with ⟨k1, k2⟩ | ⟨o', k1, k2, _, _⟩
      · exact ⟨o, by rw [k1]; exact h2, h3⟩
      · rw [q1] at k2; cases k2
        exact ⟨o', k1, q2⟩
    hr := {
      dom := fun id B hB => by
        obtain ⟨o, o1, k1, k2, k3, k4, k5⟩ := obj id B hB
        obtain ⟨o2, q1, q2, q3⟩ := hp.hr.dom (π id) B (hback id B hB).2
        rw [k2] at q1; cases q1
        exact ⟨o, k1, ⟨by rw [← k4]; exact q2.len, q2.fit, fun hd => k5 hd _ (q2.holds (by rw [k3]; exact hd)), fun ho => q2.own (by rw [k3]; exact ho)⟩, q3⟩
      excl := fun i j B B' o o' h1 h2 h3 h4 hne h5 h6 => by
        obtain ⟨a1, a2, k1, k2, k3, _, _⟩ := obj i B h1
        obtain ⟨b1, b2, q1, q2, q3, _, _⟩ := obj j B' h2
        rw [h3] at k1; cases k1
        rw [h4] at q1; cases q1
        refine hp.hr.excl (π i) (π j) B B' a2 b2 (hback i B h1).2 (hback j B' h2).2 k2 q2 (fun e => hne (inj i j (hback i B h1).1 (hback j B' h2).1 e)) (by rw [k3]; exact h5) (by rw [q3]; exact h6) }
    hsize := hp.hsize
    frame := hp.frame
    fresh := fun id B h1 h2 => by
      obtain ⟨hid, hB⟩ := hback id B h2
      exact hp.fresh (π id) B (hi.new id h1 hid).1 hB
    os := hp.os
    tape := hp.tape
    output := hp.output }

/-! ### a function laid as one step -/
def PrimOk (P : Program) (f : Nat) (p : Prim) : Prop := ∀ args σ v σ', p args σ = some (v, σ') → Callable P f ∧
    ∀ ρ w vs, VRs ρ args vs → HR ρ σ.get w → Calls P f vs.toArray w (CallPost ρ σ w σ' v)

theorem primOk_of_run {P : Program} {C : Ctx} (hC : C.Good P) {f : Nat} {p : Prim}
    (h : ∀ args σ v σ', p args σ = some (v, σ') → ∃ n v1 σ1 π, evCall C n f args σ = some (v1, σ1) ∧ Iso σ σ' σ1 v v1 π) : PrimOk P f p := by
  intro args σ v σ' hp
  obtain ⟨n, v1, σ1, π, he, hi⟩ := h args σ v σ' hp
  obtain ⟨h1, h2⟩ := sound hC n f args σ v1 σ1 he
  exact ⟨h1, fun ρ w vs hv hr => (h2 ρ w vs hv hr).mono (fun e w' he => CallPost.iso hi hr he)⟩

/-- A context with one function more laid. -/
def Ctx.lay (C : Ctx) (f : Nat) (p : Prim) : Ctx := ⟨C.code, fun g => if g = f then some p else C.prim g⟩

theorem Ctx.lay_good {P : Program} {C : Ctx} (hC : C.Good P) {f : Nat} {p : Prim} (hp : PrimOk P f p) : (C.lay f p).Good P where
  code := hC.code
  prim := fun g q hq => by
    unfold Ctx.lay at hq
    simp only at hq
    split at hq
    · rename_i e
      subst e
      cases hq
      exact hp
    · exact hC.prim g q hq

/-- The usual answers: nothing new, nothing written. -/
theorem Iso.drop {σ σ1 : AHeap} {v : AV} (hsz : σ.size ≤ σ1.size) (hk : ∀ id, id < σ.size → σ1.get id = σ.get id) (hv : v.ren id = v) (hb : v.lo σ.size = true) : Iso σ σ σ1 v v id where
  size := Nat.le_refl _
  old := fun _ _ => rfl
  new := fun id h1 h2 => by omega
  inj := fun i j h1 h2 => by omega
  val := hv.symm
  vbelow := hb
  kept := fun id h => .inl ⟨rfl, hk id h⟩
  made := fun id h1 h2 => by omega

mutual
theorem SV.ren_id : ∀ s : SV, s.ren id = s
  | .ptr _ _ => rfl
  | .slice .. => rfl
  | .func f caps => by simp only [SV.ren, renL_id caps]
  | .iface t a cs => by simp only [SV.ren, renL_id cs]
  | .bool _ | .int _ _ | .str _ | .nilPtr | .nilSlice | .nilFunc | .nilIface => rfl
theorem renL_id : ∀ l : List SV, renL id l = l
  | [] => rfl
  | s :: l => by simp only [renL, SV.ren_id s, renL_id l]
end
mutual
theorem AV.ren_id : ∀ s : AV, s.ren id = s
  | .one s => by simp only [AV.ren, SV.ren_id s]
  | .agg cs => by simp only [AV.ren, renL_id cs]
  | .tup l => by simp only [AV.ren, renVs_id l]
theorem renVs_id : ∀ l : List AV, renVs id l = l
  | [] => rfl
  | s :: l => by simp only [renVs, AV.ren_id s, renVs_id l]
end

/-- Nothing new, nothing written: the run's own answer. -/
theorem Iso.pure {σ σ1 : AHeap} {v : AV} (hsz : σ.size ≤ σ1.size) (hk : ∀ id, id < σ.size → σ1.get id = σ.get id) (hb : v.lo σ.size = true) : Iso σ σ σ1 v v id :=
  Iso.drop hsz hk (AV.ren_id v) hb

end Go.Proofs.Ythjijjkoeoemgaa.Ab
