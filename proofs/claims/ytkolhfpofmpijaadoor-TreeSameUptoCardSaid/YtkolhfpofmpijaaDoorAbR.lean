/- Several of my texts in one: AbRng, AbRng2, AbRng3, AbRng4, AbTail, AbTail2. -/
import Derived.Test.YtkolhfpofmpijaaDoorAbD
import Derived.RangeFuncRecord
/- Loops over functions: what a record's change leaves of the relation; rounds; the whole loop. -/
namespace Go.Proofs.YtkolhfpofmpijaaDoor.Ab
open Go
set_option linter.unusedSimpArgs false
set_option linter.unusedVariables false

/-- The block is no cells and no map. -/
def NoCells (w : World) (b : Nat) : Prop := ∃ ob, w.heap[b]? = some ob ∧ (∀ c t f, ob ≠ .cells c t f) ∧ (∀ e c, ob ≠ .map e c) ∧ ∀ o, w.cell? ⟨b, o, none⟩ = none

theorem noCells_loop {w : World} {b : Nat} {r : Loop} (h : w.heap[b]? = some (.loop r)) : NoCells w b :=
  ⟨_, h, (fun _ _ _ e => by cases e), (fun _ _ e => by cases e), (fun o => by simp [World.cell?, h])⟩
theorem noCells_def {w : World} {b : Nat} {r : Option (List Deferred)} (h : w.heap[b]? = some (.deferred r)) : NoCells w b :=
  ⟨_, h, (fun _ _ _ e => by cases e), (fun _ _ e => by cases e), (fun o => by simp [World.cell?, h])⟩

theorem not_owned {I : LoopP} {ρ : Loc} {g : Nat → Option AObj} {w : World} (h : HR ρ g w) {b : Nat} (hb : NoCells w b) : ¬ Owned ρ g b := by
  obtain ⟨ob, h0, h1, h2, h3⟩ := hb
  rintro ⟨id, B, o, k1, k2, k3, rfl⟩
  obtain ⟨o', q1, q2, q3⟩ := h.dom id B k1
  rw [k2] at q1; cases q1
  obtain ⟨cs, md⟩ := o
  cases md with
  | own =>
    obtain ⟨cur, t, fz, e, _⟩ := q2.own rfl
    rw [h0] at e; cases e; exact h1 _ _ _ rfl
  | map c es =>
    obtain ⟨en, e, _⟩ := q2.mp c es rfl
    rw [h0] at e; cases e; exact h2 _ _ rfl
  | tag t f =>
    obtain ⟨_, cur, e, _⟩ := q2.tg t f rfl
    rw [h0] at e; cases e; exact h1 _ _ _ rfl
  | _ => cases k3

/-- A block that is no cells is changed. -/
theorem HR.put {I J : LoopP} {ρ : Loc} {g : Nat → Option AObj} {w w' : World} (h : @HR I ρ g w) {b0 : Nat} (hb : NoCells w b0) (hsz : w'.heap.size = w.heap.size) (ho : ∀ b, b ≠ b0 → w'.heap[b]? = w.heap[b]?)
    (hJ : ∀ id B o r, ρ id = some B → g id = some o → w.heap[B.b]? = some (.loop r) → @PinOk I ρ B r → ∃ r', w'.heap[B.b]? = some (.loop r') ∧ @PinOk J ρ B r') : @HR J ρ g w' := by
  obtain ⟨dom, excl, frz, gl, rows⟩ := h
  refine @HR.mk J ρ g w' ?_ excl ?_ gl ?_
  · intro id B hB
    obtain ⟨o, h1, ⟨len, fit, holds, own, mp, tg, lp⟩, h3⟩ := dom id B hB
    refine ⟨o, h1, ?_, by rw [hsz]; exact h3⟩
    have hlp : o.md = .loop → @LoopOk J ρ w' B := fun he => by
      obtain ⟨r, q1, q2⟩ := lp he
      exact hJ id B o r hB h1 q1 q2
    by_cases e : B.b = b0
    · obtain ⟨ob, e0, e1, e2, e3⟩ := hb
      have hnc : Own w B → False := fun ⟨cur, t, fz, q, _⟩ => by rw [e, e0] at q; cases q; exact e1 _ _ _ rfl
      refine @ObjOk.mk J ρ w' B o len fit (fun hd => ?_) (fun hd => absurd (own hd) hnc) (fun c es hd => ?_) (fun t f hd => ?_) hlp
      · obtain ⟨vs, q1, q2⟩ := holds hd
        cases vs with
        | nil => exact ⟨[], q1, fun j v hj => by simp at hj⟩
        | cons v vs =>
          have := q2 0 v rfl
          rw [e] at this
          rw [e3] at this
          cases this
      · obtain ⟨en, q, _⟩ := mp c es hd
        rw [e, e0] at q; cases q; exact absurd rfl (e2 _ _)
      · obtain ⟨_, cur, q, _⟩ := tg t f hd
        rw [e, e0] at q; cases q; exact absurd rfl (e1 _ _ _)
    · have e4 := ho B.b e
      refine @ObjOk.mk J ρ w' B o len fit (fun hd => ?_) (fun hd => (own hd).of_heap e4) (fun c es hd => ?_) (fun t f hd => ?_) hlp
      · obtain ⟨vs, q1, q2⟩ := holds hd
        exact ⟨vs, q1, fun j v hj => by rw [cell_of_heap e4]; exact q2 j v hj⟩
      · obtain ⟨en, q1, q2⟩ := mp c es hd
        exact ⟨en, by rw [e4]; exact q1, q2⟩
      · obtain ⟨q1, cur, q2, q3⟩ := tg t f hd
        exact ⟨q1, cur, by rw [e4]; exact q2, q3⟩
  · intro b o v hv
    obtain ⟨h1, h2⟩ := frz b o v hv
    refine ⟨?_, h2⟩
    have : b ≠ b0 := by
      rintro rfl
      obtain ⟨_, _, _, _, e3⟩ := hb
      rw [e3] at h1; cases h1
    rw [cell_of_heap (ho b this)]; exact h1
  · intro k c l hk
    obtain ⟨cur, t, fz, h1, h2⟩ := rows k c l hk
    refine ⟨cur, t, fz, ?_, h2⟩
    have : k ≠ b0 := by
      rintro rfl
      obtain ⟨ob, e0, e1, _⟩ := hb
      rw [e0] at h1; cases h1; exact e1 _ _ _ rfl
    rw [ho k this]; exact h1

/-- The same under other pins. -/
theorem HR.inst {I J : LoopP} {ρ : Loc} {g : Nat → Option AObj} {w : World} (h : @HR I ρ g w)
    (hJ : ∀ id B o r, ρ id = some B → g id = some o → w.heap[B.b]? = some (.loop r) → @PinOk J ρ B r) : @HR J ρ g w := by
  obtain ⟨dom, excl, frz, gl, rows⟩ := h
  refine @HR.mk J ρ g w ?_ excl frz gl rows
  intro id B hB
  obtain ⟨o, h1, ⟨len, fit, holds, own, mp, tg, lp⟩, h3⟩ := dom id B hB
  refine ⟨o, h1, @ObjOk.mk J ρ w B o len fit holds own mp tg (fun he => ?_), h3⟩
  obtain ⟨r, q1, q2⟩ := lp he
  exact ⟨r, q1, hJ id B o r hB h1 q1⟩

theorem pin_def {ρ : Loc} {B : Blk} {r : Loop} : @PinOk instLoopP ρ B r := fun _ _ _ _ h => by cases h

theorem HR.def_ {I : LoopP} {ρ : Loc} {g : Nat → Option AObj} {w : World} (h : @HR I ρ g w) : @HR instLoopP ρ g w := HR.inst (I := I) (J := instLoopP) h (fun _ _ _ _ _ _ _ => pin_def)

/-- A block more, that is nobody's. -/
theorem HR.grow {I : LoopP} {ρ : Loc} {g : Nat → Option AObj} {w : World} (h : HR ρ g w) (ob : Obj) : HR ρ g (w.alloc ob) := by
  have hold : ∀ k, k < w.heap.size → (w.alloc ob).heap[k]? = w.heap[k]? := by
    intro k hk
    show (w.heap.push _)[k]? = _
    rw [Array.getElem?_push, if_neg (by omega)]
  exact {
    dom := fun id B hB => by
      obtain ⟨o, h1, h2, h3⟩ := h.dom id B hB
      exact ⟨o, h1, h2.of_heap (.refl ρ) (hold _ h3), by show B.b < (w.heap.push _).size; simp; omega⟩
    excl := h.excl
    frz := fun b o v hv => by
      obtain ⟨h1, h2⟩ := h.frz b o v hv
      exact ⟨by rw [cell_of_heap (hold b (h.frzLt hv))]; exact h1, h2⟩
    gl := h.gl
    rows := rows_stays h (fun b hb _ => hold b hb) }

/-- What a way through code does, seen from a world that differs in one block that is told apart. -/
theorem Post.swap {I J : LoopP} {ρ ρ' : Loc} {σ σ' : AHeap} {w w1 w1' w' : World} (h : @Post I ρ σ w1 ρ' σ' w1') (l : Nat) (hs : w1.heap.size = w.heap.size) (hs' : w'.heap.size = w1'.heap.size)
    (h1 : ∀ b, b ≠ l → w1.heap[b]? = w.heap[b]?) (h2 : ∀ b, b ≠ l → w'.heap[b]? = w1'.heap[b]?) (hl : w'.heap[l]? = w.heap[l]? ∨ w.heap.size ≤ l) (hr : @HR J ρ' σ'.get w')
    (ho : w'.os = w1'.os ∧ w1.os = w.os) (ht : w'.tape = w1'.tape ∧ w1.tape = w.tape) (hp : w'.output = w1'.output ∧ w1.output = w.output) : @Post J ρ σ w ρ' σ' w' := by
  obtain ⟨le, size, new, old, dom, same, md, md', _, hsize, frame, fresh, fz, os, tape, output⟩ := h
  refine @Post.mk J ρ σ w ρ' σ' w' le size new old dom same md md' hr (by rw [hs', ← hs]; exact hsize) ?_ ?_ ?_ (by rw [ho.1, os, ho.2]) (by rw [ht.1, tape, ht.2]) (by rw [hp.1, output, hp.2])
  · intro b hb hn
    by_cases e : b = l
    · subst e
      rcases hl with hl | hl
      · exact hl
      · omega
    · rw [h2 b e, ← h1 b e]
      exact frame b (by rw [hs]; exact hb) hn
  · intro id B k1 k2
    rw [← hs]
    exact fresh id B k1 k2
  · intro b o v k
    rw [← hs]
    exact fz b o v k

theorem Post.inst {I J : LoopP} {ρ ρ' : Loc} {σ σ' : AHeap} {w w' : World} (h : @Post I ρ σ w ρ' σ' w') (hr : @HR J ρ' σ'.get w') : @Post J ρ σ w ρ' σ' w' :=
  Post.swap (I := I) (J := J) h w.heap.size rfl rfl (fun _ _ => rfl) (fun _ _ => rfl) (.inr (Nat.le_refl _)) hr ⟨rfl, rfl⟩ ⟨rfl, rfl⟩ ⟨rfl, rfl⟩

end Go.Proofs.YtkolhfpofmpijaaDoor.Ab

/- A round of a loop over a function. -/
namespace Go.Proofs.YtkolhfpofmpijaaDoor.Ab
open Go
set_option linter.unusedSimpArgs false
set_option linter.unusedVariables false

section
variable {P : Program} [IsProg P] {C : Ctx}

theorem code_run (hC : C.Good P) (N m : Nat) {c : Code} {ac : ACode} {fr fr' : List AV} {σ σ' : AHeap} {x : AX} (hc : compCode P c = some ac) (he : evCode (evCall C N) m ac fr σ = some (x, fr', σ'))
    {ρ : Loc} {a : Act} {w : World} {D : List Deferred} (hf : FR ρ fr a.tmps) (hd : a.defers = D) (hr : HR ρ σ.get w) (r : Option Nat) : c.wpIn (fen r) 0 P (EndsAt D ρ σ w x.toExit fr' σ') a w :=
  code_sound (sound hC N).any (draw_sound (sound hC N).any) m c ac fr fr' σ σ' x hc he ρ a w hf hd hr r

/-- Parameters are set. -/
def setAll : List Nat → List AV → List AV → List AV
  | t :: ps, v :: vs, fr => setAll ps vs (setSlot fr t v)
  | _, _, fr => fr

theorem FR.setAll {ρ : Loc} : ∀ (ps : List Nat) (args : List AV) (vs : List Value) (fr : List AV) (tmps : Array Value), FR ρ fr tmps → VRs ρ args vs →
    FR ρ (setAll ps args fr) ((ps.zip vs).foldl (fun tmps (x : Nat × Value) => tmps.setIfInBounds x.1 x.2) tmps)
  | [], _, _, _, _, h, _ => by simpa [Ab.setAll] using h
  | t :: ps, [], _, _, _, h, .nil => by simpa [Ab.setAll] using h
  | t :: ps, v :: args, _, fr, tmps, h, .cons (v := u) (vs := us) hv ht => by
    simp only [Ab.setAll, List.zip_cons_cons, List.foldl_cons]
    exact FR.setAll ps args us _ _ (FR.put (a := ⟨tmps, []⟩) h (some t) hv) ht

theorem foldl_zip (ps : Array Nat) (vs : List Value) (tmps : Array Value) :
    (ps.zip vs.toArray).foldl (fun tmps (x : Nat × Value) => tmps.setIfInBounds x.1 x.2) tmps = (ps.toList.zip vs).foldl (fun tmps (x : Nat × Value) => tmps.setIfInBounds x.1 x.2) tmps := by
  rw [← Array.foldl_toList]
  simp

/-- What a loop's body does, told by a function on the memory. -/
def BodyOk (P : Program) (body : Code) (bd : List AV → AHeap → Option AHeap) : Prop := ∀ fr σ σ', bd fr σ = some σ' → ∀ (ρ : Loc) (a : Act) (w : World) (r : Option Nat), FR ρ fr a.tmps → a.defers = [] → HR ρ σ.get w →
  body.wpIn (fen r) 0 P (fun e a' w' => e = .normal ∧ ∃ ρ', Post ρ σ w ρ' σ' w') a w

/-- A body that is compiled. -/
noncomputable def codeB (C : Ctx) (N : Nat) (aB : ACode) : List AV → AHeap → Option AHeap := fun fr σ => match evCode (evCall C N) N aB fr σ with
  | some (.normal, _, σ2) => some σ2
  | _ => none
theorem codeB_ok (hC : C.Good P) (N : Nat) {body : Code} {aB : ACode} (hB : compCode P body = some aB) : BodyOk P body (codeB C N aB) := by
  intro fr σ σ' h ρ a w r hf hd hr
  unfold codeB at h
  split at h
  · rename_i fr2 σ2 e2
    cases h
    refine wpIn_mono (code_run hC N N hB e2 hf hd hr r) ?_
    rintro e a2 wc ⟨rfl, hd2, ρb, hpb, hfb⟩
    exact ⟨rfl, ρb, hpb⟩
  · cases h

/-- One round, of a record that is ready. -/
theorem round_run (hC : C.Good P) (N : Nat) {ρ : Loc} {σ σ1 σ2 : AHeap} {w : World} {l : Nat} {r0 : Loop} {fr fr1 args : List AV} {vs : List Value} {aA : ACode} {bd : List AV → AHeap → Option AHeap}
    (hl : w.heap[l]? = some (.loop r0)) (hst : r0.state = .ready) (hpd : r0.pending = none) (hr : HR ρ σ.get w) (hfr : FR ρ fr r0.tmps) (hargs : VRs ρ args vs)
    (hA : compCode P r0.assign = some aA) (hB : BodyOk P r0.body bd) (e1 : evCode (evCall C N) N aA (setAll r0.params.toList args fr) σ = some (.normal, fr1, σ1))
    (e2 : bd fr1 σ1 = some σ2) :
    RoundIn Fence.wide 0 P l r0.fn ((r0.params.zip vs.toArray).foldl (fun tmps (x : Nat × Value) => tmps.setIfInBounds x.1 x.2) r0.tmps) r0.assign r0.body w
      (fun e w' => e = .returned (.bool true) ∧ ∃ ρ', Post ρ σ w ρ' σ2 w' ∧ w'.heap[l]? = some (.loop r0)) := by
  refine roundIn_of_wpIn trivial ?_
  show Code.wpIn (fen (some l)) 0 P _ _ _ w
  have hlt : l < w.heap.size := (Array.getElem?_eq_some_iff.1 hl).1
  refine wpIn_mono (code_run hC N N hA e1 (a := ⟨_, []⟩) (by rw [foldl_zip]; exact FR.setAll _ _ _ _ _ hfr hargs) rfl hr (some l)) ?_
  rintro e a1 wa ⟨rfl, hd, ρa, hpa, hfa⟩
  show ∃ w₂, (Instr.beginRound l).run P wa = .ok () w₂ ∧ Code.wpIn (fen (some l)) 0 P _ _ a1 w₂
  have hla : wa.heap[l]? = some (.loop r0) := by rw [hpa.frame l hlt (not_owned hr (noCells_loop hl))]; exact hl
  have hlta : l < wa.heap.size := (Array.getElem?_eq_some_iff.1 hla).1
  refine ⟨_, run_beginRound hla hst, ?_⟩
  generalize hbz : ({ r0 with state := .busy } : Loop) = busy
  have hlb : (wa.putObj l (.loop busy)).heap[l]? = some (.loop busy) := World.putObj_heap_same hlta
  have hrb : HR ρa σ1.get (wa.putObj l (.loop busy)) := by
    refine HR.put hpa.hr (noCells_loop hla) World.putObj_size (fun b hb => World.putObj_heap_other hb) (fun id B o r hB' hg hh hp => ?_)
    by_cases e : B.b = l
    · exact ⟨busy, by rw [e]; exact hlb, pin_def⟩
    · exact ⟨r, by rw [World.putObj_heap_other e]; exact hh, pin_def⟩
  refine wpIn_mono (hB _ _ _ e2 _ _ _ (some l) hfa hd hrb) ?_
  rintro e a2 wc ⟨rfl, ρb, hpb⟩
  show ∃ v w', (Instr.endRound l none).run P wc = .ok v w' ∧ _
  have hlc : wc.heap[l]? = some (.loop busy) := by rw [hpb.frame l (by simpa using hlta) (not_owned hrb (noCells_loop hlb))]; exact hlb
  have hltc : l < wc.heap.size := (Array.getElem?_eq_some_iff.1 hlc).1
  refine ⟨_, _, run_endRound none hlc, rfl, ρb, ?_⟩
  have er : ({ busy with state := if (none : Option Code).isNone then .ready else .done, pending := none } : Loop) = r0 := by
    subst hbz
    obtain ⟨st, pd, f, t, p, a, b, d⟩ := r0
    simp only at hst hpd
    subst hst; subst hpd
    rfl
  rw [er]
  have hld : (wc.putObj l (.loop r0)).heap[l]? = some (.loop r0) := World.putObj_heap_same hltc
  refine ⟨hpa.trans (Post.swap hpb l World.putObj_size World.putObj_size (fun b hb => World.putObj_heap_other hb) (fun b hb => World.putObj_heap_other hb) (.inl (by rw [hld, hla])) ?_
    ⟨rfl, rfl⟩ ⟨rfl, rfl⟩ ⟨rfl, rfl⟩), hld⟩
  refine HR.put hpb.hr (noCells_loop hlc) World.putObj_size (fun b hb => World.putObj_heap_other hb) (fun id B o r hB' hg hh hp => ?_)
  by_cases e : B.b = l
  · exact ⟨r0, by rw [e]; exact hld, pin_def⟩
  · exact ⟨r, by rw [World.putObj_heap_other e]; exact hh, pin_def⟩

/-- A yield, as one step: the loop's left sides are set, its body runs. -/
noncomputable def bodyP (C : Ctx) (N k : Nat) (fr : List AV) (ps : List Nat) (aA : ACode) (bd : List AV → AHeap → Option AHeap) : Prim := fun args σ => match σ.get k with
  | some ⟨_, .loop⟩ => match Nat.beq args.length ps.length with
    | true => match evCode (evCall C N) N aA (setAll ps args fr) σ with
      | some (.normal, fr1, σ1) => match bd fr1 σ1 with
        | some σ2 => some (.one (.bool true), σ2)
        | none => none
      | _ => none
    | false => none
  | _ => none

theorem yield_ok (hC : C.Good P) (N : Nat) {k l : Nat} {r0 : Loop} {fr : List AV} {aA : ACode} {bd : List AV → AHeap → Option AHeap} (hst : r0.state = .ready) (hpd : r0.pending = none)
    (hA : compCode P r0.assign = some aA) (hB : BodyOk P r0.body bd) {args : List AV} {σ σ' : AHeap} {v : AV} (h : bodyP C N k fr r0.params.toList aA bd args σ = some (v, σ')) :
    @YieldP ⟨some (k, l, r0, fr)⟩ P (yldN + k) args σ v σ' := by
  unfold bodyP at h
  split at h
  · rename_i cs hk
    split at h
    · rename_i hlen
      split at h
      · rename_i fr1 σ1 e1
        split at h
        · rename_i σ2 e2
          cases h
          refine ⟨k, rfl, fun ρ w vs B hv hr hB' => ?_⟩
          have hr0 := HR.def_ (I := ⟨some (k, l, r0, fr)⟩) hr
          obtain ⟨dom, _, _, _, _⟩ := hr
          obtain ⟨o, g1, ⟨_, _, _, _, _, _, lp⟩, g3⟩ := dom k B hB'
          rw [hk] at g1
          cases g1
          obtain ⟨r, q1, q2⟩ := lp rfl
          obtain ⟨⟨B0, q3, q4⟩, q5, q6, q7⟩ := q2 k l r0 fr rfl
          rw [hB'] at q3
          cases q3
          have : r = r0 := q5 q4
          subst this
          have hlen' : args.length = r.params.size := by simpa using Nat.eq_of_beq_eq_true hlen
          refine ⟨_, _, _, _, run_yield q1 (by simpa [← hv.length] using hlen'), ?_⟩
          refine (round_run hC N q1 hst hpd hr0 ⟨q6, q7, hr0.gl⟩ hv hA hB e1 e2).mono ?_
          rintro e w' ⟨rfl, ρ', hp, hl'⟩
          refine ⟨.bool true, ρ', rfl, Post.inst (I := instLoopP) hp ?_, .one (.bool true)⟩
          refine HR.inst (I := instLoopP) hp.hr (fun id B1 o r1 h1 h2 h3 => ?_)
          rintro k' l' r' fr' hpin
          cases hpin
          refine ⟨⟨B, hp.le.at_ _ _ hB', q4⟩, fun e => ?_, q6, fun t => (q7 t).mono hp.le⟩
          rw [e, ← q4, hl'] at h3
          cases h3
          rfl
        · cases h
      · cases h
    · cases h
  · cases h

end
end Go.Proofs.YtkolhfpofmpijaaDoor.Ab

/- A function with one loop over a function. -/
namespace Go.Proofs.YtkolhfpofmpijaaDoor.Ab
open Go
set_option linter.unusedSimpArgs false
set_option linter.unusedVariables false
set_option linter.unusedSectionVars false

section
variable {P : Program} [IsProg P] {C : Ctx}

/-- A call, by what a hint makes of it. -/
theorem hint_call {f : Nat} {h : Hint} {args args' : List AV} {σ σ0 σ1 σ' : AHeap} {rv v : AV} (hin : inArgs h args σ = some (args', σ0)) (hc : CallP P f args' σ0 rv σ1) (ho : hintRes h args σ rv σ1 = some (v, σ')) :
    CallP P f args σ v σ' := by
  refine ⟨hc.1, fun ρ w vs hv hr => ?_⟩
  have main : ∀ ρ0, VRs ρ0 args' vs → HR ρ0 σ0.get w → (∀ ρ1 w' u, Post ρ0 σ0 w ρ1 σ1 w' → VR ρ1 rv u → ∃ ρ2, Post ρ σ w ρ2 σ' w' ∧ VR ρ2 v u) → Calls P f vs.toArray w (CallPost ρ σ w σ' v) :=
    fun ρ0 h1 h2 h3 => (hc.2 ρ0 w vs h1 h2).mono (by
      rintro e w' ⟨u, ρ1, rfl, hp, hu⟩
      obtain ⟨ρ2, a, b⟩ := h3 ρ1 w' u hp hu
      exact ⟨u, ρ2, rfl, a, b⟩)
  cases h with
  | no =>
    cases hin
    exact main ρ hv hr (fun ρ' w' u hp hu => by cases ho; exact ⟨ρ', hp, hu⟩)
  | pure =>
    cases hin
    exact main ρ hv hr (fun ρ' w' u hp hu => frzRes_sound hr hp hu ho)
  | gc =>
    cases hin
    exact main ρ hv hr (fun ρ' w' u hp hu => gcRes_sound hr hp hu ho)
  | rd =>
    simp only [inArgs] at hin
    split at hin
    · rename_i a ids hfa
      cases hin
      obtain ⟨k1, _⟩ := frzDAs_rel (K := fun _ => True) hr hfa hv (fun _ _ => trivial)
      refine main (ρ.ownf σ w fun _ => True) k1 hr.ownf (fun ρ' w' u hp hu => ?_)
      simp only [hintRes] at ho
      split at ho
      · rename_i hs
        cases ho
        exact ⟨ρ, hp.rd hr, hu.scal hs⟩
      · cases ho
    · cases hin
  | mv =>
    simp only [inArgs] at hin
    split at hin
    · rename_i a ids hfa
      cases hin
      obtain ⟨k1, _⟩ := frzDAs_rel (K := (· ∈ ids)) hr hfa hv (fun _ h => h)
      refine main (ρ.ownf σ w (· ∈ ids)) k1 hr.ownf (fun ρ' w' u hp hu => ?_)
      simp only [hintRes, hfa] at ho
      split at ho
      · rename_i b2 ids2 v2 i2 e1 e2
        cases e1
        cases ho
        exact ⟨_, hp.mv hr (frzDAs_ids hr hfa hv), mv_ans hr hp e2 hu⟩
      · cases ho
    · cases hin

/-- The context in which the function that is ranged over runs: its code, and the yield. -/
def iterC (ic : Nat → Option AFunc) (ih : Nat → Hint) (k : Nat) (p : Prim) : Ctx := ⟨ic, fun g => if g = k then some p else none, ih⟩

noncomputable def evRange (C : Ctx) (ic : Nat → Option AFunc) (ih : Nat → Hint) (N : Nat) (a0 a1 a2 aA a3 : ACode) (bd : List AV → AHeap → Option AHeap) (g : Nat) (ps : List Nat) (ntmps : Nat) (rs : List AResult) (args : List AV) (σ : AHeap) : Option (AV × AHeap) :=
  match evCode (evCall C N) N a0 (args ++ repUndef (ntmps - args.length)) σ with
  | some (.normal, fr1, s1) => match evCode (evCall C N) N a1 fr1 s1 with
    | some (.normal, fr2, s2) => match evCode (evCall C N) N a2 fr2 s2 with
      | some (.normal, fr3, s3) => match getSlot fr3 g with
        | .one (.func gi caps) => match Nat.blt gi yldN with
          | true => match evCall (iterC ic ih (yldN + s3.size) (bodyP C N s3.size fr3 ps aA bd)) N gi (.one (.func (yldN + s3.size) []) :: caps.map .one) (s3.alloc ⟨[], .loop⟩) with
            | some (_, s5) => match s5.get s3.size with
              | some ⟨_, .loop⟩ => match evCode (evCall C N) N a3 fr3 s5 with
                | some (.ret, fr6, s6) => match resOfs fr6 s6 rs with
                  | some vs => some (tupOf vs, s6)
                  | none => none
                | _ => none
              | _ => none
            | none => none
          | false => none
        | _ => none
      | _ => none
    | _ => none
  | _ => none

@[instance_reducible] def pinI (k l : Nat) (r0 : Loop) (fr : List AV) : LoopP := ⟨some (k, l, r0, fr)⟩

theorem Post.growB {ρ : Loc} {σ : AHeap} {w : World} (h : HR ρ σ.get w) (ob : Obj) : Post ρ σ w ρ σ (w.alloc ob) :=
  { Post.refl h with
    hr := h.grow ob
    hsize := by simp
    frame := fun b hb _ => by
      show (w.heap.push _)[b]? = _
      rw [Array.getElem?_push, if_neg (by omega)]
    os := rfl
    tape := rfl
    output := rfl }

theorem evRange_sound (hC : C.Good P) {ic : Nat → Option AFunc} {ih : Nat → Hint} (hic : ∀ f F, ic f = some F → ∃ fn, P.funcs[f]? = some fn ∧ compFunc P fn = some F)
    {N f g bid : Nat} {fn : Func} {c0 c1 c2 c3 asg body : Code} {ps : Array Tmp} {a0 a1 a2 aA a3 : ACode} {bd : List AV → AHeap → Option AHeap} {rs : List AResult}
    (hfn : P.funcs[f]? = some fn) (hname : fn.name ≠ "runtime.NumGoroutine") (hbody : fn.body = some (.seq c0 (.seq c1 (.seq (.seq c2 (.block bid (.rangeFunc (.tmp g) ps asg body))) c3))))
    (h0 : compCode P c0 = some a0) (h1 : compCode P c1 = some a1) (h2 : compCode P c2 = some a2) (hA : compCode P asg = some aA) (hB : BodyOk P body bd) (h3 : compCode P c3 = some a3)
    (hres : compResults P fn.results.toList = some rs) {args : List AV} {σ σ' : AHeap} {v : AV}
    (he : evRange C ic ih N a0 a1 a2 aA a3 bd g ps.toList fn.ntmps rs args σ = some (v, σ')) : CallP P f args σ v σ' := by
  refine ⟨⟨fn, hfn, hname, by rw [hbody]; rfl⟩, fun ρ w vs hv hr => ?_⟩
  unfold evRange at he
  split at he
  rotate_left
  · cases he
  rename_i fr1 s1 e0
  split at he
  rotate_left
  · cases he
  rename_i fr2 s2 e1
  split at he
  rotate_left
  · cases he
  rename_i fr3 s3 e2
  split at he
  rotate_left
  · cases he
  rename_i gi caps eg
  split at he
  rotate_left
  · cases he
  rename_i hgi
  split at he
  rotate_left
  · cases he
  rename_i v5 s5 e5
  split at he
  rotate_left
  · cases he
  rename_i cs5 hk5
  split at he
  rotate_left
  · cases he
  rename_i fr6 s6 e6
  split at he
  rotate_left
  · cases he
  rename_i vs6 hrv
  cases he
  refine (callsIn_wide (n := 0)).1 (callsIn_of_wp_marks hfn hbody trivial ?_)
  have hfr : FR ρ (args ++ repUndef (fn.ntmps - args.length)) (vs.toArray ++ Array.replicate (fn.ntmps - vs.toArray.size) undef) := by
    have h1 := FR.of_list (hv.append (repUndef_rel (ρ := ρ) (fn.ntmps - args.length))) hr.gl
    have h2 : vs.toArray ++ Array.replicate (fn.ntmps - vs.toArray.size) undef = (vs ++ List.replicate (fn.ntmps - args.length) undef).toArray := by
      apply Array.ext'
      simp [hv.length]
    rw [h2]
    exact h1
  refine wpIn_seq (wpIn_mono (F := Fence.wide) (code_run hC N N h0 e0 (a := ⟨_, []⟩) hfr rfl hr none) ?_)
  rintro e b1 w1 ⟨rfl, d1, ρ1, p1, f1⟩
  refine wpIn_seq (wpIn_mono (F := Fence.wide) (code_run hC N N h1 e1 f1 d1 p1.hr none) ?_)
  rintro e b2 w2 ⟨rfl, d2, ρ2, p2, f2⟩
  refine wpIn_seq (wpIn_seq (wpIn_mono (F := Fence.wide) (code_run hC N N h2 e2 f2 d2 p2.hr none) ?_))
  rintro e b3 w3 ⟨rfl, d3, ρ3, p3, f3⟩
  have P3 := (p1.trans p2).trans p3
  refine wpIn_block (wpIn_rangeFunc (fun fnn _ => ?_))
  -- the record
  generalize hr0 : ({ state := .ready, pending := none, fn := fnn, tmps := b3.tmps, params := ps, assign := asg, body := body, defers := w3.heap.size } : Loop) = r0
  have hst : r0.state = .ready := by subst hr0; rfl
  have hpd : r0.pending = none := by subst hr0; rfl
  have htm : r0.tmps = b3.tmps := by subst hr0; rfl
  have hps : r0.params = ps := by subst hr0; rfl
  have has : r0.assign = asg := by subst hr0; rfl
  have hbo : r0.body = body := by subst hr0; rfl
  generalize hwd : w3.alloc (.deferred (some [])) = wd
  have hszd : wd.heap.size = w3.heap.size + 1 := by subst hwd; simp
  have hrd : HR ρ3 s3.get wd := by subst hwd; exact p3.hr.grow _
  generalize hl0 : w3.heap.size + 1 = l at *
  have hnew : (wd.alloc (.loop r0)).heap[l]? = some (.loop r0) := by rw [← hszd]; exact World.alloc_heap_new _ _
  have hok : ObjOk (ρ3.upd s3.size ⟨l, 0, 0, 0⟩) (wd.alloc (.loop r0)) ⟨l, 0, 0, 0⟩ ⟨[], .loop⟩ :=
    ⟨rfl, Nat.le_refl _, fun _ => ⟨[], .nil, fun j v h => by simp at h⟩, fun h => (by cases h), fun c es h => (by cases h), fun t f h => (by cases h), fun _ => ⟨r0, hnew, pin_def⟩⟩
  have p4 := Post.allocG hrd (o := ⟨[], .loop⟩) (B := ⟨l, 0, 0, 0⟩) hszd.symm hok
  have hle4 := Loc.le_upd (p3.hr.none_size (Nat.le_refl _)) (B := ⟨l, 0, 0, 0⟩)
  have hat : (ρ3.upd s3.size ⟨l, 0, 0, 0⟩) s3.size = some ⟨l, 0, 0, 0⟩ := by rw [Loc.upd_at, if_pos rfl]
  have hpin : ∀ {ρ'}, (ρ3.upd s3.size ⟨l, 0, 0, 0⟩).le ρ' → ∀ B r, (B.b = l → r = r0) → @PinOk (pinI s3.size l r0 fr3) ρ' B r := by
    intro ρ' hle B r hx k' l' r' fr' hp
    cases hp
    exact ⟨⟨⟨l, 0, 0, 0⟩, hle.at_ _ _ hat, rfl⟩, hx, by rw [htm]; exact f3.len, fun t => by rw [htm]; exact ((f3.at_ t).mono hle4).mono hle⟩
  have hri : @HR (pinI s3.size l r0 fr3) (ρ3.upd s3.size ⟨l, 0, 0, 0⟩) (s3.alloc ⟨[], .loop⟩).get (wd.alloc (.loop r0)) :=
    HR.inst (I := instLoopP) p4.hr (fun id B o r _ _ hh => hpin (.refl _) B r (fun e => by rw [e, hnew] at hh; cases hh; rfl))
  have hG : @Ctx.GoodY (pinI s3.size l r0 fr3) P (iterC ic ih (yldN + s3.size) (bodyP C N s3.size fr3 ps.toList aA bd)) := by
    refine @Ctx.GoodY.mk (pinI s3.size l r0 fr3) P _ hic (fun f' p hp args σ v σ' h => ?_)
    simp only [iterC] at hp
    split at hp
    · rename_i e
      cases hp
      subst e
      exact .inr (yield_ok hC N hst hpd (by rw [has]; exact hA) (by rw [hbo]; exact hB) (by rw [hps]; exact h))
    · cases hp
  have hgv := f3.at_ g
  rw [eg] at hgv
  generalize hgu : b3.tmps.getD g undef = gu at hgv
  cases hgv with
  | one k1 =>
  cases k1 with
  | yld hg _ => have := blt_lt hgi; omega
  | func hN4 k1 =>
  rename_i cvs
  rcases (@soundY (pinI s3.size l r0 fr3) P _ _ hG N) gi _ _ v5 s5 e5 with ⟨⟨fn', hfn', hname', hbody'⟩, hcl⟩ | ⟨id, hid, _⟩
  rotate_left
  · have := blt_lt hgi; omega
  have hcl' := hcl (ρ3.upd s3.size ⟨l, 0, 0, 0⟩) (wd.alloc (.loop r0)) (.func (.yield l) #[] #[] :: cvs) (VRs.cons (.one (.yld (B := ⟨l, 0, 0, 0⟩) rfl hat)) ((k1.mono hle4).toVRs)) hri
  have hb' : ¬ fn'.body = none := by
    intro hq
    rw [hq] at hbody'; cases hbody'
  have harr : #[Value.func (.yield l) #[] #[]] ++ cvs.toArray = (Value.func (.yield l) #[] #[] :: cvs).toArray := by
    apply Array.ext'; simp
  refine ⟨l, [{ target := .collected w3.heap.size, args := #[] }], wd.alloc (.loop r0), { target := .fn (.func gi) cvs.toArray, args := #[.func (.yield l) #[] #[]] }, wd.alloc (.loop r0), gi,
    (Value.func (.yield l) #[] #[] :: cvs).toArray, wd.alloc (.loop r0), ?_, ?_, fun _ _ => trivial, ?_, fun h => absurd h (by simp [Fence.wide]), callsIn_wide.2 (hcl'.mono ?_)⟩
  · show (Instr.enterLoop fnn b3.tmps ps asg body none).run P w3 = _
    rw [run_enterLoop_outer, hwd, hr0, hl0]
  · simp [resolve, rangeCall, Act.eval, hgu, Deferred.ofValue]
  · rw [← harr]
    simp [invoke, callFunc, hfn', hname', hb']
  rintro e w5 ⟨u5, ρ5, rfl, p5, hu5⟩
  show ∃ jump w₄, (Instr.endLoop l).run P w5 = .ok jump w₄ ∧ _
  have hr5 := @Post.hr (pinI s3.size l r0 fr3) _ _ _ _ _ _ p5
  have le5 := @Post.le (pinI s3.size l r0 fr3) _ _ _ _ _ _ p5
  have fr5 := @Post.frame (pinI s3.size l r0 fr3) _ _ _ _ _ _ p5
  have hl5 : w5.heap[l]? = some (.loop r0) := by
    obtain ⟨dom5, _, _, _, _⟩ := hr5
    obtain ⟨o, g1, ⟨_, _, _, _, _, _, lp⟩, _⟩ := dom5 s3.size _ (le5.at_ _ _ hat)
    rw [hk5] at g1
    cases g1
    obtain ⟨r, q1, q2⟩ := lp rfl
    obtain ⟨_, q5, _⟩ := q2 _ _ _ _ rfl
    have := q5 rfl
    subst this
    exact q1
  refine ⟨_, _, run_endLoop hl5 (by rw [hst]; simp), ?_⟩
  generalize hrx : ({ r0 with state := .exhausted } : Loop) = rx
  rw [hpd]
  have hlt5 : l < w5.heap.size := (Array.getElem?_eq_some_iff.1 hl5).1
  have hr4 : HR ρ5 s5.get (w5.putObj l (.loop rx)) := by
    refine HR.put (I := pinI s3.size l r0 fr3) hr5 (noCells_loop hl5) World.putObj_size (fun b hb => World.putObj_heap_other hb) (fun id B o r hB' hg hh hp => ?_)
    by_cases e : B.b = l
    · exact ⟨rx, by rw [e]; exact World.putObj_heap_same hlt5, pin_def⟩
    · exact ⟨r, by rw [World.putObj_heap_other e]; exact hh, pin_def⟩
  have hdl : w3.heap.size ≠ l := by omega
  have hd1 : (wd.alloc (.loop r0)).heap[w3.heap.size]? = some (.deferred (some [])) := by
    show (wd.heap.push _)[w3.heap.size]? = _
    rw [Array.getElem?_push, if_neg (by omega), ← hwd]
    exact World.alloc_heap_new _ _
  have hd5 : w5.heap[w3.heap.size]? = some (.deferred (some [])) := by
    rw [fr5 w3.heap.size (by show _ < (wd.heap.push _).size; simp; omega) (not_owned (I := pinI s3.size l r0 fr3) hri (noCells_def hd1))]
    exact hd1
  have hd4 : (w5.putObj l (.loop rx)).heap[w3.heap.size]? = some (.deferred (some [])) := by rw [World.putObj_heap_other hdl]; exact hd5
  show c3.wpIn Fence.wide 0 P _ _ _
  refine wpIn_mono (F := Fence.wide) (code_run hC N N h3 e6 (a := { b3 with defers := [{ target := .collected w3.heap.size, args := #[] }] ++ b3.defers }) (f3.mono (hle4.trans le5)) rfl hr4 none) ?_
  rintro e b6 w6 ⟨rfl, d6, ρ6, p6, f6⟩
  show LeavesInM Fence.wide 0 P fn b6.tmps _ b6.defers .returning w6
  rw [d6, d3]
  have hd6 : w6.heap[w3.heap.size]? = some (.deferred (some [])) := by
    rw [p6.frame w3.heap.size (Array.getElem?_eq_some_iff.1 hd4).1 (not_owned hr4 (noCells_def hd4))]
    exact hd4
  have pb : @Post (pinI s3.size l r0 fr3) ρ σ w (ρ3.upd s3.size ⟨l, 0, 0, 0⟩) (s3.alloc ⟨[], .loop⟩) (wd.alloc (.loop r0)) := by
    refine Post.inst (I := instLoopP) (P3.trans (Post.trans (Post.growB p3.hr (.deferred (some []))) ?_)) hri
    rw [hwd]
    exact p4
  have pc := @Post.trans (pinI s3.size l r0 fr3) _ _ _ _ _ _ _ _ _ pb p5
  have pd : Post ρ σ w ρ5 s5 (w5.putObj l (.loop rx)) := Post.swap (I := pinI s3.size l r0 fr3) pc l rfl World.putObj_size (fun _ _ => rfl) (fun b hb => World.putObj_heap_other hb)
    (.inr (by have := P3.hsize; omega)) hr4 ⟨rfl, rfl⟩ ⟨rfl, rfl⟩ ⟨rfl, rfl⟩
  have pe := pd.trans p6
  have hr7 : HR ρ6 σ'.get (w6.putObj w3.heap.size (.deferred none)) := by
    refine HR.put pe.hr (noCells_def hd6) World.putObj_size (fun b hb => World.putObj_heap_other hb) (fun id B o r hB' hg hh hp => ?_)
    have : B.b ≠ w3.heap.size := by
      intro e
      rw [e, hd6] at hh
      cases hh
    exact ⟨r, by rw [World.putObj_heap_other this]; exact hh, pin_def⟩
  have pf : Post ρ σ w ρ6 σ' (w6.putObj w3.heap.size (.deferred none)) := Post.swap pe w3.heap.size rfl World.putObj_size (fun _ _ => rfl) (fun b hb => World.putObj_heap_other hb)
    (.inr P3.hsize) hr7 ⟨rfl, rfl⟩ ⟨rfl, rfl⟩ ⟨rfl, rfl⟩
  obtain ⟨u, hu1, hu2⟩ := results_run (P := P) hres f6 hr7 hrv
  refine ⟨by simp, .inl ⟨w3.heap.size, _, rfl, run_takeDeferred hd6, ?_⟩⟩
  exact ⟨u, hu1, u, ρ6, rfl, pf, hu2⟩

end
end Go.Proofs.YtkolhfpofmpijaaDoor.Ab

/- Functions with one loop over a function, as steps laid whole. -/
namespace Go.Proofs.YtkolhfpofmpijaaDoor.Ab
open Go
set_option linter.unusedSimpArgs false
set_option linter.unusedVariables false

/-- The parts of a function with one loop over a function, compiled. -/
structure RangeF where
  a0 : ACode
  a1 : ACode
  a2 : ACode
  aA : ACode
  aB : ACode
  a3 : ACode
  g : Nat
  ps : List Nat
  ntmps : Nat
  rs : List AResult

def compRange (P : Program) (fn : Func) : Option RangeF := match fn.body, fn.name == "runtime.NumGoroutine" with
  | some (.seq c0 (.seq c1 (.seq (.seq c2 (.block _ (.rangeFunc (.tmp g) ps asg body))) c3))), false =>
    match compCode P c0, compCode P c1, compCode P c2, compCode P asg, compCode P body, compCode P c3, compResults P fn.results.toList with
    | some a0, some a1, some a2, some aA, some aB, some a3, some rs => some ⟨a0, a1, a2, aA, aB, a3, g, ps.toList, fn.ntmps, rs⟩
    | _, _, _, _, _, _, _ => none
  | _, _ => none

noncomputable def rngP (C : Ctx) (ic : Nat → Option AFunc) (ih : Nat → Hint) (N : Nat) (h : Hint) (bd : RangeF → List AV → AHeap → Option AHeap) (R : RangeF) : Prim := fun args σ => match inArgs h args σ with
  | some (args', σ0) => match evRange C ic ih N R.a0 R.a1 R.a2 R.aA R.a3 (bd R) R.g R.ps R.ntmps R.rs args' σ0 with
    | some (rv, σ1) => hintRes h args σ rv σ1
    | none => none
  | none => none

theorem rngP_ok {P : Program} [IsProg P] {C : Ctx} (hC : C.Good P) {ic : Nat → Option AFunc} {ih : Nat → Hint} (hic : ∀ f F, ic f = some F → ∃ fn, P.funcs[f]? = some fn ∧ compFunc P fn = some F)
    {N f : Nat} {h : Hint} {fn : Func} {R : RangeF} (hfn : P.funcs[f]? = some fn) (hR : compRange P fn = some R) {bd : RangeF → List AV → AHeap → Option AHeap} (hbd : ∀ c0 c1 c2 bid g ps asg body c3, fn.body = some (.seq c0 (.seq c1 (.seq (.seq c2 (.block bid (.rangeFunc (.tmp g) ps asg body))) c3))) → compCode P body = some R.aB → BodyOk P body (bd R)) : PrimOk P f (rngP C ic ih N h bd R) := by
  intro args σ v σ' hp
  unfold rngP at hp
  split at hp
  · rename_i args' σ0 hin
    split at hp
    · rename_i rv σ1 he
      refine hint_call hin ?_ hp
      unfold compRange at hR
      split at hR
      · rename_i c0 c1 c2 bid g ps asg body c3 hb hn
        split at hR
        · rename_i a0 a1 a2 aA aB a3 rs h0 h1 h2 hA hB h3 hrs
          cases hR
          exact evRange_sound hC hic hfn (by simpa using hn) hb h0 h1 h2 hA (hbd _ _ _ _ _ _ _ _ _ hb hB) h3 hrs he
        · cases hR
      · cases hR
    · cases hp
  · cases hp

noncomputable def rngOf (f : Nat) : Option RangeF := match Tryd.prog.funcs[f]? with
  | some fn => compRange Tryd.prog fn
  | none => none

/-- Over the program's own code, nothing laid. -/
noncomputable def rngA (N f : Nat) (h : Hint) : Prim := fun args σ => match rngOf f with
  | some R => rngP plainC codeOf (fun _ => .no) N h (fun R => codeB plainC N R.aB) R args σ
  | none => none

theorem rngA_ok (N f : Nat) (h : Hint) : PrimOk Tryd.prog f (rngA N f h) := by
  intro args σ v σ' hp
  unfold rngA rngOf at hp
  split at hp
  · rename_i R hR
    split at hR
    · rename_i fn hfn
      exact rngP_ok plainC_good (fun _ _ h => codeOf_good h) hfn hR (fun _ _ _ _ _ _ _ _ _ _ hB => codeB_ok plainC_good N hB) args σ v σ' hp
    · cases hR
  · cases hp

end Go.Proofs.YtkolhfpofmpijaaDoor.Ab

/- The end of a region with an open order: an element stored in an appended slice, and the slice in its variable. -/
namespace Go.Proofs.YtkolhfpofmpijaaDoor.Ab
open Go
set_option linter.unusedSimpArgs false
set_option linter.unusedVariables false
set_option linter.unusedSectionVars false

/-! ### stores at two objects commute -/
theorem PT.setF_comm {α : Type} {a b : α} : ∀ (f g : Nat) (t : PT α) (n m : Nat), n < f → m < g → n ≠ m → PT.setF f (PT.setF g t m b) n a = PT.setF g (PT.setF f t n a) m b := by
  intro f
  induction f with
  | zero => intro g t n m h; omega
  | succ f ih =>
    intro g t n m hn hm hne
    cases g with
    | zero => omega
    | succ g =>
      have go : ∀ s n m : Nat, ∀ u : PT α, (n + 1) < f + 1 → (m + 1) < g + 1 → (n + 1) ≠ (m + 1) → n % 2 = m % 2 → PT.setF f (PT.setF g u (m / 2) b) (n / 2) a = PT.setF g (PT.setF f u (n / 2) a) (m / 2) b :=
        fun _ n m u h1 h2 h3 h4 => ih g u (n / 2) (m / 2) (by omega) (by omega) (by omega)
      cases t with
      | leaf =>
        cases n with
        | zero =>
          cases m with
          | zero => exact absurd rfl hne
          | succ m =>
            simp only [PT.setF]
            cases h : Nat.beq (m % 2) 0 <;> simp only [PT.setF, h]
        | succ n =>
          cases m with
          | zero =>
            simp only [PT.setF]
            cases h : Nat.beq (n % 2) 0 <;> simp only [PT.setF, h]
          | succ m =>
            simp only [PT.setF]
            cases h1 : Nat.beq (n % 2) 0 <;> cases h2 : Nat.beq (m % 2) 0 <;> simp only [PT.setF, h1, h2]
            · have e1 : ¬ n % 2 = 0 := Nat.ne_of_beq_eq_false h1
              have e2 : ¬ m % 2 = 0 := Nat.ne_of_beq_eq_false h2
              rw [go 0 n m _ hn hm hne (by omega)]
            · have e1 : n % 2 = 0 := by simpa using h1
              have e2 : m % 2 = 0 := by simpa using h2
              rw [go 0 n m _ hn hm hne (by omega)]
      | node l v r =>
        cases n with
        | zero =>
          cases m with
          | zero => exact absurd rfl hne
          | succ m =>
            simp only [PT.setF]
            cases h : Nat.beq (m % 2) 0 <;> simp only [PT.setF, h]
        | succ n =>
          cases m with
          | zero =>
            simp only [PT.setF]
            cases h : Nat.beq (n % 2) 0 <;> simp only [PT.setF, h]
          | succ m =>
            simp only [PT.setF]
            cases h1 : Nat.beq (n % 2) 0 <;> cases h2 : Nat.beq (m % 2) 0 <;> simp only [PT.setF, h1, h2]
            · have e1 : ¬ n % 2 = 0 := Nat.ne_of_beq_eq_false h1
              have e2 : ¬ m % 2 = 0 := Nat.ne_of_beq_eq_false h2
              rw [go 0 n m _ hn hm hne (by omega)]
            · have e1 : n % 2 = 0 := by simpa using h1
              have e2 : m % 2 = 0 := by simpa using h2
              rw [go 0 n m _ hn hm hne (by omega)]

theorem AHeap.put_comm {σ : AHeap} {i j : Nat} {o p : AObj} (h : i ≠ j) : (σ.put i o).put j p = (σ.put j p).put i o := by
  unfold AHeap.put PT.set
  simp only
  rw [PT.setF_comm (j + 1) (i + 1) σ.mem j i (by omega) (by omega) (fun e => h e.symm)]

theorem writeAt_comm {σ σ1 σ2 : AHeap} {i j p q : Nat} {c d : List SV} (h : i ≠ j) (h1 : writeAt σ i p c = some σ1) (h2 : writeAt σ1 j q d = some σ2) :
    ∃ τ, writeAt σ j q d = some τ ∧ writeAt τ i p c = some σ2 := by
  unfold writeAt at h1
  split at h1
  · rename_i cs hi
    split at h1
    · rename_i hb
      cases h1
      unfold writeAt at h2
      rw [AHeap.get_put _ _ _ _ (AHeap.get_lt hi), if_neg (fun e => h e.symm)] at h2
      split at h2
      · rename_i cs2 hj
        split at h2
        · rename_i hb2
          cases h2
          refine ⟨σ.put j ⟨splice cs2 q d, .own⟩, ?_, ?_⟩
          · unfold writeAt
            rw [hj]
            simp only [hb2]
          · unfold writeAt
            rw [AHeap.get_put _ _ _ _ (AHeap.get_lt hj), if_neg h, hi]
            simp only [hb]
            rw [AHeap.put_comm h]
        · cases h2
      · cases h2
    · cases h1
  · cases h1

/-! ### what is ahead of all the rest -/
section
variable {P : Program} {F : Fence} {n : Nat}

/-- The same but for what is asked at a plain end. -/
theorem uponIn_ends {o : Oper} {a : Act} {next : Act → World → Prop} {Q Q' : Exit → Act → World → Prop} (hp : ∀ c, Q (.panic c) = Q' (.panic c)) (ho : Q .outgrown = Q' .outgrown) (r : Result Next)
    (h : o.uponIn F n P a next Q r) : o.uponIn F n P a next Q' r := by
  have hl : LetsOut Q → LetsOut Q' := by unfold LetsOut; rw [ho]; exact id
  cases r with
  | ok x w' =>
    cases x <;> simp only [Oper.uponIn] at h ⊢ <;>
      first
        | exact h
        | exact ⟨h.1, CallsIn.mono h.2 (fun e w'' he => by cases e <;> first | exact he | (simp only at he ⊢; rw [← hp]; exact he) | exact hl he)⟩
        | exact ⟨h.1, RoundIn.mono h.2 (fun e w'' he => by cases e <;> first | exact he | (simp only at he ⊢; rw [← hp]; exact he) | exact hl he)⟩
  | halt x w' => cases x <;> simp only [Oper.uponIn] at h ⊢ <;> first | exact h | (rw [← hp]; exact h)

theorem getD_extract {listed : Array Bool} {n1 i : Nat} {d : Bool} (h : i < n1) : (listed.extract 0 n1).getD i d = listed.getD i d := by
  simp only [Array.getD_eq_getD_getElem?, Array.getElem?_extract]
  simp only [Nat.zero_add]
  by_cases h2 : i < listed.size
  · rw [if_pos (by omega)]
  · rw [if_neg (by omega), Array.getElem?_eq_none (by omega)]

theorem ready_prefix {ops : Array Oper} {n1 : Nat} (hn : n1 ≤ ops.size) (he1 : ∀ i, i < n1 → ∀ o, ops[i]? = some o → ∀ e ∈ o.after.toList, binding e = true → e.on < n1)
    (he2 : ∀ i, n1 ≤ i → i < ops.size → ∀ j, j < n1 → ∀ o, ops[i]? = some o → ∃ e ∈ o.after.toList, binding e = true ∧ e.on = j) {listed : Array Bool} {j : Nat} (hj : j < n1) (hun : listed.getD j false = false) :
    Region.ready .any ops listed = Region.ready .any (ops.extract 0 n1) (listed.extract 0 n1) := by
  unfold Region.ready
  have hsz : (ops.extract 0 n1).size = n1 := by simp; omega
  rw [hsz, show ops.size = n1 + (ops.size - n1) by omega, List.range_add, List.filter_append]
  have h2 : ((List.range (ops.size - n1)).map (n1 + ·)).filter (fun i => !listed.getD i true && ((ops[i]?).map (·.after.all fun e => !Region.binds .any e || listed.getD e.on false)).getD false) = [] := by
    rw [List.filter_eq_nil_iff]
    intro i hi
    obtain ⟨k, hk, rfl⟩ := List.mem_map.1 hi
    have hk : k < ops.size - n1 := by simpa using hk
    have hlt : n1 + k < ops.size := by omega
    obtain ⟨e, h3, h4, h5⟩ := he2 (n1 + k) (by omega) hlt j hj (ops[n1 + k]) (by simp [hlt])
    simp only [Bool.and_eq_true, not_and, Bool.not_eq_true]
    intro _
    simp only [hlt, Array.getElem?_eq_getElem, Option.map_some, Option.getD_some, ← Array.all_toList]
    rw [List.all_eq_false]
    refine ⟨e, h3, ?_⟩
    have h4 : Region.binds .any e = true := h4
    simp only [h4, h5, hun]
    simp
  rw [h2, List.append_nil]
  refine List.filter_congr (fun i hi => ?_)
  have hi : i < n1 := by simpa using hi
  have hlt : i < ops.size := by omega
  rw [getD_extract hi]
  have h3 : (ops.extract 0 n1)[i]? = ops[i]? := by
    simp only [Array.getElem?_extract, Nat.zero_add]
    rw [if_pos (by omega)]
  rw [h3]
  congr 1
  simp only [hlt, Array.getElem?_eq_getElem, Option.map_some, Option.getD_some, ← Array.all_toList]
  rw [Bool.eq_iff_iff, List.all_eq_true, List.all_eq_true]
  constructor
  · intro h e hm
    have := h e hm
    cases hb : Region.binds .any e with
    | false => simp
    | true =>
      rw [hb] at this
      rw [getD_extract (he1 i hi _ (by simp [hlt]) e hm hb)]
      simpa using this
  · intro h e hm
    have := h e hm
    cases hb : Region.binds .any e with
    | false => simp
    | true =>
      rw [hb] at this
      rw [getD_extract (he1 i hi _ (by simp [hlt]) e hm hb)] at this
      simpa using this

theorem ext_getD {a b : Array Bool} (hs : a.size = b.size) (h : ∀ i, i < a.size → a.getD i false = b.getD i false) : a = b := by
  apply Array.ext hs
  intro i h1 h2
  have := h i h1
  simpa [h1, h2] using this

theorem extract_set {listed : Array Bool} {n1 i : Nat} (h : i < n1) : (listed.setIfInBounds i true).extract 0 n1 = (listed.extract 0 n1).setIfInBounds i true := by
  apply Array.ext (by simp)
  intro j h1 h2
  have hj : j < n1 := by simp at h2; omega
  have hj2 : j < listed.size := by simp at h2; omega
  have e1 : ((listed.setIfInBounds i true).extract 0 n1)[j]? = ((listed.extract 0 n1).setIfInBounds i true)[j]? := by
    simp only [Array.getElem?_extract, Array.getElem?_setIfInBounds, Nat.zero_add, Array.size_setIfInBounds, Array.size_extract]
    have : j < min n1 listed.size := by omega
    simp only [this, if_true, Nat.sub_zero]
    by_cases e : i = j
    · subst e
      simp [hj2, h, this]
    · simp [e]
  rw [Array.getElem?_eq_getElem h1, Array.getElem?_eq_getElem h2] at e1
  exact Option.some.inj e1

/-- All orders, where some operations are ahead of all the rest. -/
theorem any_prefix {ops : Array Oper} {n1 : Nat} (hn : n1 ≤ ops.size) (hg : ∀ i, i < n1 → ∀ o, ops[i]? = some o → o.guard = none)
    (he1 : ∀ i, i < n1 → ∀ o, ops[i]? = some o → ∀ e ∈ o.after.toList, binding e = true → e.on < i)
    (he2 : ∀ i, n1 ≤ i → i < ops.size → ∀ j, j < n1 → ∀ o, ops[i]? = some o → ∃ e ∈ o.after.toList, binding e = true ∧ e.on = j) {Q : Exit → Act → World → Prop} {fuel2 : Nat} {mk : Array Bool}
    (hm : mk.size = ops.size) (hm1 : ∀ i, i < n1 → mk.getD i false = true) (hm2 : ∀ i, n1 ≤ i → mk.getD i false = false) :
    ∀ (fuel : Nat) (listed : Array Bool) (a : Act) (w : World), listed.size = ops.size → (∀ i, n1 ≤ i → listed.getD i false = false) → left (listed.extract 0 n1) n1 = fuel →
      wpAnyIn F n P .any (ops.extract 0 n1) (fun e a w => match e with | .normal => wpAnyIn F n P .any ops Q fuel2 mk a w | e => Q e a w) fuel (listed.extract 0 n1) a w → wpAnyIn F n P .any ops Q (fuel + fuel2) listed a w := by
  have hsz : (ops.extract 0 n1).size = n1 := by simp; omega
  have hop : ∀ i, i < n1 → (ops.extract 0 n1)[i]? = ops[i]? := by
    intro i hi
    simp only [Array.getElem?_extract, Nat.zero_add]
    rw [if_pos (by omega)]
  intro fuel
  induction fuel with
  | zero =>
    intro listed a w hs hf hl h
    have hall := left_zero hl
    have : listed = mk := by
      refine ext_getD (by rw [hs, hm]) (fun i hi => ?_)
      by_cases e : i < n1
      · have := hall i e
        unfold Lst at this
        rw [getD_extract e] at this
        rw [this, hm1 i e]
      · rw [hf i (by omega), hm2 i (by omega)]
    subst this
    rw [Nat.zero_add]
    exact h.2
  | succ fuel ih =>
    intro listed a w hs hf hl h
    have hex : ∃ j, j < n1 ∧ listed.getD j false = false := by
      refine Classical.byContradiction fun hno => ?_
      have : left (listed.extract 0 n1) n1 = 0 := by
        unfold left
        rw [List.length_eq_zero_iff, List.filter_eq_nil_iff]
        intro i hi
        have hi : i < n1 := by simpa using hi
        rw [getD_extract hi]
        cases hb : listed.getD i false with
        | true => simp
        | false => exact absurd ⟨i, hi, hb⟩ hno
      omega
    obtain ⟨j, hj, hun⟩ := hex
    have hr := ready_prefix hn (fun i hi o ho e hm hb => Nat.lt_trans (he1 i hi o ho e hm hb) hi) he2 hj hun
    have hes : (listed.extract 0 n1).size = (ops.extract 0 n1).size := by simp; omega
    obtain ⟨h0, h1⟩ := h
    rw [Nat.succ_add]
    refine ⟨fun hnil => ?_, fun i hi => ?_⟩
    · rw [hr] at hnil
      have := ready_none hes (fun i o ho e hm hb => by
        have hi : i < n1 := by
          have := (Array.getElem?_eq_some_iff.1 ho).1
          omega
        exact he1 i hi o (by rw [← hop i hi]; exact ho) e hm hb) hnil j (by omega)
      unfold Lst at this
      rw [getD_extract hj, hun] at this
      cases this
    · rw [hr] at hi
      obtain ⟨hi1, hi2, _⟩ := ready_mem hes hi
      have hi1 : i < n1 := by omega
      have hlt : i < ops.size := by omega
      have h2 := h1 i hi
      have hgd : ops[i].guard = none := hg i hi1 _ (by simp [hlt])
      unfold wpOpIn at h2 ⊢
      rw [hop i hi1] at h2
      simp only [hlt, Array.getElem?_eq_getElem, Region.wanted, hgd, if_true] at h2 ⊢
      have h3 := Oper.wpIn_mono (K' := wpAnyIn F n P .any ops Q (fuel + fuel2) (listed.setIfInBounds i true)) (fun a' w' hk => ih (listed.setIfInBounds i true) a' w' (by simpa using hs) (fun k hk' => by
        have := hf k hk'
        rw [Array.getD_eq_getD_getElem?, Array.getElem?_setIfInBounds_ne (by omega), ← Array.getD_eq_getD_getElem?]
        exact this) (by
          rw [extract_set hi1]
          have := left_set (n := n1) (by rw [hes, hsz]) hi1 hi2
          omega) (by rw [extract_set hi1]; exact hk)) h2
      exact ⟨h3.1, uponIn_ends (fun c => rfl) rfl _ h3.2⟩

end

/-! ### the last three -/
section
variable {P : Program} [IsProg P] {call : CallF}

theorem store_spec {fr : List AV} {σ σ' : AHeap} {n : Nat} {a x : AOpd} {v : AV} (h : evOp fr σ (.store n a x) = some (v, σ')) :
    ∃ id off, ev fr a = .one (.ptr id off) ∧ writeAt σ id off (ev fr x).cells = some σ' ∧ v = undefA ∧
      ∀ τ τ', writeAt τ id off (ev fr x).cells = some τ' → evOp fr τ (.store n a x) = some (undefA, τ') := by
  simp only [evOp] at h
  split at h
  · cases h
  · rename_i id off ha hx
    split at h
    · rename_i hb
      split at h
      · rename_i s hw
        cases h
        refine ⟨id, off, ha, hw, rfl, fun τ τ' ht => ?_⟩
        simp only [evOp, ha]
        cases hv : ev fr x with
        | tup l => exact absurd hv (hx l)
        | one y => rw [hv] at hb ht; simp only [hb, ht]
        | agg y => rw [hv] at hb ht; simp only [hb, ht]
      · cases h
    · cases h
  · cases h

theorem iaddr_any {fr : List AV} {σ σ' : AHeap} {e : Nat} {x i : AOpd} {v : AV} (h : evOp fr σ (.iaddr e x i) = some (v, σ')) : σ' = σ ∧ ∀ τ, evOp fr τ (.iaddr e x i) = some (v, τ) := by
  simp only [evOp] at h ⊢
  split at h
  · split at h
    · rename_i hb
      cases h
      exact ⟨rfl, fun τ => by simp only [hb]⟩
    · cases h
  · split at h
    · rename_i el hel
      split at h
      · rename_i hb
        cases h
        exact ⟨rfl, fun τ => by simp only [hel, hb]⟩
      · cases h
    · cases h
  · cases h

theorem wpOp_step (hcall : CallAny P call) {ops : Array Oper} {i : Nat} {o : Oper} {aop : AOp} {ρ : Loc} {fr : List AV} {a : Act} {σ σ' : AHeap} {v : AV} {w : World} {K : Act → World → Prop} {Q : Exit → Act → World → Prop} {r : Option Nat}
    (ho : ops[i]? = some o) (hg : o.guard = none) (hc : compOpX P o.op = some aop) (hf : FR ρ fr a.tmps) (hr : HR ρ σ.get w) (he : evStep call fr σ aop = some (v, σ'))
    (hK : ∀ u w' ρ', Post ρ σ w ρ' σ' w' → VR ρ' v u → K (a.put o.dst u) w') : wpOpIn (fen r) 0 P ops Q i K a w := by
  unfold wpOpIn
  simp only [ho, Region.wanted, hg, if_true]
  exact step_sound hcall hc hf hr he hK

theorem getSlot_put_ne {fr : List AV} {d t : Nat} {v : AV} (h : t ≠ d) : getSlot (putDst fr (some d) v) t = getSlot fr t := by
  simp only [putDst, getSlot_eq, setSlot_eq]
  rw [List.getElem?_set_ne (fun e => h e.symm)]

/-- An element's address, the element's store, and the slice's store, in all orders. -/
theorem tail3 (hcall : CallAny P call) {ops : Array Oper} {mk : Array Bool} {r : Option Nat} {Q : Exit → Act → World → Prop} {j6 j7 j8 : Nat} {o6 o7 o8 : Oper} {d6 esz n7 n8 t8 s8 : Nat} {x6 i6 v7 : AOpd}
    (h6 : ops[j6]? = some o6) (h7 : ops[j7]? = some o7) (h8 : ops[j8]? = some o8) (g6 : o6.guard = none) (g7 : o7.guard = none) (g8 : o8.guard = none) (k6 : o6.dst = some d6) (k7 : o7.dst = none) (k8 : o8.dst = none)
    (c6 : compOpX P o6.op = some (.iaddr esz x6 i6)) (c7 : compOpX P o7.op = some (.store n7 (.tmp d6) v7)) (c8 : compOpX P o8.op = some (.store n8 (.tmp t8) (.tmp s8))) (ne8 : t8 ≠ d6) (ne8' : s8 ≠ d6)
    (r0 : Region.ready .any ops mk = [j6, j8]) (r6 : Region.ready .any ops (mk.setIfInBounds j6 true) = [j7, j8]) (r67 : Region.ready .any ops ((mk.setIfInBounds j6 true).setIfInBounds j7 true) = [j8])
    (r68 : Region.ready .any ops ((mk.setIfInBounds j6 true).setIfInBounds j8 true) = [j7]) (r8 : Region.ready .any ops (mk.setIfInBounds j8 true) = [j6]) (r86 : Region.ready .any ops ((mk.setIfInBounds j8 true).setIfInBounds j6 true) = [j7])
    (e1 : Region.ready .any ops (((mk.setIfInBounds j6 true).setIfInBounds j7 true).setIfInBounds j8 true) = []) (e2 : Region.ready .any ops (((mk.setIfInBounds j6 true).setIfInBounds j8 true).setIfInBounds j7 true) = [])
    (e3 : Region.ready .any ops (((mk.setIfInBounds j8 true).setIfInBounds j6 true).setIfInBounds j7 true) = [])
    {ρ : Loc} {fr : List AV} {a : Act} {w : World} {σ σ1 σ2 : AHeap} {p u7 u8 : AV} {i7 q7 i8 q8 : Nat} (hf : FR ρ fr a.tmps) (hr : HR ρ σ.get w) (s6 : evOp fr σ (.iaddr esz x6 i6) = some (p, σ)) (hp : getSlot (putDst fr (some d6) p) d6 = .one (.ptr i7 q7))
    (ht : getSlot fr t8 = .one (.ptr i8 q8)) (hne : i7 ≠ i8) (s7 : evOp (putDst fr (some d6) p) σ (.store n7 (.tmp d6) v7) = some (u7, σ1)) (s8' : evOp (putDst fr (some d6) p) σ1 (.store n8 (.tmp t8) (.tmp s8)) = some (u8, σ2))
    (hQ : ∀ a' w' ρ', a'.defers = a.defers → Post ρ σ w ρ' σ2 w' → Q .normal a' w') : wpAnyIn (fen r) 0 P .any ops Q 3 mk a w := by
  obtain ⟨_, all6⟩ := iaddr_any s6
  obtain ⟨id7, off7, a7, w7, rfl, back7⟩ := store_spec s7
  obtain ⟨id8, off8, a8, w8, rfl, back8⟩ := store_spec s8'
  have ev7 : ev (putDst fr (some d6) p) (.tmp d6) = .one (.ptr i7 q7) := hp
  have ev8 : ev (putDst fr (some d6) p) (.tmp t8) = .one (.ptr i8 q8) := by show getSlot _ t8 = _; rw [getSlot_put_ne ne8]; exact ht
  rw [ev7] at a7
  rw [ev8] at a8
  cases a7
  cases a8
  obtain ⟨τ, m1, m2⟩ := writeAt_comm hne w7 w8
  -- the slice's store ahead of the element's
  have b8 := back8 σ τ m1
  have b7 := back7 τ σ2 m2
  have evs : ev (putDst fr (some d6) p) (.tmp s8) = ev fr (.tmp s8) := getSlot_put_ne ne8'
  have f8 : evOp fr σ (.store n8 (.tmp t8) (.tmp s8)) = some (undefA, τ) := by
    have e : ∀ τ0, evOp fr τ0 (.store n8 (.tmp t8) (.tmp s8)) = evOp (putDst fr (some d6) p) τ0 (.store n8 (.tmp t8) (.tmp s8)) := by
      intro τ0
      have e1 : ev fr (.tmp t8) = ev (putDst fr (some d6) p) (.tmp t8) := (getSlot_put_ne ne8).symm
      simp only [evOp, e1, evs]
    rw [e]; exact b8
  have nc : ∀ {fr σ} {n : Nat} {x y : AOpd}, evStep call fr σ (.store n x y) = evOp fr σ (.store n x y) := evStep_notcall rfl
  have ni : ∀ {fr σ} {n : Nat} {x y : AOpd}, evStep call fr σ (.iaddr n x y) = evOp fr σ (.iaddr n x y) := evStep_notcall rfl
  simp only [wpAnyIn]
  refine ⟨(fun h => by rw [r0] at h; cases h), fun i hi => ?_⟩
  rw [r0] at hi
  rcases List.mem_cons.1 hi with rfl | hi
  · refine wpOp_step hcall h6 g6 c6 hf hr (ni.trans s6) (fun u wa ρa pa va => ?_)
    rw [k6]
    have fa : FR ρa (putDst fr (some d6) p) (a.put (some d6) u).tmps := (hf.mono pa.le).put (some d6) va
    refine ⟨(fun h => by rw [r6] at h; cases h), fun i hi => ?_⟩
    rw [r6] at hi
    rcases List.mem_cons.1 hi with rfl | hi
    · refine wpOp_step hcall h7 g7 c7 fa pa.hr (nc.trans s7) (fun u' wb ρb pb vb => ?_)
      rw [k7]
      refine ⟨(fun h => by rw [r67] at h; cases h), fun i hi => ?_⟩
      rw [r67] at hi
      have hi : i = j8 := by simpa using hi
      subst hi
      refine wpOp_step hcall h8 g8 c8 (fa.mono pb.le) pb.hr (nc.trans s8') (fun u2 wc ρc pc vc => ?_)
      rw [k8]
      exact ⟨e1, hQ _ wc ρc rfl ((pa.trans pb).trans pc)⟩
    · have hi : i = j8 := by simpa using hi
      subst hi
      refine wpOp_step hcall h8 g8 c8 fa pa.hr (nc.trans b8) (fun u' wb ρb pb vb => ?_)
      rw [k8]
      refine ⟨(fun h => by rw [r68] at h; cases h), fun i hi => ?_⟩
      rw [r68] at hi
      have hi : i = j7 := by simpa using hi
      subst hi
      refine wpOp_step hcall h7 g7 c7 (fa.mono pb.le) pb.hr (nc.trans b7) (fun u2 wc ρc pc vc => ?_)
      rw [k7]
      exact ⟨e2, hQ _ wc ρc rfl ((pa.trans pb).trans pc)⟩
  · have hi : i = j8 := by simpa using hi
    subst hi
    refine wpOp_step hcall h8 g8 c8 hf hr (nc.trans f8) (fun u wa ρa pa va => ?_)
    rw [k8]
    refine ⟨(fun h => by rw [r8] at h; cases h), fun i hi => ?_⟩
    rw [r8] at hi
    have hi : i = j6 := by simpa using hi
    subst hi
    refine wpOp_step hcall h6 g6 c6 (hf.mono pa.le) pa.hr (ni.trans (all6 τ)) (fun u' wb ρb pb vb => ?_)
    rw [k6]
    refine ⟨(fun h => by rw [r86] at h; cases h), fun i hi => ?_⟩
    rw [r86] at hi
    have hi : i = j7 := by simpa using hi
    subst hi
    refine wpOp_step hcall h7 g7 c7 (((hf.mono pa.le).mono pb.le).put (some d6) vb) pb.hr (nc.trans b7) (fun u2 wc ρc pc vc => ?_)
    rw [k7]
    exact ⟨e3, hQ _ wc ρc rfl ((pa.trans pb).trans pc)⟩

end
end Go.Proofs.YtkolhfpofmpijaaDoor.Ab

/- A loop's body whose last region is an append of a call's answer. -/
namespace Go.Proofs.YtkolhfpofmpijaaDoor.Ab
open Go
set_option linter.unusedSimpArgs false
set_option linter.unusedVariables false
set_option linter.unusedSectionVars false

def lowOk (ops : Array Oper) : Bool := (List.range 6).all fun i => match ops[i]? with
  | some o => o.guard.isNone && o.after.toList.all fun e => !binding e || Nat.blt e.on i
  | none => false
def highOk (ops : Array Oper) : Bool := [6, 7, 8].all fun i => match ops[i]? with
  | some o => o.guard.isNone && (List.range 6).all fun j => o.after.toList.any fun e => binding e && Nat.beq e.on j
  | none => false
def mk6 : Array Bool := #[true, true, true, true, true, true, false, false, false]
def readyIs (ops : Array Oper) (l : Array Bool) (r : List Nat) : Bool := decide (Region.ready .any ops l = r)
def tailChk (ops : Array Oper) : Bool := Nat.beq ops.size 9 && lowOk ops && highOk ops &&
  readyIs ops mk6 [6, 8] && readyIs ops (mk6.setIfInBounds 6 true) [7, 8] && readyIs ops ((mk6.setIfInBounds 6 true).setIfInBounds 7 true) [8] &&
  readyIs ops ((mk6.setIfInBounds 6 true).setIfInBounds 8 true) [7] && readyIs ops (mk6.setIfInBounds 8 true) [6] && readyIs ops ((mk6.setIfInBounds 8 true).setIfInBounds 6 true) [7] &&
  readyIs ops (((mk6.setIfInBounds 6 true).setIfInBounds 7 true).setIfInBounds 8 true) [] && readyIs ops (((mk6.setIfInBounds 6 true).setIfInBounds 8 true).setIfInBounds 7 true) [] &&
  readyIs ops (((mk6.setIfInBounds 8 true).setIfInBounds 6 true).setIfInBounds 7 true) []

structure TailF where
  bid : Nat
  aX : ACode
  pre : ACode
  d6 : Nat
  esz : Nat
  n7 : Nat
  n8 : Nat
  t8 : Nat
  s8 : Nat
  x6 : AOpd
  i6 : AOpd
  v7 : AOpd

def tailOps (P : Program) (bid : Nat) (aX pre : ACode) (o6 o7 o8 : Oper) : Option TailF :=
  match compOpX P o6.op, compOpX P o7.op, compOpX P o8.op, o6.dst, o7.dst, o8.dst with
  | some (.iaddr esz x6 i6), some (.store n7 (.tmp d) v7), some (.store n8 (.tmp t8) (.tmp s8)), some d6, none, none =>
    match Nat.beq d d6, Nat.beq t8 d6, Nat.beq s8 d6 with
    | true, false, false => some ⟨bid, aX, pre, d6, esz, n7, n8, t8, s8, x6, i6, v7⟩
    | _, _, _ => none
  | _, _, _, _, _, _ => none

def compTail (P : Program) : Code → Option TailF
  | .block bid (.seq X (.region _ ops true)) => match Nat.blt bid jB && tailChk ops, compCode P X, compOpers P (ops.extract 0 6) (ops.extract 0 6).toList, ops[6]?, ops[7]?, ops[8]? with
    | true, some aX, some al, some o6, some o7, some o8 => match compDraw P (ops.extract 0 6) al with
      | some pre => tailOps P bid aX pre o6 o7 o8
      | none => none
    | _, _, _, _, _, _ => none
  | _ => none

def tailE (R : TailF) (fr : List AV) (σ : AHeap) : Option AHeap := match evOp fr σ (.iaddr R.esz R.x6 R.i6) with
  | some (p, _) => match getSlot (putDst fr (some R.d6) p) R.d6, getSlot fr R.t8 with
    | .one (.ptr i7 _), .one (.ptr i8 _) => match Nat.beq i7 i8 with
      | false => match evOp (putDst fr (some R.d6) p) σ (.store R.n7 (.tmp R.d6) R.v7) with
        | some (_, σ1) => match evOp (putDst fr (some R.d6) p) σ1 (.store R.n8 (.tmp R.t8) (.tmp R.s8)) with
          | some (_, σ2) => some σ2
          | none => none
        | none => none
      | true => none
    | _, _ => none
  | none => none

noncomputable def tailB (C : Ctx) (N : Nat) (R : TailF) : List AV → AHeap → Option AHeap := fun fr σ => match evCode (evCall C N) N R.aX fr σ with
  | some (.exit id, _, σ1) => match Nat.beq id R.bid with
    | true => some σ1
    | false => none
  | some (.normal, fr1, σ1) => match evCode (evCall C N) N R.pre fr1 σ1 with
    | some (_, fr2, σ2) => tailE R fr2 σ2
    | none => none
  | _ => none

section
variable {P : Program} [IsProg P] {C : Ctx}

theorem low_spec {ops : Array Oper} (h : lowOk ops = true) {i : Nat} (hi : i < 6) {o : Oper} (ho : ops[i]? = some o) : o.guard = none ∧ ∀ e ∈ o.after.toList, binding e = true → e.on < i := by
  unfold lowOk at h
  rw [List.all_eq_true] at h
  have := h i (by simpa using hi)
  rw [ho] at this
  simp only [Bool.and_eq_true, List.all_eq_true, Option.isNone_iff_eq_none] at this
  refine ⟨this.1, fun e he hb => ?_⟩
  have h2 := this.2 e he
  rw [hb] at h2
  exact blt_lt (by simpa using h2)

theorem high_spec {ops : Array Oper} (h : highOk ops = true) {i : Nat} (hi : i = 6 ∨ i = 7 ∨ i = 8) {o : Oper} (ho : ops[i]? = some o) : o.guard = none ∧ ∀ j, j < 6 → ∃ e ∈ o.after.toList, binding e = true ∧ e.on = j := by
  unfold highOk at h
  rw [List.all_eq_true] at h
  have := h i (by simpa using hi)
  rw [ho] at this
  simp only [Bool.and_eq_true, List.all_eq_true, Option.isNone_iff_eq_none] at this
  refine ⟨this.1, fun j hj => ?_⟩
  have h2 := this.2 j (by simpa using hj)
  rw [List.any_eq_true] at h2
  obtain ⟨e, h3, h4⟩ := h2
  rw [Bool.and_eq_true] at h4
  exact ⟨e, h3, h4.1, Nat.eq_of_beq_eq_true h4.2⟩

theorem mk6_high : ∀ i, 6 ≤ i → mk6.getD i false = false := by
  intro i hi
  by_cases h : i < 9
  · have : i = 6 ∨ i = 7 ∨ i = 8 := by omega
    rcases this with rfl | rfl | rfl <;> rfl
  · rw [Array.getD_eq_getD_getElem?, Array.getElem?_eq_none (by show 9 ≤ i; omega)]
    rfl
theorem rep_false (i : Nat) : (Array.replicate 9 false).getD i false = false := by
  rw [Array.getD_eq_getD_getElem?, Array.getElem?_replicate]
  split <;> rfl

theorem tailB_ok (hC : C.Good P) (N : Nat) {body : Code} {R : TailF} (hR : compTail P body = some R) : BodyOk P body (tailB C N R) := by
  unfold compTail at hR
  split at hR
  rotate_left
  · cases hR
  rename_i bid X rid ops
  split at hR
  rotate_left
  · cases hR
  rename_i aX al o6 o7 o8 hchk hX hal h6 h7 h8
  split at hR
  rotate_left
  · cases hR
  rename_i pre hpre
  unfold tailOps at hR
  split at hR
  rotate_left
  · cases hR
  rename_i esz x6 i6 n7 d v7 n8 t8 s8 d6 c6 c7 c8 k6 k7 k8
  split at hR
  rotate_left
  · cases hR
  rename_i hd hn1 hn2
  cases hR
  have hd := Nat.eq_of_beq_eq_true hd
  subst hd
  have hn1 : t8 ≠ d := Nat.ne_of_beq_eq_false hn1
  have hn2 : s8 ≠ d := Nat.ne_of_beq_eq_false hn2
  rw [Bool.and_eq_true] at hchk
  obtain ⟨hJ, hchk⟩ := hchk
  unfold tailChk at hchk
  simp only [Bool.and_eq_true] at hchk
  obtain ⟨⟨⟨⟨⟨⟨⟨⟨⟨⟨⟨hsz, hlow⟩, hhigh⟩, r0⟩, r6⟩, r67⟩, r68⟩, r8⟩, r86⟩, e1⟩, e2⟩, e3⟩ := hchk
  have hsz := Nat.eq_of_beq_eq_true hsz
  have rd : ∀ {l r}, readyIs ops l r = true → Region.ready .any ops l = r := fun h => of_decide_eq_true h
  intro fr σ σ' h ρ a w r hf hdf hr
  unfold tailB at h
  split at h
  · rename_i id frx σ1 hx
    split at h
    · rename_i hid
      cases h
      have hid := Nat.eq_of_beq_eq_true hid
      refine wpIn_block (wpIn_seq (wpIn_mono (code_run hC N N hX hx hf hdf hr r) ?_))
      rintro e a1 w1 ⟨rfl, d1, ρ1, p1, f1⟩
      subst hid
      exact then_exit (block_same hJ ⟨rfl, ρ1, p1⟩)
    · cases h
  · rename_i fr1 σ1 hx
    split at h
    · rename_i x fr2 σ2 hp
      unfold tailE at h
      simp only at h
      split at h
      · rename_i p s6x hs6
        split at h
        · rename_i i7 q7 i8 q8 hg7 hg8
          split at h
          · rename_i hne
            split at h
            · rename_i u7 σ3 hs7
              split at h
              · rename_i u8 σ4 hs8
                cases h
                refine wpIn_block (wpIn_seq (wpIn_mono (code_run hC N N hX hx hf hdf hr r) ?_))
                rintro e a1 w1 ⟨rfl, d1, ρ1, p1, f1⟩
                show Code.wpIn (fen r) 0 P (.region rid ops true) _ a1 w1
                have hsz6 : (ops.extract 0 6).size = 6 := by simp; omega
                have hw : Post ρ1 σ1 w1 ρ1 σ1 { w1 with drawn := w1.drawn + 1 } := Post.of_heap p1.hr rfl rfl rfl rfl
                have hs6' : s6x = σ2 := (iaddr_any hs6).1
                subst hs6'
                have hdraw := draw_any (D := []) (sound hC N).any (Q := fun e a0 w0 => match e with
                    | .normal => wpAnyIn (fen r) 0 P .any ops (Exit.inBlock bid (fun e a' w' => e = .normal ∧ ∃ ρ', Post ρ σ w ρ' σ' w')) 3 mk6 a0 w0
                    | e => (Exit.inBlock bid (fun e a' w' => e = .normal ∧ ∃ ρ', Post ρ σ w ρ' σ' w')) e a0 w0) r (ops.extract 0 6) al pre fr1 fr2 σ1 s6x N x ρ1 a1 { w1 with drawn := w1.drawn + 1 } hal hpre hp f1 d1 hw.hr ?_
                · obtain ⟨_, hmo, hany⟩ := hdraw
                  refine wpIn_region_any hmo ?_
                  rw [hsz]
                  rw [hsz6] at hany
                  refine any_prefix (ops := ops) (n1 := 6) (by omega) (fun i hi o ho => (low_spec hlow hi ho).1) (fun i hi o ho e hm hb => (low_spec hlow hi ho).2 e hm hb)
                    (fun i hi hi2 j hj o ho => (high_spec hhigh (by omega) ho).2 j hj) (fuel2 := 3) (mk := mk6) (by rw [hsz]; rfl) (by decide) mk6_high 6 (Array.replicate 9 false) a1 _ (by rw [hsz]; simp)
                    (fun i _ => rep_false i) (by decide) ?_
                  rw [show (Array.replicate 9 false).extract 0 6 = Array.replicate 6 false by decide]
                  exact hany
                · intro a2 w2 ρ2 d2 p2 f2
                  refine tail3 (sound hC N).any h6 h7 h8 (high_spec hhigh (.inl rfl) h6).1 (high_spec hhigh (.inr (.inl rfl)) h7).1 (high_spec hhigh (.inr (.inr rfl)) h8).1 k6 k7 k8 c6 c7 c8 hn1 hn2
                    (rd r0) (rd r6) (rd r67) (rd r68) (rd r8) (rd r86) (rd e1) (rd e2) (rd e3) f2 p2.hr hs6 hg7 hg8 (Nat.ne_of_beq_eq_false hne) hs7 hs8 (fun a' w' ρ' hd' hp' => ?_)
                  exact ⟨rfl, ρ', (p1.trans (hw.trans p2)).trans hp'⟩
              · cases h
            · cases h
          · cases h
        · cases h
      · cases h
    · cases h
  · cases h

end

def loopBody (fn : Func) : Option Code := match fn.body with
  | some (.seq _ (.seq _ (.seq (.seq _ (.block _ (.rangeFunc _ _ _ body))) _))) => some body
  | _ => none

noncomputable def tailOf (f : Nat) : Option TailF := match Tryd.prog.funcs[f]? with
  | some fn => match loopBody fn with
    | some body => compTail Tryd.prog body
    | none => none
  | none => none

/-- The same where the body's last region appends a call's answer. -/
noncomputable def rngT (N f : Nat) (h : Hint) : Prim := fun args σ => match rngOf f, tailOf f with
  | some R, some T => rngP plainC codeOf (fun _ => .no) N h (fun _ => tailB plainC N T) R args σ
  | _, _ => none

theorem rngT_ok (N f : Nat) (h : Hint) : PrimOk Tryd.prog f (rngT N f h) := by
  intro args σ v σ' hp
  unfold rngT at hp
  split at hp
  · rename_i R T hR hT
    unfold rngOf at hR
    unfold tailOf at hT
    split at hR
    · rename_i fn hfn
      rw [hfn] at hT
      simp only at hT
      split at hT
      · rename_i body hb
        refine rngP_ok plainC_good (fun _ _ h => codeOf_good h) hfn hR (fun c0 c1 c2 bid g ps asg body' c3 he hB => ?_) args σ v σ' hp
        have : body' = body := by
          unfold loopBody at hb
          rw [he] at hb
          exact Option.some.inj hb
        rw [this]
        exact tailB_ok plainC_good N hT
      · cases hT
    · cases hR
  · cases hp

end Go.Proofs.YtkolhfpofmpijaaDoor.Ab
