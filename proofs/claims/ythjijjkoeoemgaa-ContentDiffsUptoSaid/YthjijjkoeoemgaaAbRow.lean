/- From a run of the abstract machine to a row: the law returns true, and old memory is as it was. -/
import Derived.Test.YthjijjkoeoemgaaAbDraw
import Derived.ProofKit
import Derived.OpenShut
import Derived.WideKeyArgs
namespace Go.Proofs.Ythjijjkoeoemgaa.Ab
open Go Go.RowKit Go.ChangeShapes Go.WideShapes Go.ChangeAt
set_option linter.unusedSimpArgs false
set_option linter.unusedVariables false

/-- Nobody owns anything: what was there stays as it is. -/
theorem Post.below {ρ ρ' : Loc} {σ σ' : AHeap} {w w' : World} (h : Post ρ σ w ρ' σ' w') (hno : ∀ b, ¬ Owned ρ σ.get b) : Below w.heap.size w w' :=
  ⟨h.os, h.tape, h.output, h.hsize, fun k hk => h.frame k hk (hno k)⟩

/-- The memory of which nothing is known. -/
def noLoc : Loc := fun _ => none
def emptyH : AHeap := ⟨0, .leaf⟩

theorem emptyH_get (id : Nat) : emptyH.get id = none := AHeap.get_ge (Nat.zero_le _)

theorem HR.empty (w : World) : HR noLoc emptyH.get w where
  dom := fun _ _ h => by cases h
  excl := fun _ _ _ _ _ _ h => by cases h

theorem noOwn (b : Nat) : ¬ Owned noLoc emptyH.get b := by
  rintro ⟨id, B, o, h, _⟩
  cases h

/-- A call that the abstract machine sees answer true. -/
theorem law_calls {P : Program} {C : Ctx} (hC : C.Good P) {n f : Nat} {args : List AV} {σ σ' : AHeap} {ρ : Loc} {w : World} {vs : List Value}
    (h : evCall C n f args σ = some (.one (.bool true), σ')) (hv : VRs ρ args vs) (hr : HR ρ σ.get w) (hno : ∀ b, ¬ Owned ρ σ.get b) :
    Calls P f vs.toArray w fun e w' => e = .returned (.bool true) ∧ Below w.heap.size w w' := by
  refine ((sound hC n f args σ _ σ' h).2 ρ w vs hv hr).mono ?_
  rintro e w' ⟨u, ρ', rfl, hp, hu⟩
  cases hu with
  | one hu => cases hu; exact ⟨rfl, hp.below hno⟩

section
variable {P : Program} {H : Type} {enc : TypeId × Value → H}

theorem trodAll_stays (hl : laidOutB P = true) {W W' : World} {sp' : Nat → Bool} : ∀ {ts : List TypeId} {vs : List Value} {ds : List (DataW H)} {ps : List MemPlace}, (∀ t ∈ ts, P.readableRec t = true ∧ t < P.types.size) →
    DataW.TrodAll enc P W 0 (fun _ => true) true ts vs ds ps → (∀ p ∈ ps, W.sameAt W' p) → (∀ p ∈ ps, sp' p.block = true) → DataW.TrodAll enc P W' 0 sp' true ts vs ds ps
  | [], [], [], ps, _, h, _, _ => h
  | t :: ts, v :: vs, d :: ds, ps, ht, h, hsame, hs => by
    obtain ⟨p, q, h1, h2, rfl⟩ := h
    refine ⟨p, q, WideElems.Trod_stays hl (ht t (by simp)).1 (ht t (by simp)).2 h1 (fun x hx => hsame x (List.mem_append_left _ hx)) (fun x hx => hs x (List.mem_append_left _ hx)), ?_, rfl⟩
    exact trodAll_stays hl (fun t' ht' => ht t' (by simp [ht'])) h2 (fun x hx => hsame x (List.mem_append_right _ hx)) (fun x hx => hs x (List.mem_append_right _ hx))
  | [], [], _ :: _, _, _, h, _, _ => h.elim
  | [], _ :: _, _, _, _, h, _, _ => h.elim
  | _ :: _, [], _, _, _, h, _, _ => h.elim
  | _ :: _, _ :: _, [], _, _, h, _, _ => h.elim

/-- What a law's row asks behind the call: true came back, the arguments read as they did, old memory is as it was. -/
theorem law_post {f : Func} {s : ChangeSpec} {W W' : World} {args : Array Value} {ds : List (DataW H)} {before : List MemPlace} {tb : TypeId}
    (hl : laidOutB P = true) (hread : ∀ t ∈ f.params.toList, P.readableRec t = true ∧ t < P.types.size) (hbt : f.resultTypes = #[tb]) (hb : P.underlying tb = some .bool) (hvars : s.vars = [])
    (hW : DataW.Whole enc P f.params.toList s.vars false W args.toList ds [] before)
    (hfn : s.fn H (ds ++ []) = { results := [.lit (.bool true)], args := ds }) (hbel : Below W.heap.size W W') :
    s.post enc P f false true false false W args (.bool true) W' := by
  have hlt : ∀ p ∈ before, p.block < W.heap.size := fun p hp => hW.lt p hp
  obtain ⟨p, q, hA, hV, rfl, hz, hn⟩ := hW
  have hV0 := hV
  rw [hvars] at hV
  obtain rfl : q = [] := by
    unfold DataW.TrodVars at hV
    exact hV
  have hWW : DataW.Whole enc P f.params.toList s.vars false W args.toList ds [] (p ++ []) := ⟨p, [], hA, hV0, rfl, hz, hn⟩
  refine ⟨ds, [], p ++ [], [], p, [], hWW, ?_, ?_, ?_, ?_, ?_⟩
  · rw [hbt, hfn]
    exact trodAll_cons_mk (shut_bool hb _) trodAll_mk0
  · rw [hfn]
    exact trodAll_stays hl hread hA (fun x hx => hbel.same (hlt x (by simp [hx]))) (fun x hx => by simpa using hlt x (by simp [hx]))
  · rw [hfn, hvars]
    exact rfl
  · exact hbel.frame _
  · intro h; cases h

end
end Go.Proofs.Ythjijjkoeoemgaa.Ab
