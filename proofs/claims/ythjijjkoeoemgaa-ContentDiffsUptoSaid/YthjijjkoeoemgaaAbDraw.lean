/- A region whose order is open, and with it all calls: where the abstract machine goes well, the model's call does, whatever the tape says. -/
import Derived.Test.YthjijjkoeoemgaaAbDraw3
namespace Go.Proofs.Ythjijjkoeoemgaa.Ab
open Go
set_option linter.unusedSimpArgs false
set_option linter.unusedVariables false
set_option linter.unnecessarySimpa false

theorem sameSV {a b : SV} (h : SV.same a b = true) : a = b := by
  unfold SV.same at h
  split at h
  · simp at h; subst h; rfl
  · simp only [Bool.and_eq_true, decide_eq_true_eq] at h; obtain ⟨rfl, rfl⟩ := h; rfl
  · rw [beqL_eq] at h; simp at h; subst h; rfl
  · simp only [Bool.and_eq_true] at h; obtain ⟨h1, h2⟩ := h; rw [Nat.eq_of_beq_eq_true h1, Nat.eq_of_beq_eq_true h2]
  · rfl
  · simp only [Bool.and_eq_true, decide_eq_true_eq] at h
    obtain ⟨⟨⟨⟨h1, h2⟩, h3⟩, h4⟩, rfl⟩ := h
    rw [Nat.eq_of_beq_eq_true h1, Nat.eq_of_beq_eq_true h2, Nat.eq_of_beq_eq_true h3, Nat.eq_of_beq_eq_true h4]
  · rfl
  · rfl
  · rfl
  · cases h

theorem sameCells_eq : ∀ {a b : List SV}, sameCells a b = true → a = b
  | [], [], _ => rfl
  | [], _ :: _, h => by cases h
  | _ :: _, [], h => by cases h
  | a :: l, b :: m, h => by
    simp only [sameCells, Bool.and_eq_true] at h
    rw [sameSV h.1, sameCells_eq h.2]

theorem sameObj_eq {a b : Option AObj} (h : sameObj a b = true) : a = b := by
  cases a with
  | none => cases b with
    | none => rfl
    | some b => cases h
  | some a => cases b with
    | none => cases h
    | some b =>
      obtain ⟨ca, ma⟩ := a
      obtain ⟨cb, mb⟩ := b
      simp only [sameObj, Bool.and_eq_true] at h
      obtain ⟨h1, h2⟩ := h
      have h3 : ca = cb := sameCells_eq h2
      have h4 : ma = mb := by cases ma <;> cases mb <;> first | rfl | cases h1
      rw [h3, h4]

theorem pairsOk_at {ops : List AOper} {tt : List (List AV × AHeap)} : ∀ {l : List (Nat × Nat)}, pairsOk ops tt l = true → ∀ p ∈ l, pairOk ops tt p = true
  | [], _, p, hp => by cases hp
  | q :: l, h, p, hp => by
    simp only [pairsOk, Bool.and_eq_true] at h
    rcases List.mem_cons.1 hp with rfl | hp
    · exact h.1
    · exact pairsOk_at h.2 p hp

section
variable {P : Program}

theorem draw_sound {call : CallF} (hcall : CallOk P call) : DrawSound P call := by
  intro id ops al ac fr fr' σ σ' m x ρ a w hcomp hdraw hev hf hd hr
  unfold compDraw at hdraw
  simp only at hdraw
  split at hdraw
  · rename_i hst
    cases hdraw
    simp only [Bool.and_eq_true] at hst
    obtain ⟨⟨hst1, hst2⟩, hst3⟩ := hst
    simp only [evCode] at hev
    split at hev
    · rename_i fr1 σ1 hdr
      cases hev
      refine ⟨rfl, ?_⟩
      unfold evDraw at hdr
      split at hdr
      · rename_i tt fr2 σ2 htr
        split at hdr
        · rename_i hpairs
          cases hdr
          obtain ⟨k1, k2, k3, k4⟩ := evTr_spec al fr σ tt fr' σ' htr
          have hlen : al.length = ops.size := by rw [compOpers_length _ _ hcomp]; simp
          let dflt : AOper := ⟨none, .new [], none⟩
          let F : Nat → List AV := fun i => ((tt[i]?).getD (fr, σ)).1
          let H : Nat → AHeap := fun i => ((tt[i]?).getD (fr, σ)).2
          let ao : Nat → AOper := fun i => (al[i]?).getD dflt
          let lk : Nat → List Nat := fun i => (ao i).slots ++ ((ops[i]?).map (·.looksAt ops)).getD []
          let V : Nat → AV := fun i => match wantedA (F i) (ao i).guard with
            | true => match evStep call (F i) (H i) (ao i).op with
              | some (v, _) => v
              | none => undefA
            | false => undefA
          let w0 : World := { w with drawn := w.drawn + 1 }
          have hF0 : F 0 = fr := by simp only [F, k2]; rfl
          have hH0 : H 0 = σ := by simp only [H, k2]; rfl
          have hFn : F ops.size = fr' := by simp only [F, ← hlen, k3]; rfl
          have hHn : H ops.size = σ' := by simp only [H, ← hlen, k3]; rfl
          have hr0 : HR ρ (H 0).get w0 := by rw [hH0]; exact hr.of_heap rfl
          have stepAt : ∀ i, i < ops.size → evOper call (F i) (H i) (ao i) = some (F (i + 1), H (i + 1)) := by
            intro i hi
            have hal : al[i]? = some (ao i) := by
              have : i < al.length := by omega
              simp [ao, this]
            obtain ⟨f, s, f2, s2, q1, q2, q3⟩ := k4 i (ao i) hal
            simp only [F, H, q1, q2]
            exact q3
          have stepV : ∀ i, i < ops.size → ((wantedA (F i) (ao i).guard = true ∧ evStep call (F i) (H i) (ao i).op = some (V i, H (i + 1))) ∨ (wantedA (F i) (ao i).guard = false ∧ V i = undefA ∧ H (i + 1) = H i)) ∧
              F (i + 1) = putDst (F i) (ao i).dst (V i) := by
            intro i hi
            have h := stepAt i hi
            simp only [evOper] at h
            cases hw : wantedA (F i) (ao i).guard with
            | true =>
              rw [hw] at h
              simp only at h
              split at h
              · rename_i v s hst
                have hV : V i = v := by
                  show (match wantedA (F i) (ao i).guard with
                    | true => match evStep call (F i) (H i) (ao i).op with
                      | some (v, _) => v
                      | none => undefA
                    | false => undefA) = v
                  rw [hw, hst]
                have hpr : (putDst (F i) (ao i).dst v, s) = (F (i + 1), H (i + 1)) := Option.some.inj h
                have h1 : putDst (F i) (ao i).dst v = F (i + 1) := (Prod.mk.inj hpr).1
                have h2 : s = H (i + 1) := (Prod.mk.inj hpr).2
                exact ⟨.inl ⟨rfl, by rw [hV, ← h2]; exact hst⟩, by rw [hV, h1]⟩
              · cases h
            | false =>
              rw [hw] at h
              simp only at h
              have hV : V i = undefA := by simp only [V, hw]
              have hpr : (putDst (F i) (ao i).dst undefA, H i) = (F (i + 1), H (i + 1)) := Option.some.inj h
              have h1 : putDst (F i) (ao i).dst undefA = F (i + 1) := (Prod.mk.inj hpr).1
              have h2 : H i = H (i + 1) := (Prod.mk.inj hpr).2
              exact ⟨.inr ⟨rfl, hV, h2.symm⟩, by rw [hV, h1]⟩
          have compAt : ∀ i, i < ops.size → ∃ o, ops[i]? = some o ∧ compOper P ops o = some (ao i) ∧ (∀ t ∈ (ao i).slots, t ∈ lk i) ∧ (∀ t ∈ o.looksAt ops, t ∈ lk i) := by
            intro i hi
            have ho : ops[i]? = some ops[i] := by simp [hi]
            obtain ⟨b, h1, h2⟩ := compOpers_at ops.toList al i ops[i] hcomp (by simpa using ho)
            have hb : ao i = b := by simp only [ao, h1]; rfl
            refine ⟨ops[i], ho, by rw [hb]; exact h2, fun t ht => List.mem_append_left _ ht, fun t ht => List.mem_append_right _ ?_⟩
            rw [ho]
            exact ht
          have canon : ∀ j, j ≤ ops.size → ∃ τ wc tm, Post ρ (H 0) w0 τ (H j) wc ∧ FR τ (F j) tm := by
            intro j
            induction j with
            | zero => intro _; exact ⟨ρ, w0, a.tmps, Post.refl hr0, by rw [hF0]; exact hf⟩
            | succ j ih =>
              intro hj
              obtain ⟨τ, wc, tm, hp, hfc⟩ := ih (by omega)
              obtain ⟨o, _, hc, _, _⟩ := compAt j (by omega)
              obtain ⟨_, hcop, _⟩ := wanted_rel (a := ⟨tm, []⟩) hc hfc
              obtain ⟨hs, hfr⟩ := stepV j (by omega)
              rcases hs with ⟨_, hs⟩ | ⟨_, hV, hs⟩
              · obtain ⟨u, w', ρ', hp2, hv⟩ := step_exists hcall (a := ⟨tm, []⟩) hcop hfc hp.hr hs
                refine ⟨ρ', w', ((⟨tm, []⟩ : Act).put (ao j).dst u).tmps, hp.trans hp2, ?_⟩
                rw [hfr]
                exact (hfc.mono hp2.le).put (a := ⟨tm, []⟩) _ hv
              · refine ⟨τ, wc, ((⟨tm, []⟩ : Act).put (ao j).dst undef).tmps, by rw [hs]; exact hp, ?_⟩
                rw [hfr, hV]
                exact hfc.put (a := ⟨tm, []⟩) _ VR.undef
          have hrow : ∀ i, i < ops.size → (dRows ops ops.toList al)[i]? = some (ao i, lk i) := by
            intro i hi
            have ho : ops[i]? = some ops[i] := by simp [hi]
            obtain ⟨b, h1, h2⟩ := compOpers_at ops.toList al i ops[i] hcomp (by simpa using ho)
            have hb : ao i = b := by simp only [ao, h1]; rfl
            have := dRows_at ops ops.toList al i ops[i] b (by simpa using ho) h1
            rw [this]
            simp only [lk, hb, ho]
            rfl
          have tr : Tr P call ops ops.size F H V ao lk ρ w0 (pairsAll (dRows ops ops.toList al) 0 (ancs ops.toList []) (dRows ops ops.toList al)) := {
            hn := rfl
            comp := compAt
            edge := fun i o ho e he hb => by
              have := edgesOk_at ops.toList 0 i o hst1 (by simpa using ho) e he hb
              omega
            unord := fun i j hij hj => by
              obtain ⟨pre, hpre⟩ := ancs_pre ops.toList []
              have hanc := ancs_at ops.toList [] j ops[j] (by simp [hj])
              simp only [List.length_nil, Nat.zero_add] at hanc
              have hrows := drawRows_at _ _ _ _ 0 j _ _ hst2 hanc (hrow j hj)
              have := drawRow_at _ _ _ _ _ 0 i _ hrows (hrow i (by omega))
              simp only [Nat.zero_add] at this
              rcases this with h | h | h
              · exact .inl ⟨_, hanc, h⟩
              · omega
              · exact .inr h
            step := fun i hi => (stepV i hi).1
            frame := fun i hi => (stepV i hi).2
            canon := canon
            prs := fun i j hij hi hj hw agg x id' off hop he => by
              have hp := pairsOk_at hpairs (i, j) hij
              unfold pairOk at hp
              have e1 : al[j]? = some (ao j) := by
                have : j < al.length := by omega
                simp [ao, this]
              have e2 : ∀ q, q ≤ ops.size → tt[q]? = some (F q, H q) := by
                intro q hq
                have : q < tt.length := by omega
                simp [F, H, this]
              simp only [e1, e2 j (by omega), e2 i (by omega), e2 (i + 1) (by omega), hw, hop, he] at hp
              exact (sameObj_eq hp).symm }
          refine wp_region_any hst3 ?_
          have hdi : DI ops ops.size F H V ao ρ w0 (Array.replicate ops.size false) a w0 ρ (H 0).get 0 := {
            lsz := by simp
            closed := fun j o _ hl => by
              unfold Lst at hl
              have := Lst.lt hl
              simp at this
              simp [this] at hl
            mem := fun i hi _ => by
              constructor
              · intro hl; unfold Lst at hl; simp [hi] at hl
              · intro h; omega
            kn := by omega
            hr := hr0
            born := fun id B hB => ⟨0, by omega, hr0.lt hB, .inl rfl, by simp⟩
            le0 := .refl ρ
            own := fun m hm hl => by unfold Lst at hl; simp [hm] at hl
            tsz := by rw [hF0, hf.len]
            defers := hd
            temps := fun t ht => ⟨getSlot (F 0) t, by rw [hF0]; exact hf.at_ t, .inl ⟨rfl, fun m hm hl => by unfold Lst at hl; simp [hm] at hl⟩⟩
            hsize := Nat.le_refl _
            frame := fun _ _ _ => rfl
            fresh := fun id B h1 h2 => absurd (hr0.lt h2) (by omega)
            owned := fun _ _ h => h
            old := fun _ _ => rfl
            quiet := fun j _ _ e he _ hl => by unfold Lst at hl; simp [he] at hl
            os := rfl
            tape := rfl
            output := rfl }
          have hleft : left (Array.replicate ops.size false) ops.size = ops.size := by
            unfold left
            rw [List.filter_eq_self.2]
            · simp
            · intro i hi
              have : i < ops.size := by simpa using hi
              simp [this]
          refine any_sound tr hcall hr0 (fun a' w' ρ' h1 h2 h3 => ?_) ops.size _ a w0 ρ _ 0 hdi hleft
          rw [hH0, hHn] at h2
          rw [hFn] at h3
          have hw : Post ρ σ w ρ σ w0 := Post.of_heap hr rfl rfl rfl rfl
          exact ⟨rfl, h1, ρ', hw.trans h2, h3⟩
        · cases hdr
      · cases hdr
    · cases hev
  · cases hdraw

/-- All calls. -/
theorem sound {C : Ctx} (hC : C.Good P) (n : Nat) : CallOk P (evCall C n) := calls_sound hC (fun _ h => draw_sound h) n

end
end Go.Proofs.Ythjijjkoeoemgaa.Ab
