/- A region whose order is open: one operation more, and the whole. -/
import Derived.Test.YthjijjkoeoemgaaAbDraw2
namespace Go.Proofs.Ythjijjkoeoemgaa.Ab
open Go
set_option linter.unusedSimpArgs false
set_option linter.unusedVariables false

section
variable {P : Program} {call : CallF} {ops : Array Oper} {n : Nat} {F : Nat → List AV} {H : Nat → AHeap} {V : Nat → AV} {ao : Nat → AOper} {lk : Nat → List Nat}
  {ρ0 : Loc} {w0 : World} {pairs : List (Nat × Nat)}

/-- An object's number of cells stays. -/
theorem Tr.len1 (tr : Tr P call ops n F H V ao lk ρ0 w0 pairs) (hcall : CallOk P call) {j : Nat} (hj : j < n) {id : Nat} (hid : id < (H j).size) (hdom : id < (H 0).size → ∃ B, ρ0 id = some B)
    {o o' : AObj} (h1 : (H j).get id = some o) (h2 : (H (j + 1)).get id = some o') : o'.cells.length = o.cells.length := by
  obtain ⟨τ, wc, tm, hp, hf⟩ := tr.canon j (by omega)
  obtain ⟨B, hB⟩ : ∃ B, τ id = some B := by
    by_cases h : id < (H 0).size
    · obtain ⟨B, hB⟩ := hdom h
      exact ⟨B, hp.le _ _ hB⟩
    · exact hp.new id (by omega) hid
  rcases tr.step j hj with ⟨_, h⟩ | ⟨_, _, h⟩
  · obtain ⟨oo, _, hc, _, _⟩ := tr.comp j hj
    obtain ⟨_, hcop, _⟩ := wanted_rel (a := ⟨tm, []⟩) hc hf
    obtain ⟨u, w', ρ', hp2, _⟩ := step_exists hcall (a := ⟨tm, []⟩) hcop hf hp.hr h
    obtain ⟨q1, q2, q3, _⟩ := hp.hr.dom id B hB
    obtain ⟨r1, r2, r3, _⟩ := hp2.hr.dom id B (hp2.le _ _ hB)
    rw [h1] at q2; cases q2
    rw [h2] at r2; cases r2
    rw [q3.len, r3.len]
  · rw [h, h1] at h2
    cases h2
    rfl

theorem Tr.there (tr : Tr P call ops n F H V ao lk ρ0 w0 pairs) {j : Nat} (hj : j ≤ n) {id : Nat} (hid : id < (H j).size) (hdom : id < (H 0).size → ∃ B, ρ0 id = some B) :
    ∃ o, (H j).get id = some o := by
  obtain ⟨τ, wc, tm, hp, hf⟩ := tr.canon j hj
  obtain ⟨B, hB⟩ : ∃ B, τ id = some B := by
    by_cases h : id < (H 0).size
    · obtain ⟨B, hB⟩ := hdom h
      exact ⟨B, hp.le _ _ hB⟩
    · exact hp.new id (by omega) hid
  obtain ⟨o, h1, _⟩ := hp.hr.dom id B hB
  exact ⟨o, h1⟩

theorem Tr.lens (tr : Tr P call ops n F H V ao lk ρ0 w0 pairs) (hcall : CallOk P call) {id : Nat} (hdom : id < (H 0).size → ∃ B, ρ0 id = some B) : ∀ (d j : Nat), j + d ≤ n → id < (H j).size → ∀ (o o' : AObj),
    (H j).get id = some o → (H (j + d)).get id = some o' → o'.cells.length = o.cells.length
  | 0, j, _, _, o, o', h1, h2 => by rw [Nat.add_zero, h1] at h2; cases h2; rfl
  | d + 1, j, h, hid, o, o', h1, h2 => by
    have hid2 : id < (H (j + d)).size := Nat.lt_of_lt_of_le hid (tr.mono hcall d j (by omega))
    obtain ⟨om, hm⟩ := tr.there (j := j + d) (by omega) hid2 hdom
    rw [← Nat.add_assoc] at h2
    rw [tr.len1 hcall (by omega) hid2 hdom hm h2]
    exact Tr.lens tr hcall hdom d j (by omega) hid o om h1 hm

theorem DI.domρ {listed : Array Bool} {a : Act} {w : World} {ρ : Loc} {g : Nat → Option AObj} {k : Nat}
    (d : DI ops n F H V ao ρ0 w0 listed a w ρ g k) {id : Nat} {B : Blk} (hB : ρ id = some B) : id < (H 0).size → ∃ B, ρ0 id = some B :=
  fun h => ⟨B, by rw [← d.old id h]; exact hB⟩

theorem DI.lenRel {listed : Array Bool} {a : Act} {w : World} {ρ : Loc} {g : Nat → Option AObj} {k : Nat} (tr : Tr P call ops n F H V ao lk ρ0 w0 pairs) (hcall : CallOk P call)
    (d : DI ops n F H V ao ρ0 w0 listed a w ρ g k) {i : Nat} (hi : i ≤ n) : LenRel (ρ.cut (H i).size) (H i).get := by
  intro id B o hB ho
  unfold Loc.cut at hB
  split at hB
  · rename_i hid
    obtain ⟨o', h1, h2, _⟩ := d.hr.dom id B hB
    refine ⟨?_, h2.fit⟩
    obtain ⟨b, hb, hlt, _, hg⟩ := d.born id B hB
    have hdom := d.domρ hB
    rw [← h2.len]
    rw [hg] at h1
    have hk := d.kn
    have hlt' : id < (H (max k b)).size := AHeap.get_lt h1
    rcases Nat.le_total (max k b) i with h | h
    · have := tr.lens hcall hdom (i - max k b) (max k b) (by omega) hlt' o' o h1 (by rw [show max k b + (i - max k b) = i by omega]; exact ho)
      exact this
    · have := tr.lens hcall hdom (max k b - i) i (by omega) hid o o' ho (by rw [show i + (max k b - i) = max k b by omega]; exact h1)
      exact this.symm
  · cases hB

theorem owned_cut {ρ : Loc} {g g' : Nat → Option AObj} {N b : Nat} (hg : ∀ id B, ρ id = some B → id < N → g' id = g id) (h : Owned (ρ.cut N) g' b) : Owned ρ g b := by
  obtain ⟨id, B, o, h1, h2, h3, h4⟩ := h
  unfold Loc.cut at h1
  split at h1
  · rename_i hid
    exact ⟨id, B, o, h1, by rw [← hg id B h1 hid]; exact h2, h3, h4⟩
  · cases h1

/-- One operation more, whichever is ready. -/
theorem DI.step {listed : Array Bool} {a : Act} {w : World} {ρ : Loc} {g : Nat → Option AObj} {k : Nat} (tr : Tr P call ops n F H V ao lk ρ0 w0 pairs) (hcall : CallOk P call)
    (d : DI ops n F H V ao ρ0 w0 listed a w ρ g k) {i : Nat} {o : Oper} (hi : i < n) (ho : ops[i]? = some o) (hun : ¬ Lst listed i) (hready : ∀ e ∈ o.after.toList, binding e = true → Lst listed e.on)
    {Q : Exit → Act → World → Prop} {K : Act → World → Prop}
    (hK : ∀ a' w' ρ' g' k', DI ops n F H V ao ρ0 w0 (listed.setIfInBounds i true) a' w' ρ' g' k' → K a' w') : wpOp P ops Q i K a w := by
  obtain ⟨o', ho', hc, hs1, hs2⟩ := tr.comp i hi
  rw [ho] at ho'; cases ho'
  obtain ⟨τ, wc, tm, hp, hfc⟩ := tr.canon i (by omega)
  have hlook : ∀ t ∈ lk i, VR (ρ.cut (H i).size) (getSlot (F i) t) (a.tmps.getD t undef) :=
    fun t ht => (d.looked tr hi ho hun hready ht).cut hp.dom (hfc.at_ t)
  have hlen : (F i).length = a.tmps.size := by rw [tr.flen i (by omega), d.tsz]
  have hf : FR (ρ.cut (H i).size) (maskF (lk i) 0 (F i)) (maskV (lk i) a.tmps) := FR.mask hlen hlook
  have hguard : ∀ s want, (ao i).guard = some (s, want) → VR (ρ.cut (H i).size) (getSlot (F i) s) (a.tmps.getD s undef) := by
    intro s want hg
    refine hlook s (hs1 s ?_)
    unfold AOper.slots
    rw [hg]
    simp
  obtain ⟨hw, hcop, hdst⟩ := wanted_rel' hc hlen hguard
  have hag : Agree (ao i).op.slots (maskF (lk i) 0 (F i)) (F i) := by
    refine mask_agree _ _ (fun t ht => hs1 t ?_) _
    unfold AOper.slots
    split
    · simp [ht]
    · exact ht
  have hex : execOp ({ a with tmps := maskV (lk i) a.tmps } : Act).eval o = execOp a.eval o := execOp_mask (ops := ops) hcop hs2
  have hdomτ : ∀ id B, ρ id = some B → id < (H i).size → τ id ≠ none := by
    intro id B hB hid
    by_cases h : id < (H 0).size
    · obtain ⟨B', hB'⟩ := d.domρ hB h
      rw [hp.le _ _ hB']; simp
    · obtain ⟨B', hB'⟩ := hp.new id (by omega) hid
      rw [hB']; simp
  -- two operations on memory have an order
  have ordered : (ao i).op.memAny = true → ∀ e, e < n → (ao e).op.memAny = true → ¬ (e < i ∧ ¬ Prec ops i e ∨ i < e ∧ ¬ Prec ops e i) := by
    rintro hm e he hme (⟨h1, h2⟩ | ⟨h1, h2⟩)
    · rcases tr.unord e i h1 hi with h | h
      · exact h2 h
      · exact (unordOk_spec h).2.2.2.1 ⟨hme, hm⟩
    · rcases tr.unord i e h1 he with h | h
      · exact h2 h
      · exact (unordOk_spec h).2.2.2.1 ⟨hm, hme⟩
  have same_mem : (ao i).op.memAny = true → ∀ id B, ρ id = some B → id < (H i).size → (H i).get id = g id := by
    intro hm id B hB hid
    exact (d.same_at tr hcall hi ho hun hready hB hid (fun e he hme hu => absurd hu (ordered hm e he hme))).symm
  have mem_iff : (ao i).op.memAny = true → ∀ j, j < n → (ao j).op.memAny = true → (Lst listed j ∨ j = i ↔ j < i + 1) := by
    intro hm j hj hmj
    constructor
    · rintro (hl | rfl)
      · rcases Nat.lt_or_ge i j with h | h
        · have hprec : Prec ops j i := Classical.byContradiction fun hnp => ordered hm j hj hmj (.inr ⟨h, hnp⟩)
          exact absurd (d.closed.prec j i (by rw [tr.hn]; exact hj) hprec hl) hun
        · omega
      · omega
    · intro hlt
      by_cases e : j = i
      · exact .inr e
      · left
        have hprec : Prec ops i j := Classical.byContradiction fun hnp => ordered hm j hj hmj (.inl ⟨by omega, hnp⟩)
        exact d.closed.ready ho hready hprec
  have mem_iff' : (ao i).op.memAny = false → ∀ j, j < n → (ao j).op.memAny = true → (Lst listed j ∨ j = i ↔ j < k) := by
    intro hm j hj hmj
    rw [← d.mem j hj hmj]
    constructor
    · rintro (h | rfl)
      · exact h
      · rw [hm] at hmj; cases hmj
    · exact .inl
  -- an object of a later operation: behind k, or behind i
  have later : (ao i).op.memAny = true → ∀ id b, b ≤ n → i < b → id < (H b).size → (H (max k b)).get id = (H (max (i + 1) b)).get id := by
    intro hm id b hb hib hlt
    rw [show max (i + 1) b = b by omega]
    refine tr.chain' hcall (by omega) (by have := d.kn; omega) hlt (fun e h1 h2 hme => ?_)
    have hen : e < n := by have := d.kn; omega
    have hl := (d.mem e hen hme).2 (by omega)
    have hprec : Prec ops e i := Classical.byContradiction fun hnp => ordered hm e hen hme (.inr ⟨by omega, hnp⟩)
    exact absurd (d.closed.prec e i (by rw [tr.hn]; exact hen) hprec hl) hun
  have blei : ∀ id b, b ≤ n → id < (H i).size → (b = 0 ∨ ∃ m, b = m + 1 ∧ Lst listed m ∧ (H m).size ≤ id) → b ≤ i := by
    intro id b hb hid hcase
    rcases hcase with rfl | ⟨m, rfl, hl, hm⟩
    · omega
    · rcases Nat.lt_or_ge m i with h | h
      · omega
      · have := tr.le hcall (i := i) (j := m) h (by omega)
        omega
  unfold wpOp
  simp only [ho]
  rw [hw]
  rcases tr.step i hi with ⟨hwa, hst⟩ | ⟨hwa, hV, hH⟩
  · rw [hwa]
    simp only [if_true]
    left
    have hst' : evStep call (maskF (lk i) 0 (F i)) (H i) (ao i).op = some (V i, H (i + 1)) := by rw [evStep_agree hag]; exact hst
    cases hm : (ao i).op.memAny with
    | false =>
      have hnc : ∀ f args, (ao i).op ≠ .call f args := by intro f args e; rw [e] at hm; cases hm
      have hmm : (ao i).op.mem = false := by cases hq : (ao i).op <;> rw [hq] at hm <;> first | rfl | exact hm
      rw [evStep_notcall hnc] at hst'
      rcases op_class (a := { a with tmps := maskV (lk i) a.tmps }) hcop hf (d.lenRel tr hcall (by omega)) hst' with ⟨_, hσ, u, hv, hrun⟩ | ⟨agg, y, hop, hσ, hrun⟩ | ⟨_, cs, vs, t, hσ, hvs, hrun⟩ | ⟨h, _⟩
      · -- no memory
        unfold Oper.wp
        rw [← hex, hrun w]
        simp only [Oper.upon]
        rw [← hdst]
        refine hK _ _ ρ g k (d.next tr hi ho hun hready (.refl ρ) d.hr (hv.mono (Loc.cut_le _ _)) d.kn (mem_iff' hm) ?_ ?_ (Nat.le_refl _) (fun _ _ _ => rfl) d.fresh d.owned (fun _ _ => rfl) (fun h => by rw [hm] at h; cases h) rfl rfl rfl)
        · intro id B hB
          obtain ⟨b, h1, h2, h3, h4⟩ := d.born id B hB
          exact ⟨b, h1, h2, h3.imp (fun h => h) (fun ⟨m, q1, q2, q3⟩ => ⟨m, q1, .inl q2, q3⟩), h4⟩
        · intro id h1 h2
          rw [hσ] at h2
          omega
      · -- a load
        have hob : ∀ id off B ob, ev (maskF (lk i) 0 (F i)) y = .one (.ptr id off) → (ρ.cut (H i).size) id = some B → (H i).get id = some ob → ObjOk (ρ.cut (H i).size) w B ob := by
          intro id off B ob he hB hobj
          have hid : id < (H i).size := AHeap.get_lt hobj
          have hB' : ρ id = some B := Loc.cut_le _ _ _ _ hB
          have he' : ev (F i) y = .one (.ptr id off) := by
            rw [← ev_agree (x := y) (f1 := maskF (lk i) 0 (F i)) (f2 := F i)]
            · exact he
            · intro t ht
              exact hag t (by rw [hop]; exact ht)
          have hload : (ao i).op.isLoad = true := by rw [hop]; rfl
          have hg := d.same_at tr hcall hi ho hun hready hB' hid (fun e hen hme hu => by
            rcases hu with ⟨h1, h2⟩ | ⟨h1, h2⟩
            · rcases tr.unord e i h1 hi with h | h
              · exact absurd h h2
              · exact tr.prs e i ((unordOk_spec h).2.2.2.2.1 hme hload) hen hi hwa agg y id off hop he'
            · rcases tr.unord i e h1 hen with h | h
              · exact absurd h h2
              · exact tr.prs e i ((unordOk_spec h).2.2.2.2.2 hload hme) hen hi hwa agg y id off hop he')
          obtain ⟨o1, k1, k2, _⟩ := d.hr.dom id B hB'
          rw [hg, hobj] at k1
          cases k1
          obtain ⟨B2, hB2⟩ := Option.ne_none_iff_exists'.1 (hdomτ id B hB' hid)
          obtain ⟨o2, q1, q2, _⟩ := hp.hr.dom id B2 hB2
          rw [hobj] at q1
          cases q1
          exact ⟨k2.len, k2.fit, fun hd => SRs.cells_cut hp.dom (k2.holds hd) (q2.holds hd), k2.own⟩
        obtain ⟨u, hv, hrun'⟩ := hrun w hob
        unfold Oper.wp
        rw [← hex, hrun']
        simp only [Oper.upon]
        rw [← hdst]
        refine hK _ _ ρ g k (d.next tr hi ho hun hready (.refl ρ) d.hr (hv.mono (Loc.cut_le _ _)) d.kn (mem_iff' hm) ?_ ?_ (Nat.le_refl _) (fun _ _ _ => rfl) d.fresh d.owned (fun _ _ => rfl) (fun h => by rw [hm] at h; cases h) rfl rfl rfl)
        · intro id B hB
          obtain ⟨b, h1, h2, h3, h4⟩ := d.born id B hB
          exact ⟨b, h1, h2, h3.imp (fun h => h) (fun ⟨m, q1, q2, q3⟩ => ⟨m, q1, .inl q2, q3⟩), h4⟩
        · intro id h1 h2
          rw [hσ] at h2
          omega
      · -- a new block
        obtain ⟨u, hrun', hv⟩ := hrun w
        have hsz : (H (i + 1)).size = (H i).size + 1 := by rw [hσ, AHeap.size_alloc]
        have hno : ρ (H i).size = none := d.absent tr hcall hi hun (Nat.le_refl _) (by omega)
        have hle := Loc.le_upd hno (B := ⟨w.heap.size, 0, vs.length, cs.length⟩)
        unfold Oper.wp
        rw [← hex, hrun']
        simp only [Oper.upon]
        rw [← hdst]
        have h0i := tr.le hcall (i := 0) (j := i) (by omega) (by omega)
        have hself : (ρ.upd (H i).size ⟨w.heap.size, 0, vs.length, cs.length⟩) (H i).size = some ⟨w.heap.size, 0, vs.length, cs.length⟩ := by unfold Loc.upd; rw [if_pos rfl]
        have hother : ∀ id, id ≠ (H i).size → (ρ.upd (H i).size ⟨w.heap.size, 0, vs.length, cs.length⟩) id = ρ id := by intro id h; unfold Loc.upd; rw [if_neg h]
        refine hK _ _ _ _ k (d.next tr hi ho hun hready hle (d.hr.alloc (t := t) hno (hvs.mono (Loc.cut_le _ _))) (hv _ hself) d.kn (mem_iff' hm) ?_ ?_ (by simp) ?_ ?_ ?_ ?_ (fun h => by rw [hm] at h; cases h) rfl rfl rfl)
        · intro id B hB
          by_cases e : id = (H i).size
          · subst e
            refine ⟨i + 1, by omega, by omega, .inr ⟨i, rfl, .inr rfl, Nat.le_refl _⟩, ?_⟩
            simp only [if_true]
            have hget : (H (i + 1)).get (H i).size = some ⟨cs, .own⟩ := by rw [hσ, AHeap.get_alloc, if_pos rfl]
            rw [tr.chain' hcall (lo := i + 1) (hi := max k (i + 1)) (by omega) (by have := d.kn; omega) (by omega) (fun e h1 h2 hme => ?_), hget]
            have hen : e < n := by have := d.kn; omega
            exact d.quiet i hi hun e hen (by omega) ((d.mem e hen hme).2 (by omega)) hme _ (Nat.le_refl _) (by omega)
          · rw [hother id e] at hB
            obtain ⟨b, h1, h2, h3, h4⟩ := d.born id B hB
            exact ⟨b, h1, h2, h3.imp (fun h => h) (fun ⟨m, q1, q2, q3⟩ => ⟨m, q1, .inl q2, q3⟩), by rw [if_neg e]; exact h4⟩
        · intro id h1 h2
          have : id = (H i).size := by omega
          subst this
          exact ⟨_, hself⟩
        · intro b hb _
          have := d.hsize
          show (w.heap.push _)[b]? = _
          rw [Array.getElem?_push, if_neg (by omega)]
        · intro id B h1 h2
          by_cases e : id = (H i).size
          · subst e
            rw [hself] at h2
            cases h2
            exact .inl d.hsize
          · rw [hother id e] at h2
            exact d.fresh id B h1 h2
        · rintro b hb ⟨id, B, ob, h1, h2, h3, h4⟩
          by_cases e : id = (H i).size
          · subst e
            rw [hself] at h1
            cases h1
            have := d.hsize
            simp only at h4
            omega
          · rw [hother id e] at h1
            simp only [if_neg e] at h2
            exact d.owned b hb ⟨id, B, ob, h1, h2, h3, h4⟩
        · intro id hid
          exact hother id (by omega)
      · rw [hmm] at h; cases h
    | true =>
      have hg := same_mem hm
      have hr' : HR (ρ.cut (H i).size) (H i).get w := d.hr.restrict hp.hr hp.dom (fun id B hB hid => ⟨hg id B hB hid, hdomτ id B hB hid⟩)
      refine step_sound' hcall (a := { a with tmps := maskV (lk i) a.tmps }) hcop hf hr' hst' hex (fun u w' ρ1 hp1 hv => ?_)
      have hno : ∀ id, (H i).size ≤ id → id < (H (i + 1)).size → ρ id = none := fun id h1 h2 => d.absent tr hcall hi hun h1 h2
      obtain ⟨hrN, hle1⟩ := d.hr.merge hp1 hg hno
      have h0i := tr.le hcall (i := 0) (j := i) (by omega) (by omega)
      have hcutOwned : ∀ b, Owned (ρ.cut (H i).size) (H i).get b → Owned ρ g b := fun b hb => owned_cut hg hb
      have hjoin : ∀ id B, (ρ.join ρ1) id = some B → ρ id = some B ∨ (ρ id = none ∧ ρ1 id = some B) := by
        intro id B hB
        unfold Loc.join at hB
        cases hq : ρ id with
        | none => rw [hq] at hB; exact .inr ⟨rfl, hB⟩
        | some B' => rw [hq] at hB; exact .inl hB
      have hρ1old : ∀ id, id < (H i).size → ρ1 id = ρ id := by
        intro id hid
        rw [hp1.old id hid]
        unfold Loc.cut
        rw [if_pos hid]
      rw [← hdst]
      refine hK _ _ _ _ (i + 1) (d.next tr hi ho hun hready (Loc.le_join ρ ρ1) hrN (hv.mono hle1) (by omega) (mem_iff hm) ?_ ?_ hp1.hsize ?_ ?_ ?_ ?_ ?_ hp1.os hp1.tape hp1.output)
      · intro id B hB
        by_cases hid1 : id < (H (i + 1)).size
        · simp only [if_pos hid1]
          by_cases hid : id < (H i).size
          · rcases hjoin id B hB with h | ⟨h, h'⟩
            · obtain ⟨b, h1, h2, h3, h4⟩ := d.born id B h
              have hb := blei id b h1 hid h3
              exact ⟨b, h1, h2, h3.imp (fun h => h) (fun ⟨m, q1, q2, q3⟩ => ⟨m, q1, .inl q2, q3⟩), by rw [show max (i + 1) b = i + 1 by omega]⟩
            · rw [hρ1old id hid, h] at h'; cases h'
          · exact ⟨i + 1, by omega, hid1, .inr ⟨i, rfl, .inr rfl, by omega⟩, by rw [show max (i + 1) (i + 1) = i + 1 by omega]⟩
        · simp only [if_neg hid1]
          rcases hjoin id B hB with h | ⟨h, h'⟩
          · obtain ⟨b, h1, h2, h3, h4⟩ := d.born id B h
            have hib : i < b := by
              rcases Nat.lt_or_ge i b with q | q
              · exact q
              · have := tr.le hcall (i := b) (j := i) q (by omega)
                have := tr.mono1 hcall hi
                omega
            exact ⟨b, h1, h2, h3.imp (fun h => h) (fun ⟨m, q1, q2, q3⟩ => ⟨m, q1, .inl q2, q3⟩), by rw [h4]; exact later hm id b h1 hib h2⟩
          · exact absurd (hp1.dom id B h') hid1
      · intro id h1 h2
        obtain ⟨B, hB⟩ := hp1.new id h1 h2
        exact ⟨B, hle1 _ _ hB⟩
      · intro b hb hnb
        refine hp1.frame b (by have := d.hsize; omega) (fun h => hnb (d.owned b hb (hcutOwned b h)))
      · intro id B h1 h2
        rcases hjoin id B h2 with h | ⟨h, h'⟩
        · exact d.fresh id B h1 h
        · by_cases hid : id < (H i).size
          · rw [hρ1old id hid, h] at h'; cases h'
          · rcases hp1.fresh id B (by omega) h' with q | q
            · exact .inl (Nat.le_trans d.hsize q)
            · by_cases hb : B.b < w0.heap.size
              · exact .inr (d.owned B.b hb (hcutOwned _ q))
              · exact .inl (by omega)
      · rintro b hb ⟨id, B, ob, h1, h2, h3, h4⟩
        by_cases hid1 : id < (H (i + 1)).size
        · simp only [if_pos hid1] at h2
          have h1' : ρ1 id = some B := by
            rcases hjoin id B h1 with h | ⟨h, h'⟩
            · by_cases hid : id < (H i).size
              · rw [hρ1old id hid]; exact h
              · rw [hno id (by omega) hid1] at h; cases h
            · exact h'
          exact d.owned b hb (hcutOwned b (hp1.owned (by have := d.hsize; omega) ⟨id, B, ob, h1', h2, h3, h4⟩))
        · simp only [if_neg hid1] at h2
          rcases hjoin id B h1 with h | ⟨h, h'⟩
          · exact d.owned b hb ⟨id, B, ob, h, h2, h3, h4⟩
          · exact absurd (hp1.dom id B h') hid1
      · intro id hid
        have hid2 : id < (H i).size := by omega
        cases hq : ρ id with
        | none =>
          unfold Loc.join
          rw [hq]
          rw [hρ1old id hid2]
          exact hq
        | some B => exact Loc.le_join ρ ρ1 _ _ hq
      · intro _ j hj hnl id h1 h2
        have hid : id < (H i).size := Nat.lt_of_lt_of_le h2 (tr.le hcall (by omega) (by omega))
        refine hp1.same id hid ?_
        unfold Loc.cut
        rw [if_pos hid]
        exact d.absent tr hcall (by omega) hnl h1 h2
  · rw [hwa]
    simp only [Bool.false_eq_true, if_false]
    rw [← hdst]
    cases hm : (ao i).op.memAny with
    | false =>
      refine hK _ _ ρ g k (d.next tr hi ho hun hready (.refl ρ) d.hr (by rw [hV]; exact VR.undef) d.kn (mem_iff' hm) ?_ ?_ (Nat.le_refl _) (fun _ _ _ => rfl) d.fresh d.owned (fun _ _ => rfl) (fun h => by rw [hm] at h; cases h) rfl rfl rfl)
      · intro id B hB
        obtain ⟨b, h1, h2, h3, h4⟩ := d.born id B hB
        exact ⟨b, h1, h2, h3.imp (fun h => h) (fun ⟨m, q1, q2, q3⟩ => ⟨m, q1, .inl q2, q3⟩), h4⟩
      · intro id h1 h2
        rw [hH] at h2
        omega
    | true =>
      refine hK _ _ ρ g (i + 1) (d.next tr hi ho hun hready (.refl ρ) d.hr (by rw [hV]; exact VR.undef) (by omega) (mem_iff hm) ?_ ?_ (Nat.le_refl _) (fun _ _ _ => rfl) d.fresh d.owned (fun _ _ => rfl) ?_ rfl rfl rfl)
      · intro id B hB
        obtain ⟨b, h1, h2, h3, h4⟩ := d.born id B hB
        refine ⟨b, h1, h2, h3.imp (fun h => h) (fun ⟨m, q1, q2, q3⟩ => ⟨m, q1, .inl q2, q3⟩), ?_⟩
        by_cases hid : id < (H i).size
        · have hb := blei id b h1 hid h3
          rw [show max (i + 1) b = i + 1 by omega, hH]
          exact (same_mem hm id B hB hid).symm
        · have hib : i < b := by
            rcases Nat.lt_or_ge i b with q | q
            · exact q
            · have := tr.le hcall (i := b) (j := i) q (by omega)
              omega
          rw [h4]
          exact later hm id b h1 hib h2
      · intro id h1 h2
        rw [hH] at h2
        omega
      · intro _ j hj hnl id h1 h2
        rw [hH]

/-- How many operations are still to come. -/
def left (listed : Array Bool) (n : Nat) : Nat := ((List.range n).filter fun i => !(listed.getD i false)).length

theorem left_set {listed : Array Bool} {n i : Nat} (hsz : listed.size = n) (hi : i < n) (hun : ¬ Lst listed i) : left (listed.setIfInBounds i true) n + 1 = left listed n := by
  unfold left
  have key : ∀ (l : List Nat), l.Nodup → i ∈ l → (l.filter fun j => !((listed.setIfInBounds i true).getD j false)).length + 1 = (l.filter fun j => !(listed.getD j false)).length := by
    intro l
    induction l with
    | nil => intro _ h; cases h
    | cons j l ih =>
      intro hnd hmem
      rw [List.nodup_cons] at hnd
      have hother : ∀ m, m ≠ i → (listed.setIfInBounds i true).getD m false = listed.getD m false := by
        intro m hm
        simp only [Array.getD_eq_getD_getElem?]
        rw [Array.getElem?_setIfInBounds_ne (fun e => hm e.symm)]
      by_cases e : j = i
      · subst e
        have h1 : (listed.setIfInBounds j true).getD j false = true := (Lst.set (by omega)).2 (.inr rfl)
        have h2 : listed.getD j false = false := by
          cases hq : listed.getD j false with
          | false => rfl
          | true => exact absurd hq hun
        have h3 : (l.filter fun m => !((listed.setIfInBounds j true).getD m false)) = l.filter fun m => !(listed.getD m false) := by
          apply List.filter_congr
          intro m hm
          rw [hother m (fun e => hnd.1 (e ▸ hm))]
        rw [List.filter_cons, List.filter_cons, h1, h2, h3]
        simp
      · have hmem' : i ∈ l := by
          rcases List.mem_cons.1 hmem with h | h
          · exact absurd h.symm e
          · exact h
        have := ih hnd.2 hmem'
        rw [List.filter_cons, List.filter_cons, hother j e]
        split
        · simp only [List.length_cons]; omega
        · exact this
  exact key (List.range n) List.nodup_range (by simpa using hi)

theorem left_zero {listed : Array Bool} {n : Nat} (h : left listed n = 0) : ∀ i, i < n → Lst listed i := by
  intro i hi
  unfold left at h
  have := List.filter_eq_nil_iff.1 (List.eq_nil_of_length_eq_zero h) i (by simpa using hi)
  unfold Lst
  simpa using this

theorem ready_mem {listed : Array Bool} {i : Nat} (hsz : listed.size = ops.size) (h : i ∈ Region.ready .any ops listed) :
    i < ops.size ∧ ¬ Lst listed i ∧ ∃ o, ops[i]? = some o ∧ ∀ e ∈ o.after.toList, binding e = true → Lst listed e.on := by
  unfold Region.ready at h
  rw [List.mem_filter] at h
  obtain ⟨h1, h2⟩ := h
  have hi : i < ops.size := by simpa using h1
  simp only [Bool.and_eq_true] at h2
  obtain ⟨h3, h4⟩ := h2
  have hlt : i < listed.size := by omega
  refine ⟨hi, ?_, ops[i], by simp [hi], ?_⟩
  · intro hl
    unfold Lst at hl
    simp [hlt] at h3 hl
    rw [h3] at hl
    cases hl
  · intro e he hb
    simp [hi] at h4
    obtain ⟨idx, hidx, rfl⟩ := List.getElem_of_mem he
    have := h4 idx (by simpa using hidx)
    unfold binding at hb
    unfold Lst
    simp at hb this
    rcases this with h | h
    · rw [hb] at h; cases h
    · simpa using h

theorem ready_none {listed : Array Bool} (hsz : listed.size = ops.size) (hedge : ∀ i o, ops[i]? = some o → ∀ e ∈ o.after.toList, binding e = true → e.on < i)
    (h : Region.ready .any ops listed = []) : ∀ i, i < ops.size → Lst listed i := by
  intro i
  induction i using Nat.strongRecOn with
  | _ i ih =>
    intro hi
    refine Classical.byContradiction fun hun => ?_
    have : i ∈ Region.ready .any ops listed := by
      unfold Region.ready
      rw [List.mem_filter]
      refine ⟨by simpa using hi, ?_⟩
      have hlt : i < listed.size := by omega
      simp only [Bool.and_eq_true]
      constructor
      · unfold Lst at hun
        simp [hlt] at hun ⊢
        exact hun
      · simp [hi]
        intro idx hidx
        have hmem : ops[i].after[idx] ∈ ops[i].after.toList := by simp
        cases hb : Region.binds .any ops[i].after[idx] with
        | false => exact .inl rfl
        | true =>
          right
          have hlt2 := hedge i ops[i] (by simp [hi]) _ hmem hb
          have := ih _ hlt2 (by omega)
          unfold Lst at this
          simpa using this
    rw [h] at this
    cases this

/-- Where all are listed the region has ended. -/
theorem DI.done {listed : Array Bool} {a : Act} {w : World} {ρ : Loc} {g : Nat → Option AObj} {k : Nat} (tr : Tr P call ops n F H V ao lk ρ0 w0 pairs) (hcall : CallOk P call)
    (d : DI ops n F H V ao ρ0 w0 listed a w ρ g k) (hr0 : HR ρ0 (H 0).get w0) (hall : ∀ i, i < n → Lst listed i) : Post ρ0 (H 0) w0 ρ (H n) w ∧ FR ρ (F n) a.tmps := by
  obtain ⟨τ, wc, tm, hp, hfc⟩ := tr.canon n (Nat.le_refl _)
  have hkn := d.kn
  have hg : ∀ id B, ρ id = some B → (H n).get id = g id := by
    intro id B hB
    obtain ⟨b, h1, h2, h3, h4⟩ := d.born id B hB
    rw [h4]
    refine tr.chain' hcall (by omega) (Nat.le_refl _) (Nat.lt_of_lt_of_le h2 (tr.le hcall (by omega) (by omega))) (fun e q1 q2 hme => ?_)
    have := (d.mem e q2 hme).1 (hall e q2)
    omega
  have hown : ∀ b, Owned ρ (H n).get b ↔ Owned ρ g b := by
    intro b
    constructor
    · rintro ⟨id, B, o, h1, h2, h3, h4⟩
      exact ⟨id, B, o, h1, by rw [← hg id B h1]; exact h2, h3, h4⟩
    · rintro ⟨id, B, o, h1, h2, h3, h4⟩
      exact ⟨id, B, o, h1, by rw [hg id B h1]; exact h2, h3, h4⟩
  refine ⟨?_, ?_⟩
  · exact {
      le := d.le0
      size := tr.le hcall (by omega) (Nat.le_refl _)
      new := fun id h1 h2 => by
        -- which operation has made it
        have key : ∀ m, m ≤ n → (H 0).size ≤ id → id < (H m).size → ∃ B, ρ id = some B := by
          intro m
          induction m with
          | zero => intro _ q1 q2; omega
          | succ m ih =>
            intro hm q1 q2
            by_cases q : id < (H m).size
            · exact ih (by omega) q1 q
            · exact d.own m (by omega) (hall m (by omega)) id (by omega) q2
        exact key n (Nat.le_refl _) h1 h2
      old := d.old
      dom := fun id B hB => by
        obtain ⟨b, h1, h2, _⟩ := d.born id B hB
        exact Nat.lt_of_lt_of_le h2 (tr.le hcall h1 (Nat.le_refl _))
      same := hp.same
      md := hp.md
      md' := hp.md'
      hr := {
        dom := fun id B hB => by
          obtain ⟨o, h1, h2, h3⟩ := d.hr.dom id B hB
          exact ⟨o, by rw [hg id B hB]; exact h1, h2, h3⟩
        excl := fun i j B B' o o' h1 h2 h3 h4 hne h5 h6 => by
          rw [hg i B h1] at h3
          rw [hg j B' h2] at h4
          exact d.hr.excl i j B B' o o' h1 h2 h3 h4 hne h5 h6 }
      hsize := d.hsize
      frame := d.frame
      fresh := d.fresh
      os := d.os
      tape := d.tape
      output := d.output }
  · refine ⟨by rw [tr.flen n (Nat.le_refl _), d.tsz], fun t => ?_⟩
    by_cases hlt : t < (F 0).length
    · obtain ⟨x, hx, hcase⟩ := d.temps t hlt
      rcases hcase with ⟨rfl, hno⟩ | ⟨m, hm, hl, hd, rfl, hlast⟩
      · rw [tr.slot0 n (Nat.le_refl _) (fun m hm hd => hno m hm (hall m hm) hd)]
        exact hx
      · have := tr.slotV hlt hm hd (n - (m + 1)) (by omega) (fun m' h1 h2 hd' => hlast m' h1 (by omega) (hall m' (by omega)) hd')
        rw [show m + 1 + (n - (m + 1)) = n by omega] at this
        rw [this]
        exact hx
    · have h1 : getSlot (F n) t = undefA := by
        rw [getSlot_eq, List.getElem?_eq_none (by rw [tr.flen n (Nat.le_refl _)]; omega)]
        rfl
      have h2 : a.tmps.getD t undef = undef := by
        have : a.tmps.size ≤ t := by rw [d.tsz]; omega
        simp [this]
      rw [h1, h2]
      exact VR.undef

theorem any_sound (tr : Tr P call ops n F H V ao lk ρ0 w0 pairs) (hcall : CallOk P call) (hr0 : HR ρ0 (H 0).get w0) {Q : Exit → Act → World → Prop}
    (hQ : ∀ a w ρ, a.defers = [] → Post ρ0 (H 0) w0 ρ (H n) w → FR ρ (F n) a.tmps → Q .normal a w) :
    ∀ (fuel : Nat) (listed : Array Bool) (a : Act) (w : World) (ρ : Loc) (g : Nat → Option AObj) (k : Nat), DI ops n F H V ao ρ0 w0 listed a w ρ g k → left listed n = fuel → wpAny P .any ops Q fuel listed a w := by
  intro fuel
  induction fuel with
  | zero =>
    intro listed a w ρ g k d hl
    have hall := left_zero hl
    simp only [wpAny]
    refine ⟨?_, ?_⟩
    · cases hq : Region.ready .any ops listed with
      | nil => rfl
      | cons i l =>
        have hi : i ∈ Region.ready .any ops listed := by rw [hq]; simp
        obtain ⟨h1, h2, _⟩ := ready_mem (by rw [d.lsz, tr.hn]) hi
        exact absurd (hall i (by rw [← tr.hn]; exact h1)) h2
    · obtain ⟨h1, h2⟩ := d.done tr hcall hr0 hall
      exact hQ a w ρ d.defers h1 h2
  | succ fuel ih =>
    intro listed a w ρ g k d hl
    simp only [wpAny]
    refine ⟨fun hnone => ?_, fun i hi => ?_⟩
    · have hall := ready_none (by rw [d.lsz, tr.hn]) tr.edge hnone
      obtain ⟨h1, h2⟩ := d.done tr hcall hr0 (fun i hi => hall i (by rw [tr.hn]; exact hi))
      exact hQ a w ρ d.defers h1 h2
    · obtain ⟨h1, h2, o, ho, hready⟩ := ready_mem (by rw [d.lsz, tr.hn]) hi
      have hin : i < n := by rw [← tr.hn]; exact h1
      refine d.step tr hcall hin ho h2 hready (fun a' w' ρ' g' k' d' => ih _ a' w' ρ' g' k' d' ?_)
      have := left_set d.lsz hin h2
      omega

end
end Go.Proofs.Ythjijjkoeoemgaa.Ab
