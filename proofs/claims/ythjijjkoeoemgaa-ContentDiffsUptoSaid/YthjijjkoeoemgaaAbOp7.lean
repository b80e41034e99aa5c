/- append, copy, clear: what they answer, and what becomes of memory. -/
import Derived.Test.YthjijjkoeoemgaaAbOp6
namespace Go.Proofs.Ythjijjkoeoemgaa.Ab
open Go
set_option linter.unusedSimpArgs false
set_option linter.unusedVariables false

section
variable {P : Program} {ρ : Loc}

/-- What an append makes: a new block, the old cells, the new ones, and some more. -/
theorem newRes {σ : AHeap} {w : World} {e : TypeId} {esz n nc : Nat} {cs : List SV} {vs rest : List Value} (hr : HR ρ σ.get w) (hv : SRs ρ cs vs) (hcl : cs.length = n * (esz + 1)) (hnc : n ≤ nc)
    (hrest : rest.length = (nc - n) * (esz + 1)) :
    Post ρ σ w (ρ.upd σ.size ⟨w.heap.size, 0, nc * (esz + 1), cs.length⟩) (σ.alloc ⟨cs, .own⟩) (w.drew.alloc (.cells (vs ++ rest).toArray e)) ∧
    VR (ρ.upd σ.size ⟨w.heap.size, 0, nc * (esz + 1), cs.length⟩) (.one (.slice σ.size 0 (esz + 1) n none)) (.slice (some ⟨w.heap.size, 0, none⟩) n nc) := by
  have hvl := hv.length
  have hsz : (vs ++ rest).toArray.size = nc * (esz + 1) := by
    simp only [List.size_toArray, List.length_append, hrest, ← hvl, hcl, ← Nat.add_mul]
    congr 1
    omega
  have hp := Post.alloc (t := e) (fz := (0, 0)) (hr.of_heap (w' := w.drew) rfl) hv (extra := rest) rfl (fun o _ => by omega)
  rw [hsz] at hp
  refine ⟨(Post.of_heap hr (w' := w.drew) rfl rfl rfl rfl).trans hp, .one ?_⟩
  have hm : n * (esz + 1) ≤ nc * (esz + 1) := Nat.mul_le_mul_right _ hnc
  have hB : (ρ.upd σ.size ⟨w.heap.size, 0, nc * (esz + 1), cs.length⟩) σ.size = some ⟨w.heap.size, 0, nc * (esz + 1), cs.length⟩ := by unfold Loc.upd; rw [if_pos rfl]
  exact .slice (B := ⟨w.heap.size, 0, nc * (esz + 1), cs.length⟩) hB hnc (by simp only; omega) (by simp only; omega) (by omega) (.inr ⟨rfl, by simp only; omega⟩)

theorem appendA_run {x v : AV} {X : Value} {σ σ' : AHeap} {w : World} {e : TypeId} {esz bytes k : Nat} {vs : List SV} {us : List Value} {app : Sem Value}
    (hx : VR ρ x X) (hr : HR ρ σ.get w) (hv : SRs ρ vs us) (hul : us.length = k * (esz + 1))
    (happ : ∀ base len c, X = .slice base len c → InPlace P app base len c (esz + 1) k us w ∧ InNew P app e len c (esz + 1) bytes k X us w)
    (he : appendA σ (esz + 1) bytes x k vs = some (v, σ')) : ∃ u w' ρ', app.run P w = .ok u w' ∧ Post ρ σ w ρ' σ' w' ∧ VR ρ' v u := by
  have hvl := hv.length
  cases k with
  | zero =>
    have hus : us = [] := List.eq_nil_of_length_eq_zero (by simpa using hul)
    subst hus
    have hsame : x = v ∧ σ = σ' ∧ ((∃ id off e len cap, x = .one (.slice id off e len cap)) ∨ x = .one .nilSlice) := by
      simp only [appendA] at he
      split at he
      · cases he; exact ⟨rfl, rfl, .inr rfl⟩
      · cases he; exact ⟨rfl, rfl, .inl ⟨_, _, _, _, _, rfl⟩⟩
      · cases he
    obtain ⟨rfl, rfl, hx2⟩ := hsame
    obtain ⟨base, len, c, hX, hlc⟩ : ∃ base len c, X = .slice base len c ∧ len ≤ c := by
      rcases hx2 with ⟨_, _, _, _, _, rfl⟩ | rfl
      · cases hx with
        | one hx => cases hx <;> exact ⟨_, _, _, rfl, by omega⟩
      · cases hx with
        | one hx => cases hx; exact ⟨_, _, _, rfl, by omega⟩
    refine ⟨X, w, ρ, ?_, Post.refl hr, hx⟩
    have := (happ base len c hX).1 (by omega)
    rw [this, hX]
    cases base <;> simp [storeCells]
  | succ k =>
    simp only [appendA, appendK] at he
    split at he
    · -- nil
      split at he
      · rename_i hb
        cases he
        have hb' : k + 1 ≤ maxElems ∧ bytes ≤ maxBytes := by simpa using hb
        unfold maxElems maxBytes at hb'
        cases hx with
        | one hx =>
          cases hx
          have hcap := nextcap_le (k + 1) 0 (by omega)
          have hmul : Builtin.nextslicecap (k + 1) 0 * bytes ≤ (2 * 4294967296 + 768) * 4096 := Nat.mul_le_mul (by omega) (by omega)
          obtain ⟨nc, rest, h1, h2, h3⟩ := (happ none 0 0 rfl).2 (by omega) (by simp only [Nat.zero_add]; omega) (by omega) [] (fun w2 _ => by simp [Builtin.firstCells])
          simp only [Nat.zero_add, List.nil_append] at h1 h2 h3
          obtain ⟨p1, p2⟩ := newRes (e := e) (esz := esz) (n := k + 1) hr hv (by rw [hvl, hul]) h1 h2
          exact ⟨_, _, _, h3, p1, p2⟩
      · cases he
    · rename_i id off ez len cap
      split at he
      · rename_i cs md hb hob
        have hb' : (ez = esz + 1 ∧ len + (k + 1) ≤ maxElems) ∧ bytes ≤ maxBytes := by simpa using hb
        obtain ⟨⟨rfl, hb1⟩, hb2⟩ := hb'
        unfold maxElems at hb1
        unfold maxBytes at hb2
        have hmulle : ∀ p q : Nat, p ≤ q → p * (esz + 1) ≤ q * (esz + 1) := fun p q h => Nat.mul_le_mul_right _ h
        have hmuleq : ∀ p q : Nat, p * (esz + 1) ≤ q * (esz + 1) → p ≤ q := fun p q hpq => Nat.le_of_mul_le_mul_right hpq (by omega)
        have hadd : (len + (k + 1)) * (esz + 1) = len * (esz + 1) + (k + 1) * (esz + 1) := Nat.add_mul _ _ _
        -- a new block, out of an object that is there
        have growing : ∀ (B : Blk) (X0 : Addr) (c : Nat), ρ id = some B → md ≠ .dead → X = .slice (some X0) len c → (X0 = ⟨B.b, B.base + off, none⟩ ∨ len = 0) → off + len * (esz + 1) ≤ cs.length → ¬ len + (k + 1) ≤ c →
            ∃ (nc : Nat) (old rest : List Value), len + (k + 1) ≤ nc ∧ rest.length = (nc - (len + (k + 1))) * (esz + 1) ∧ SRs ρ ((cs.drop off).take (len * (esz + 1))) old ∧
              app.run P w = .ok (.slice (some ⟨w.heap.size, 0, none⟩) (len + (k + 1)) nc) (w.drew.alloc (.cells (old ++ us ++ rest).toArray e)) := by
          intro B X0 c hB hmd hX hX0 hl hgt
          obtain ⟨o', k1, k2, k3⟩ := hr.dom id B hB
          rw [hob] at k1; cases k1
          have hcap := nextcap_le (len + (k + 1)) c (by omega)
          have hmul : Builtin.nextslicecap (len + (k + 1)) c * bytes ≤ (2 * 4294967296 + 768) * 4096 := Nat.mul_le_mul (by omega) (by omega)
          obtain ⟨vs', q1, q2⟩ := k2.holds hmd
          have hlen := q1.length
          have hlen2 : (vs'.drop off).length ≥ len * (esz + 1) := by simp; simp at hlen; omega
          have hold : ∀ w2 : World, w2.heap = w.heap → (Builtin.firstCells (esz + 1) len X).run P w2 = .ok ((vs'.drop off).take (len * (esz + 1))).toArray w2 := by
            intro w2 hw
            rw [hX]
            rcases hX0 with rfl | rfl
            · have hn : ((vs'.drop off).take (len * (esz + 1))).length = len * (esz + 1) := by rw [List.length_take]; omega
              have := run_loadCells_list (P := P) w2 ⟨B.b, B.base + off, none⟩ ((vs'.drop off).take (len * (esz + 1))) (fun j v hj => by
                rw [addr_add, Nat.add_assoc]
                rw [List.getElem?_take] at hj
                split at hj
                · rw [List.getElem?_drop] at hj
                  rw [cell_of_heap (w := w) (by rw [hw])]
                  exact q2 _ v hj
                · cases hj)
              rw [hn] at this
              simpa [Builtin.firstCells] using this
            · simp [Builtin.firstCells, loadCells, loadCellsFrom]
          obtain ⟨nc, rest, h1, h2, h3⟩ := (happ (some X0) len c hX).2 hgt (by omega) hb1 _ hold
          exact ⟨nc, _, rest, h1, h2, (q1.drop off).take _, h3⟩
        cases hx with
        | one hx =>
          cases hx with
          | slice hB a1 a2 a3 a4 a5 =>
            rename_i c B
            obtain ⟨o', k1, k2, k3⟩ := hr.dom id B hB
            rw [hob] at k1; cases k1
            have hcl := k2.len
            simp only at hcl
            have inPlace : ∀ σ1, writeAt σ id (off + len * (esz + 1)) vs = some σ1 → len + (k + 1) ≤ c → off + (len + (k + 1)) * (esz + 1) ≤ cs.length → ∀ cap', (cap' = some c ∨ (cap' = none ∧ B.clen ≤ off + c * (esz + 1))) →
                ∃ u w' ρ', app.run P w = .ok u w' ∧ Post ρ σ w ρ' σ1 w' ∧ VR ρ' (.one (.slice id off (esz + 1) (len + (k + 1)) cap')) u := by
              intro σ1 hw hle hfit cap' hcap'
              obtain ⟨w', r1, r2⟩ := writeAt_run (P := P) hr hB hw hv
              refine ⟨_, w', ρ, ?_, r2, .one (.slice hB hle (by omega) a3 a4 hcap')⟩
              rw [(happ _ len c rfl).1 hle]
              simp only [addr_add]
              rw [Nat.add_assoc, r1]
              rfl
            have hvk : vs.length = (k + 1) * (esz + 1) := by rw [hvl, hul]
            split at he
            · rename_i c'
              have hcc : c' = c := by
                rcases a5 with a5 | ⟨a5, _⟩
                · cases a5; rfl
                · cases a5
              subst hcc
              split at he
              · rename_i hle
                split at he
                · rename_i σ1 hw
                  cases he
                  have hfit : off + (len + (k + 1)) * (esz + 1) ≤ cs.length := by
                    unfold writeAt at hw
                    rw [hob] at hw
                    split at hw
                    · rename_i cs' e'
                      cases e'
                      split at hw
                      · rename_i hl
                        have : off + len * (esz + 1) + vs.length ≤ cs.length := by simpa using hl
                        omega
                      · cases hw
                    · cases hw
                  exact inPlace _ hw (by simpa using hle) hfit _ (.inl rfl)
                · cases he
              · rename_i hle
                have hgt : ¬ len + (k + 1) ≤ c' := by
                  intro h; have : Nat.ble (len + (k + 1)) c' = true := by simpa using h
                  rw [this] at hle; cases hle
                have fin : ∀ (hmd : md ≠ .dead), (match Nat.ble (off + len * (esz + 1)) cs.length with
                    | true => some (AV.one (.slice σ.size 0 (esz + 1) (len + (k + 1)) none), σ.alloc ⟨(cs.drop off).take (len * (esz + 1)) ++ vs, .own⟩)
                    | false => none) = some (v, σ') → ∃ u w' ρ', app.run P w = .ok u w' ∧ Post ρ σ w ρ' σ' w' ∧ VR ρ' v u := by
                  intro hmd he
                  split at he
                  · rename_i hl
                    cases he
                    have hl' : off + len * (esz + 1) ≤ cs.length := by simpa using hl
                    obtain ⟨nc, old, rest, h1, h2, h3, h4⟩ := growing B _ c' hB hmd rfl (.inl rfl) hl' hgt
                    have hcl3 : ((cs.drop off).take (len * (esz + 1)) ++ vs).length = (len + (k + 1)) * (esz + 1) := by
                      simp only [List.length_append, List.length_take, List.length_drop, hvk]; omega
                    obtain ⟨p1, p2⟩ := newRes (e := e) (esz := esz) (n := len + (k + 1)) hr (h3.append hv) hcl3 h1 h2
                    exact ⟨_, _, _, h4, p1, p2⟩
                  · cases he
                cases md with
                | own => exact fin (by simp) he
                | ro => exact fin (by simp) he
                | dead => cases he
            · obtain ⟨_, a6⟩ : (none : Option Nat) = none ∧ B.clen ≤ off + c * (esz + 1) := by
                rcases a5 with a5 | a5
                · cases a5
                · exact a5
              split at he
              · rename_i hl
                split at he
                · rename_i σ1 hw
                  cases he
                  have hl' : off + (len + (k + 1)) * (esz + 1) ≤ cs.length := by simpa using hl
                  exact inPlace _ hw (hmuleq _ _ (by omega)) hl' _ (.inr ⟨rfl, a6⟩)
                · cases he
              · rename_i hl
                split at he
                · rename_i heq
                  cases he
                  have heq' : off + len * (esz + 1) = cs.length := by simpa using heq
                  by_cases hle : len + (k + 1) ≤ c
                  · -- it goes on in the block
                    have hmc := hmulle _ _ hle
                    obtain ⟨w', r1, r2⟩ := Post.grow (P := P) hr hB hob (off := off) (ss := vs) (by omega) (by omega) hv
                    have hcl3 : (cs.drop off ++ vs).length = (len + (k + 1)) * (esz + 1) := by
                      simp only [List.length_append, List.length_drop, hvk]; omega
                    refine ⟨.slice (some ⟨B.b, B.base + off, none⟩) (len + (k + 1)) c, w', _, ?_, r2, .one ?_⟩
                    · rw [(happ _ len c rfl).1 hle]
                      simp only [addr_add]
                      rw [Nat.add_assoc, heq', r1]
                      rfl
                    · have hBn : (ρ.upd σ.size ⟨B.b, B.base + off, B.n, (cs.drop off ++ vs).length⟩) σ.size = some ⟨B.b, B.base + off, B.n, (cs.drop off ++ vs).length⟩ := by unfold Loc.upd; rw [if_pos rfl]
                      have := SR.slice (ρ := ρ.upd σ.size ⟨B.b, B.base + off, B.n, (cs.drop off ++ vs).length⟩) (off := 0) (esz := esz + 1) (len := len + (k + 1)) (c := c) (cap := none) hBn hle
                        (by simp only; omega) (by simp only; omega) a4 (.inr ⟨rfl, by simp only; omega⟩)
                      simpa using this
                  · obtain ⟨nc, old, rest, h1, h2, h3, h4⟩ := growing B _ c hB (by simp) rfl (.inl rfl) (by omega) hle
                    have htk : (cs.drop off).take (len * (esz + 1)) = cs.drop off := by
                      apply List.take_of_length_le
                      simp; omega
                    rw [htk] at h3
                    have hcl3 : (cs.drop off ++ vs).length = (len + (k + 1)) * (esz + 1) := by
                      simp only [List.length_append, List.length_drop, hvk]; omega
                    have hkill := Post.kill hr hB hob
                    obtain ⟨p1, p2⟩ := newRes (e := e) (esz := esz) (n := len + (k + 1)) hkill.hr (h3.append hv) hcl3 h1 h2
                    exact ⟨_, _, _, h4, hkill.trans p1, p2⟩
                · cases he
          | slice0 hB a2 a4 a5 =>
            rename_i x0 B
            obtain ⟨o', k1, k2, k3⟩ := hr.dom id B hB
            rw [hob] at k1; cases k1
            have hcl := k2.len
            simp only at hcl
            have hvk : vs.length = (k + 1) * (esz + 1) := by rw [hvl, hul]
            have hpos : 0 < (k + 1) * (esz + 1) := Nat.mul_pos (by omega) (by omega)
            split at he
            · rename_i c'
              have hcc : c' = 0 := by
                rcases a5 with a5 | a5 <;> cases a5
                rfl
              subst hcc
              split at he
              · rename_i hle
                have : 0 + (k + 1) ≤ 0 := Nat.le_of_ble_eq_true hle
                omega
              · rename_i hle
                have fin : ∀ (hmd : md ≠ .dead), (match Nat.ble (off + 0 * (esz + 1)) cs.length with
                    | true => some (AV.one (.slice σ.size 0 (esz + 1) (0 + (k + 1)) none), σ.alloc ⟨(cs.drop off).take (0 * (esz + 1)) ++ vs, .own⟩)
                    | false => none) = some (v, σ') → ∃ u w' ρ', app.run P w = .ok u w' ∧ Post ρ σ w ρ' σ' w' ∧ VR ρ' v u := by
                  intro hmd he
                  split at he
                  · rename_i hl
                    cases he
                    have hl' : off + 0 * (esz + 1) ≤ cs.length := by simpa using hl
                    obtain ⟨nc, old, rest, h1, h2, h3, h4⟩ := growing B _ 0 hB hmd rfl (.inr rfl) hl' (by omega)
                    have hcl3 : ((cs.drop off).take (0 * (esz + 1)) ++ vs).length = (0 + (k + 1)) * (esz + 1) := by
                      simp only [List.length_append, List.length_take, List.length_drop, hvk]; omega
                    obtain ⟨p1, p2⟩ := newRes (e := e) (esz := esz) (n := 0 + (k + 1)) hr (h3.append hv) hcl3 h1 h2
                    exact ⟨_, _, _, h4, p1, p2⟩
                  · cases he
                cases md with
                | own => exact fin (by simp) he
                | ro => exact fin (by simp) he
                | dead => cases he
            · split at he
              · rename_i hl
                have : off + (0 + (k + 1)) * (esz + 1) ≤ cs.length := by simpa using hl
                omega
              · split at he
                · rename_i heq
                  cases he
                  have heq' : off + 0 * (esz + 1) = cs.length := by simpa using heq
                  obtain ⟨nc, old, rest, h1, h2, h3, h4⟩ := growing B _ 0 hB (by simp) rfl (.inr rfl) (by omega) (by omega)
                  have htk : (cs.drop off).take (0 * (esz + 1)) = cs.drop off := by
                    apply List.take_of_length_le
                    simp; omega
                  rw [htk] at h3
                  have hcl3 : (cs.drop off ++ vs).length = (0 + (k + 1)) * (esz + 1) := by
                    simp only [List.length_append, List.length_drop, hvk]; omega
                  have hkill := Post.kill hr hB hob
                  obtain ⟨p1, p2⟩ := newRes (e := e) (esz := esz) (n := 0 + (k + 1)) hkill.hr (h3.append hv) hcl3 h1 h2
                  exact ⟨_, _, _, h4, hkill.trans p1, p2⟩
                · cases he
      · cases he
    · cases he

theorem first0 {y : AV} {Y : Value} {k esz : Nat} (hk : srcLen y = some k) (hy : VR ρ y Y) (w : World) : (Builtin.firstCells (esz + 1) 0 Y).run P w = .ok #[] w := by
  unfold srcLen at hk
  split at hk
  · cases hy with
    | one hy => cases hy <;> simp [Builtin.firstCells, loadCells, loadCellsFrom]
  · cases hy with
    | one hy => cases hy; simp [Builtin.firstCells]
  · cases hy with
    | one hy =>
      cases hy
      simp [Builtin.firstCells]
  · cases hk

theorem copy_run {t t2 e : TypeId} {esz : Nat} {X Y : Value} {v : AV} {σ σ' : AHeap} {w : World} {fr : List AV} {x' y' : AOpd} (ty : TypeId)
    (ht : tElem P t = some e) (hs : tSize P e = some (esz + 1)) (hx : VR ρ (ev fr x') X) (hy : VR ρ (ev fr y') Y) (hr : HR ρ σ.get w)
    (he : evOp fr σ (.copy (esz + 1) x' y') = some (v, σ')) :
    ∃ u w' ρ', (Builtin.copy_ #[t, t2] ty #[X, Y]).run P w = .ok u w' ∧ Post ρ σ w ρ' σ' w' ∧ VR ρ' v u := by
  simp only [evOp] at he
  split at he
  · rename_i k id off ez len cap hk e1
    rw [e1] at hx
    have hlen := srcLen_run (P := P) hk hy
    split at he
    · rename_i hez
      have hez' : ez = esz + 1 := by simpa using hez
      subst hez'
      split at he
      · rename_i vs hvs
        split at he
        · rename_i σ1 hw
          cases he
          obtain ⟨us, q1, q2, q3⟩ := srcCells_run (P := P) hvs hy hr
          have hcells := q3 w rfl
          cases hx with
          | one hx =>
            cases hx with
            | slice hB h1 h2 h3 h4 h5 =>
              rename_i c B
              obtain ⟨w', r1, r2⟩ := writeAt_run (P := P) hr hB hw q1
              refine ⟨.int .i64 (min k len : Nat), w', ρ, ?_, r2, .one (.int _ _)⟩
              simp [Builtin.copy_, run_underlying (tElem_run ht), hlen, tSize_run hs, Nat.min_def, goInt]
              simp only [Nat.min_def] at hcells r1 ⊢
              rw [hcells]
              simp [r1]
            | slice0 hB h2 h4 h5 =>
              rename_i x0 B
              have hus : us = [] := List.eq_nil_of_length_eq_zero (by rw [q2]; simp)
              subst hus
              obtain ⟨w', r1, r2⟩ := writeAt_run (P := P) hr hB hw q1
              simp [storeCells] at r1
              subst r1
              refine ⟨.int .i64 (min k 0 : Nat), w, ρ, ?_, r2, .one (.int _ _)⟩
              have hc0 : (Builtin.firstCells (esz + 1) 0 Y).run P w = .ok #[] w := by simpa using hcells
              simp [Builtin.copy_, run_underlying (tElem_run ht), hlen, tSize_run hs, goInt, hc0, storeCells]
        · cases he
      · cases he
    · cases he
  · rename_i k hk e1
    cases he
    rw [e1] at hx
    have hlen := srcLen_run (P := P) hk hy
    cases hx with
    | one hx =>
      cases hx
      have hc0 : (Builtin.firstCells (esz + 1) 0 Y).run P w = .ok #[] w := first0 hk hy w
      refine ⟨.int .i64 0, w, ρ, ?_, Post.refl hr, .one (.int _ _)⟩
      simp [Builtin.copy_, run_underlying (tElem_run ht), hlen, tSize_run hs, goInt, hc0]
  · cases he

theorem clear_run {t e : TypeId} {esz : Nat} {z : List SV} {X : Value} {v : AV} {σ σ' : AHeap} {w : World} {fr : List AV} {x' : AOpd} (ty : TypeId)
    (ht : tElem P t = some e) (hs : tSize P e = some (esz + 1)) (hz : tZero P e = some z) (hx : VR ρ (ev fr x') X) (hr : HR ρ σ.get w)
    (he : evOp fr σ (.clear (esz + 1) z x') = some (v, σ')) :
    ∃ u w' ρ', (Builtin.clear_ #[t] ty #[X]).run P w = .ok u w' ∧ Post ρ σ w ρ' σ' w' ∧ VR ρ' v u := by
  obtain ⟨i, v0, h1, h2, h3, h4⟩ := tZero_info hz
  obtain ⟨i', h1', hsz⟩ := tSize_info hs
  rw [h1] at h1'; cases h1'
  have hzl := (h4 (fun _ => none)).length
  have hv0 : v0.cells.size = esz + 1 := by rw [← hsz, ← h3, hzl]; simp
  have hzv : ∀ w2 : World, (zeroValue e).run P w2 = .ok v0 w2 := by intro w2; simp [zeroValue, typeInfo, h1, h2]
  simp only [evOp] at he
  split at he
  · rename_i e1
    cases he
    rw [e1] at hx
    cases hx with
    | one hx =>
      cases hx
      exact ⟨.tuple #[], w, ρ, by simp [Builtin.clear_, run_underlying (tElem_run ht)], Post.refl hr, VR.undef⟩
  · rename_i id off ez len cap e1
    rw [e1] at hx
    split at he
    · rename_i hez
      have hez' : ez = esz + 1 := by simpa using hez
      subst hez'
      split at he
      · rename_i hl0
        cases he
        have hl0' : len = 0 := by simpa using hl0
        subst hl0'
        cases hx with
        | one hx =>
          cases hx <;> exact ⟨.tuple #[], w, ρ, by simp [Builtin.clear_, run_underlying (tElem_run ht)], Post.refl hr, VR.undef⟩
      · rename_i hl0
        have hl0' : len ≠ 0 := by intro h; subst h; simp at hl0
        split at he
        · rename_i σ1 hw
          cases he
          cases hx with
          | one hx =>
            cases hx with
            | slice hB a1 a2 a3 a4 a5 =>
              rename_i c B
              obtain ⟨w', r1, r2⟩ := writeAt_run (P := P) hr hB hw (repeat_rel (h4 ρ) len)
              have hr2 := arr_range_rep v0.cells (esz + 1) len hv0
              have hzc : Builtin.zeroCells v0.cells len = (repV v0.cells.toList len).toArray := by
                unfold Builtin.zeroCells
                rw [hv0]
                exact hr2
              obtain ⟨m, rfl⟩ : ∃ m, len = m + 1 := ⟨len - 1, by omega⟩
              refine ⟨.tuple #[], w', ρ, ?_, r2, VR.undef⟩
              simp [Builtin.clear_, run_underlying (tElem_run ht), hzv, hzc, r1]
            | slice0 hB a2 a4 a5 => exact absurd rfl hl0'
        · cases he
    · cases he
  · cases he

end
end Go.Proofs.Ythjijjkoeoemgaa.Ab
