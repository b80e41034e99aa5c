/- append, copy, clear. -/
import Derived.Test.YthjijjkoeoemgaaAbOp5
namespace Go.Proofs.Ythjijjkoeoemgaa.Ab
open Go
set_option linter.unusedSimpArgs false
set_option linter.unusedVariables false

section
variable {P : Program} {ρ : Loc}

theorem srcLen_run {y : AV} {u : Value} {k : Nat} (h : srcLen y = some k) (hy : VR ρ y u) (w : World) : (Builtin.lenOf u).run P w = .ok k w := by
  unfold srcLen at h
  split at h
  · cases h
    cases hy with
    | one hy => cases hy <;> simp [Builtin.lenOf]
  · cases h
    cases hy with
    | one hy => cases hy; simp [Builtin.lenOf]
  · cases h
    cases hy with
    | one hy => cases hy; simp [Builtin.lenOf, ByteArray.size]
  · cases h

theorem bytes_cells (s : List UInt8) : SRs ρ (s.map byteCell) (s.map fun b => Value.int .u8 b.toNat) := by
  induction s with
  | nil => exact .nil
  | cons b s ih => exact .cons (.int _ _) ih

theorem srcCells_run {σ : AHeap} {w : World} {y : AV} {u : Value} {esz k : Nat} {vs : List SV} (h : srcCells σ esz k y = some vs) (hy : VR ρ y u) (hr : HR ρ σ.get w) :
    ∃ us, SRs ρ vs us ∧ us.length = k * esz ∧ ∀ w2 : World, w2.heap = w.heap → (Builtin.firstCells esz k u).run P w2 = .ok us.toArray w2 := by
  unfold srcCells at h
  split at h
  · rename_i id off e len cap
    have body : ∀ ob, σ.get id = some ob → ob.md ≠ .dead → (Nat.beq e esz && Nat.ble k len) = true → off + k * esz ≤ ob.cells.length → vs = (ob.cells.drop off).take (k * esz) →
        ∃ us, SRs ρ vs us ∧ us.length = k * esz ∧ ∀ w2 : World, w2.heap = w.heap → (Builtin.firstCells esz k u).run P w2 = .ok us.toArray w2 := by
      rintro ob hob hmd hb hl rfl
      have hb' : e = esz ∧ k ≤ len := by simpa using hb
      obtain ⟨rfl, hk⟩ := hb'
      cases hy with
      | one hy =>
        cases hy with
        | slice hB h1 h2 h3 h4 h5 =>
          rename_i c B
          obtain ⟨o', k1, k2, k3⟩ := hr.dom id B hB
          rw [hob] at k1; cases k1
          obtain ⟨vs', q1, q2⟩ := k2.holds hmd
          have hlen := q1.length
          refine ⟨(vs'.drop off).take (k * e), (q1.drop off).take _, by simp; omega, fun w2 hw => ?_⟩
          have hn : ((vs'.drop off).take (k * e)).length = k * e := by simp; omega
          have := run_loadCells_list (P := P) w2 ⟨B.b, B.base + off, none⟩ ((vs'.drop off).take (k * e)) (fun j v hj => by
            rw [addr_add, Nat.add_assoc]
            rw [List.getElem?_take] at hj
            split at hj
            · rw [List.getElem?_drop] at hj
              rw [cell_of_heap (w := w) (by rw [hw])]
              exact q2 _ v hj
            · cases hj)
          rw [hn] at this
          simpa [Builtin.firstCells] using this
        | slice0 hB h2 h4 h5 =>
          have hk0 : k = 0 := by omega
          subst hk0
          refine ⟨[], by simp; exact .nil, by simp, fun w2 hw => ?_⟩
          simp [Builtin.firstCells, loadCells, loadCellsFrom]
    split at h
    · rename_i cs hb hcs
      split at h
      · rename_i hl
        cases h
        exact body _ hcs (by simp) hb (by simpa using hl) rfl
      · cases h
    · rename_i cs hb hcs
      split at h
      · rename_i hl
        cases h
        exact body _ hcs (by simp) hb (by simpa using hl) rfl
      · cases h
    · cases h
  · split at h
    · rename_i hk
      cases h
      have hk0 : k = 0 := by simpa using hk
      subst hk0
      cases hy with
      | one hy =>
        cases hy
        exact ⟨[], .nil, by simp, fun w2 _ => by simp [Builtin.firstCells]⟩
    · cases h
  · rename_i s
    split at h
    · rename_i hb
      cases h
      have hb' : esz = 1 ∧ k ≤ s.length := by simpa using hb
      obtain ⟨rfl, hk⟩ := hb'
      cases hy with
      | one hy =>
        cases hy
        refine ⟨_, bytes_cells (s.take k), by simp; omega, fun w2 _ => ?_⟩
        have he : ((ByteArray.mk s.toArray).extract 0 k).data = (s.take k).toArray := by
          apply Array.ext'
          simp
        simp [Builtin.firstCells, he]
    · cases h
  · cases h

theorem growBy_le (m : Nat) : ∀ (r c : Nat), c ≤ m → Builtin.growBy m r c ≤ 2 * m + 768
  | 0, c, h => by simp [Builtin.growBy]; omega
  | r + 1, c, h => by
    simp only [Builtin.growBy]
    split
    · omega
    · by_cases hc : c + (c + 768) / 4 ≤ m
      · exact growBy_le m r _ hc
      · cases r with
        | zero => simp [Builtin.growBy]; omega
        | succ r =>
          simp only [Builtin.growBy]
          rw [if_pos (by omega)]
          omega

theorem nextcap_le (m c : Nat) (h : c < m) : Builtin.nextslicecap m c ≤ 2 * m + 768 := by
  unfold Builtin.nextslicecap
  split
  · omega
  · split
    · omega
    · exact growBy_le m 4 c (by omega)

/-- In place. -/
def InPlace (P : Program) (app : Sem Value) (base : Option Addr) (len c esz k : Nat) (us : List Value) (w : World) : Prop :=
  len + k ≤ c → app.run P w = match base with
    | some a => ((storeCells (a.add (len * esz)) us).run P w).andThen fun _ w' => .ok (.slice base (len + k) c) w'
    | none => .ok (.slice base (len + k) c) w

/-- In a new block. -/
def InNew (P : Program) (app : Sem Value) (e : TypeId) (len c esz bytes k : Nat) (x : Value) (us : List Value) (w : World) : Prop :=
  ¬ len + k ≤ c → Builtin.nextslicecap (len + k) c * bytes ≤ 281474976710656 → len + k ≤ 4294967296 → ∀ old : List Value, (∀ w2 : World, w2.heap = w.heap → (Builtin.firstCells esz len x).run P w2 = .ok old.toArray w2) →
    ∃ (nc : Nat) (rest : List Value), len + k ≤ nc ∧ rest.length = (nc - (len + k)) * esz ∧
      app.run P w = .ok (.slice (some ⟨w.heap.size, 0, none⟩) (len + k) nc) (w.drew.alloc (.cells (old ++ us ++ rest).toArray e))

theorem zeroCells_size (z : Array Value) (n : Nat) : (Builtin.zeroCells z n).toList.length = n * z.size := by
  simp [Builtin.zeroCells]

theorem append_two {t u e : TypeId} {esz bytes k len c : Nat} {z : List SV} {x y : Value} {base : Option Addr} {us : List Value} {w : World} (ty : TypeId)
    (ht : tElem P t = some e) (hs : tSize P e = some (esz + 1)) (hb : tBytes P e = some bytes) (hz : tZero P e = some z) (hu : (∃ e', P.underlying u = some (.slice e')) ∨ P.underlying u = some .string)
    (hx : x = .slice base len c) (hk : ∀ w2 : World, (Builtin.lenOf y).run P w2 = .ok k w2) (hus : ∀ w2 : World, w2.heap = w.heap → (Builtin.firstCells (esz + 1) k y).run P w2 = .ok us.toArray w2) :
    InPlace P (Builtin.append_ #[t, u] ty #[x, y]) base len c (esz + 1) k us w ∧ InNew P (Builtin.append_ #[t, u] ty #[x, y]) e len c (esz + 1) bytes k x us w := by
  obtain ⟨i, v0, h1, h2, h3, h4⟩ := tZero_info hz
  obtain ⟨i', h1', hsz⟩ := tSize_info hs
  rw [h1] at h1'; cases h1'
  have hbi : i.bytes = bytes := by unfold tBytes at hb; rw [h1] at hb; simpa using hb
  have hzl := (h4 (fun _ => none)).length
  have hv0 : v0.cells.size = esz + 1 := by rw [← hsz, ← h3, hzl]; simp
  subst hx
  constructor
  · intro hle
    rcases hu with ⟨e', hd⟩ | hd <;> cases base <;> simp [Builtin.append_, run_underlying (tElem_run ht), run_underlying hd, tSize_run hs, hk, hus w rfl, hle]
  · intro hle hcap hsmall old hold
    have h63 : ¬ ((9223372036854775807 : Int) < (len : Int) + (k : Int)) := by omega
    have h48 : ¬ 281474976710656 < Builtin.nextslicecap (len + k) c * i.bytes := by rw [hbi]; omega
    have hzv : ∀ w2 : World, (zeroValue e).run P w2 = .ok v0 w2 := by intro w2; simp [zeroValue, typeInfo, h1, h2]
    have hge := grownCap_ge w (len + k) c e
    refine ⟨grownCap w (len + k) c e, (Builtin.zeroCells v0.cells (grownCap w (len + k) c e - (len + k))).toList, hge, by rw [zeroCells_size, hv0], ?_⟩
    have ho := hold w.drew rfl
    have hn := hus w.drew rfl
    rcases hu with ⟨e', hd⟩ | hd <;>
      simp [Builtin.append_, run_underlying (tElem_run ht), run_underlying hd, typeInfo, h1, tSize_run hs, hk, hle, h63, h48, hzv, Question.forced, ho, hn, newRow, grownCap] <;>
      (congr 2; apply Array.ext'; simp)

theorem append_zeros {t u e : TypeId} {esz bytes k len c : Nat} {ik ik' : IntKind} {z : List SV} {x : Value} {base : Option Addr} {w : World} (ty : TypeId)
    (ht : tElem P t = some e) (hs : tSize P e = some (esz + 1)) (hb : tBytes P e = some bytes) (hz : tZero P e = some z) (hu : P.underlying u = some (.int ik))
    (hx : x = .slice base len c) (hk : k ≤ 4294967296) (hby : k = 0 ∨ bytes ≤ 4096) :
    ∃ us : List Value, (∀ ρ : Loc, SRs ρ (repeatCells z k) us) ∧ InPlace P (Builtin.append_ #[t, u] ty #[x, .int ik' k]) base len c (esz + 1) k us w ∧ InNew P (Builtin.append_ #[t, u] ty #[x, .int ik' k]) e len c (esz + 1) bytes k x us w := by
  obtain ⟨i, v0, h1, h2, h3, h4⟩ := tZero_info hz
  obtain ⟨i', h1', hsz⟩ := tSize_info hs
  rw [h1] at h1'; cases h1'
  have hbi : i.bytes = bytes := by unfold tBytes at hb; rw [h1] at hb; simpa using hb
  have hzl := (h4 (fun _ => none)).length
  have hv0 : v0.cells.size = esz + 1 := by rw [← hsz, ← h3, hzl]; simp
  subst hx
  have hzv : ∀ w2 : World, (zeroValue e).run P w2 = .ok v0 w2 := by intro w2; simp [zeroValue, typeInfo, h1, h2]
  have hr := arr_range_rep v0.cells (esz + 1) k hv0
  have hzc : Builtin.zeroCells v0.cells k = (repV v0.cells.toList k).toArray := by
    unfold Builtin.zeroCells
    rw [hv0]
    exact hr
  have w1 := small_i64 k hk
  have n3 : ¬ ((k : Int) < 0) := by omega
  have hmul : k * bytes ≤ 4294967296 * 4096 := by
    rcases hby with rfl | hby
    · simp
    · exact Nat.mul_le_mul (by omega) (by omega)
  have n2 : ¬ ((281474976710656 : Int) < (k : Int) * (i.bytes : Int)) := by
    rw [hbi]
    have : ((k * bytes : Nat) : Int) ≤ ((4294967296 * 4096 : Nat) : Int) := by exact_mod_cast hmul
    simp only [Int.natCast_mul] at this
    omega
  refine ⟨repV v0.cells.toList k, fun ρ => repeat_rel (h4 ρ) k, ?_, ?_⟩
  · intro hle
    by_cases h0 : k = 0
    · subst h0
      have hle' : len ≤ c := by simpa using hle
      cases base <;> simp [Builtin.append_, run_underlying (tElem_run ht), run_underlying hu, tSize_run hs, typeInfo, h1, asInt, asIntOf, wrap0, hle', repV]
    · have h00 : ¬ (k * (esz + 1) = 0) := by intro h; rcases Nat.mul_eq_zero.1 h with h | h <;> omega
      cases base <;> simp [Builtin.append_, run_underlying (tElem_run ht), run_underlying hu, tSize_run hs, typeInfo, h1, asInt, asIntOf, w1, n3, n2, hle, h0, h00, hzv, hzc]
  · intro hle hcap hsmall old hold
    have h63 : ¬ ((9223372036854775807 : Int) < (len : Int) + (k : Int)) := by omega
    have h48 : ¬ 281474976710656 < Builtin.nextslicecap (len + k) c * i.bytes := by rw [hbi]; omega
    have hge := grownCap_ge w (len + k) c e
    refine ⟨grownCap w (len + k) c e, (Builtin.zeroCells v0.cells (grownCap w (len + k) c e - (len + k))).toList, hge, by rw [zeroCells_size, hv0], ?_⟩
    have ho := hold w.drew rfl
    by_cases h0 : k = 0
    · subst h0
      have hle' : ¬ len ≤ c := by simpa using hle
      have h63' : ¬ ((9223372036854775807 : Int) < (len : Int)) := by omega
      have h48' : ¬ 281474976710656 < Builtin.nextslicecap len c * i.bytes := by simpa using h48
      simp [Builtin.append_, run_underlying (tElem_run ht), run_underlying hu, tSize_run hs, typeInfo, h1, asInt, asIntOf, wrap0, hle', repV, h63', h48', hzv, Question.forced, ho, newRow, grownCap]
      (congr 2; apply Array.ext'; simp)
    · have h00 : ¬ (k * (esz + 1) = 0) := by intro h; rcases Nat.mul_eq_zero.1 h with h | h <;> omega
      simp [Builtin.append_, run_underlying (tElem_run ht), run_underlying hu, tSize_run hs, typeInfo, h1, asInt, asIntOf, w1, n3, n2, hle, h0, h00, hzv, hzc, h63, h48, Question.forced, ho, newRow, grownCap]
      (congr 2; apply Array.ext'; simp)

end
end Go.Proofs.Ythjijjkoeoemgaa.Ab
