/- The operations that look into memory, make it, or write it. -/
import Derived.Test.YthjijjkoeoemgaaAbOp4
namespace Go.Proofs.Ythjijjkoeoemgaa.Ab
open Go
set_option linter.unusedSimpArgs false
set_option linter.unusedVariables false

section
variable {P : Program} {ρ : Loc}

/-- The cells of an object, a row of them, are read. -/
theorem Holds.load {w : World} {B : Blk} {cs : List SV} (h : Holds ρ w B cs) {off n : Nat} (hl : off + n ≤ cs.length) :
    ∃ us, SRs ρ ((cs.drop off).take n) us ∧ us.length = n ∧ (loadCells ⟨B.b, B.base + off, none⟩ n).run P w = .ok us.toArray w := by
  obtain ⟨vs, h1, h2⟩ := h
  have hlen := h1.length
  refine ⟨(vs.drop off).take n, (h1.drop off).take n, by simp; omega, ?_⟩
  have hn : ((vs.drop off).take n).length = n := by simp; omega
  have := run_loadCells_list (P := P) w ⟨B.b, B.base + off, none⟩ ((vs.drop off).take n) (fun j v hj => by
    rw [addr_add, Nat.add_assoc]
    rw [List.getElem?_take] at hj
    split at hj
    · rw [List.getElem?_drop] at hj
      exact h2 _ v hj
    · cases hj)
  rwa [hn] at this

theorem loadA_obj {σ : AHeap} {g : Option Nat} {id off : Nat} {v : AV} (h : loadA σ g id off = some v) : ∃ ob, σ.get id = some ob ∧ ob.md ≠ .dead ∧ partA ob.cells g off = some v := by
  unfold loadA at h
  split at h
  · rename_i cs hcs; exact ⟨_, hcs, by simp, h⟩
  · rename_i cs hcs; exact ⟨_, hcs, by simp, h⟩
  · cases h

theorem load_run {o : Oper} {t : TypeId} {x : Operand} {g : Option Nat} {y : AOpd} {fr : List AV} {a : Act} {σ σ' : AHeap} {v : AV} {w : World}
    (ho : o.op = .load t x) (hg : tAgg P t = some g) (hy : compOpd x = some y) (hf : FR ρ fr a.tmps) (he : evOp fr σ (.load g y) = some (v, σ'))
    (hr : ∀ id off B ob, ev fr y = .one (.ptr id off) → ρ id = some B → σ.get id = some ob → ObjOk ρ w B ob) :
    σ' = σ ∧ ∃ u, VR ρ v u ∧ (execOp a.eval o).run P w = .ok (.value u) w := by
  have k1 := opd_rel hy hf
  simp only [evOp] at he
  split at he
  · rename_i id off e
    split at he
    · rename_i v' hv
      cases he
      refine ⟨rfl, ?_⟩
      rw [e] at k1
      cases k1 with
      | one k1 =>
        generalize hu' : a.eval x = u at k1
        cases k1 with
        | ptr hB =>
          rename_i B
          obtain ⟨ob, hob, hmd, hp⟩ := loadA_obj hv
          have hh := (hr id off B ob e hB hob).holds hmd
          cases g with
          | none =>
            simp only [partA] at hp
            split at hp
            · rename_i s hs
              cases hp
              obtain ⟨vs, q1, q2⟩ := hh
              obtain ⟨u, q3, q4⟩ := q1.get hs
              refine ⟨u, .one q4, ?_⟩
              have := q2 off u q3
              simp [execOp, ho, hu', Instr.loadAt, Instr.sureAddr, loadVar, tAgg_none hg, this]
            · cases hp
          | some n =>
            simp only [partA] at hp
            split at hp
            · rename_i hl
              cases hp
              obtain ⟨us, q1, q2, q3⟩ := hh.load (P := P) (by simpa using hl)
              refine ⟨.agg us.toArray, .agg q1, ?_⟩
              simp [execOp, ho, hu', Instr.loadAt, Instr.sureAddr, loadVar, (tAgg_some hg w).1, (tAgg_some hg w).2.1, q3]
            · cases hp
    · cases he
  · cases he

/-! ### rows of zeros -/
def repV (z : List Value) : Nat → List Value
  | 0 => []
  | n + 1 => z ++ repV z n

theorem repeat_rel {zero : List SV} {z : List Value} (h : SRs ρ zero z) : ∀ n, SRs ρ (repeatCells zero n) (repV z n)
  | 0 => .nil
  | n + 1 => h.append (repeat_rel h n)

theorem repV_length (z : List Value) : ∀ n, (repV z n).length = n * z.length
  | 0 => by simp [repV]
  | n + 1 => by simp [repV, repV_length z n, Nat.succ_mul, Nat.add_comm]

theorem repeatCells_length (z : List SV) : ∀ n, (repeatCells z n).length = n * z.length
  | 0 => by simp [repeatCells]
  | n + 1 => by simp [repeatCells, repeatCells_length z n, Nat.succ_mul, Nat.add_comm]

theorem range_rep (z : Array Value) (k : Nat) (hk : z.size = k) : ∀ n, (List.range (n * k)).map (fun i => z[i % k]!) = repV z.toList n
  | 0 => by simp [repV]
  | n + 1 => by
    have e : (n + 1) * k = k + n * k := by rw [Nat.succ_mul, Nat.add_comm]
    rw [e, List.range_add, List.map_append, List.map_map]
    have h1 : (List.range k).map (fun i => z[i % k]!) = z.toList := by
      apply List.ext_getElem
      · simp [hk]
      · intro i h1 h2
        have hi : i < k := by simpa using h1
        simp [Nat.mod_eq_of_lt hi, hk, hi]
    have h2 : (List.range (n * k)).map ((fun i => z[i % k]!) ∘ fun x => k + x) = (List.range (n * k)).map (fun i => z[i % k]!) := by
      apply List.map_congr_left
      intro i _
      simp
    rw [h1, h2, range_rep z k hk n]
    rfl

theorem arr_range_rep (z : Array Value) (k n : Nat) (hk : z.size = k) : ((Array.range (n * k)).map fun i => z[i % k]!) = (repV z.toList n).toArray := by
  apply Array.ext'
  rw [← range_rep z k hk n]
  simp

theorem range0 (f : Nat → Value) : Array.map f (Array.range 0) = #[] := Array.ext' (by simp)

theorem fillA_length {fr : List AV} : ∀ {ps : List (Nat × Nat × AOpd)} {cs cs' : List SV}, fillA fr cs ps = some cs' → cs'.length = cs.length
  | [], cs, cs', h => by cases h; rfl
  | (off, n, x) :: l, cs, cs', h => by
    simp only [fillA] at h
    split at h
    · cases h
    · split at h
      · rename_i hl
        have hl' : (ev fr x).cells.length = n ∧ off + n ≤ cs.length := by simpa using hl
        rw [fillA_length h, splice_length (by omega)]
      · cases h

/-! ### what makes a block -/
def AOp.allocs : AOp → Bool
  | .new _ | .box _ | .bslice .. | .mkslice .. => true
  | _ => false

/-- The answer of an operation that makes one block, and looks into none. -/
def AllocRes (P : Program) (ρ : Loc) (o : Oper) (a : Act) (σ σ' : AHeap) (v : AV) : Prop :=
  ∃ (cs : List SV) (vs : List Value) (t : TypeId), σ' = σ.alloc ⟨cs, .own⟩ ∧ SRs ρ cs vs ∧
    ∀ w, ∃ u, (execOp a.eval o).run P w = .ok (.value u) (w.alloc (.cells vs.toArray t)) ∧
      ∀ ρ' : Loc, ρ' σ.size = some ⟨w.heap.size, 0, vs.length, cs.length⟩ → VR ρ' v u

theorem new_run {o : Oper} {t : TypeId} {z : List SV} {fr : List AV} {a : Act} {σ σ' : AHeap} {v : AV}
    (ho : o.op = .alloc t) (hz : tZero P t = some z) (he : evOp fr σ (.new z) = some (v, σ')) : AllocRes P ρ o a σ σ' v := by
  cases he
  obtain ⟨i, v0, h1, h2, h3, h4⟩ := tZero_info hz
  refine ⟨z, v0.cells.toList, t, rfl, h4 ρ, fun w => ⟨.pointer (some ⟨w.heap.size, 0, none⟩), ?_, fun ρ' hρ => ?_⟩⟩
  · simp [execOp, ho, Instr.alloc, zeroValue, typeInfo, h1, h2, newVar, newRow]
  · have := SR.ptr (off := 0) hρ
    exact .one (by simpa using this)

theorem box_run {o : Oper} {t : TypeId} {x : Operand} {y : AOpd} {fr : List AV} {a : Act} {σ σ' : AHeap} {v : AV}
    (ho : o.op = .box t x) (hy : compOpd x = some y) (hf : FR ρ fr a.tmps) (he : evOp fr σ (.box y) = some (v, σ')) : AllocRes P ρ o a σ σ' v := by
  have k1 := opd_rel hy hf
  simp only [evOp] at he
  split at he
  · cases he
  · rename_i hnt
    cases he
    have hc := k1.cells (fun l e => hnt l e)
    refine ⟨_, (a.eval x).cells.toList, t, rfl, hc, fun w => ⟨.pointer (some ⟨w.heap.size, 0, none⟩), ?_, fun ρ' hρ => ?_⟩⟩
    · simp [execOp, ho, Instr.box, newVar, newRow]
    · have := SR.ptr (off := 0) hρ
      exact .one (by simpa using this)

theorem bslice_run {o : Oper} {t e : TypeId} {n len : Nat} {z : List SV} {parts : Array (Nat × Operand)} {l : List (Nat × Nat × AOpd)} {fr : List AV} {a : Act} {σ σ' : AHeap} {v : AV}
    (ho : o.op = .buildSlice t len parts) (ht : tElem P t = some e) (hs : tSize P e = some (n + 1)) (hz : tZero P e = some z)
    (hp : compParts (fun i => some (i * (n + 1), n + 1)) parts.toList = some l) (hlen : len * (n + 1) ≤ 16777216)
    (hf : FR ρ fr a.tmps) (he : evOp fr σ (.bslice (n + 1) len z l) = some (v, σ')) : AllocRes P ρ o a σ σ' v := by
  simp only [evOp] at he
  split at he
  · rename_i cs hcs
    cases he
    obtain ⟨i, v0, h1, h2, h3, h4⟩ := tZero_info hz
    obtain ⟨i', h1', hsz⟩ := tSize_info hs
    rw [h1] at h1'; cases h1'
    have hzl := (h4 ρ).length
    have hv0 : v0.cells.size = n + 1 := by rw [← hsz, ← h3, hzl]; simp
    obtain ⟨vs', q1, q2⟩ := fill_rel hf parts.toList l _ cs _ hp hcs (repeat_rel (h4 ρ) len)
    have hvl : vs'.length = len * (n + 1) := by
      rw [← q2.length]
      have := fillA_length hcs
      rw [this, repeatCells_length, h3, hsz]
    refine ⟨cs, vs', e, rfl, q2, fun w => ⟨.slice (some ⟨w.heap.size, 0, none⟩) len len, ?_, fun ρ' hρ => ?_⟩⟩
    · have hle : ¬ 2 ^ 24 < len * (n + 1) := by omega
      have hparts : (parts.map fun p => (p.1, a.eval p.2)).toList = parts.toList.map fun p => (p.1, a.eval p.2) := by simp
      by_cases h0 : len * (n + 1) = 0
      · have hl0 : len = 0 := by
          rcases Nat.mul_eq_zero.1 h0 with h | h <;> omega
        subst hl0
        simp only [repV] at q1
        simp [execOp, ho, Instr.buildSlice, run_underlying (tElem_run ht), tSize_run hs, range0, q1, newRow]
      · have hr := arr_range_rep v0.cells (n + 1) len hv0
        have hzv : (zeroValue e).run P w = .ok v0 w := by simp [zeroValue, typeInfo, h1, h2]
        simp [execOp, ho, Instr.buildSlice, run_underlying (tElem_run ht), tSize_run hs, hle, h0, hzv, hv0, hr, q1, newRow]
    · have hsl : SR ρ' (.slice σ.size 0 (n + 1) len (some len)) (.slice (some ⟨w.heap.size, 0 + 0, none⟩) len len) :=
        .slice hρ (Nat.le_refl _) (by show 0 + len * (n + 1) ≤ cs.length; rw [q2.length, hvl]; omega) (by simp only; rw [hvl]; omega) (by omega) (.inl rfl)
      exact .one hsl
  · cases he

theorem small_i64 (n : Nat) (h : n ≤ 4294967296) : IntKind.i64.wrap (n : Int) = n := by
  simp only [IntKind.wrap, IntKind.bits, IntKind.signed]
  simp
  omega

theorem wrap0 : IntKind.i64.wrap 0 = 0 := by decide

theorem mkslice_run {o : Oper} {t e : TypeId} {n b : Nat} {z : List SV} {l c : Operand} {l' c' : AOpd} {fr : List AV} {a : Act} {σ σ' : AHeap} {v : AV}
    (ho : o.op = .makeSlice t l c) (ht : tElem P t = some e) (hs : tSize P e = some (n + 1)) (hb : tBytes P e = some b) (hz : tZero P e = some z)
    (hl : compOpd l = some l') (hc : compOpd c = some c') (hf : FR ρ fr a.tmps) (he : evOp fr σ (.mkslice (n + 1) b z l' c') = some (v, σ')) : AllocRes P ρ o a σ σ' v := by
  simp only [evOp] at he
  split at he
  · rename_i len cap e1 e2
    split at he
    · rename_i hbd
      cases he
      have hbd' : (len ≤ cap ∧ cap ≤ maxElems) ∧ b ≤ maxBytes := by simpa using hbd
      unfold maxElems maxBytes at hbd'
      obtain ⟨kl, hl2⟩ := asNat_run e1 (opd_rel hl hf)
      obtain ⟨kc, hc2⟩ := asNat_run e2 (opd_rel hc hf)
      obtain ⟨i, v0, h1, h2, h3, h4⟩ := tZero_info hz
      obtain ⟨i', h1', hsz⟩ := tSize_info hs
      rw [h1] at h1'; cases h1'
      have hbi : i.bytes = b := by
        unfold tBytes at hb; rw [h1] at hb; simpa using hb
      have hzl := (h4 ρ).length
      have hv0 : v0.cells.size = n + 1 := by rw [← hsz, ← h3, hzl]; simp
      have hvl : (repV v0.cells.toList cap).length = cap * (n + 1) := by rw [repV_length]; simp [hv0]
      have hrl := repeat_rel (h4 ρ) cap
      refine ⟨_, repV v0.cells.toList cap, e, rfl, hrl, fun w => ⟨.slice (some ⟨w.heap.size, 0, none⟩) len cap, ?_, fun ρ' hρ => ?_⟩⟩
      · have w1 := small_i64 len (by omega)
        have w2 := small_i64 cap (by omega)
        have n1 : ¬ ((cap : Int) < 0) := by omega
        have hmul : b * cap ≤ 4096 * 4294967296 := Nat.mul_le_mul (by omega) (by omega)
        have n2 : ¬ ((281474976710656 : Int) < (i.bytes : Int) * (cap : Int)) := by
          rw [hbi]
          have : ((b * cap : Nat) : Int) ≤ ((4096 * 4294967296 : Nat) : Int) := by exact_mod_cast hmul
          simp only [Int.natCast_mul] at this
          omega
        have n3 : ¬ ((len : Int) < 0) := by omega
        have n4 : ¬ ((cap : Int) < (len : Int)) := by omega
        have n4' : ¬ cap < len := by omega
        have hzv : (zeroValue e).run P w = .ok v0 w := by simp [zeroValue, typeInfo, h1, h2]
        by_cases h0 : cap = 0
        · subst h0
          have hl0 : len = 0 := by omega
          subst hl0
          simp [execOp, ho, Instr.makeSlice, run_underlying (tElem_run ht), hl2, hc2, asInt, asIntOf, typeInfo, h1, w1, w2, tSize_run hs, newRow, repV, range0, wrap0]
        · have h00 : ¬ (cap * (n + 1) = 0) := by
            intro h; rcases Nat.mul_eq_zero.1 h with h | h <;> omega
          have hr := arr_range_rep v0.cells (n + 1) cap hv0
          simp [execOp, ho, Instr.makeSlice, run_underlying (tElem_run ht), hl2, hc2, asInt, asIntOf, typeInfo, h1, w1, w2, n1, n2, n3, n4, n4', tSize_run hs, h0, h00, hzv, hv0, hr, newRow]
      · have hsl : SR ρ' (.slice σ.size 0 (n + 1) len (some cap)) (.slice (some ⟨w.heap.size, 0 + 0, none⟩) len cap) := by
          have hm : len * (n + 1) ≤ cap * (n + 1) := Nat.mul_le_mul_right _ hbd'.1.1
          exact .slice hρ hbd'.1.1 (by show 0 + len * (n + 1) ≤ (repeatCells z cap).length; rw [hrl.length, hvl]; omega) (by simp only; rw [hvl]; omega) (by omega) (.inl rfl)
        exact .one hsl
    · cases he
  · cases he

/-! ### what writes -/
theorem writeAt_run {σ σ' : AHeap} {w : World} {id off : Nat} {B : Blk} {ss : List SV} {vs : List Value} (h : HR ρ σ.get w) (hB : ρ id = some B) (hw : writeAt σ id off ss = some σ') (hv : SRs ρ ss vs) :
    ∃ w', (storeCells ⟨B.b, B.base + off, none⟩ vs).run P w = .ok () w' ∧ Post ρ σ w ρ σ' w' := by
  unfold writeAt at hw
  split at hw
  · rename_i cs hcs
    split at hw
    · rename_i hl
      cases hw
      exact Post.write h hB hcs (by simpa using hl) hv
    · cases hw
  · cases hw

/-- What an operation answers that may write. -/
def OpRes (P : Program) (ρ : Loc) (o : Oper) (a : Act) (σ : AHeap) (w : World) (σ' : AHeap) (v : AV) : Prop :=
  ∃ r u w' ρ', (execOp a.eval o).run P w = .ok r w' ∧ (r = .value u ∨ (r = .skip ∧ u = undef)) ∧ Post ρ σ w ρ' σ' w' ∧ VR ρ' v u

theorem store_run {o : Oper} {t : TypeId} {x y : Operand} {x' y' : AOpd} {n : Nat} {fr : List AV} {a : Act} {σ σ' : AHeap} {v : AV} {w : World}
    (ho : o.op = .store t x y) (hn : tSize P t = some n) (hx : compOpd x = some x') (hy : compOpd y = some y') (hf : FR ρ fr a.tmps) (h : HR ρ σ.get w)
    (he : evOp fr σ (.store n x' y') = some (v, σ')) : OpRes P ρ o a σ w σ' v := by
  have k1 := opd_rel hx hf
  have k2 := opd_rel hy hf
  simp only [evOp] at he
  split at he
  · cases he
  · rename_i id off e1 hnt
    split at he
    · rename_i hlen
      split at he
      · rename_i σ1 hw
        cases he
        rw [e1] at k1
        cases k1 with
        | one k1 =>
          generalize hu' : a.eval x = u at k1
          cases k1 with
          | ptr hB =>
            rename_i B
            have hcs := k2.cells (fun l e => hnt l e)
            have hlen' : (ev fr y').cells.length = n := by simpa using hlen
            have hsz : (a.eval y).cells.size = n := by rw [← hlen', hcs.length]; simp
            obtain ⟨w', r1, r2⟩ := writeAt_run (P := P) h hB hw hcs
            exact ⟨.skip, undef, w', ρ, by simp [execOp, ho, hu', Instr.storeAt, Instr.sureAddr, storeVar, tSize_run hn, hsz, r1], .inr ⟨rfl, rfl⟩, r2, VR.undef⟩
      · cases he
    · cases he
  · cases he

end
end Go.Proofs.Ythjijjkoeoemgaa.Ab
