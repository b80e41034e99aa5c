/- Several of my texts in one: Ty6, Ty7. -/
import Derived.Test.YtdpfgdmlmkpmbaaGreatDoorTyA
import Derived.Test.YtdpfgdmlmkpmbaaGreatDoorAbD
import Derived.Test.YtdpfgdmlmkpmbaaGreatDoorLitTy
/- Fields in lists: IndexFunc, ContainsFunc, types.Resolve. -/
namespace Go.Proofs.YtdpfgdmlmkpmbaaGreatDoor.Ab
open Go
set_option maxRecDepth 20000
set_option maxHeartbeats 4000000
set_option linter.unusedSimpArgs false

structure Fld where
  stream : List UInt8
  column : List UInt8
  kind : Int
def Fld.cells (f : Fld) : List SV := [.str f.stream, .str f.column, .int .i64 f.kind]
theorem Fld.cells_len (f : Fld) : f.cells.length = 3 := rfl
theorem Fld.cells_take (f : Fld) : f.cells.take 3 = f.cells := rfl
theorem Fld.cells_lo (n : Nat) (f : Fld) : loL n f.cells = true := by simp [Fld.cells]
theorem Fld.map_lo (n : Nat) : ∀ l : List Fld, loE n (l.map Fld.cells) = true
  | [] => rfl
  | f :: l => by simp [Fld.cells_lo n f, Fld.map_lo n l]
attribute [simp] Fld.cells_len Fld.cells_take Fld.cells_lo Fld.map_lo
def fcells (F : List Fld) : List SV := (F.map Fld.cells).flatten
theorem fcells_len (F : List Fld) : (fcells F).length = F.length * 3 := by
  unfold fcells
  rw [flatten_len (e := 3) (by simp), List.length_map]
theorem fcells_part {F : List Fld} {i : Nat} (h : i < F.length) (pre : List SV) : partA (pre ++ fcells F) (some 3) (pre.length + i * 3) = some (.agg F[i].cells) := by
  have := part_row (e := 3) (rows := F.map Fld.cells) (by simp) (pre := pre) (suf := []) (i := i) (by rw [List.length_map]; exact h)
  rw [List.append_nil] at this
  rw [fcells, this, rowAt, List.getD, List.getElem?_map, List.getElem?_eq_getElem h]
  rfl

/-- A slice of fields: one that nobody writes, or one's own. -/
def FldSl (σ : AHeap) (s : AV) (F : List Fld) : Prop := s = .one (.lst (F.map Fld.cells)) ∨ (∃ id pre, s = .one (.slice id pre.length 3 F.length none) ∧ σ.get id = some ⟨pre ++ fcells F, .own⟩) ∨ (s = .one .nilSlice ∧ F = [])
theorem FldSl.keeps {σ τ : AHeap} {s : AV} {F : List Fld} (h : FldSl σ s F) (hk : Keeps σ τ) : FldSl τ s F := by
  rcases h with h | ⟨id, pre, h1, h2⟩ | h
  · exact .inl h
  · exact .inr (.inl ⟨id, pre, h1, by rw [hk.2 id (AHeap.get_lt h2), h2]⟩)
  · exact .inr (.inr h)

structure FBase (C : Ctx) : Prop where
  code : ∀ f, C.code f = codeOf f
  res : C.prim 36 = none
  rest : C.prim 95 = none
  idx : C.prim 96 = none
  cont : C.prim 97 = none
  hint : C.hint = tyHint
theorem TyD_fbase : FBase TyD := ⟨TyD_code, TyD_prim rfl, TyD_prim rfl, TyD_prim rfl, TyD_prim rfl, rfl⟩
variable {C : Ctx} (hB : FBase C)

/-- A test that fields are handed to. -/
def FTests (C : Ctx) (σ : AHeap) (g : Nat) (caps : List SV) (p : Fld → Bool) (l : List Fld) : Prop := ∀ f ∈ l, ∀ τ, Keeps σ τ → lim C g (.agg f.cells :: caps.map AV.one) τ = some (.one (.bool (p f)), τ)
def idxF (p : Fld → Bool) : Nat → List Fld → Int
  | _, [] => -1
  | i, f :: l => if p f = true then i else idxF p (i + 1) l
theorem idxF_neg (p : Fld → Bool) : ∀ (l : List Fld) (i : Nat), decide (0 ≤ idxF p i l) = l.any p
  | [], i => by simp [idxF]
  | f :: l, i => by
    by_cases h : p f = true
    · simp [idxF, h]
    · simp [idxF, h, idxF_neg p l (i + 1)]

include hB in
theorem eq_idxF (σ : AHeap) (s : AV) (F : List Fld) (g : Nat) (caps : List SV) (p : Fld → Bool) (h : FldSl σ s F) (hp : FTests C σ g caps p F) (hm : F.length ≤ maxElems) :
    lim C 96 [s, .one (.func g caps)] σ = some (.one (.int .i64 (idxF p 0 F)), σ) := by
  refine lim_eq hB.idx ((hB.code _).trans codeIdxF) (by rw [hB.hint]; rfl) ?_
  unfold BodyP
  rcases h with hs | ⟨id, pre, hs, hg⟩ | ⟨hs, rfl⟩
  · simp (maxDischargeDepth := 99) [cIdxF, hs]
    refine endsi_range F.length (fun i fr τ => Keeps σ τ ∧ fr.length = 19 ∧ getSlot fr 0 = s ∧ getSlot fr 1 = .one (.func g caps) ∧ getSlot fr 7 = .one (.int .i64 F.length) ∧ getSlot fr 8 = .one (.int .i64 i) ∧ idxF p i (F.drop i) = idxF p 0 F) ?_ ?_ ?_
    · simp [hs]
    · rintro i fr τ hlt ⟨hk, hlen, f0, f1, f7, f8, hall⟩
      have hw := wr_next hlt hm
      have ht := hp F[i] (List.getElem_mem hlt) τ hk
      rw [List.drop_eq_getElem_cons hlt] at hall
      by_cases hb : p F[i] = true
      · rw [hb] at ht
        simp [idxF, hb] at hall
        simp (maxDischargeDepth := 99) [cIdxF_0, hlen, f0, f1, f7, f8, hs, hlt, ht, ← hall, hk, hk.1]
      · rw [Bool.not_eq_true] at hb
        rw [hb] at ht
        simp [idxF, hb] at hall
        simp (maxDischargeDepth := 99) [cIdxF_0, hlen, f0, f1, f7, f8, hs, hlt, ht, hw, hall, hk, hk.1]
    · rintro fr τ ⟨hk, hlen, f0, f1, f7, f8, hall⟩
      rw [List.drop_length] at hall
      simp (maxDischargeDepth := 99) [cIdxF_0, hlen, f7, f8, ← hall, idxF, hk]
  · simp (maxDischargeDepth := 99) [cIdxF, hs]
    refine endsi_range F.length (fun i fr τ => Keeps σ τ ∧ fr.length = 19 ∧ getSlot fr 0 = s ∧ getSlot fr 1 = .one (.func g caps) ∧ getSlot fr 7 = .one (.int .i64 F.length) ∧ getSlot fr 8 = .one (.int .i64 i) ∧ idxF p i (F.drop i) = idxF p 0 F) ?_ ?_ ?_
    · simp [hs]
    · rintro i fr τ hlt ⟨hk, hlen, f0, f1, f7, f8, hall⟩
      have hw := wr_next hlt hm
      have ht := hp F[i] (List.getElem_mem hlt) τ hk
      have hg' : τ.get id = some ⟨pre ++ fcells F, .own⟩ := by rw [hk.2 id (AHeap.get_lt hg), hg]
      have hpt := fcells_part hlt pre
      rw [List.drop_eq_getElem_cons hlt] at hall
      by_cases hb : p F[i] = true
      · rw [hb] at ht
        simp [idxF, hb] at hall
        simp (maxDischargeDepth := 99) [-partA, cIdxF_0, hlen, f0, f1, f7, f8, hs, hlt, hg', hpt, ht, ← hall, hk, hk.1]
      · rw [Bool.not_eq_true] at hb
        rw [hb] at ht
        simp [idxF, hb] at hall
        simp (maxDischargeDepth := 99) [-partA, cIdxF_0, hlen, f0, f1, f7, f8, hs, hlt, hg', hpt, ht, hw, hall, hk, hk.1]
    · rintro fr τ ⟨hk, hlen, f0, f1, f7, f8, hall⟩
      rw [List.drop_length] at hall
      simp (maxDischargeDepth := 99) [cIdxF_0, hlen, f7, f8, ← hall, idxF, hk]
  · simp (maxDischargeDepth := 99) [cIdxF, hs]
    refine endsi_range 0 (fun i fr τ => Keeps σ τ ∧ fr.length = 19 ∧ getSlot fr 7 = .one (.int .i64 0) ∧ getSlot fr 8 = .one (.int .i64 0)) ?_ ?_ ?_
    · simp
    · intro i fr τ hlt; omega
    · rintro fr τ ⟨hk, hlen, f7, f8⟩
      simp (maxDischargeDepth := 99) [cIdxF_0, hlen, f7, f8, idxF, hk]

include hB in
theorem eq_contF (σ : AHeap) (s : AV) (F : List Fld) (g : Nat) (caps : List SV) (p : Fld → Bool) (h : FldSl σ s F) (hp : FTests C σ g caps p F) (hm : F.length ≤ maxElems) :
    lim C 97 [s, .one (.func g caps)] σ = some (.one (.bool (F.any p)), σ) := by
  refine lim_eq hB.cont ((hB.code _).trans codeContF) (by rw [hB.hint]; rfl) ?_
  unfold BodyP
  have h2 := eq_idxF hB σ s F g caps p h hp hm
  simp (maxDischargeDepth := 99) [-List.any_eq_true, cContF, h2, idxF_neg]
end Go.Proofs.YtdpfgdmlmkpmbaaGreatDoor.Ab

/- types.Resolve. -/
namespace Go.Proofs.YtdpfgdmlmkpmbaaGreatDoor.Ab
open Go
set_option maxRecDepth 20000
set_option maxHeartbeats 4000000
set_option linter.unusedSimpArgs false
variable {C : Ctx} (hB : FBase C)

def fldB (stream column : List UInt8) (f : Fld) : Bool := decide (f.column = column) && (decide (stream = []) || decide (f.stream = stream))
include hB in
theorem eq_rest (σ : AHeap) (f : Fld) (b1 b2 : Nat) (stream column : List UInt8) (h1 : σ.get b1 = some ⟨[.str column], .own⟩) (h2 : σ.get b2 = some ⟨[.str stream], .own⟩) :
    lim C 95 [.agg f.cells, .one (.ptr b1 0), .one (.ptr b2 0)] σ = some (.one (.bool (fldB stream column f)), σ) := by
  refine lim_eq hB.rest ((hB.code _).trans codeResT) (by rw [hB.hint]; rfl) ?_
  unfold BodyP fldB Fld.cells
  obtain ⟨s, c, k⟩ := f
  have l1 := AHeap.get_lt h1
  have l2 := AHeap.get_lt h2
  have e1 : ¬ b1 = σ.size := by omega
  have e2 : ¬ b2 = σ.size := by omega
  by_cases hc : c = column
  · by_cases hs : stream = []
    · simp (maxDischargeDepth := 99) [cResT, hc, hs, h1, h2, l1, l2, e1, e2, sbin, beqL_iff]
    · simp (maxDischargeDepth := 99) [cResT, hc, hs, h1, h2, l1, l2, e1, e2, sbin, beqL_iff]
  · simp (maxDischargeDepth := 99) [cResT, hc, h1, h2, l1, l2, e1, e2, sbin, beqL_iff]

theorem idxF_range (p : Fld → Bool) : ∀ (l : List Fld) (i : Nat), idxF p i l = -1 ∨ ∃ k, k < l.length ∧ idxF p i l = ((i + k : Nat) : Int)
  | [], i => .inl rfl
  | f :: l, i => by
    by_cases h : p f = true
    · exact .inr ⟨0, by simp, by simp [idxF, h]⟩
    · rcases idxF_range p l (i + 1) with h2 | ⟨k, h2, h3⟩
      · left; simp [idxF, h, h2]
      · right
        refine ⟨k + 1, by simp; omega, ?_⟩
        simp only [idxF, h, if_false, h3]
        simp
        omega

def resAt (p : Fld → Bool) (F : List Fld) (i : Int) : Int × Int := if i < 0 ∨ (F.drop (i.toNat + 1)).any p = true then (0, 110) else (i, 0)
def resolveF (F : List Fld) (stream column : List UInt8) : Int × Int := resAt (fldB stream column) F (idxF (fldB stream column) 0 F)
theorem resAt_none (p : Fld → Bool) (F : List Fld) : resAt p F (-1) = (0, 110) := rfl
theorem resAt_two {p : Fld → Bool} {F : List Fld} {k : Nat} (h : (F.drop (k + 1)).any p = true) : resAt p F k = (0, 110) := by
  unfold resAt
  rw [Int.toNat_natCast, if_pos (.inr h)]
theorem resAt_one {p : Fld → Bool} {F : List Fld} {k : Nat} (h : (F.drop (k + 1)).any p = false) : resAt p F k = ((k : Int), 0) := by
  unfold resAt
  rw [Int.toNat_natCast, if_neg]
  rintro (h1 | h1)
  · omega
  · rw [h] at h1; cases h1

theorem fld_lstW : ∀ F : List Fld, lstW 3 (F.map Fld.cells) = true
  | [] => rfl
  | f :: l => by simp [lstW, fld_lstW l]
theorem FldSl.drop {σ : AHeap} {id : Nat} {pre : List SV} {F : List Fld} {k : Nat} (hk : k ≤ F.length) (hg : σ.get id = some ⟨pre ++ fcells F, .own⟩) :
    FldSl σ (.one (.slice id (pre.length + k * 3) 3 (F.length - k) none)) (F.drop k) := by
  refine .inr (.inl ⟨id, pre ++ fcells (F.take k), ?_, ?_⟩)
  · rw [List.length_append, fcells_len, List.length_take, List.length_drop, Nat.min_eq_left hk]
  · rw [List.append_assoc, ← show fcells F = fcells (F.take k) ++ fcells (F.drop k) by
      unfold fcells
      rw [← List.flatten_append, ← List.map_append, List.take_append_drop], hg]

include hB in
theorem eq_resolve (σ : AHeap) (s : AV) (F : List Fld) (stream column : List UInt8) (h : FldSl σ s F) (hm : F.length ≤ maxElems) :
    lim C 36 [s, .one (.str stream), .one (.str column)] σ = some (.tup [.one (.int .i64 (resolveF F stream column).1), .one (.int .i64 (resolveF F stream column).2)], σ) := by
  refine lim_eq hB.res ((hB.code _).trans codeResolve) (by rw [hB.hint]; rfl) ?_
  unfold BodyP resolveF
  obtain ⟨τ, hτ⟩ : ∃ τ, τ = (σ.alloc ⟨[.str stream], .own⟩).alloc ⟨[.str column], .own⟩ := ⟨_, rfl⟩
  have hk : Keeps σ τ := by rw [hτ]; simp
  have g1 : τ.get (σ.size + 1) = some ⟨[.str column], .own⟩ := by rw [hτ]; simp
  have g2 : τ.get σ.size = some ⟨[.str stream], .own⟩ := by rw [hτ]; simp
  have hT : ∀ G, FTests C τ 95 [.ptr (σ.size + 1) 0, .ptr σ.size 0] (fldB stream column) G := fun G f _ τ' hk' =>
    eq_rest hB τ' f _ _ stream column (by rw [hk'.2 _ (AHeap.get_lt g1), g1]) (by rw [hk'.2 _ (AHeap.get_lt g2), g2])
  have hi := eq_idxF hB τ s F _ _ _ (h.keeps hk) (hT F) hm
  rcases idxF_range (fldB stream column) F 0 with h0 | ⟨k, hlt, h0⟩
  · rw [h0] at hi ⊢
    rw [resAt_none]
    simp (maxDischargeDepth := 99) [cResolve, ← hτ, hi, hk]
  · rw [Nat.zero_add] at h0
    rw [h0] at hi ⊢
    have hw := wr_next hlt hm
    have hlt' : k + 1 ≤ F.length := hlt
    have hnn : ¬ (k : Int) < 0 := by omega
    have h01 : (0 : Int) ≤ (k : Int) + 1 := by omega
    have hsl : List.take (F.length - (k + 1)) (List.drop (k + 1) (F.map Fld.cells)) = (F.drop (k + 1)).map Fld.cells := by
      rw [← List.map_drop]
      exact List.take_of_length_le (by rw [List.length_map, List.length_drop]; exact Nat.le_refl _)
    have hlw : lstW 3 (F.map Fld.cells) = true := fld_lstW F
    have hcl := fcells_len F
    rcases h with hs | ⟨id, pre, hs, hg⟩ | ⟨_, rfl⟩
    · have hc := eq_contF hB τ (.one (.lst ((F.drop (k + 1)).map Fld.cells))) (F.drop (k + 1)) _ _ _ (.inl rfl) (hT _) (by rw [List.length_drop]; omega)
      rw [List.map_drop] at hc
      rw [hs] at hi ⊢
      cases hb : (F.drop (k + 1)).any (fldB stream column) with
      | true =>
        rw [hb] at hc
        rw [resAt_two hb]
        simp (maxDischargeDepth := 99) [-List.any_eq_true, cResolve, ← hτ, hi, hk, hw, hnn, hlt', hc, h01, hsl, hlw, hcl]
      | false =>
        rw [hb] at hc
        rw [resAt_one hb]
        simp (maxDischargeDepth := 99) [-List.any_eq_true, cResolve, ← hτ, hi, hk, hw, hnn, hlt', hc, h01, hsl, hlw, hcl]
    · have hg0 : τ.get id = some ⟨pre ++ fcells F, .own⟩ := by rw [hk.2 id (AHeap.get_lt hg), hg]
      have hg' := hg0
      have hc := eq_contF hB τ _ (F.drop (k + 1)) _ _ _ (FldSl.drop hlt' hg') (hT _) (by rw [List.length_drop]; omega)
      rw [hs] at hi ⊢
      cases hb : (F.drop (k + 1)).any (fldB stream column) with
      | true =>
        rw [hb] at hc
        rw [resAt_two hb]
        simp (maxDischargeDepth := 99) [-List.any_eq_true, cResolve, ← hτ, hi, hk, hw, hnn, hlt', hc, h01, hsl, hlw, hg0, hcl]
      | false =>
        rw [hb] at hc
        rw [resAt_one hb]
        simp (maxDischargeDepth := 99) [-List.any_eq_true, cResolve, ← hτ, hi, hk, hw, hnn, hlt', hc, h01, hsl, hlw, hg0, hcl]
    · simp at hlt
end Go.Proofs.YtdpfgdmlmkpmbaaGreatDoor.Ab
