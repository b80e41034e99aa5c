/- Several of my texts in one: Ty1, Ty2, Ty3, Ty4, Ty5. -/
import Derived.Test.YtkolhfpofmpijaaDoorTyA
import Derived.Test.YtkolhfpofmpijaaDoorLitTy
/- Trees as values, and the small tests on them. -/
namespace Go.Proofs.YtkolhfpofmpijaaDoor.Ab
open Go
set_option maxRecDepth 20000
set_option maxHeartbeats 2000000
set_option linter.unusedSimpArgs false

/-! ### trees -/
inductive T where
  | mk (kind : Int) (text : List UInt8) (n at_ : Int) (kids : List T)

def T.kind : T → Int | .mk k _ _ _ _ => k
def T.text : T → List UInt8 | .mk _ s _ _ _ => s
def T.n : T → Int | .mk _ _ n _ _ => n
def T.at_ : T → Int | .mk _ _ _ a _ => a
def T.kids : T → List T | .mk _ _ _ _ l => l

mutual
def T.cells : T → List SV
  | .mk k s n a l => [.int .i64 k, .str s, .int .i64 n, .int .i64 a, .lst (T.cellsL l)]
def T.cellsL : List T → List (List SV)
  | [] => []
  | t :: l => t.cells :: T.cellsL l
end
theorem T.cellsL_map : ∀ l : List T, T.cellsL l = l.map T.cells
  | [] => rfl
  | t :: l => by simp [T.cellsL, T.cellsL_map l]
mutual
def T.size : T → Nat
  | .mk _ s _ _ l => T.sizeL l + s.length + 1
def T.sizeL : List T → Nat
  | [] => 0
  | t :: l => t.size + T.sizeL l
end
theorem T.size_mem : ∀ {l : List T} {t : T}, t ∈ l → t.size ≤ T.sizeL l
  | t :: l, u, h => by
    rcases List.mem_cons.1 h with rfl | h
    · simp [T.sizeL]
    · have := T.size_mem h; simp [T.sizeL]; omega
theorem T.size_kid {t u : T} (h : u ∈ t.kids) : u.size < t.size := by
  cases t with
  | mk k s n a l => have := T.size_mem (l := l) h; simp [T.size]; omega
theorem T.text_size (t : T) : t.text.length < t.size := by
  cases t with
  | mk k s n a l => simp only [T.text, T.size]; omega
theorem T.size_pos (t : T) : 0 < t.size := Nat.lt_of_le_of_lt (Nat.zero_le _) (T.text_size t)
theorem T.len_sizeL : ∀ l : List T, l.length ≤ T.sizeL l
  | [] => Nat.le_refl _
  | t :: l => by have := T.len_sizeL l; have := T.size_pos t; simp only [List.length_cons, T.sizeL]; omega
theorem T.kids_size (t : T) : t.kids.length < t.size := by
  cases t with
  | mk k s n a l => have := T.len_sizeL l; simp only [T.kids, T.size]; omega
theorem T.cells_eq (t : T) : t.cells = [.int .i64 t.kind, .str t.text, .int .i64 t.n, .int .i64 t.at_, .lst (t.kids.map T.cells)] := by
  cases t with
  | mk k s n a l => simp [T.cells, T.cellsL_map, T.kind, T.text, T.n, T.at_, T.kids]
theorem T.cells_len (t : T) : t.cells.length = 5 := by rw [T.cells_eq]; rfl
mutual
theorem T.cells_lo (n : Nat) : ∀ t : T, loL n t.cells = true
  | .mk k s m a l => by simp [T.cells, T.cellsL_lo n l]
theorem T.cellsL_lo (n : Nat) : ∀ l : List T, loE n (T.cellsL l) = true
  | [] => rfl
  | t :: l => by simp [T.cellsL, T.cells_lo n t, T.cellsL_lo n l]
end
theorem T.map_lo (n : Nat) (l : List T) : loE n (l.map T.cells) = true := by rw [← T.cellsL_map]; exact T.cellsL_lo n l
theorem T.cells_take (t : T) : t.cells.take 5 = t.cells := List.take_of_length_le (by rw [T.cells_len]; exact Nat.le_refl _)
attribute [simp] T.cells_take T.cells_len T.cells_lo T.map_lo

/-! ### the small tests -/
theorem eq_within (σ : AHeap) (n a b : Int) : lim TyD 32 [.one (.int .i64 n), .one (.int .i64 a), .one (.int .i64 b)] σ = some (.one (.bool (decide (a ≤ n) && decide (n ≤ b))), σ) := by
  refine lim_eq (TyD_prim rfl) ((TyD_code _).trans codeWithin) rfl ?_
  unfold BodyP
  by_cases h : a ≤ n
  · simp (maxDischargeDepth := 99) [cWithin, h]
  · simp (maxDischargeDepth := 99) [cWithin, h]

def bareB (t : T) (k : Int) : Bool := decide (t.text = []) && decide (t.n = 0) && decide ((t.kids.length : Int) = k)
theorem eq_bare (σ : AHeap) (t : T) (k : Int) : lim TyD 33 [.agg t.cells, .one (.int .i64 k)] σ = some (.one (.bool (bareB t k)), σ) := by
  refine lim_eq (TyD_prim rfl) ((TyD_code _).trans codeBare) rfl ?_
  unfold BodyP bareB
  rw [T.cells_eq]
  by_cases h : t.text = []
  · by_cases h2 : t.n = 0
    · simp (maxDischargeDepth := 99) [cBare, h, h2, sbin]
    · simp (maxDischargeDepth := 99) [cBare, h, h2, sbin]
  · simp (maxDischargeDepth := 99) [cBare, h, sbin, beqL_iff]

/-- A test that trees are handed to. -/
def Tests (g : Nat) (caps : List SV) (p : T → Bool) (l : List T) : Prop := ∀ t ∈ l, ∀ σ, lim TyD g (.agg t.cells :: caps.map AV.one) σ = some (.one (.bool (p t)), σ)

theorem wrN {i n : Nat} (h : i < n) (hn : n ≤ maxElems) : wr .i64 ((i : Int) + 1) = ((i : Int) + 1) := by
  unfold maxElems at hn
  rw [wr64 (by omega) (by omega)]

theorem eq_all (σ : AHeap) (l : List T) (g : Nat) (caps : List SV) (p : T → Bool) (hp : Tests g caps p l) (hm : l.length ≤ maxElems) :
    lim TyD 35 [.one (.lst (l.map T.cells)), .one (.func g caps)] σ = some (.one (.bool (l.all p)), σ) := by
  refine lim_eq (TyD_prim rfl) ((TyD_code _).trans codeAll) rfl ?_
  unfold BodyP
  simp (maxDischargeDepth := 99) [cAll]
  refine endsi_range l.length (fun i fr τ => Keeps σ τ ∧ fr.length = 18 ∧ getSlot fr 1 = .one (.func g caps) ∧ getSlot fr 7 = .one (.lst (l.map T.cells)) ∧ getSlot fr 8 = .one (.int .i64 l.length) ∧ getSlot fr 9 = .one (.int .i64 i) ∧ (l.drop i).all p = l.all p) ?_ ?_ ?_
  · simp
  · rintro i fr τ hlt ⟨hk, hlen, f1, f7, f8, f9, hall⟩
    have hw := wr_next hlt hm
    have ht := hp l[i] (List.getElem_mem hlt)
    rw [List.drop_eq_getElem_cons hlt, List.all_cons] at hall
    cases hb : p l[i] with
    | true =>
      rw [hb, Bool.true_and] at hall
      simp (maxDischargeDepth := 99) [-List.all_eq_true, cAll_0, hlen, f1, f7, f8, f9, hlt, ht, hb, hw, hall, hk, hk.1]
    | false =>
      rw [hb, Bool.false_and] at hall
      simp (maxDischargeDepth := 99) [-List.all_eq_true, cAll_0, hlen, f1, f7, f8, f9, hlt, ht, hb, ← hall, hk, hk.1]
  · rintro fr τ ⟨hk, hlen, f1, f7, f8, f9, hall⟩
    rw [List.drop_length] at hall
    simp (maxDischargeDepth := 99) [-List.all_eq_true, cAll_0, hlen, f8, f9, ← hall, hk]

/-! ### strings in lists -/
/-- A slice of strings: one that nobody writes, or one's own. -/
def StrSl (σ : AHeap) (s : AV) (l : List (List UInt8)) : Prop := s = .one (.lst (l.map fun x => [.str x])) ∨ ∃ id cap, s = .one (.slice id 0 1 l.length cap) ∧ σ.get id = some ⟨l.map SV.str, .own⟩
theorem StrSl.keeps {σ τ : AHeap} {s : AV} {l : List (List UInt8)} (h : StrSl σ s l) (hk : Keeps σ τ) : StrSl τ s l := by
  rcases h with h | ⟨id, cap, h1, h2⟩
  · exact .inl h
  · exact .inr ⟨id, cap, h1, by rw [hk.2 id (AHeap.get_lt h2), h2]⟩
def idxS (x : List UInt8) : Nat → List (List UInt8) → Int
  | _, [] => -1
  | i, y :: l => if x = y then i else idxS x (i + 1) l
theorem idxS_neg (x : List UInt8) : ∀ (l : List (List UInt8)) (i : Nat), decide (0 ≤ idxS x i l) = decide (x ∈ l)
  | [], i => by simp [idxS]
  | y :: l, i => by
    by_cases h : x = y
    · subst h; simp [idxS]
    · simp [idxS, h, idxS_neg x l (i + 1)]
theorem eq_idxS (σ : AHeap) (s : AV) (l : List (List UInt8)) (x : List UInt8) (h : StrSl σ s l) (hm : l.length ≤ maxElems) :
    lim TyD 45 [s, .one (.str x)] σ = some (.one (.int .i64 (idxS x 0 l)), σ) := by
  refine lim_eq (TyD_prim rfl) ((TyD_code _).trans codeIdxS) rfl ?_
  unfold BodyP
  rcases h with hs | ⟨id, cap, hs, hg⟩
  all_goals
    simp (maxDischargeDepth := 99) [cIdxS, hs]
    refine endsi_range l.length (fun i fr τ => τ = σ ∧ fr.length = 19 ∧ getSlot fr 0 = s ∧ getSlot fr 1 = .one (.str x) ∧ getSlot fr 7 = .one (.int .i64 l.length) ∧ getSlot fr 8 = .one (.int .i64 i) ∧ idxS x i (l.drop i) = idxS x 0 l) ?_ ?_ ?_
    · simp [hs]
    · rintro i fr τ hlt ⟨rfl, hlen, f0, f1, f7, f8, hall⟩
      have hw := wr_next hlt hm
      rw [List.drop_eq_getElem_cons hlt] at hall
      by_cases hb : x = l[i]
      · simp [idxS, ← hb] at hall
        first
          | simp (maxDischargeDepth := 99) [cIdxS_0, hlen, f0, f1, f7, f8, hs, hg, hlt, sbin, beqL_iff, ← hb, ← hall]
          | simp (maxDischargeDepth := 99) [cIdxS_0, hlen, f0, f1, f7, f8, hs, hlt, sbin, beqL_iff, ← hb, ← hall]
      · simp [idxS, hb] at hall
        first
          | simp (maxDischargeDepth := 99) [cIdxS_0, hlen, f0, f1, f7, f8, hs, hg, hlt, sbin, beqL_iff, hb, hw, hall]
          | simp (maxDischargeDepth := 99) [cIdxS_0, hlen, f0, f1, f7, f8, hs, hlt, sbin, beqL_iff, hb, hw, hall]
    · rintro fr τ ⟨rfl, hlen, f0, f1, f7, f8, hall⟩
      rw [List.drop_length] at hall
      simp (maxDischargeDepth := 99) [cIdxS_0, hlen, f7, f8, ← hall, idxS]
theorem eq_contS (σ : AHeap) (s : AV) (l : List (List UInt8)) (x : List UInt8) (h : StrSl σ s l) (hm : l.length ≤ maxElems) :
    lim TyD 31 [s, .one (.str x)] σ = some (.one (.bool (decide (x ∈ l))), σ) := by
  refine lim_eq (TyD_prim rfl) ((TyD_code _).trans codeContS) rfl ?_
  unfold BodyP
  have := eq_idxS σ s l x h hm
  simp (maxDischargeDepth := 99) [cContS, this, idxS_neg]
end Go.Proofs.YtkolhfpofmpijaaDoor.Ab

/- Names: schema.Name, tree.id, tree.name; texts that are valid. -/
namespace Go.Proofs.YtkolhfpofmpijaaDoor.Ab
open Go
set_option maxRecDepth 20000
set_option maxHeartbeats 4000000
set_option linter.unusedSimpArgs false

def chOk (i : Nat) (c : UInt8) : Bool := decide ((c.toNat : Int) = 95) || (decide (97 ≤ (c.toNat : Int)) && decide ((c.toNat : Int) ≤ 122)) || (decide (65 ≤ (c.toNat : Int)) && decide ((c.toNat : Int) ≤ 90)) || (decide (0 < (i : Int)) && (decide (48 ≤ (c.toNat : Int)) && decide ((c.toNat : Int) ≤ 57)))
def chsOk : Nat → List UInt8 → Bool
  | _, [] => true
  | i, c :: l => chOk i c && chsOk (i + 1) l
def nameB (s : List UInt8) : Bool := chsOk 0 s && (decide (1 ≤ s.length) && decide (s.length ≤ 64))

theorem byte_int (c : UInt8) (n : Nat) : (((c.toNat : Nat) : Int) = (n : Int)) = (c.toNat = n) := by simp only [Int.natCast_inj]

theorem eq_sname (σ : AHeap) (s : List UInt8) (hm : s.length ≤ maxElems) : lim TyD 46 [.one (.str s)] σ = some (.one (.bool (nameB s)), σ) := by
  refine lim_eq (TyD_prim rfl) ((TyD_code _).trans codeSName) rfl ?_
  unfold BodyP
  obtain ⟨τ0, hτ⟩ : ∃ τ0, τ0 = σ.alloc ⟨s.map byteCell, .own⟩ := ⟨_, rfl⟩
  have hk0 : Keeps σ τ0 := by rw [hτ]; simp
  have hg : τ0.get σ.size = some ⟨s.map byteCell, .own⟩ := by rw [hτ]; simp
  simp (maxDischargeDepth := 99) [cSName, ← hτ]
  refine endsi_range s.length (fun i fr τ => τ = τ0 ∧ fr.length = 52 ∧ getSlot fr 0 = .one (.str s) ∧ getSlot fr 6 = .one (.slice σ.size 0 1 s.length none) ∧ getSlot fr 7 = .one (.int .i64 s.length) ∧ getSlot fr 8 = .one (.int .i64 i) ∧ chsOk i (s.drop i) = chsOk 0 s) ?_ ?_ ?_
  · simp
  · rintro i fr τ hlt ⟨rfl, hlen, f0, f6, f7, f8, hall⟩
    have hw := wr_next hlt hm
    rw [List.drop_eq_getElem_cons hlt] at hall
    simp only [chsOk] at hall
    have hld : partA (s.map byteCell) none i = some (.one (.int .u8 s[i].toNat)) := by simp [hlt, byteCell]
    generalize s[i] = c at hall hld
    by_cases h1 : (c.toNat : Int) = 95
    · simp [chOk, h1] at hall
      simp (maxDischargeDepth := 99) [-partA, cSName_0, hlen, f0, f6, f7, f8, hlt, hg, hld, hw, hall, hk0, h1]
    · by_cases h2 : 97 ≤ (c.toNat : Int)
      · by_cases h3 : (c.toNat : Int) ≤ 122
        · simp [chOk, h1, h2, h3] at hall
          simp (maxDischargeDepth := 99) [-partA, cSName_0, hlen, f0, f6, f7, f8, hlt, hg, hld, hw, hall, hk0, h1, h2, h3]
        · have h4 : 65 ≤ (c.toNat : Int) := by omega
          have h5 : ¬ (c.toNat : Int) ≤ 90 := by omega
          rcases (show (0 < (i : Int) ∧ 0 < i) ∨ (¬ 0 < (i : Int) ∧ ¬ 0 < i) by omega) with ⟨hi, hi'⟩ | ⟨hi, hi'⟩
          · by_cases h6 : 48 ≤ (c.toNat : Int)
            · by_cases h7 : (c.toNat : Int) ≤ 57
              · simp [chOk, h1, h2, h3, h4, h5, hi, hi', h6, h7] at hall
                simp (maxDischargeDepth := 99) [-partA, cSName_0, hlen, f0, f6, f7, f8, hlt, hg, hld, hw, hall, hk0, h1, h2, h3, h4, h5, hi, hi', h6, h7]
              · simp [chOk, h1, h2, h3, h4, h5, hi, hi', h6, h7] at hall
                simp (maxDischargeDepth := 99) [-partA, cSName_0, hlen, f0, f6, f7, f8, hlt, hg, hld, nameB, hall, hk0, h1, h2, h3, h4, h5, hi, hi', h6, h7]
            · simp [chOk, h1, h2, h3, h4, h5, hi, hi', h6] at hall
              simp (maxDischargeDepth := 99) [-partA, cSName_0, hlen, f0, f6, f7, f8, hlt, hg, hld, nameB, hall, hk0, h1, h2, h3, h4, h5, hi, hi', h6]
          · simp [chOk, h1, h2, h3, h4, h5, hi, hi'] at hall
            simp (maxDischargeDepth := 99) [-partA, cSName_0, hlen, f0, f6, f7, f8, hlt, hg, hld, nameB, hall, hk0, h1, h2, h3, h4, h5, hi, hi']
      · by_cases h4 : 65 ≤ (c.toNat : Int)
        · by_cases h5 : (c.toNat : Int) ≤ 90
          · simp [chOk, h1, h2, h4, h5] at hall
            simp (maxDischargeDepth := 99) [-partA, cSName_0, hlen, f0, f6, f7, f8, hlt, hg, hld, hw, hall, hk0, h1, h2, h4, h5]
          · have h9 := h5
            rcases (show (0 < (i : Int) ∧ 0 < i) ∨ (¬ 0 < (i : Int) ∧ ¬ 0 < i) by omega) with ⟨hi, hi'⟩ | ⟨hi, hi'⟩
            · by_cases h6 : 48 ≤ (c.toNat : Int)
              · by_cases h7 : (c.toNat : Int) ≤ 57
                · simp [chOk, h1, h2, h4, h5, hi, hi', h6, h7] at hall
                  simp (maxDischargeDepth := 99) [-partA, cSName_0, hlen, f0, f6, f7, f8, hlt, hg, hld, hw, hall, hk0, h1, h2, h4, h5, hi, hi', h6, h7]
                · simp [chOk, h1, h2, h4, h5, hi, hi', h6, h7] at hall
                  simp (maxDischargeDepth := 99) [-partA, cSName_0, hlen, f0, f6, f7, f8, hlt, hg, hld, nameB, hall, hk0, h1, h2, h4, h5, hi, hi', h6, h7]
              · simp [chOk, h1, h2, h4, h5, hi, hi', h6] at hall
                simp (maxDischargeDepth := 99) [-partA, cSName_0, hlen, f0, f6, f7, f8, hlt, hg, hld, nameB, hall, hk0, h1, h2, h4, h5, hi, hi', h6]
            · simp [chOk, h1, h2, h4, h5, hi, hi'] at hall
              simp (maxDischargeDepth := 99) [-partA, cSName_0, hlen, f0, f6, f7, f8, hlt, hg, hld, nameB, hall, hk0, h1, h2, h4, h5, hi, hi']
        · have h9 := h4
          rcases (show (0 < (i : Int) ∧ 0 < i) ∨ (¬ 0 < (i : Int) ∧ ¬ 0 < i) by omega) with ⟨hi, hi'⟩ | ⟨hi, hi'⟩
          · by_cases h6 : 48 ≤ (c.toNat : Int)
            · by_cases h7 : (c.toNat : Int) ≤ 57
              · simp [chOk, h1, h2, h4, hi, hi', h6, h7] at hall
                simp (maxDischargeDepth := 99) [-partA, cSName_0, hlen, f0, f6, f7, f8, hlt, hg, hld, hw, hall, hk0, h1, h2, h4, hi, hi', h6, h7]
              · simp [chOk, h1, h2, h4, hi, hi', h6, h7] at hall
                simp (maxDischargeDepth := 99) [-partA, cSName_0, hlen, f0, f6, f7, f8, hlt, hg, hld, nameB, hall, hk0, h1, h2, h4, hi, hi', h6, h7]
            · simp [chOk, h1, h2, h4, hi, hi', h6] at hall
              simp (maxDischargeDepth := 99) [-partA, cSName_0, hlen, f0, f6, f7, f8, hlt, hg, hld, nameB, hall, hk0, h1, h2, h4, hi, hi', h6]
          · simp [chOk, h1, h2, h4, hi, hi'] at hall
            simp (maxDischargeDepth := 99) [-partA, cSName_0, hlen, f0, f6, f7, f8, hlt, hg, hld, nameB, hall, hk0, h1, h2, h4, hi, hi']
  · rintro fr τ ⟨rfl, hlen, f0, f6, f7, f8, hall⟩
    rw [List.drop_length] at hall
    unfold nameB
    rw [← hall]
    by_cases h1 : 1 ≤ s.length
    · have h1' : (1 : Int) ≤ (s.length : Int) := by omega
      by_cases h2 : s.length ≤ 64
      · have h2' : (s.length : Int) ≤ 64 := by omega
        simp (maxDischargeDepth := 99) [cSName_0, hlen, f0, f7, f8, chsOk, h1, h1', h2, h2', hk0]
      · have h2' : ¬ (s.length : Int) ≤ 64 := by omega
        simp (maxDischargeDepth := 99) [cSName_0, hlen, f0, f7, f8, chsOk, h1, h1', h2, h2', hk0]
    · have h1' : ¬ (1 : Int) ≤ (s.length : Int) := by omega
      simp (maxDischargeDepth := 99) [cSName_0, hlen, f0, f7, f8, chsOk, h1, h1', hk0]
end Go.Proofs.YtkolhfpofmpijaaDoor.Ab

/- Leaves: words, tree.id, tree.name, tree.leaf, value.Check. -/
namespace Go.Proofs.YtkolhfpofmpijaaDoor.Ab
open Go
set_option maxRecDepth 20000
set_option maxHeartbeats 4000000
set_option linter.unusedSimpArgs false

/-! ### words -/
def wordText : List UInt8 := match cWords with
  | .mk _ _ (.seq _ (.seq (.region (⟨_, .call _ [.const (.one (.str s))], _⟩ :: _)) _)) => s
  | _ => []
def wcode (s : List UInt8) : AFunc := AFunc.mk 2 [(AResult.tmp 0)] (ACode.seq (ACode.region [(AOper.mk (some 0) (AOp.mov (AOpd.const (AV.one SV.nilSlice))) none)]) (ACode.seq (ACode.region [(AOper.mk (some 1) (AOp.call (AOpd.const (AV.one (SV.func 66 []))) [(AOpd.const (AV.one (SV.str s)))]) none), (AOper.mk (some 0) (AOp.mov (AOpd.tmp 1)) none)]) ACode.ret))
theorem codeWords' : codeOf 47 = some (wcode wordText) := codeWords
def words : List (List UInt8) := Lib.fields wordText
theorem wordText_ascii : asciiB wordText = true := by kernel_rfl
theorem wordText_len : wordText.length ≤ 1000000000 := Nat.le_of_ble_eq_true (by kernel_rfl)
theorem words_len : words.length ≤ maxElems := Nat.le_trans (Nat.le_of_ble_eq_true (m := 1000) (by kernel_rfl)) (by unfold maxElems; omega)
theorem strs_lo (n : Nat) : ∀ l : List (List UInt8), loL n (l.map SV.str) = true
  | [] => rfl
  | x :: l => by simp [strs_lo n l]
theorem strs_chunks : ∀ l : List (List UInt8), chunks 1 l.length (l.map SV.str) = l.map fun x => [.str x]
  | [] => rfl
  | x :: l => by simp [chunks, strs_chunks l]
theorem eq_words (σ : AHeap) : lim TyD 47 [] σ = some (.one (.lst (words.map fun x => [.str x])), σ) := by
  refine lim_eq (TyD_prim rfl) ((TyD_code _).trans codeWords') rfl ?_
  unfold BodyP
  have h := lim_fields σ wordText wordText_ascii wordText_len
  unfold words
  generalize wordText = s at h ⊢
  have h2 : List.take (Lib.fields s).length (List.map SV.str (Lib.fields s)) = List.map SV.str (Lib.fields s) := List.take_of_length_le (by simp)
  simp (maxDischargeDepth := 99) [wcode, h, h2, strs_lo, strs_chunks]

/-! ### names -/
theorem chsOk_ascii : ∀ (l : List UInt8) (i : Nat), chsOk i l = true → asciiB l = true
  | [], i, _ => rfl
  | c :: l, i, h => by
    simp only [chsOk, Bool.and_eq_true] at h
    have h2 := chsOk_ascii l (i + 1) h.2
    have h1 := h.1
    unfold asciiB at h2 ⊢
    rw [List.all_cons, h2, Bool.and_true, Nat.blt_eq]
    simp only [chOk, Bool.or_eq_true, Bool.and_eq_true, decide_eq_true_eq] at h1
    omega
theorem nameB_ok {s : List UInt8} (h : nameB s = true) : asciiB s = true ∧ s.length ≤ 64 := by
  simp only [nameB, Bool.and_eq_true, decide_eq_true_eq] at h
  exact ⟨chsOk_ascii _ _ h.1, h.2.2⟩
def idB (s : List UInt8) : Bool := nameB s && !decide (low s ∈ words)
theorem eq_id (σ : AHeap) (s : List UInt8) (hm : s.length ≤ maxElems) : lim TyD 34 [.one (.str s)] σ = some (.one (.bool (idB s)), σ) := by
  refine lim_eq (TyD_prim rfl) ((TyD_code _).trans codeId) rfl ?_
  unfold BodyP idB
  have h1 := eq_sname σ s hm
  have h2 := eq_words σ
  cases hb : nameB s with
  | true =>
    obtain ⟨ha, hl⟩ := nameB_ok hb
    have h3 := lim_lower σ s ha (by omega)
    have h4 := eq_contS σ (.one (.lst (words.map fun x => [.str x]))) words (low s) (.inl rfl) words_len
    generalize words = ws at h2 h4
    rw [hb] at h1
    simp (maxDischargeDepth := 99) [cId, h1, h2, h3, h4]
  | false =>
    rw [hb] at h1
    simp (maxDischargeDepth := 99) [cId, h1]

def nameT (t : T) : Bool := decide (t.kind = 15) && (idB t.text && (decide (t.n = 0) && decide ((t.kids.length : Int) = 0)))
theorem eq_name (σ : AHeap) (t : T) (hm : t.size ≤ maxElems) : lim TyD 37 [.agg t.cells] σ = some (.one (.bool (nameT t)), σ) := by
  refine lim_eq (TyD_prim rfl) ((TyD_code _).trans codeName) rfl ?_
  unfold BodyP nameT
  have h1 := fun σ => eq_id σ t.text (Nat.le_trans (Nat.le_of_lt t.text_size) hm)
  rw [T.cells_eq]
  by_cases h : t.kind = 15
  · cases hb : idB t.text with
    | true =>
      by_cases h2 : t.n = 0
      · simp (maxDischargeDepth := 99) [cName, h, h1, hb, h2, sbin]
      · simp (maxDischargeDepth := 99) [cName, h, h1, hb, h2, sbin]
    | false => simp (maxDischargeDepth := 99) [cName, h, h1, hb, sbin]
  · simp (maxDischargeDepth := 99) [cName, h, sbin]
end Go.Proofs.YtkolhfpofmpijaaDoor.Ab

/- value.Check at texts, tree.leaf, tree.expr. -/
namespace Go.Proofs.YtkolhfpofmpijaaDoor.Ab
open Go
set_option maxRecDepth 20000
set_option maxHeartbeats 4000000
set_option linter.unusedSimpArgs false

def textB (s : List UInt8) : Bool := decide ((s.length : Int) ≤ 1024) && Lib.validD s
theorem eq_check (σ : AHeap) (s : List UInt8) (hm : s.length ≤ maxElems) : lim TyD 44 [.agg [.int .i64 4, .int .i64 0, .str s]] σ = some (.one (.int .i64 (if textB s = true then 0 else 1)), σ) := by
  refine lim_eq (TyD_prim rfl) ((TyD_code _).trans codeVCheck) rfl ?_
  unfold BodyP textB
  have h1 := fun σ => lim_valid σ s (by unfold maxElems at hm; omega)
  by_cases h : (s.length : Int) ≤ 1024
  · have h' : s.length ≤ 1024 := by omega
    cases hb : Lib.validD s with
    | true => simp (maxDischargeDepth := 99) [cVCheck, h, h', h1, hb, sbin]
    | false => simp (maxDischargeDepth := 99) [cVCheck, h, h', h1, hb, sbin]
  · have h' : ¬ s.length ≤ 1024 := by omega
    simp (maxDischargeDepth := 99) [cVCheck, h, h', sbin]

def leafB (t : T) : Bool :=
  if t.kind = 1 then bareB t 0
  else if t.kind = 2 then decide (t.text = []) && ((decide (0 ≤ t.n) && decide (t.n ≤ 1)) && decide ((t.kids.length : Int) = 0))
  else if t.kind = 3 ∨ t.kind = 4 then decide (t.text = []) && (decide (0 ≤ t.n) && decide ((t.kids.length : Int) = 0))
  else if t.kind = 5 then decide (t.n = 0) && (decide ((t.kids.length : Int) = 0) && textB t.text)
  else if t.kind = 6 then idB t.text && (decide (t.n = 0) && (decide ((t.kids.length : Int) ≤ 1) && t.kids.all nameT))
  else false

theorem tests_name (l : List T) (hm : T.sizeL l ≤ maxElems) : Tests 37 [] nameT l := fun t ht σ => eq_name σ t (Nat.le_trans (T.size_mem ht) hm)
theorem T.kids_sizeL (t : T) : T.sizeL t.kids < t.size := by
  cases t with
  | mk k s n a l => simp only [T.kids, T.size]; omega

theorem eq_leaf (σ : AHeap) (t : T) (hm : t.size ≤ maxElems) : lim TyD 30 [.agg t.cells] σ = some (.one (.bool (leafB t)), σ) := by
  refine lim_eq (TyD_prim rfl) ((TyD_code _).trans codeLeaf) rfl ?_
  unfold BodyP leafB
  have hT := t.text_size
  have hK := t.kids_size
  have hS := t.kids_sizeL
  have hid := fun σ => eq_id σ t.text (by omega)
  have hck := fun σ => eq_check σ t.text (by omega)
  have hall := fun σ => eq_all σ t.kids 37 [] nameT (tests_name t.kids (by omega)) (by omega)
  have hbare := fun σ k => eq_bare σ t k
  rw [T.cells_eq] at hbare ⊢
  by_cases k1 : t.kind = 1
  · simp (maxDischargeDepth := 99) [k1, sbin] at hbare
    simp (maxDischargeDepth := 99) [cLeaf, k1, hbare, sbin]
  by_cases k2 : t.kind = 2
  · by_cases h1 : t.text = []
    · by_cases h2 : 0 ≤ t.n
      · by_cases h3 : t.n ≤ 1
        · simp (maxDischargeDepth := 99) [cLeaf, k1, k2, h1, h2, h3, eq_within, sbin]
        · simp (maxDischargeDepth := 99) [cLeaf, k1, k2, h1, h2, h3, eq_within, sbin]
      · simp (maxDischargeDepth := 99) [cLeaf, k1, k2, h1, h2, eq_within, sbin]
    · simp (maxDischargeDepth := 99) [cLeaf, k1, k2, h1, beqL_iff, sbin]
  by_cases k34 : t.kind = 3 ∨ t.kind = 4
  · have hk : t.kind = 3 ∨ (¬ t.kind = 3 ∧ t.kind = 4) := by omega
    rcases hk with k3 | ⟨k3, k4⟩
    · by_cases h1 : t.text = []
      · by_cases h2 : 0 ≤ t.n
        · simp (maxDischargeDepth := 99) [cLeaf, k3, h1, h2, sbin]
        · simp (maxDischargeDepth := 99) [cLeaf, k3, h1, h2, sbin]
      · simp (maxDischargeDepth := 99) [cLeaf, k3, h1, beqL_iff, sbin]
    · by_cases h1 : t.text = []
      · by_cases h2 : 0 ≤ t.n
        · simp (maxDischargeDepth := 99) [cLeaf, k4, h1, h2, sbin]
        · simp (maxDischargeDepth := 99) [cLeaf, k4, h1, h2, sbin]
      · simp (maxDischargeDepth := 99) [cLeaf, k4, h1, beqL_iff, sbin]
  have k3 : ¬ t.kind = 3 := fun h => k34 (.inl h)
  have k4 : ¬ t.kind = 4 := fun h => k34 (.inr h)
  by_cases k5 : t.kind = 5
  · by_cases h1 : t.n = 0
    · by_cases h2 : t.kids = []
      · cases hb : textB t.text with
        | true =>
          rw [hb] at hck
          simp (maxDischargeDepth := 99) [cLeaf, k5, h1, h2, hck, hb, sbin]
        | false =>
          rw [hb] at hck
          simp (maxDischargeDepth := 99) [cLeaf, k5, h1, h2, hck, hb, sbin]
      · have h3 : ¬ (t.kids.length : Int) = 0 := fun h => h2 (List.eq_nil_of_length_eq_zero (by omega))
        simp (maxDischargeDepth := 99) [cLeaf, k5, h1, h2, h3, sbin]
    · simp (maxDischargeDepth := 99) [cLeaf, k5, h1, sbin]
  by_cases k6 : t.kind = 6
  · cases hb : idB t.text with
    | true =>
      by_cases h1 : t.n = 0
      · by_cases h2 : (t.kids.length : Int) ≤ 1
        · have h2' : t.kids.length ≤ 1 := by omega
          simp (maxDischargeDepth := 99) [-List.all_eq_true, cLeaf, k6, h1, h2, h2', hid, hb, sbin] at hall ⊢
          simp (maxDischargeDepth := 99) [-List.all_eq_true, hall]
        · have h2' : ¬ t.kids.length ≤ 1 := by omega
          simp (maxDischargeDepth := 99) [-List.all_eq_true, cLeaf, k6, h1, h2, h2', hid, hb, sbin]
      · simp (maxDischargeDepth := 99) [cLeaf, k6, h1, hid, hb, sbin]
    | false => simp (maxDischargeDepth := 99) [cLeaf, k6, hid, hb, sbin]
  simp (maxDischargeDepth := 99) [cLeaf, k1, k2, k3, k4, k5, k6, sbin]
end Go.Proofs.YtkolhfpofmpijaaDoor.Ab

/- tree.expr. -/
namespace Go.Proofs.YtkolhfpofmpijaaDoor.Ab
open Go
set_option maxRecDepth 20000
set_option maxHeartbeats 8000000
set_option linter.unusedSimpArgs false

def opNames : List (List UInt8) := [bytes [43], bytes [45], bytes [42], bytes [47], bytes [37], bytes [61], bytes [33, 61], bytes [60], bytes [60, 61], bytes [62], bytes [62, 61], bytes [97, 110, 100], bytes [111, 114]]
def aggNames : List (List UInt8) := [bytes [99, 111, 117, 110, 116], bytes [115, 117, 109], bytes [97, 118, 103], bytes [109, 105, 110], bytes [109, 97, 120], bytes [102, 105, 114, 115, 116], bytes [108, 97, 115, 116]]

def opB (s : List UInt8) : Bool := decide (s ∈ opNames)
def aggB (s : List UInt8) : Bool := decide (s ∈ aggNames)

def headB (t : T) : Bool :=
  if t.kind = 7 then (decide (t.text = bytes [45]) || decide (t.text = bytes [110, 111, 116])) && (decide (t.n = 0) && decide ((t.kids.length : Int) = 1))
  else if t.kind = 8 then opB t.text && (decide (t.n = 0) && decide ((t.kids.length : Int) = 2))
  else if t.kind = 9 then decide (t.text = []) && ((decide (0 ≤ t.n) && decide (t.n ≤ 1)) && decide ((t.kids.length : Int) = 1))
  else if t.kind = 10 then bareB t 3
  else if t.kind = 11 then bareB t t.kids.length && decide (2 ≤ (t.kids.length : Int))
  else if t.kind = 12 then bareB t t.kids.length && (decide (3 ≤ (t.kids.length : Int)) && decide ((t.kids.length : Int).tmod 2 = 1))
  else if t.kind = 13 then idB t.text && decide (t.n = 0)
  else if t.kind = 14 then aggB t.text && ((decide (0 ≤ t.n) && decide (t.n ≤ 1)) && (decide ((t.kids.length : Int) = 1) || (decide ((t.kids.length : Int) = 0) && (decide (t.text = bytes [99, 111, 117, 110, 116]) && decide (t.n = 0)))))
  else false

mutual
def exprB : T → Bool
  | .mk k s n a l => leafB (.mk k s n a l) || (headB (.mk k s n a l) && exprL l)
def exprL : List T → Bool
  | [] => true
  | t :: l => exprB t && exprL l
end
theorem exprL_all : ∀ l, exprL l = l.all exprB
  | [] => rfl
  | t :: l => by rw [exprL, List.all_cons, exprL_all l]
theorem exprB_eq (t : T) : exprB t = (leafB t || (headB t && t.kids.all exprB)) := by
  cases t with
  | mk k s n a l => rw [exprB, exprL_all]; rfl

/-- A slice of strings of one's own is searched. -/
theorem eq_contOwn (l : List (List UInt8)) (hm : l.length ≤ maxElems) (σ : AHeap) (id n : Nat) (cap : Option Nat) (x : List UInt8) (hn : n = l.length) (h : σ.get id = some ⟨l.map SV.str, .own⟩) :
    lim TyD 31 [.one (.slice id 0 1 n cap), .one (.str x)] σ = some (.one (.bool (decide (x ∈ l))), σ) := by
  subst hn
  exact eq_contS σ _ l x (.inr ⟨id, cap, rfl, h⟩) hm

theorem eq_ops (σ : AHeap) (id : Nat) (cap : Option Nat) (x : List UInt8) (h : σ.get id = some ⟨[.str (bytes [43]), .str (bytes [45]), .str (bytes [42]), .str (bytes [47]), .str (bytes [37]), .str (bytes [61]), .str (bytes [33, 61]), .str (bytes [60]), .str (bytes [60, 61]), .str (bytes [62]), .str (bytes [62, 61]), .str (bytes [97, 110, 100]), .str (bytes [111, 114])], .own⟩) :
    lim TyD 31 [.one (.slice id 0 1 13 cap), .one (.str x)] σ = some (.one (.bool (opB x)), σ) := eq_contOwn opNames (by decide) σ id 13 cap x rfl h
theorem eq_ags (σ : AHeap) (id : Nat) (cap : Option Nat) (x : List UInt8) (h : σ.get id = some ⟨[.str (bytes [99, 111, 117, 110, 116]), .str (bytes [115, 117, 109]), .str (bytes [97, 118, 103]), .str (bytes [109, 105, 110]), .str (bytes [109, 97, 120]), .str (bytes [102, 105, 114, 115, 116]), .str (bytes [108, 97, 115, 116])], .own⟩) :
    lim TyD 31 [.one (.slice id 0 1 7 cap), .one (.str x)] σ = some (.one (.bool (aggB x)), σ) := eq_contOwn aggNames (by decide) σ id 7 cap x rfl h

theorem eq_expr (N : Nat) : ∀ (t : T), t.size ≤ N → N ≤ maxElems → ∀ σ, lim TyD 23 [.agg t.cells] σ = some (.one (.bool (exprB t)), σ) := by
  induction N with
  | zero => intro t h; have := t.size_pos; omega
  | succ N ih =>
    intro t ht hN σ
    refine lim_eq (TyD_prim rfl) ((TyD_code _).trans codeExpr) rfl ?_
    unfold BodyP
    rw [exprB_eq]
    have hT := t.text_size
    have hK := t.kids_size
    have hS := t.kids_sizeL
    have hleaf := fun σ => eq_leaf σ t (by omega)
    have hid := fun σ => eq_id σ t.text (by omega)
    have hbare := fun σ k => eq_bare σ t k
    have hops := eq_ops
    have hags := eq_ags
    have htests : Tests 23 [] exprB t.kids := fun u hu σ => ih u (by have := t.size_kid hu; omega) (by omega) σ
    have hall := fun σ => eq_all σ t.kids 23 [] exprB htests (by omega)
    cases hl : leafB t with
    | true =>
      rw [hl] at hleaf
      rw [T.cells_eq] at hleaf ⊢
      simp (maxDischargeDepth := 99) [cExpr, hleaf, sbin]
    | false =>
      rw [hl] at hleaf
      rw [T.cells_eq] at hleaf hbare ⊢
      unfold headB
      unfold bareB at hbare ⊢
      rw [Bool.false_or]
      have hpos : 0 ≤ (t.kids.length : Int) := by omega
      have hcl : t.kids.length ≤ maxElems := by omega
      clear htests ih hT hS hl hK
      generalize t.kids.all exprB = r at hall ⊢
      generalize t.kids = l at *
      generalize t.kind = k at *
      generalize t.text = s at *
      generalize t.n = n at *
      generalize t.at_ = a at *
      clear t ht hN
      by_cases k7 : k = 7
      · subst k7
        by_cases h1 : s = bytes [45]
        · subst h1
          by_cases h2 : n = 0
          · subst h2
            by_cases h3 : (l.length : Int) = 1
            · simp (maxDischargeDepth := 99) [cExpr, hleaf, hall, hbare, hid, hops, hags, sbin, beqL_iff, eq_within, h3]
            · simp (maxDischargeDepth := 99) [cExpr, hleaf, hall, hbare, hid, hops, hags, sbin, beqL_iff, eq_within, h3]
          · simp (maxDischargeDepth := 99) [cExpr, hleaf, hall, hbare, hid, hops, hags, sbin, beqL_iff, eq_within, h2]
        by_cases h1' : s = bytes [110, 111, 116]
        · subst h1'
          by_cases h2 : n = 0
          · subst h2
            by_cases h3 : (l.length : Int) = 1
            · simp (maxDischargeDepth := 99) [cExpr, hleaf, hall, hbare, hid, hops, hags, sbin, beqL_iff, eq_within, h1, h3]
            · simp (maxDischargeDepth := 99) [cExpr, hleaf, hall, hbare, hid, hops, hags, sbin, beqL_iff, eq_within, h1, h3]
          · simp (maxDischargeDepth := 99) [cExpr, hleaf, hall, hbare, hid, hops, hags, sbin, beqL_iff, eq_within, h1, h2]
        simp (maxDischargeDepth := 99) [cExpr, hleaf, hall, hbare, hid, hops, hags, sbin, beqL_iff, eq_within, h1, h1']
      by_cases k8 : k = 8
      · subst k8
        cases h1 : opB s with
        | false =>
          simp (maxDischargeDepth := 99) [cExpr, hleaf, hall, hbare, hid, hops, hags, sbin, beqL_iff, eq_within, h1]
        | true =>
          by_cases h2 : n = 0
          · subst h2
            by_cases h3 : (l.length : Int) = 2
            · simp (maxDischargeDepth := 99) [cExpr, hleaf, hall, hbare, hid, hops, hags, sbin, beqL_iff, eq_within, h1, h3]
            · simp (maxDischargeDepth := 99) [cExpr, hleaf, hall, hbare, hid, hops, hags, sbin, beqL_iff, eq_within, h1, h3]
          · simp (maxDischargeDepth := 99) [cExpr, hleaf, hall, hbare, hid, hops, hags, sbin, beqL_iff, eq_within, h1, h2]
      by_cases k9 : k = 9
      · subst k9
        by_cases h1 : s = []
        · subst h1
          by_cases h2 : 0 ≤ n
          · by_cases h3 : n ≤ 1
            · by_cases h4 : (l.length : Int) = 1
              · simp (maxDischargeDepth := 99) [cExpr, hleaf, hall, hbare, hid, hops, hags, sbin, beqL_iff, eq_within, h2, h3, h4]
              · simp (maxDischargeDepth := 99) [cExpr, hleaf, hall, hbare, hid, hops, hags, sbin, beqL_iff, eq_within, h2, h3, h4]
            · simp (maxDischargeDepth := 99) [cExpr, hleaf, hall, hbare, hid, hops, hags, sbin, beqL_iff, eq_within, h2, h3]
          · simp (maxDischargeDepth := 99) [cExpr, hleaf, hall, hbare, hid, hops, hags, sbin, beqL_iff, eq_within, h2]
        · simp (maxDischargeDepth := 99) [cExpr, hleaf, hall, hbare, hid, hops, hags, sbin, beqL_iff, eq_within, h1]
      by_cases k10 : k = 10
      · subst k10
        by_cases h1 : s = []
        · subst h1
          by_cases h2 : n = 0
          · subst h2
            by_cases h3 : (l.length : Int) = 3
            · simp (maxDischargeDepth := 99) [cExpr, hleaf, hall, hbare, hid, hops, hags, sbin, beqL_iff, eq_within, h3]
            · simp (maxDischargeDepth := 99) [cExpr, hleaf, hall, hbare, hid, hops, hags, sbin, beqL_iff, eq_within, h3]
          · simp (maxDischargeDepth := 99) [cExpr, hleaf, hall, hbare, hid, hops, hags, sbin, beqL_iff, eq_within, h2]
        · simp (maxDischargeDepth := 99) [cExpr, hleaf, hall, hbare, hid, hops, hags, sbin, beqL_iff, eq_within, h1]
      by_cases k11 : k = 11
      · subst k11
        by_cases h1 : s = []
        · subst h1
          by_cases h2 : n = 0
          · subst h2
            by_cases h3 : 2 ≤ (l.length : Int)
            · simp (maxDischargeDepth := 99) [cExpr, hleaf, hall, hbare, hid, hops, hags, sbin, beqL_iff, eq_within, h3]
            · simp (maxDischargeDepth := 99) [cExpr, hleaf, hall, hbare, hid, hops, hags, sbin, beqL_iff, eq_within, h3]
          · simp (maxDischargeDepth := 99) [cExpr, hleaf, hall, hbare, hid, hops, hags, sbin, beqL_iff, eq_within, h2]
        · simp (maxDischargeDepth := 99) [cExpr, hleaf, hall, hbare, hid, hops, hags, sbin, beqL_iff, eq_within, h1]
      by_cases k12 : k = 12
      · subst k12
        by_cases h1 : s = []
        · subst h1
          by_cases h2 : n = 0
          · subst h2
            by_cases h3 : 3 ≤ (l.length : Int)
            · by_cases h4 : (l.length : Int).tmod 2 = 1
              · simp (maxDischargeDepth := 99) [cExpr, hleaf, hall, hbare, hid, hops, hags, sbin, beqL_iff, eq_within, h3, h4]
              · simp (maxDischargeDepth := 99) [cExpr, hleaf, hall, hbare, hid, hops, hags, sbin, beqL_iff, eq_within, h3, h4]
            · simp (maxDischargeDepth := 99) [cExpr, hleaf, hall, hbare, hid, hops, hags, sbin, beqL_iff, eq_within, h3]
          · simp (maxDischargeDepth := 99) [cExpr, hleaf, hall, hbare, hid, hops, hags, sbin, beqL_iff, eq_within, h2]
        · simp (maxDischargeDepth := 99) [cExpr, hleaf, hall, hbare, hid, hops, hags, sbin, beqL_iff, eq_within, h1]
      by_cases k13 : k = 13
      · subst k13
        cases h1 : idB s with
        | false =>
          simp (maxDischargeDepth := 99) [cExpr, hleaf, hall, hbare, hid, hops, hags, sbin, beqL_iff, eq_within, h1]
        | true =>
          by_cases h2 : n = 0
          · subst h2
            simp (maxDischargeDepth := 99) [cExpr, hleaf, hall, hbare, hid, hops, hags, sbin, beqL_iff, eq_within, h1]
          · simp (maxDischargeDepth := 99) [cExpr, hleaf, hall, hbare, hid, hops, hags, sbin, beqL_iff, eq_within, h1, h2]
      by_cases k14 : k = 14
      · subst k14
        cases h1 : aggB s with
        | false =>
          simp (maxDischargeDepth := 99) [cExpr, hleaf, hall, hbare, hid, hops, hags, sbin, beqL_iff, eq_within, h1]
        | true =>
          by_cases h2 : 0 ≤ n
          · by_cases h3 : n ≤ 1
            · by_cases h4 : (l.length : Int) = 1
              · simp (maxDischargeDepth := 99) [cExpr, hleaf, hall, hbare, hid, hops, hags, sbin, beqL_iff, eq_within, h1, h2, h3, h4]
              by_cases h5 : (l.length : Int) = 0
              · have h5' : l = [] := List.eq_nil_of_length_eq_zero (by omega)
                subst h5'
                clear h4 h5
                simp only [List.map_nil] at hleaf hall
                by_cases h6 : s = bytes [99, 111, 117, 110, 116]
                · subst h6
                  by_cases h7 : n = 0
                  · subst h7
                    simp (maxDischargeDepth := 99) [cExpr, hleaf, hall, hbare, hid, hops, hags, sbin, beqL_iff, eq_within, h1, h2, h3]
                  · simp (maxDischargeDepth := 99) [cExpr, hleaf, hall, hbare, hid, hops, hags, sbin, beqL_iff, eq_within, h1, h2, h3, h7]
                · simp (maxDischargeDepth := 99) [cExpr, hleaf, hall, hbare, hid, hops, hags, sbin, beqL_iff, eq_within, h1, h2, h3, h6]
              have h5' : ¬ l = [] := fun h => h5 (by rw [h]; rfl)
              simp (maxDischargeDepth := 99) [cExpr, hleaf, hall, hbare, hid, hops, hags, sbin, beqL_iff, eq_within, h1, h2, h3, h4, h5, h5']
            · simp (maxDischargeDepth := 99) [cExpr, hleaf, hall, hbare, hid, hops, hags, sbin, beqL_iff, eq_within, h1, h2, h3]
          · simp (maxDischargeDepth := 99) [cExpr, hleaf, hall, hbare, hid, hops, hags, sbin, beqL_iff, eq_within, h1, h2]
      simp (maxDischargeDepth := 99) [cExpr, hleaf, hall, k7, k8, k9, k10, k11, k12, k13, k14, sbin]
end Go.Proofs.YtkolhfpofmpijaaDoor.Ab
