/- Several of my texts in one: Ty10, Ty11, Ty12, Ty13, Ty14, Ty15. -/
import Derived.Test.YtdpfgdmlmkpmbaaGreatDoorTyB
import Derived.Test.YtdpfgdmlmkpmbaaGreatDoorTyC
import Derived.Test.YtdpfgdmlmkpmbaaGreatDoorLitTy
/- The checker of types: small functions, and the expressions' leaves. -/
namespace Go.Proofs.YtdpfgdmlmkpmbaaGreatDoor.Ab
open Go
set_option maxRecDepth 20000
set_option maxHeartbeats 8000000
set_option linter.unusedSimpArgs false

def maybeB (k want : Int) : Bool := decide (k = 0) || decide (k = want)
def numberB (k : Int) : Bool := decide (k = 0) || (decide (k = 2) || decide (k = 3))
def widerI (a b : Int) : Int := if a = 3 ∨ b = 3 then 3 else if a = 2 ∨ b = 2 then 2 else 0
def comparedB (a b : Int) : Bool := (numberB a && numberB b) || ((maybeB a 1 && maybeB b 1) || (maybeB a 4 && maybeB b 4))
theorem eq_maybe (σ : AHeap) (k w : Int) : lim TyD 87 [.one (.int .i64 k), .one (.int .i64 w)] σ = some (.one (.bool (maybeB k w)), σ) := by
  refine lim_eq (TyD_prim rfl) ((TyD_code _).trans codeMaybe) rfl ?_
  unfold BodyP maybeB
  by_cases h : k = 0
  · simp (maxDischargeDepth := 99) [cMaybe, h]
  · simp (maxDischargeDepth := 99) [cMaybe, h]
theorem eq_number (σ : AHeap) (k : Int) : lim TyD 88 [.one (.int .i64 k)] σ = some (.one (.bool (numberB k)), σ) := by
  refine lim_eq (TyD_prim rfl) ((TyD_code _).trans codeNumber) rfl ?_
  unfold BodyP numberB
  by_cases h : k = 0
  · simp (maxDischargeDepth := 99) [cNumber, h]
  · by_cases h2 : k = 2
    · simp (maxDischargeDepth := 99) [cNumber, h2]
    · simp (maxDischargeDepth := 99) [cNumber, h, h2]
theorem eq_wider (σ : AHeap) (a b : Int) : lim TyD 144 [.one (.int .i64 a), .one (.int .i64 b)] σ = some (.one (.int .i64 (widerI a b)), σ) := by
  refine lim_eq (TyD_prim rfl) ((TyD_code _).trans codeWider) rfl ?_
  unfold BodyP widerI
  by_cases h : a = 3
  · simp (maxDischargeDepth := 99) [cWider, h]
  · by_cases h2 : b = 3
    · simp (maxDischargeDepth := 99) [cWider, h, h2]
    · by_cases h3 : a = 2
      · simp (maxDischargeDepth := 99) [cWider, h2, h3]
      · by_cases h4 : b = 2
        · simp (maxDischargeDepth := 99) [cWider, h, h3, h4]
        · simp (maxDischargeDepth := 99) [cWider, h, h2, h3, h4]
theorem eq_compared (σ : AHeap) (a b : Int) : lim TyD 145 [.one (.int .i64 a), .one (.int .i64 b)] σ = some (.one (.bool (comparedB a b)), σ) := by
  refine lim_eq (TyD_prim rfl) ((TyD_code _).trans codeCompared) rfl ?_
  unfold BodyP comparedB
  cases h1 : numberB a with
  | true =>
    cases h2 : numberB b with
    | true => simp (maxDischargeDepth := 99) [cCompared, eq_number, eq_maybe, h1, h2]
    | false =>
      cases h3 : maybeB a 1 with
      | true =>
        cases h4 : maybeB b 1 with
        | true => simp (maxDischargeDepth := 99) [cCompared, eq_number, eq_maybe, h1, h2, h3, h4]
        | false =>
          cases h5 : maybeB a 4 with
          | true => simp (maxDischargeDepth := 99) [cCompared, eq_number, eq_maybe, h1, h2, h3, h4, h5]
          | false => simp (maxDischargeDepth := 99) [cCompared, eq_number, eq_maybe, h1, h2, h3, h4, h5]
      | false =>
        cases h5 : maybeB a 4 with
        | true => simp (maxDischargeDepth := 99) [cCompared, eq_number, eq_maybe, h1, h2, h3, h5]
        | false => simp (maxDischargeDepth := 99) [cCompared, eq_number, eq_maybe, h1, h2, h3, h5]
  | false =>
    cases h3 : maybeB a 1 with
    | true =>
      cases h4 : maybeB b 1 with
      | true => simp (maxDischargeDepth := 99) [cCompared, eq_number, eq_maybe, h1, h3, h4]
      | false =>
        cases h5 : maybeB a 4 with
        | true => simp (maxDischargeDepth := 99) [cCompared, eq_number, eq_maybe, h1, h3, h4, h5]
        | false => simp (maxDischargeDepth := 99) [cCompared, eq_number, eq_maybe, h1, h3, h4, h5]
    | false =>
      cases h5 : maybeB a 4 with
      | true => simp (maxDischargeDepth := 99) [cCompared, eq_number, eq_maybe, h1, h3, h5]
      | false => simp (maxDischargeDepth := 99) [cCompared, eq_number, eq_maybe, h1, h3, h5]

/-! ### the checker's state -/
structure CSt where
  err : Int
  at' : Int
structure Chk where
  fs : AV
  F : List Fld
  aggs : Bool
def chkCells (s : SV) (aggs : Bool) (st : CSt) : List SV := [s, .bool aggs, .int .i64 st.err, .int .i64 st.at']
/-- The checker stands at id. -/
def ChkAt (σ : AHeap) (id : Nat) (s : SV) (aggs : Bool) (st : CSt) : Prop := σ.get id = some ⟨chkCells s aggs st, .own⟩
/-- What a method of the checker leaves. -/
def Left (σ : AHeap) (id : Nat) (s : SV) (aggs : Bool) (st : CSt) (σ' : AHeap) : Prop := σ'.size = σ.size ∧ ChkAt σ' id s aggs st ∧ ∀ j, j < σ.size → j ≠ id → σ'.get j = σ.get j
def failS (st : CSt) (e : Int) (n : T) : CSt := if st.err = 0 then ⟨e, n.at_⟩ else st

/-- The same, of a heap that has more. -/
def Keep1 (σ : AHeap) (id : Nat) (s : SV) (aggs : Bool) (st : CSt) (σ' : AHeap) : Prop := σ.size ≤ σ'.size ∧ ChkAt σ' id s aggs st ∧ ∀ j, j < σ.size → j ≠ id → σ'.get j = σ.get j
theorem Keep1.gc {σ : AHeap} {id : Nat} {s : SV} {aggs : Bool} {st : CSt} {σ' : AHeap} (h : Keep1 σ id s aggs st σ') (hlt : id < σ.size) (hs : s.lo σ.size = true) : GcOk σ σ' ∧ Left σ id s aggs st (σ'.cutTo σ.size) := by
  obtain ⟨h1, h2, h3⟩ := h
  have hc : ∀ j, j < σ.size → (σ'.cutTo σ.size).get j = σ'.get j := fun j hj => cutTo_get hj h1
  refine ⟨fun j hj => ?_, rfl, by unfold ChkAt at h2 ⊢; rw [hc id hlt, h2], fun j hj hn => by rw [hc j hj, h3 j hj hn]⟩
  by_cases e : j = id
  · subst e
    exact .inr ⟨_, h2, by simp [chkCells, hs]⟩
  · exact .inl (h3 j hj e)
theorem eq_fail (σ : AHeap) (id : Nat) (s : SV) (aggs : Bool) (st : CSt) (e : Int) (n : T) (h : ChkAt σ id s aggs st) (hs : s.lo σ.size = true) :
    ∃ σ', lim TyD 89 [.one (.ptr id 0), .one (.int .i64 e), .agg n.cells] σ = some (.one (.int .i64 0), σ') ∧ Left σ id s aggs (failS st e n) σ' := by
  have key : OptP (lim TyD 89 [.one (.ptr id 0), .one (.int .i64 e), .agg n.cells] σ) (fun _ v σ' => v = .one (.int .i64 0) ∧ Left σ id s aggs (failS st e n) σ') := by
    refine lim_gc (TyD_prim rfl) ((TyD_code _).trans codeCkFail) rfl ?_
    unfold BodyP
    unfold ChkAt chkCells at h
    rw [T.cells_eq]
    have hlt := AHeap.get_lt h
    have hne : ¬ id = σ.size := by omega
    have hne' : ¬ σ.size = id := by omega
    have hlt1 : id < σ.size + 1 := by omega
    by_cases he : st.err = 0
    · simp (maxDischargeDepth := 99) [cCkFail, h, he, hlt, hne]
      refine endsi_draw ?_
      simp (maxDischargeDepth := 99) [h, he, hlt, hlt1, hne, hne']
      refine Keep1.gc ⟨by simp, ?_, ?_⟩ hlt hs
      · simp [ChkAt, chkCells, failS, he, hlt1]
      · intro j hj hn
        have : ¬ j = σ.size := by omega
        simp [hlt1, hn, this]
    · simp (maxDischargeDepth := 99) [cCkFail, h, he, hlt, hne]
      refine Keep1.gc ⟨by simp, ?_, ?_⟩ hlt hs
      · simp [ChkAt, chkCells, failS, he, hne, h]
      · intro j hj hn
        have : ¬ j = σ.size := by omega
        simp [this]
  obtain ⟨v, σ', h1, rfl, h2⟩ := key
  exact ⟨σ', h1, h2⟩
end Go.Proofs.YtdpfgdmlmkpmbaaGreatDoor.Ab

/- The checker's columns. -/
namespace Go.Proofs.YtdpfgdmlmkpmbaaGreatDoor.Ab
open Go
set_option maxRecDepth 20000
set_option maxHeartbeats 8000000
set_option linter.unusedSimpArgs false

/-- The fields that the checker at id looks into. -/
def FldAt (σ : AHeap) (id : Nat) (s : SV) (F : List Fld) : Prop := s = .lst (F.map Fld.cells) ∨ (∃ q pre, s = .slice q pre.length 3 F.length none ∧ q ≠ id ∧ σ.get q = some ⟨pre ++ fcells F, .own⟩) ∨ (s = .nilSlice ∧ F = [])
theorem FldAt.sl {σ : AHeap} {id : Nat} {s : SV} {F : List Fld} (h : FldAt σ id s F) : FldSl σ (.one s) F := by
  rcases h with rfl | ⟨q, pre, rfl, _, hg⟩ | ⟨rfl, rfl⟩
  · exact .inl rfl
  · exact .inr (.inl ⟨q, pre, rfl, hg⟩)
  · exact .inr (.inr ⟨rfl, rfl⟩)
theorem FldAt.lo {σ : AHeap} {id : Nat} {s : SV} {F : List Fld} (h : FldAt σ id s F) : s.lo σ.size = true := by
  rcases h with rfl | ⟨q, pre, rfl, _, hg⟩ | ⟨rfl, rfl⟩
  · simp
  · have := AHeap.get_lt hg
    simp [this]
  · rfl
theorem FldAt.keep {σ σ' : AHeap} {id : Nat} {s : SV} {F : List Fld} (h : FldAt σ id s F) (hk : ∀ j, j < σ.size → j ≠ id → σ'.get j = σ.get j) : FldAt σ' id s F := by
  rcases h with rfl | ⟨q, pre, rfl, hn, hg⟩ | ⟨rfl, rfl⟩
  · exact .inl rfl
  · exact .inr (.inl ⟨q, pre, rfl, hn, by rw [hk q (AHeap.get_lt hg) hn, hg]⟩)
  · exact .inr (.inr ⟨rfl, rfl⟩)
theorem Left.fld {σ σ' : AHeap} {id : Nat} {s : SV} {aggs : Bool} {st : CSt} {F : List Fld} (hl : Left σ id s aggs st σ') (h : FldAt σ id s F) : FldAt σ' id s F := h.keep hl.2.2
theorem fcells_kind {F : List Fld} {i : Nat} (h : i < F.length) (pre : List SV) : partA (pre ++ fcells F) none (pre.length + i * 3 + 2) = some (.one (.int .i64 F[i].kind)) := by
  have := part_cell (e := 3) (rows := F.map Fld.cells) (by simp) (pre := pre) (suf := []) (i := i) (j := 2) (by rw [List.length_map]; exact h) (by decide)
  rw [List.append_nil] at this
  rw [fcells, this, rowAt, List.getD, List.getElem?_map, List.getElem?_eq_getElem h]
  rfl

def colStream (t : T) : List UInt8 := match t.kids with
  | [] => []
  | k :: _ => k.text
def kindAt (F : List Fld) (i : Int) : Int := match F[i.toNat]? with
  | some f => f.kind
  | none => 0
def colS (F : List Fld) (t : T) (st : CSt) : Int × CSt :=
  if (resolveF F (colStream t) t.text).2 = 0 then (kindAt F (resolveF F (colStream t) t.text).1, st) else (0, failS st (resolveF F (colStream t) t.text).2 t)
theorem resolveF_ok {F : List Fld} {a b : List UInt8} : (resolveF F a b = (0, 110)) ∨ ∃ k, k < F.length ∧ resolveF F a b = ((k : Int), 0) := by
  unfold resolveF
  rcases idxF_range (fldB a b) F 0 with h | ⟨k, hk, h⟩
  · rw [h]; exact .inl (resAt_none _ _)
  · rw [Nat.zero_add] at h
    rw [h]
    cases hb : (F.drop (k + 1)).any (fldB a b) with
    | true => exact .inl (resAt_two hb)
    | false => exact .inr ⟨k, hk, resAt_one hb⟩

theorem eq_col (σ : AHeap) (id : Nat) (s : SV) (F : List Fld) (aggs : Bool) (st : CSt) (n : T) (h : ChkAt σ id s aggs st) (hF : FldAt σ id s F) (hm : F.length ≤ maxElems) :
    ∃ σ', lim TyD 86 [.one (.ptr id 0), .agg n.cells] σ = some (.one (.int .i64 (colS F n st).1), σ') ∧ Left σ id s aggs (colS F n st).2 σ' := by
  have key : OptP (lim TyD 86 [.one (.ptr id 0), .agg n.cells] σ) (fun _ v σ' => v = .one (.int .i64 (colS F n st).1) ∧ Left σ id s aggs (colS F n st).2 σ') := by
    refine lim_gc (TyD_prim rfl) ((TyD_code _).trans codeCkCol) rfl ?_
    unfold BodyP
    have hlt := AHeap.get_lt h
    have hne : ¬ id = σ.size := by omega
    have hne' : ¬ σ.size = id := by omega
    have hs := hF.lo
    obtain ⟨τ, hτ⟩ : ∃ τ, τ = σ.alloc ⟨n.cells, .own⟩ := ⟨_, rfl⟩
    have hsz : τ.size = σ.size + 1 := by rw [hτ]; simp
    have hk : ∀ j, j < σ.size → τ.get j = σ.get j := fun j hj => by rw [hτ, AHeap.get_alloc, if_neg (by omega)]
    have hc : ChkAt τ id s aggs st := by unfold ChkAt at h ⊢; rw [hk id hlt, h]
    have hFτ : FldAt τ id s F := hF.keep fun j hj _ => hk j hj
    have hr := eq_resolve TyD_fbase τ (.one s) F (colStream n) n.text hFτ.sl hm
    have hgn : τ.get σ.size = some ⟨n.cells, .own⟩ := by rw [hτ]; simp
    have hcg := hc
    unfold ChkAt chkCells at hcg
    have hfin : ∀ {st' : CSt} {σ' : AHeap}, Left τ id s aggs st' σ' → GcOk σ σ' ∧ Left σ id s aggs st' (σ'.cutTo σ.size) := fun hl =>
      Keep1.gc ⟨by rw [hl.1, hsz]; omega, hl.2.1, fun j hj hn => by rw [hl.2.2 j (by omega) hn, hk j hj]⟩ hlt hs
    have hfail := fun e => eq_fail τ id s aggs st e n hc hFτ.lo
    unfold colS
    rcases resolveF_ok (F := F) (a := colStream n) (b := n.text) with h0 | ⟨k, hk2, h0⟩
    · obtain ⟨σ2, hf, hl⟩ := hfail 110
      rw [h0] at hr ⊢
      have hend := hfin hl
      rw [T.cells_eq] at hf hgn hτ ⊢
      simp only [if_neg (show ¬ (110 : Int) = 0 by decide)]
      cases hkids : n.kids with
      | nil =>
        rw [hkids, List.map_nil] at hf hgn hτ
        simp only [colStream, hkids] at hr
        simp (maxDischargeDepth := 99) [cCkCol, ← hτ, hgn, hcg, hr, hf, hend]
      | cons u l =>
        rw [hkids, List.map_cons, T.cells_eq u] at hf hgn hτ
        simp only [colStream, hkids] at hr
        rw [List.map_cons, T.cells_eq u]
        simp (maxDischargeDepth := 99) [cCkCol, ← hτ, hgn, hcg, hr, hf, hend]
    · have hend := hfin (st' := st) (σ' := τ) ⟨rfl, hc, fun _ _ _ => rfl⟩
      have hkind : kindAt F (k : Int) = F[k].kind := by unfold kindAt; rw [Int.toNat_natCast, List.getElem?_eq_getElem hk2]
      rw [h0] at hr ⊢
      simp only [if_pos, hkind]
      rw [T.cells_eq] at hgn hτ ⊢
      rcases hFτ with hs1 | ⟨q, pre, hs1, hq, hg⟩ | ⟨_, rfl⟩
      rotate_left 2
      · simp at hk2
      all_goals
        cases hkids : n.kids with
        | nil =>
          rw [hkids, List.map_nil] at hgn hτ
          simp only [colStream, hkids] at hr
          first
          | (have hpt := fcells_kind hk2 pre
             rw [hs1] at hr hcg
             simp (maxDischargeDepth := 99) at hpt
             simp (maxDischargeDepth := 99) [ cCkCol, ← hτ, hgn, hcg, hr, hg, hk2, hpt, hend])
          | (rw [hs1] at hr hcg
             simp (maxDischargeDepth := 99) [cCkCol, ← hτ, hgn, hcg, hr, hk2, Fld.cells, hend])
        | cons u l =>
          rw [hkids, List.map_cons, T.cells_eq u] at hgn hτ
          simp only [colStream, hkids] at hr
          rw [List.map_cons, T.cells_eq u]
          first
          | (have hpt := fcells_kind hk2 pre
             rw [hs1] at hr hcg
             simp (maxDischargeDepth := 99) at hpt
             simp (maxDischargeDepth := 99) [ cCkCol, ← hτ, hgn, hcg, hr, hg, hk2, hpt, hend])
          | (rw [hs1] at hr hcg
             simp (maxDischargeDepth := 99) [cCkCol, ← hτ, hgn, hcg, hr, hk2, Fld.cells, hend])
  obtain ⟨v, σ', h1, rfl, h2⟩ := key
  exact ⟨σ', h1, h2⟩
end Go.Proofs.YtdpfgdmlmkpmbaaGreatDoor.Ab

/- What a checker says of an expression. -/
namespace Go.Proofs.YtdpfgdmlmkpmbaaGreatDoor.Ab
open Go
set_option maxRecDepth 20000
set_option maxHeartbeats 8000000
set_option linter.unusedSimpArgs false

/-! ### what it says -/
def arithB (s : List UInt8) : Bool := decide (s = bytes [43]) || (decide (s = bytes [45]) || (decide (s = bytes [42]) || (decide (s = bytes [47]) || decide (s = bytes [37]))))
def logicB (s : List UInt8) : Bool := decide (s = bytes [97, 110, 100]) || decide (s = bytes [111, 114])
def binS (n : T) (a b : Int) (st : CSt) : Int × CSt :=
  if arithB n.text = true then (if (numberB a && numberB b) = true then (widerI a b, st) else (0, failS st 111 n))
  else if logicB n.text = true then (if (maybeB a 1 && maybeB b 1) = true then (1, st) else (0, failS st 111 n))
  else if comparedB a b = true then (1, st) else (0, failS st 111 n)
def unS (n : T) (k : Int) (st : CSt) : Int × CSt :=
  if (decide (n.text = bytes [110, 111, 116]) && maybeB k 1) = true then (1, st)
  else if (decide (n.text = bytes [45]) && numberB k) = true then (k, st) else (0, failS st 111 n)
def amongS (n : T) (ks : List Int) (st : CSt) : Int × CSt := match ks with
  | [] => (1, st)
  | k :: l => if l.all (comparedB k) = true then (1, st) else (0, failS st 111 n)
def alikeI : Int → List Int → Option Int
  | out, [] => some out
  | out, k :: l => if k = 0 ∨ k = out then alikeI out l else if out = 0 then alikeI k l else if (numberB k && numberB out) = true then alikeI 3 l else none
def casesS (n : T) (ks : List Int) (st : CSt) : Int × CSt := match alikeI 0 ks with
  | some k => (k, st)
  | none => (0, failS st 111 n)
def aggS (n : T) (kind : Int) (st : CSt) : Int × CSt :=
  if n.text = bytes [99, 111, 117, 110, 116] then (2, st)
  else if n.text = bytes [115, 117, 109] ∨ n.text = bytes [97, 118, 103] then
    (if kind = 2 ∨ kind = 3 then (if n.text = bytes [97, 118, 103] then (3, st) else (kind, st)) else (0, failS st 111 n))
  else if kind = 0 then (0, failS st 111 n) else (kind, st)

/-! ### what is kept while a method runs -/
theorem ChkAt.lt {σ : AHeap} {id : Nat} {s : SV} {aggs : Bool} {st : CSt} (h : ChkAt σ id s aggs st) : id < σ.size := AHeap.get_lt h
theorem ChkAt.alloc {σ : AHeap} {id : Nat} {s : SV} {aggs : Bool} {st : CSt} (h : ChkAt σ id s aggs st) (o : AObj) : ChkAt (σ.alloc o) id s aggs st := by
  have := h.lt
  unfold ChkAt at h ⊢
  rw [AHeap.get_alloc, if_neg (by omega), h]
theorem FldAt.alloc {σ : AHeap} {id : Nat} {s : SV} {F : List Fld} (h : FldAt σ id s F) (o : AObj) : FldAt (σ.alloc o) id s F := h.keep fun j hj _ => by rw [AHeap.get_alloc, if_neg (by omega)]
theorem Left.trans {σ τ υ : AHeap} {id : Nat} {s : SV} {aggs : Bool} {a b : CSt} (h : Left σ id s aggs a τ) (k : Left τ id s aggs b υ) : Left σ id s aggs b υ :=
  ⟨k.1.trans h.1, k.2.1, fun j hj hn => by rw [k.2.2 j (by rw [h.1]; exact hj) hn, h.2.2 j hj hn]⟩
theorem Left.refl {σ : AHeap} {id : Nat} {s : SV} {aggs : Bool} {st : CSt} (h : ChkAt σ id s aggs st) : Left σ id s aggs st σ := ⟨rfl, h, fun _ _ _ => rfl⟩
/-- Behind a box of its own. -/
theorem Left.fin {σ σ' : AHeap} {id : Nat} {s : SV} {aggs : Bool} {st st' : CSt} {F : List Fld} {o : AObj} (h : ChkAt σ id s aggs st) (hF : FldAt σ id s F) (hl : Left (σ.alloc o) id s aggs st' σ') :
    GcOk σ σ' ∧ Left σ id s aggs st' (σ'.cutTo σ.size) :=
  Keep1.gc ⟨by rw [hl.1]; simp, hl.2.1, fun j hj hn => by rw [hl.2.2 j (by simp; omega) hn, AHeap.get_alloc, if_neg (by omega)]⟩ h.lt hF.lo
theorem Left.box {σ σ' : AHeap} {id : Nat} {s : SV} {aggs : Bool} {st st' : CSt} {o : AObj} (h : ChkAt σ id s aggs st) (hl : Left (σ.alloc o) id s aggs st' σ') : σ'.get σ.size = some o := by
  have := h.lt
  rw [hl.2.2 σ.size (by simp) (by omega), AHeap.get_alloc, if_pos rfl]

theorem eq_binary (σ : AHeap) (id : Nat) (s : SV) (F : List Fld) (aggs : Bool) (st : CSt) (n u v : T) (ins : Bool) (a b : Int) (st1 st2 : CSt) (h : ChkAt σ id s aggs st) (hF : FldAt σ id s F)
    (hk : n.kids = [u, v])
    (hu : ∀ τ, ChkAt τ id s aggs st → FldAt τ id s F → ∃ σ', lim TyD 34 [.one (.ptr id 0), .agg u.cells, .one (.bool ins)] τ = some (.one (.int .i64 a), σ') ∧ Left τ id s aggs st1 σ')
    (hv : ∀ τ, ChkAt τ id s aggs st1 → FldAt τ id s F → ∃ σ', lim TyD 34 [.one (.ptr id 0), .agg v.cells, .one (.bool ins)] τ = some (.one (.int .i64 b), σ') ∧ Left τ id s aggs st2 σ') :
    ∃ σ', lim TyD 90 [.one (.ptr id 0), .agg n.cells, .one (.bool ins)] σ = some (.one (.int .i64 (binS n a b st2).1), σ') ∧ Left σ id s aggs (binS n a b st2).2 σ' := by
  have key : OptP (lim TyD 90 [.one (.ptr id 0), .agg n.cells, .one (.bool ins)] σ) (fun _ x σ' => x = .one (.int .i64 (binS n a b st2).1) ∧ Left σ id s aggs (binS n a b st2).2 σ') := by
    refine lim_gc (TyD_prim rfl) ((TyD_code _).trans codeCkBin) rfl ?_
    unfold BodyP
    obtain ⟨τ, hτ⟩ : ∃ τ, τ = σ.alloc ⟨n.cells, .own⟩ := ⟨_, rfl⟩
    have hc : ChkAt τ id s aggs st := by rw [hτ]; exact h.alloc _
    have hFτ : FldAt τ id s F := by rw [hτ]; exact hF.alloc _
    have hlt := h.lt
    obtain ⟨τ1, hu1, l1⟩ := hu τ hc hFτ
    obtain ⟨τ2, hv1, l2⟩ := hv τ1 l1.2.1 (l1.fld hFτ)
    have l12 := l1.trans l2
    obtain ⟨τ3, hf, l3⟩ := eq_fail τ2 id s aggs st2 111 n l2.2.1 (l12.fld hFτ).lo
    have e2 : GcOk σ τ2 ∧ Left σ id s aggs st2 (τ2.cutTo σ.size) := Left.fin (o := ⟨n.cells, .own⟩) h hF (by rw [← hτ]; exact l12)
    have e3 : GcOk σ τ3 ∧ Left σ id s aggs (failS st2 111 n) (τ3.cutTo σ.size) := Left.fin (o := ⟨n.cells, .own⟩) h hF (by rw [← hτ]; exact l12.trans l3)
    have g0 : τ.get σ.size = some ⟨n.cells, .own⟩ := by rw [hτ]; simp
    have g1 : τ1.get σ.size = some ⟨n.cells, .own⟩ := Left.box h (by rw [← hτ]; exact l1)
    have g2 : τ2.get σ.size = some ⟨n.cells, .own⟩ := Left.box h (by rw [← hτ]; exact l12)
    unfold binS
    rw [T.cells_eq, hk] at hf g0 g1 g2 hτ
    rw [T.cells_eq n, hk]
    clear hu hv hc hFτ l1 l2 l3 l12
    simp only [List.map_cons, List.map_nil, T.cells_eq u, T.cells_eq v] at *
    generalize n.text = tx at *
    have ne0 : ¬ (0 : Int) = 1 := by decide
    by_cases t0 : tx = bytes [43]
    · subst t0
      have hA : arithB (bytes [43]) = true := by decide
      cases b1 : numberB a with
      | false =>
        simp (maxDischargeDepth := 99) [cCkBin, ← hτ]
        refine endsi_draw ?_
        simp (maxDischargeDepth := 99) [cCkBin, ← hτ, g0, g1, g2, hu1, hv1, hf, e2, e3, eq_number, eq_maybe, eq_wider, eq_compared, sbin, beqL_iff, hA, b1]
      | true =>
        cases b2 : numberB b with
        | false =>
          simp (maxDischargeDepth := 99) [cCkBin, ← hτ]
          refine endsi_draw ?_
          simp (maxDischargeDepth := 99) [cCkBin, ← hτ, g0, g1, g2, hu1, hv1, hf, e2, e3, eq_number, eq_maybe, eq_wider, eq_compared, sbin, beqL_iff, hA, b1, b2]
        | true =>
          simp (maxDischargeDepth := 99) [cCkBin, ← hτ]
          refine endsi_draw ?_
          simp (maxDischargeDepth := 99) [cCkBin, ← hτ, g0, g1, g2, hu1, hv1, hf, e2, e3, eq_number, eq_maybe, eq_wider, eq_compared, sbin, beqL_iff, hA, b1, b2]
    by_cases t1 : tx = bytes [45]
    · subst t1
      have hA : arithB (bytes [45]) = true := by decide
      cases b1 : numberB a with
      | false =>
        simp (maxDischargeDepth := 99) [cCkBin, ← hτ]
        refine endsi_draw ?_
        simp (maxDischargeDepth := 99) [cCkBin, ← hτ, g0, g1, g2, hu1, hv1, hf, e2, e3, eq_number, eq_maybe, eq_wider, eq_compared, sbin, beqL_iff, hA, t0, b1]
      | true =>
        cases b2 : numberB b with
        | false =>
          simp (maxDischargeDepth := 99) [cCkBin, ← hτ]
          refine endsi_draw ?_
          simp (maxDischargeDepth := 99) [cCkBin, ← hτ, g0, g1, g2, hu1, hv1, hf, e2, e3, eq_number, eq_maybe, eq_wider, eq_compared, sbin, beqL_iff, hA, t0, b1, b2]
        | true =>
          simp (maxDischargeDepth := 99) [cCkBin, ← hτ]
          refine endsi_draw ?_
          simp (maxDischargeDepth := 99) [cCkBin, ← hτ, g0, g1, g2, hu1, hv1, hf, e2, e3, eq_number, eq_maybe, eq_wider, eq_compared, sbin, beqL_iff, hA, t0, b1, b2]
    by_cases t2 : tx = bytes [42]
    · subst t2
      have hA : arithB (bytes [42]) = true := by decide
      cases b1 : numberB a with
      | false =>
        simp (maxDischargeDepth := 99) [cCkBin, ← hτ]
        refine endsi_draw ?_
        simp (maxDischargeDepth := 99) [cCkBin, ← hτ, g0, g1, g2, hu1, hv1, hf, e2, e3, eq_number, eq_maybe, eq_wider, eq_compared, sbin, beqL_iff, hA, t0, t1, b1]
      | true =>
        cases b2 : numberB b with
        | false =>
          simp (maxDischargeDepth := 99) [cCkBin, ← hτ]
          refine endsi_draw ?_
          simp (maxDischargeDepth := 99) [cCkBin, ← hτ, g0, g1, g2, hu1, hv1, hf, e2, e3, eq_number, eq_maybe, eq_wider, eq_compared, sbin, beqL_iff, hA, t0, t1, b1, b2]
        | true =>
          simp (maxDischargeDepth := 99) [cCkBin, ← hτ]
          refine endsi_draw ?_
          simp (maxDischargeDepth := 99) [cCkBin, ← hτ, g0, g1, g2, hu1, hv1, hf, e2, e3, eq_number, eq_maybe, eq_wider, eq_compared, sbin, beqL_iff, hA, t0, t1, b1, b2]
    by_cases t3 : tx = bytes [47]
    · subst t3
      have hA : arithB (bytes [47]) = true := by decide
      cases b1 : numberB a with
      | false =>
        simp (maxDischargeDepth := 99) [cCkBin, ← hτ]
        refine endsi_draw ?_
        simp (maxDischargeDepth := 99) [cCkBin, ← hτ, g0, g1, g2, hu1, hv1, hf, e2, e3, eq_number, eq_maybe, eq_wider, eq_compared, sbin, beqL_iff, hA, t0, t1, t2, b1]
      | true =>
        cases b2 : numberB b with
        | false =>
          simp (maxDischargeDepth := 99) [cCkBin, ← hτ]
          refine endsi_draw ?_
          simp (maxDischargeDepth := 99) [cCkBin, ← hτ, g0, g1, g2, hu1, hv1, hf, e2, e3, eq_number, eq_maybe, eq_wider, eq_compared, sbin, beqL_iff, hA, t0, t1, t2, b1, b2]
        | true =>
          simp (maxDischargeDepth := 99) [cCkBin, ← hτ]
          refine endsi_draw ?_
          simp (maxDischargeDepth := 99) [cCkBin, ← hτ, g0, g1, g2, hu1, hv1, hf, e2, e3, eq_number, eq_maybe, eq_wider, eq_compared, sbin, beqL_iff, hA, t0, t1, t2, b1, b2]
    by_cases t4 : tx = bytes [37]
    · subst t4
      have hA : arithB (bytes [37]) = true := by decide
      cases b1 : numberB a with
      | false =>
        simp (maxDischargeDepth := 99) [cCkBin, ← hτ]
        refine endsi_draw ?_
        simp (maxDischargeDepth := 99) [cCkBin, ← hτ, g0, g1, g2, hu1, hv1, hf, e2, e3, eq_number, eq_maybe, eq_wider, eq_compared, sbin, beqL_iff, hA, t0, t1, t2, t3, b1]
      | true =>
        cases b2 : numberB b with
        | false =>
          simp (maxDischargeDepth := 99) [cCkBin, ← hτ]
          refine endsi_draw ?_
          simp (maxDischargeDepth := 99) [cCkBin, ← hτ, g0, g1, g2, hu1, hv1, hf, e2, e3, eq_number, eq_maybe, eq_wider, eq_compared, sbin, beqL_iff, hA, t0, t1, t2, t3, b1, b2]
        | true =>
          simp (maxDischargeDepth := 99) [cCkBin, ← hτ]
          refine endsi_draw ?_
          simp (maxDischargeDepth := 99) [cCkBin, ← hτ, g0, g1, g2, hu1, hv1, hf, e2, e3, eq_number, eq_maybe, eq_wider, eq_compared, sbin, beqL_iff, hA, t0, t1, t2, t3, b1, b2]
    by_cases t5 : tx = bytes [97, 110, 100]
    · subst t5
      have hA : arithB (bytes [97, 110, 100]) = false := by decide
      have hL : logicB (bytes [97, 110, 100]) = true := by decide
      cases b1 : maybeB a 1 with
      | false =>
        simp (maxDischargeDepth := 99) [cCkBin, ← hτ]
        refine endsi_draw ?_
        simp (maxDischargeDepth := 99) [cCkBin, ← hτ, g0, g1, g2, hu1, hv1, hf, e2, e3, eq_number, eq_maybe, eq_wider, eq_compared, sbin, beqL_iff, hA, hL, t0, t1, t2, t3, t4, b1]
      | true =>
        cases b2 : maybeB b 1 with
        | false =>
          simp (maxDischargeDepth := 99) [cCkBin, ← hτ]
          refine endsi_draw ?_
          simp (maxDischargeDepth := 99) [cCkBin, ← hτ, g0, g1, g2, hu1, hv1, hf, e2, e3, eq_number, eq_maybe, eq_wider, eq_compared, sbin, beqL_iff, hA, hL, t0, t1, t2, t3, t4, b1, b2]
        | true =>
          simp (maxDischargeDepth := 99) [cCkBin, ← hτ]
          refine endsi_draw ?_
          simp (maxDischargeDepth := 99) [cCkBin, ← hτ, g0, g1, g2, hu1, hv1, hf, e2, e3, eq_number, eq_maybe, eq_wider, eq_compared, sbin, beqL_iff, hA, hL, t0, t1, t2, t3, t4, b1, b2]
    by_cases t6 : tx = bytes [111, 114]
    · subst t6
      have hA : arithB (bytes [111, 114]) = false := by decide
      have hL : logicB (bytes [111, 114]) = true := by decide
      cases b1 : maybeB a 1 with
      | false =>
        simp (maxDischargeDepth := 99) [cCkBin, ← hτ]
        refine endsi_draw ?_
        simp (maxDischargeDepth := 99) [cCkBin, ← hτ, g0, g1, g2, hu1, hv1, hf, e2, e3, eq_number, eq_maybe, eq_wider, eq_compared, sbin, beqL_iff, hA, hL, t0, t1, t2, t3, t4, t5, b1]
      | true =>
        cases b2 : maybeB b 1 with
        | false =>
          simp (maxDischargeDepth := 99) [cCkBin, ← hτ]
          refine endsi_draw ?_
          simp (maxDischargeDepth := 99) [cCkBin, ← hτ, g0, g1, g2, hu1, hv1, hf, e2, e3, eq_number, eq_maybe, eq_wider, eq_compared, sbin, beqL_iff, hA, hL, t0, t1, t2, t3, t4, t5, b1, b2]
        | true =>
          simp (maxDischargeDepth := 99) [cCkBin, ← hτ]
          refine endsi_draw ?_
          simp (maxDischargeDepth := 99) [cCkBin, ← hτ, g0, g1, g2, hu1, hv1, hf, e2, e3, eq_number, eq_maybe, eq_wider, eq_compared, sbin, beqL_iff, hA, hL, t0, t1, t2, t3, t4, t5, b1, b2]
    have hA : arithB tx = false := by simp [arithB, t0, t1, t2, t3, t4]
    have hL : logicB tx = false := by simp [logicB, t5, t6]
    cases b1 : comparedB a b with
    | false =>
      simp (maxDischargeDepth := 99) [cCkBin, ← hτ]
      refine endsi_draw ?_
      simp (maxDischargeDepth := 99) [cCkBin, ← hτ, g0, g1, g2, hu1, hv1, hf, e2, e3, eq_number, eq_maybe, eq_wider, eq_compared, sbin, beqL_iff, hA, hL, b1, t0, t1, t2, t3, t4, t5, t6]
    | true =>
      simp (maxDischargeDepth := 99) [cCkBin, ← hτ]
      refine endsi_draw ?_
      simp (maxDischargeDepth := 99) [cCkBin, ← hτ, g0, g1, g2, hu1, hv1, hf, e2, e3, eq_number, eq_maybe, eq_wider, eq_compared, sbin, beqL_iff, hA, hL, b1, t0, t1, t2, t3, t4, t5, t6]
  obtain ⟨v, σ', h1, rfl, h2⟩ := key
  exact ⟨σ', h1, h2⟩
end Go.Proofs.YtdpfgdmlmkpmbaaGreatDoor.Ab

/- Kinds in lists: slices of ints, funcs.fits, both alike. -/
namespace Go.Proofs.YtdpfgdmlmkpmbaaGreatDoor.Ab
open Go
set_option maxRecDepth 20000
set_option maxHeartbeats 8000000
set_option linter.unusedSimpArgs false

/-- A slice of ints of one's own. -/
def IntSl (σ : AHeap) (s : AV) (l : List Int) : Prop := (s = .one .nilSlice ∧ l = []) ∨ ∃ id cap, s = .one (.slice id 0 1 l.length cap) ∧ σ.get id = some ⟨l.map (SV.int .i64), .own⟩
theorem IntSl.keeps {σ τ : AHeap} {s : AV} {l : List Int} (h : IntSl σ s l) (hk : Keeps σ τ) : IntSl τ s l := by
  rcases h with h | ⟨id, cap, h1, h2⟩
  · exact .inl h
  · exact .inr ⟨id, cap, h1, by rw [hk.2 id (AHeap.get_lt h2), h2]⟩
def idxI (x : Int) : Nat → List Int → Int
  | _, [] => -1
  | i, y :: l => if x = y then i else idxI x (i + 1) l
theorem idxI_neg (x : Int) : ∀ (l : List Int) (i : Nat), decide (0 ≤ idxI x i l) = decide (x ∈ l)
  | [], i => by simp [idxI]
  | y :: l, i => by
    by_cases h : x = y
    · subst h; simp [idxI]
    · simp [idxI, h, idxI_neg x l (i + 1)]
theorem eq_idxI (σ : AHeap) (s : AV) (l : List Int) (x : Int) (h : IntSl σ s l) (hm : l.length ≤ maxElems) :
    lim TyD 196 [s, .one (.int .i64 x)] σ = some (.one (.int .i64 (idxI x 0 l)), σ) := by
  refine lim_eq (TyD_prim rfl) ((TyD_code _).trans codeIdxI) rfl ?_
  unfold BodyP
  rcases h with ⟨hs, rfl⟩ | ⟨id, cap, hs, hg⟩
  · simp (maxDischargeDepth := 99) [cIdxI, hs]
    refine endsi_range 0 (fun i fr τ => τ = σ ∧ fr.length = 19 ∧ getSlot fr 7 = .one (.int .i64 0) ∧ getSlot fr 8 = .one (.int .i64 0)) ?_ ?_ ?_
    · simp
    · intro i fr τ hlt; omega
    · rintro fr τ ⟨rfl, hlen, f7, f8⟩
      simp (maxDischargeDepth := 99) [cIdxI_0, hlen, f7, f8, idxI]
  · simp (maxDischargeDepth := 99) [cIdxI, hs]
    refine endsi_range l.length (fun i fr τ => τ = σ ∧ fr.length = 19 ∧ getSlot fr 0 = s ∧ getSlot fr 1 = .one (.int .i64 x) ∧ getSlot fr 7 = .one (.int .i64 l.length) ∧ getSlot fr 8 = .one (.int .i64 i) ∧ idxI x i (l.drop i) = idxI x 0 l) ?_ ?_ ?_
    · simp [hs]
    · rintro i fr τ hlt ⟨rfl, hlen, f0, f1, f7, f8, hall⟩
      have hw := wr_next hlt hm
      rw [List.drop_eq_getElem_cons hlt] at hall
      by_cases hb : x = l[i]
      · simp [idxI, ← hb] at hall
        simp (maxDischargeDepth := 99) [cIdxI_0, hlen, f0, f1, f7, f8, hs, hg, hlt, ← hb, ← hall]
      · simp [idxI, hb] at hall
        simp (maxDischargeDepth := 99) [cIdxI_0, hlen, f0, f1, f7, f8, hs, hg, hlt, hb, hw, hall]
    · rintro fr τ ⟨rfl, hlen, f0, f1, f7, f8, hall⟩
      rw [List.drop_length] at hall
      simp (maxDischargeDepth := 99) [cIdxI_0, hlen, f7, f8, ← hall, idxI]
theorem eq_contI (σ : AHeap) (s : AV) (l : List Int) (x : Int) (h : IntSl σ s l) (hm : l.length ≤ maxElems) :
    lim TyD 180 [s, .one (.int .i64 x)] σ = some (.one (.bool (decide (x ∈ l))), σ) := by
  refine lim_eq (TyD_prim rfl) ((TyD_code _).trans codeContI) rfl ?_
  unfold BodyP
  have := eq_idxI σ s l x h hm
  simp (maxDischargeDepth := 99) [cContI, this, idxI_neg]
def fitsB (k : Int) (l : List Int) : Bool := decide (k = 0) || decide (k ∈ l)
theorem eq_fits (σ : AHeap) (s : AV) (l : List Int) (k : Int) (h : IntSl σ s l) (hm : l.length ≤ maxElems) :
    lim TyD 147 [.one (.int .i64 k), s] σ = some (.one (.bool (fitsB k l)), σ) := by
  refine lim_eq (TyD_prim rfl) ((TyD_code _).trans codeFits) rfl ?_
  unfold BodyP fitsB
  have := eq_contI σ s l k h hm
  by_cases hk : k = 0
  · simp (maxDischargeDepth := 99) [cFits, hk]
  · simp (maxDischargeDepth := 99) [cFits, hk, this]
def numF (k : Int) : Bool := fitsB k [2, 3]
def intF (k : Int) : Bool := fitsB k [2]
def textF (k : Int) : Bool := fitsB k [4]
theorem fits_num (σ : AHeap) (id : Nat) (cap : Option Nat) (k : Int) (h : σ.get id = some ⟨[.int .i64 2, .int .i64 3], .own⟩) : lim TyD 147 [.one (.int .i64 k), .one (.slice id 0 1 2 cap)] σ = some (.one (.bool (numF k)), σ) :=
  eq_fits σ _ [2, 3] k (.inr ⟨id, cap, rfl, h⟩) (by decide)
theorem fits_int (σ : AHeap) (id : Nat) (cap : Option Nat) (k : Int) (h : σ.get id = some ⟨[.int .i64 2], .own⟩) : lim TyD 147 [.one (.int .i64 k), .one (.slice id 0 1 1 cap)] σ = some (.one (.bool (intF k)), σ) :=
  eq_fits σ _ [2] k (.inr ⟨id, cap, rfl, h⟩) (by decide)
theorem fits_text (σ : AHeap) (id : Nat) (cap : Option Nat) (k : Int) (h : σ.get id = some ⟨[.int .i64 4], .own⟩) : lim TyD 147 [.one (.int .i64 k), .one (.slice id 0 1 1 cap)] σ = some (.one (.bool (textF k)), σ) :=
  eq_fits σ _ [4] k (.inr ⟨id, cap, rfl, h⟩) (by decide)

/-! ### types.alike -/
theorem eq_alike (σ : AHeap) (s : AV) (l : List Int) (h : IntSl σ s l) (hm : l.length ≤ maxElems) :
    lim TyD 146 [s] σ = some (.tup [.one (.int .i64 ((alikeI 0 l).getD 0)), .one (.bool (alikeI 0 l).isSome)], σ) := by
  refine lim_eq (TyD_prim rfl) ((TyD_code _).trans codeAlike) rfl ?_
  unfold BodyP
  generalize hR : alikeI 0 l = R
  rcases h with ⟨hs, rfl⟩ | ⟨id, cap, hs, hg⟩
  · simp (maxDischargeDepth := 99) [cAlike, hs]
    refine endsi_range 0 (fun i fr τ => τ = σ ∧ fr.length = 34 ∧ getSlot fr 4 = .one (.int .i64 0) ∧ getSlot fr 8 = .one (.int .i64 0) ∧ getSlot fr 9 = .one (.int .i64 0)) ?_ ?_ ?_
    · simp
    · intro i fr τ hlt; omega
    · rintro fr τ ⟨rfl, hlen, f4, f8, f9⟩
      simp [alikeI] at hR
      simp (maxDischargeDepth := 99) [cAlike_0, hlen, f4, f8, f9, ← hR]
  · simp (maxDischargeDepth := 99) [cAlike, hs]
    refine endsi_range l.length (fun i fr τ => τ = σ ∧ fr.length = 34 ∧ getSlot fr 7 = s ∧ getSlot fr 8 = .one (.int .i64 l.length) ∧ getSlot fr 9 = .one (.int .i64 i) ∧ ∃ out, getSlot fr 4 = .one (.int .i64 out) ∧ alikeI out (l.drop i) = R) ?_ ?_ ?_
    · simp [hs, hR]
    · rintro i fr τ hlt ⟨rfl, hlen, f7, f8, f9, out, f4, hall⟩
      have hw := wr_next hlt hm
      rw [List.drop_eq_getElem_cons hlt] at hall
      simp only [alikeI] at hall
      generalize hki : l[i] = k at hall
      by_cases h1 : k = 0
      · rw [if_pos (.inl h1)] at hall
        simp (maxDischargeDepth := 99) [cAlike_0, hlen, f4, f7, f8, f9, hs, hg, hlt, hki, h1, hw, hall]
      · by_cases h2 : k = out
        · rw [if_pos (.inr h2)] at hall
          simp (maxDischargeDepth := 99) [cAlike_0, hlen, f4, f7, f8, f9, hs, hg, hlt, hki, h1, ← h2, hw]
          rw [← h2] at hall
          exact hall
        · rw [if_neg (fun h => h.elim h1 h2)] at hall
          by_cases h3 : out = 0
          · rw [if_pos h3] at hall
            subst h3
            simp (maxDischargeDepth := 99) [cAlike_0, hlen, f4, f7, f8, f9, hs, hg, hlt, hki, h1, h2, hw, hall]
          · rw [if_neg h3] at hall
            cases h4 : numberB k with
            | true =>
              cases h5 : numberB out with
              | true =>
                rw [h4, h5, if_pos (by decide)] at hall
                simp (maxDischargeDepth := 99) [cAlike_0, hlen, f4, f7, f8, f9, hs, hg, hlt, hki, h1, h2, h3, h4, h5, eq_number, hw, hall]
              | false =>
                rw [h4, h5, if_neg (by decide)] at hall
                simp (maxDischargeDepth := 99) [cAlike_0, hlen, f4, f7, f8, f9, hs, hg, hlt, hki, h1, h2, h3, h4, h5, eq_number, ← hall]
            | false =>
              rw [h4, if_neg (by simp)] at hall
              simp (maxDischargeDepth := 99) [cAlike_0, hlen, f4, f7, f8, f9, hs, hg, hlt, hki, h1, h2, h3, h4, eq_number, ← hall]
    · rintro fr τ ⟨rfl, hlen, f7, f8, f9, out, f4, hall⟩
      rw [List.drop_length] at hall
      simp [alikeI] at hall
      simp (maxDischargeDepth := 99) [cAlike_0, hlen, f4, f8, f9, ← hall]
end Go.Proofs.YtdpfgdmlmkpmbaaGreatDoor.Ab

/- funcs.Kind. -/
namespace Go.Proofs.YtdpfgdmlmkpmbaaGreatDoor.Ab
open Go
set_option maxRecDepth 20000
set_option maxHeartbeats 16000000
set_option linter.unusedSimpArgs false

def falS : Int → Bool → Bool → List Int → Int × Bool
  | kind, same, nums, [] => (kind, same || nums)
  | kind, same, nums, k :: l => if k = 0 then falS kind same nums l else falS (mm true kind k) (same && (decide (kind = 0) || decide (kind = k))) (nums && numF k) l
theorem eq_falike (σ : AHeap) (s : AV) (l : List Int) (h : IntSl σ s l) (hm : l.length ≤ maxElems) :
    lim TyD 148 [s] σ = some (.tup [.one (.int .i64 (falS 0 true true l).1), .one (.bool (falS 0 true true l).2)], σ) := by
  refine lim_eq (TyD_prim rfl) ((TyD_code _).trans codeFAlike) rfl ?_
  unfold BodyP
  generalize hR : falS 0 true true l = R
  rcases h with ⟨hs, rfl⟩ | ⟨id, cap, hs, hg⟩
  · simp (maxDischargeDepth := 99) [cFAlike, hs]
    refine endsi_range 0 (fun i fr τ => τ = σ ∧ fr.length = 42 ∧ getSlot fr 4 = .one (.int .i64 0) ∧ getSlot fr 5 = .one (.bool true) ∧ getSlot fr 6 = .one (.bool true) ∧ getSlot fr 10 = .one (.int .i64 0) ∧ getSlot fr 11 = .one (.int .i64 0)) ?_ ?_ ?_
    · simp
    · intro i fr τ hlt; omega
    · rintro fr τ ⟨rfl, hlen, f4, f5, f6, f10, f11⟩
      simp [falS] at hR
      simp (maxDischargeDepth := 99) [cFAlike_0, hlen, f4, f5, f6, f10, f11, ← hR]
  · simp (maxDischargeDepth := 99) [cFAlike, hs]
    refine endsi_range l.length (fun i fr τ => Keeps σ τ ∧ fr.length = 42 ∧ getSlot fr 9 = s ∧ getSlot fr 10 = .one (.int .i64 l.length) ∧ getSlot fr 11 = .one (.int .i64 i) ∧ ∃ kind same nums, getSlot fr 4 = .one (.int .i64 kind) ∧ getSlot fr 5 = .one (.bool same) ∧ getSlot fr 6 = .one (.bool nums) ∧ falS kind same nums (l.drop i) = R) ?_ ?_ ?_
    · simp [hs, hR]
    · rintro i fr τ hlt ⟨hk, hlen, f9, f10, f11, kind, same, nums, f4, f5, f6, hall⟩
      have hw := wr_next hlt hm
      have hlq := AHeap.get_lt hg
      have hg' : τ.get id = some ⟨l.map (SV.int .i64), .own⟩ := by rw [hk.2 id hlq, hg]
      have hlt2 := AHeap.get_lt hg'
      rw [List.drop_eq_getElem_cons hlt] at hall
      simp only [falS] at hall
      generalize hki : l[i] = k at hall
      by_cases h1 : k = 0
      · rw [if_pos h1] at hall
        simp (maxDischargeDepth := 99) [cFAlike_0, hlen, f4, f5, f6, f9, f10, f11, hs, hg', hlt, hki, h1, hw, hk]
        cases same with
        | false => cases nums with
          | false => simpa using hall
          | true => simpa using hall
        | true => cases nums with
          | false => simpa using hall
          | true => simpa using hall
      · rw [if_neg h1] at hall
        obtain ⟨τ2, hτ2⟩ : ∃ τ2, τ2 = τ.alloc ⟨[.int .i64 2, .int .i64 3], .own⟩ := ⟨_, rfl⟩
        have hk2 : Keeps σ τ2 := by rw [hτ2]; exact hk.alloc
        have hg2 : τ2.get τ.size = some ⟨[.int .i64 2, .int .i64 3], .own⟩ := by rw [hτ2]; simp
        have hft := fun cap => fits_num τ2 τ.size cap k hg2
        cases same with
        | false =>
          simp only [Bool.false_and] at hall
          cases nums with
          | false =>
            simp only [Bool.false_and] at hall
            simp (maxDischargeDepth := 99) [cFAlike_0, hlen, f4, f5, f6, f9, f10, f11, hs, hg', hlt, hki, h1, hw, hk, hk2, ← hτ2, hft, mms, hall]
          | true =>
            cases hn : numF k with
            | false =>
              rw [hn] at hall hft
              simp only [Bool.true_and] at hall
              simp (maxDischargeDepth := 99) [cFAlike_0, hlen, f4, f5, f6, f9, f10, f11, hs, hg', hlt, hki, h1, hw, hk, hk2, ← hτ2, hft, mms, hall]
            | true =>
              rw [hn] at hall hft
              simp only [Bool.true_and] at hall
              simp (maxDischargeDepth := 99) [cFAlike_0, hlen, f4, f5, f6, f9, f10, f11, hs, hg', hlt, hki, h1, hw, hk, hk2, ← hτ2, hft, mms, hall]
        | true =>
          by_cases h2 : kind = 0
          · rw [h2] at hall f4
            rw [show (true && (decide ((0 : Int) = 0) || decide ((0 : Int) = k))) = true by simp] at hall
            cases nums with
            | false =>
              simp only [Bool.false_and] at hall
              simp (maxDischargeDepth := 99) [cFAlike_0, hlen, f4, f5, f6, f9, f10, f11, hs, hg', hlt, hki, h1, hw, hk, hk2, ← hτ2, hft, mms, hall]
            | true =>
              cases hn : numF k with
              | false =>
                rw [hn] at hall hft
                simp only [Bool.true_and] at hall
                simp (maxDischargeDepth := 99) [cFAlike_0, hlen, f4, f5, f6, f9, f10, f11, hs, hg', hlt, hki, h1, hw, hk, hk2, ← hτ2, hft, mms, hall]
              | true =>
                rw [hn] at hall hft
                simp only [Bool.true_and] at hall
                simp (maxDischargeDepth := 99) [cFAlike_0, hlen, f4, f5, f6, f9, f10, f11, hs, hg', hlt, hki, h1, hw, hk, hk2, ← hτ2, hft, mms, hall]
          · by_cases h3 : kind = k
            · rw [h3] at hall f4
              rw [show (true && (decide (k = 0) || decide (k = k))) = true by simp] at hall
              cases nums with
              | false =>
                simp only [Bool.false_and] at hall
                simp (maxDischargeDepth := 99) [cFAlike_0, hlen, f4, f5, f6, f9, f10, f11, hs, hg', hlt, hki, h1, hw, hk, hk2, ← hτ2, hft, mms, hall]
              | true =>
                cases hn : numF k with
                | false =>
                  rw [hn] at hall hft
                  simp only [Bool.true_and] at hall
                  simp (maxDischargeDepth := 99) [cFAlike_0, hlen, f4, f5, f6, f9, f10, f11, hs, hg', hlt, hki, h1, hw, hk, hk2, ← hτ2, hft, mms, hall]
                | true =>
                  rw [hn] at hall hft
                  simp only [Bool.true_and] at hall
                  simp (maxDischargeDepth := 99) [cFAlike_0, hlen, f4, f5, f6, f9, f10, f11, hs, hg', hlt, hki, h1, hw, hk, hk2, ← hτ2, hft, mms, hall]
            · rw [show (true && (decide (kind = 0) || decide (kind = k))) = false by simp [h2, h3]] at hall
              cases nums with
              | false =>
                simp only [Bool.false_and] at hall
                simp (maxDischargeDepth := 99) [cFAlike_0, hlen, f4, f5, f6, f9, f10, f11, hs, hg', hlt, hki, h1, hw, hk, hk2, ← hτ2, hft, mms, h2, h3, hall]
              | true =>
                cases hn : numF k with
                | false =>
                  rw [hn] at hall hft
                  simp only [Bool.true_and] at hall
                  simp (maxDischargeDepth := 99) [cFAlike_0, hlen, f4, f5, f6, f9, f10, f11, hs, hg', hlt, hki, h1, hw, hk, hk2, ← hτ2, hft, mms, h2, h3, hall]
                | true =>
                  rw [hn] at hall hft
                  simp only [Bool.true_and] at hall
                  simp (maxDischargeDepth := 99) [cFAlike_0, hlen, f4, f5, f6, f9, f10, f11, hs, hg', hlt, hki, h1, hw, hk, hk2, ← hτ2, hft, mms, h2, h3, hall]
    · rintro fr τ ⟨hk, hlen, f9, f10, f11, kind, same, nums, f4, f5, f6, hall⟩
      rw [List.drop_length] at hall
      simp [falS] at hall
      cases same with
      | false =>
        simp at hall
        simp (maxDischargeDepth := 99) [cFAlike_0, hlen, f4, f5, f6, f10, f11, ← hall, hk]
      | true =>
        simp at hall
        simp (maxDischargeDepth := 99) [cFAlike_0, hlen, f4, f5, f6, f10, f11, ← hall, hk]
end Go.Proofs.YtdpfgdmlmkpmbaaGreatDoor.Ab

/- funcs.Kind. -/
namespace Go.Proofs.YtdpfgdmlmkpmbaaGreatDoor.Ab
open Go
set_option maxRecDepth 20000
set_option maxHeartbeats 40000000
set_option linter.unusedSimpArgs false

def numK : List Int → Bool
  | [a] => numF a
  | _ => false
def textK : List Int → Bool
  | [a] => textF a
  | _ => false
def headK : List Int → Int
  | [] => 0
  | a :: _ => a
def subK : List Int → Bool
  | [a, b, c] => textF a && (intF b && intF c)
  | _ => false
def kindOk (s : List UInt8) (l : List Int) : Int × Bool :=
  if s = bytes [97, 98, 115] then (if numK l = true then (headK l, true) else (0, false))
  else if s = bytes [99, 101, 105, 108] ∨ s = bytes [102, 108, 111, 111, 114] ∨ s = bytes [114, 111, 117, 110, 100] ∨ s = bytes [115, 105, 103, 110] ∨ s = bytes [116, 111, 105, 110, 116] then (2, numK l)
  else if s = bytes [116, 111, 100, 101, 99] then (3, numK l)
  else if s = bytes [99, 111, 97, 108, 101, 115, 99, 101] ∨ s = bytes [103, 114, 101, 97, 116, 101, 115, 116] ∨ s = bytes [108, 101, 97, 115, 116] then ((falS 0 true true l).1, (falS 0 true true l).2 && decide ((1 : Int) ≤ l.length))
  else if s = bytes [110, 117, 108, 108, 105, 102] then (if (l.length : Int) = 2 then (headK l, (falS 0 true true l).2) else (0, false))
  else if s = bytes [99, 111, 110, 99, 97, 116] then (4, decide ((1 : Int) ≤ l.length) && l.all textF)
  else if s = bytes [108, 101, 110, 103, 116, 104] then (2, textK l)
  else if s = bytes [108, 111, 119, 101, 114] ∨ s = bytes [117, 112, 112, 101, 114] ∨ s = bytes [116, 114, 105, 109] then (4, textK l)
  else if s = bytes [116, 111, 116, 101, 120, 116] then (4, decide ((l.length : Int) = 1))
  else if s = bytes [115, 117, 98, 115, 116, 114] then (4, subK l)
  else (0, false)
def kindBad (k : Int) : Bool := decide (k < 0) || decide (4 < k)
def kindF (s : List UInt8) (l : List Int) : Int × Int := if l.any kindBad = true then (0, 100) else if (kindOk s l).2 = true then ((kindOk s l).1, 0) else (0, 100)
theorem len2 : ∀ {l : List Int}, l.length = 2 → ∃ x y, l = [x, y]
  | [x, y], _ => ⟨x, y, rfl⟩
theorem len3 : ∀ {l : List Int}, l.length = 3 → ∃ x y z, l = [x, y, z]
  | [x, y, z], _ => ⟨x, y, z, rfl⟩
theorem kindF_bad {s : List UInt8} {l : List Int} (h : l.any kindBad = true) : kindF s l = (0, 100) := by unfold kindF; rw [if_pos h]
theorem kindF_of {s : List UInt8} {l : List Int} {k : Int} {b : Bool} (h : l.any kindBad = false) (h2 : kindOk s l = (k, b)) : kindF s l = if b = true then (k, 0) else (0, 100) := by
  unfold kindF
  rw [h, if_neg (by decide), h2]
theorem kindF_yes {s : List UInt8} {l : List Int} {k : Int} (h : l.any kindBad = false) (h2 : kindOk s l = (k, true)) : kindF s l = (k, 0) := by rw [kindF_of h h2, if_pos rfl]
theorem kindF_no {s : List UInt8} {l : List Int} {k : Int} (h : l.any kindBad = false) (h2 : kindOk s l = (k, false)) : kindF s l = (0, 100) := by rw [kindF_of h h2, if_neg (by decide)]
theorem kindF_val {s : List UInt8} {l : List Int} {k : Int} {b : Bool} (h : l.any kindBad = false) (h2 : kindOk s l = (k, b)) : (kindF s l).1 = (if b = true then k else 0) ∧ (kindF s l).2 = (if b = true then 0 else 100) := by
  rw [kindF_of h h2]
  cases b
  · exact ⟨rfl, rfl⟩
  · exact ⟨rfl, rfl⟩

theorem concat_loop {N : KN} {E : Nat → KN} {R : KN} (l : List Int) (hm : l.length ≤ maxElems) (σ τ : AHeap) (hk : Keeps σ τ) (fr : List AV) (id : Nat) (cap : Option Nat) (hg : τ.get id = some ⟨l.map (SV.int .i64), .own⟩) (ok R2 : Bool)
    (hlen : fr.length = 148) (f95 : getSlot fr 95 = .one (.slice id 0 1 l.length cap)) (f96 : getSlot fr 96 = .one (.int .i64 l.length)) (f97 : getSlot fr 97 = .one (.int .i64 0)) (f11 : getSlot fr 11 = .one (.int .i64 4)) (f12 : getSlot fr 12 = .one (.bool ok))
    (hR : (ok && l.all textF) = R2) (hE : ∀ fr' τ', Keeps σ τ' → fr'.length = 148 → getSlot fr' 11 = .one (.int .i64 4) → getSlot fr' 12 = .one (.bool R2) → E 3 .go fr' τ') :
    EndsI .go (lim TyD) (ACode.loop cFKind_1) fr τ N E R := by
  refine endsi_range l.length (fun i fr υ => Keeps σ υ ∧ υ.get id = some ⟨l.map (SV.int .i64), .own⟩ ∧ fr.length = 148 ∧ getSlot fr 95 = .one (.slice id 0 1 l.length cap) ∧ getSlot fr 96 = .one (.int .i64 l.length) ∧ getSlot fr 97 = .one (.int .i64 i) ∧ getSlot fr 11 = .one (.int .i64 4) ∧ ∃ ok, getSlot fr 12 = .one (.bool ok) ∧ (ok && (l.drop i).all textF) = R2) ?_ ?_ ?_
  · exact ⟨hk, hg, hlen, f95, f96, f97, f11, ok, f12, hR⟩
  · rintro i fr υ hlt ⟨hk, hg, hlen, f95, f96, f97, f11, ok, f12, hR⟩
    have hw := wr_next hlt hm
    have hlq := AHeap.get_lt hg
    rw [List.drop_eq_getElem_cons hlt, List.all_cons] at hR
    generalize hki : l[i] = k at hR
    obtain ⟨υ2, hυ2⟩ : ∃ υ2, υ2 = υ.alloc ⟨[.int .i64 4], .own⟩ := ⟨_, rfl⟩
    have hk2 : Keeps σ υ2 := by rw [hυ2]; exact hk.alloc
    have hg2 : υ2.get id = some ⟨l.map (SV.int .i64), .own⟩ := by
      have : ¬ id = υ.size := by omega
      rw [hυ2, AHeap.get_alloc, if_neg this, hg]
    have q := fun cap => fits_text υ2 υ.size cap k (by rw [hυ2]; simp)
    cases ok with
    | false =>
      rw [Bool.false_and] at hR
      simp (maxDischargeDepth := 99) [cFKind_1, hlen, f95, f96, f97, f11, f12, hlt, hg, hki, hw, hk, ← hR]
    | true =>
      rw [Bool.true_and] at hR
      cases hb : textF k with
      | false =>
        rw [hb, Bool.false_and] at hR
        rw [hb] at q
        simp (maxDischargeDepth := 99) [cFKind_1, hlen, f95, f96, f97, f11, f12, hlt, hg, hg2, ← hυ2, q, hki, hw, hk2, ← hR]
      | true =>
        rw [hb, Bool.true_and] at hR
        rw [hb] at q
        simp (maxDischargeDepth := 99) [-List.all_eq_true, cFKind_1, hlen, f95, f96, f97, f11, f12, hlt, hg, hg2, ← hυ2, q, hki, hw, hk2, hR]
  · rintro fr υ ⟨hk, hg, hlen, f95, f96, f97, f11, ok, f12, hR⟩
    rw [List.drop_length, List.all_nil, Bool.and_true] at hR
    subst hR
    simp (maxDischargeDepth := 99) [cFKind_1, hlen, f96, f97]
    exact hE _ _ hk (by simp [hlen]) (by simp [hlen, f11]) (by simp [hlen, f12])

theorem eq_kind (σ : AHeap) (s : AV) (nm : List UInt8) (l : List Int) (h : IntSl σ s l) (hm : l.length ≤ maxElems) :
    lim TyD 93 [.one (.str nm), s] σ = some (.tup [.one (.int .i64 (kindF nm l).1), .one (.int .i64 (kindF nm l).2)], σ) := by
  refine lim_eq (TyD_prim rfl) ((TyD_code _).trans codeFKind) rfl ?_
  unfold BodyP
  rcases h with ⟨hs, rfl⟩ | ⟨id, cap, hs, hg⟩
  · have hall : ([] : List Int).any kindBad = false := rfl
    have qa := eq_falike σ s [] (.inl ⟨hs, rfl⟩) hm
    rw [hs] at qa
    simp (maxDischargeDepth := 99) [cFKind, hs]
    refine endsi_range 0 (fun i fr τ => τ = σ ∧ fr.length = 148 ∧ getSlot fr 0 = .one (.str nm) ∧ getSlot fr 1 = s ∧ getSlot fr 15 = s ∧ getSlot fr 16 = .one (.int .i64 0) ∧ getSlot fr 17 = .one (.int .i64 0)) ?_ ?_ ?_
    · simp [hs]
    · intro i fr τ hlt; omega
    · rintro fr τ ⟨rfl, hlen, f0, f1, f15, f16, f17⟩
      simp (maxDischargeDepth := 99) [-List.any_eq_true, cFKind_0, hlen, f0, f1, f15, f16, f17, hs]
      by_cases t0 : nm = bytes [97, 98, 115]
      · subst t0
        have hk : kindOk (bytes [97, 98, 115]) [] = (0, false) := by unfold kindOk; rw [if_pos (by decide)]; rfl
        rw [kindF_no hall hk]
        simp (maxDischargeDepth := 99) [-List.any_eq_true, hlen, f0, f1, hs, sbin, beqL_iff, f16, f17]
      by_cases t1 : nm = bytes [99, 101, 105, 108]
      · subst t1
        have hk : kindOk (bytes [99, 101, 105, 108]) [] = (2, false) := by unfold kindOk; rw [if_neg (by decide), if_pos (by decide)]; rfl
        rw [kindF_no hall hk]
        simp (maxDischargeDepth := 99) [-List.any_eq_true, hlen, f0, f1, hs, sbin, beqL_iff, f16, f17, t0]
      by_cases t2 : nm = bytes [102, 108, 111, 111, 114]
      · subst t2
        have hk : kindOk (bytes [102, 108, 111, 111, 114]) [] = (2, false) := by unfold kindOk; rw [if_neg (by decide), if_pos (by decide)]; rfl
        rw [kindF_no hall hk]
        simp (maxDischargeDepth := 99) [-List.any_eq_true, hlen, f0, f1, hs, sbin, beqL_iff, f16, f17, t0, t1]
      by_cases t3 : nm = bytes [114, 111, 117, 110, 100]
      · subst t3
        have hk : kindOk (bytes [114, 111, 117, 110, 100]) [] = (2, false) := by unfold kindOk; rw [if_neg (by decide), if_pos (by decide)]; rfl
        rw [kindF_no hall hk]
        simp (maxDischargeDepth := 99) [-List.any_eq_true, hlen, f0, f1, hs, sbin, beqL_iff, f16, f17, t0, t1, t2]
      by_cases t4 : nm = bytes [115, 105, 103, 110]
      · subst t4
        have hk : kindOk (bytes [115, 105, 103, 110]) [] = (2, false) := by unfold kindOk; rw [if_neg (by decide), if_pos (by decide)]; rfl
        rw [kindF_no hall hk]
        simp (maxDischargeDepth := 99) [-List.any_eq_true, hlen, f0, f1, hs, sbin, beqL_iff, f16, f17, t0, t1, t2, t3]
      by_cases t5 : nm = bytes [116, 111, 105, 110, 116]
      · subst t5
        have hk : kindOk (bytes [116, 111, 105, 110, 116]) [] = (2, false) := by unfold kindOk; rw [if_neg (by decide), if_pos (by decide)]; rfl
        rw [kindF_no hall hk]
        simp (maxDischargeDepth := 99) [-List.any_eq_true, hlen, f0, f1, hs, sbin, beqL_iff, f16, f17, t0, t1, t2, t3, t4]
      by_cases t6 : nm = bytes [116, 111, 100, 101, 99]
      · subst t6
        have hk : kindOk (bytes [116, 111, 100, 101, 99]) [] = (3, false) := by unfold kindOk; rw [if_neg (by decide), if_neg (by decide), if_pos (by decide)]; rfl
        rw [kindF_no hall hk]
        simp (maxDischargeDepth := 99) [-List.any_eq_true, hlen, f0, f1, hs, sbin, beqL_iff, f16, f17, t0, t1, t2, t3, t4, t5]
      by_cases t7 : nm = bytes [99, 111, 97, 108, 101, 115, 99, 101]
      · subst t7
        obtain ⟨fk, fb, hfal⟩ : ∃ k b, falS 0 true true [] = (k, b) := ⟨_, _, rfl⟩
        rw [hfal] at qa
        cases fb with
        | true =>
          have hk : kindOk (bytes [99, 111, 97, 108, 101, 115, 99, 101]) [] = (fk, false) := by unfold kindOk; rw [if_neg (by decide), if_neg (by decide), if_neg (by decide), if_pos (by decide)]; simp [hfal]
          rw [kindF_no hall hk]
          simp (maxDischargeDepth := 99) [-List.any_eq_true, hlen, f0, f1, hs, sbin, beqL_iff, f16, f17, t0, t1, t2, t3, t4, t5, t6, qa]
        | false =>
          have hk : kindOk (bytes [99, 111, 97, 108, 101, 115, 99, 101]) [] = (fk, false) := by unfold kindOk; rw [if_neg (by decide), if_neg (by decide), if_neg (by decide), if_pos (by decide)]; simp [hfal]
          rw [kindF_no hall hk]
          simp (maxDischargeDepth := 99) [-List.any_eq_true, hlen, f0, f1, hs, sbin, beqL_iff, f16, f17, t0, t1, t2, t3, t4, t5, t6, qa]
      by_cases t8 : nm = bytes [103, 114, 101, 97, 116, 101, 115, 116]
      · subst t8
        obtain ⟨fk, fb, hfal⟩ : ∃ k b, falS 0 true true [] = (k, b) := ⟨_, _, rfl⟩
        rw [hfal] at qa
        cases fb with
        | true =>
          have hk : kindOk (bytes [103, 114, 101, 97, 116, 101, 115, 116]) [] = (fk, false) := by unfold kindOk; rw [if_neg (by decide), if_neg (by decide), if_neg (by decide), if_pos (by decide)]; simp [hfal]
          rw [kindF_no hall hk]
          simp (maxDischargeDepth := 99) [-List.any_eq_true, hlen, f0, f1, hs, sbin, beqL_iff, f16, f17, t0, t1, t2, t3, t4, t5, t6, t7, qa]
        | false =>
          have hk : kindOk (bytes [103, 114, 101, 97, 116, 101, 115, 116]) [] = (fk, false) := by unfold kindOk; rw [if_neg (by decide), if_neg (by decide), if_neg (by decide), if_pos (by decide)]; simp [hfal]
          rw [kindF_no hall hk]
          simp (maxDischargeDepth := 99) [-List.any_eq_true, hlen, f0, f1, hs, sbin, beqL_iff, f16, f17, t0, t1, t2, t3, t4, t5, t6, t7, qa]
      by_cases t9 : nm = bytes [108, 101, 97, 115, 116]
      · subst t9
        obtain ⟨fk, fb, hfal⟩ : ∃ k b, falS 0 true true [] = (k, b) := ⟨_, _, rfl⟩
        rw [hfal] at qa
        cases fb with
        | true =>
          have hk : kindOk (bytes [108, 101, 97, 115, 116]) [] = (fk, false) := by unfold kindOk; rw [if_neg (by decide), if_neg (by decide), if_neg (by decide), if_pos (by decide)]; simp [hfal]
          rw [kindF_no hall hk]
          simp (maxDischargeDepth := 99) [-List.any_eq_true, hlen, f0, f1, hs, sbin, beqL_iff, f16, f17, t0, t1, t2, t3, t4, t5, t6, t7, t8, qa]
        | false =>
          have hk : kindOk (bytes [108, 101, 97, 115, 116]) [] = (fk, false) := by unfold kindOk; rw [if_neg (by decide), if_neg (by decide), if_neg (by decide), if_pos (by decide)]; simp [hfal]
          rw [kindF_no hall hk]
          simp (maxDischargeDepth := 99) [-List.any_eq_true, hlen, f0, f1, hs, sbin, beqL_iff, f16, f17, t0, t1, t2, t3, t4, t5, t6, t7, t8, qa]
      by_cases t10 : nm = bytes [110, 117, 108, 108, 105, 102]
      · subst t10
        have hk : kindOk (bytes [110, 117, 108, 108, 105, 102]) [] = (0, false) := by unfold kindOk; rw [if_neg (by decide), if_neg (by decide), if_neg (by decide), if_neg (by decide), if_pos (by decide)]; simp
        rw [kindF_no hall hk]
        simp (maxDischargeDepth := 99) [-List.any_eq_true, hlen, f0, f1, hs, sbin, beqL_iff, f16, f17, t0, t1, t2, t3, t4, t5, t6, t7, t8, t9]
      by_cases t11 : nm = bytes [99, 111, 110, 99, 97, 116]
      · subst t11
        obtain ⟨R2, hR2⟩ : ∃ R2, (decide ((1 : Int) ≤ (([] : List Int).length : Int)) && ([] : List Int).all textF) = R2 := ⟨_, rfl⟩
        have hk : kindOk (bytes [99, 111, 110, 99, 97, 116]) [] = (4, R2) := by unfold kindOk; rw [if_neg (by decide), if_neg (by decide), if_neg (by decide), if_neg (by decide), if_neg (by decide), if_pos (by decide), hR2]
        rw [kindF_of hall hk]
        simp (maxDischargeDepth := 99) [-List.any_eq_true, hlen, f0, f1, hs, sbin, beqL_iff, f16, f17, t0, t1, t2, t3, t4, t5, t6, t7, t8, t9, t10]
        subst hR2
        refine endsi_range 0 (fun i fr υ => υ = τ ∧ fr.length = 148 ∧ getSlot fr 96 = .one (.int .i64 0) ∧ getSlot fr 97 = .one (.int .i64 0) ∧ getSlot fr 11 = .one (.int .i64 4) ∧ getSlot fr 12 = .one (.bool false)) ?_ ?_ ?_
        · simp [hlen]
        · intro i fr υ hlt; omega
        · rintro fr υ ⟨rfl, hlen, f96, f97, f11, f12⟩
          simp (maxDischargeDepth := 99) [cFKind_1, hlen, f96, f97, f11, f12]
      by_cases t12 : nm = bytes [108, 101, 110, 103, 116, 104]
      · subst t12
        have hk : kindOk (bytes [108, 101, 110, 103, 116, 104]) [] = (2, false) := by unfold kindOk; rw [if_neg (by decide), if_neg (by decide), if_neg (by decide), if_neg (by decide), if_neg (by decide), if_neg (by decide), if_pos (by decide)]; rfl
        rw [kindF_no hall hk]
        simp (maxDischargeDepth := 99) [-List.any_eq_true, hlen, f0, f1, hs, sbin, beqL_iff, f16, f17, t0, t1, t2, t3, t4, t5, t6, t7, t8, t9, t10, t11]
      by_cases t13 : nm = bytes [108, 111, 119, 101, 114]
      · subst t13
        have hk : kindOk (bytes [108, 111, 119, 101, 114]) [] = (4, false) := by unfold kindOk; rw [if_neg (by decide), if_neg (by decide), if_neg (by decide), if_neg (by decide), if_neg (by decide), if_neg (by decide), if_neg (by decide), if_pos (by decide)]; rfl
        rw [kindF_no hall hk]
        simp (maxDischargeDepth := 99) [-List.any_eq_true, hlen, f0, f1, hs, sbin, beqL_iff, f16, f17, t0, t1, t2, t3, t4, t5, t6, t7, t8, t9, t10, t11, t12]
      by_cases t14 : nm = bytes [117, 112, 112, 101, 114]
      · subst t14
        have hk : kindOk (bytes [117, 112, 112, 101, 114]) [] = (4, false) := by unfold kindOk; rw [if_neg (by decide), if_neg (by decide), if_neg (by decide), if_neg (by decide), if_neg (by decide), if_neg (by decide), if_neg (by decide), if_pos (by decide)]; rfl
        rw [kindF_no hall hk]
        simp (maxDischargeDepth := 99) [-List.any_eq_true, hlen, f0, f1, hs, sbin, beqL_iff, f16, f17, t0, t1, t2, t3, t4, t5, t6, t7, t8, t9, t10, t11, t12, t13]
      by_cases t15 : nm = bytes [116, 114, 105, 109]
      · subst t15
        have hk : kindOk (bytes [116, 114, 105, 109]) [] = (4, false) := by unfold kindOk; rw [if_neg (by decide), if_neg (by decide), if_neg (by decide), if_neg (by decide), if_neg (by decide), if_neg (by decide), if_neg (by decide), if_pos (by decide)]; rfl
        rw [kindF_no hall hk]
        simp (maxDischargeDepth := 99) [-List.any_eq_true, hlen, f0, f1, hs, sbin, beqL_iff, f16, f17, t0, t1, t2, t3, t4, t5, t6, t7, t8, t9, t10, t11, t12, t13, t14]
      by_cases t16 : nm = bytes [116, 111, 116, 101, 120, 116]
      · subst t16
        have hk : kindOk (bytes [116, 111, 116, 101, 120, 116]) [] = (4, false) := by unfold kindOk; rw [if_neg (by decide), if_neg (by decide), if_neg (by decide), if_neg (by decide), if_neg (by decide), if_neg (by decide), if_neg (by decide), if_neg (by decide), if_pos (by decide)]; simp
        rw [kindF_no hall hk]
        simp (maxDischargeDepth := 99) [-List.any_eq_true, hlen, f0, f1, hs, sbin, beqL_iff, f16, f17, t0, t1, t2, t3, t4, t5, t6, t7, t8, t9, t10, t11, t12, t13, t14, t15]
      by_cases t17 : nm = bytes [115, 117, 98, 115, 116, 114]
      · subst t17
        have hk : kindOk (bytes [115, 117, 98, 115, 116, 114]) [] = (4, false) := by unfold kindOk; rw [if_neg (by decide), if_neg (by decide), if_neg (by decide), if_neg (by decide), if_neg (by decide), if_neg (by decide), if_neg (by decide), if_neg (by decide), if_neg (by decide), if_pos (by decide)]; rfl
        rw [kindF_no hall hk]
        simp (maxDischargeDepth := 99) [-List.any_eq_true, hlen, f0, f1, hs, sbin, beqL_iff, f16, f17, t0, t1, t2, t3, t4, t5, t6, t7, t8, t9, t10, t11, t12, t13, t14, t15, t16]
      have hk : kindOk nm [] = (0, false) := by simp [kindOk, t0, t1, t2, t3, t4, t5, t6, t7, t8, t9, t10, t11, t12, t13, t14, t15, t16, t17]
      rw [kindF_no hall hk]
      simp (maxDischargeDepth := 99) [-List.any_eq_true, hlen, f0, f1, hs, sbin, beqL_iff, f16, f17, t0, t1, t2, t3, t4, t5, t6, t7, t8, t9, t10, t11, t12, t13, t14, t15, t16, t17]
  · have hlq := AHeap.get_lt hg
    simp (maxDischargeDepth := 99) [cFKind, hs]
    refine endsi_range l.length (fun i fr τ => τ = σ ∧ fr.length = 148 ∧ getSlot fr 0 = .one (.str nm) ∧ getSlot fr 1 = s ∧ getSlot fr 15 = s ∧ getSlot fr 16 = .one (.int .i64 l.length) ∧ getSlot fr 17 = .one (.int .i64 i) ∧ (l.drop i).any kindBad = l.any kindBad) ?_ ?_ ?_
    · simp [hs]
    · rintro i fr τ hlt ⟨rfl, hlen, f0, f1, f15, f16, f17, hall⟩
      have hw := wr_next hlt hm
      rw [List.drop_eq_getElem_cons hlt, List.any_cons] at hall
      generalize hki : l[i] = k at hall
      by_cases h1 : k < 0
      · have hb : kindBad k = true := by simp [kindBad, h1]
        rw [hb, Bool.true_or] at hall
        rw [kindF_bad hall.symm]
        simp (maxDischargeDepth := 99) [-List.any_eq_true, cFKind_0, hlen, f0, f1, f15, f16, f17, hs, hg, hlt, hki, h1]
      · by_cases h2 : 4 < k
        · have hb : kindBad k = true := by simp [kindBad, h2]
          rw [hb, Bool.true_or] at hall
          rw [kindF_bad hall.symm]
          simp (maxDischargeDepth := 99) [-List.any_eq_true, cFKind_0, hlen, f0, f1, f15, f16, f17, hs, hg, hlt, hki, h1, h2]
        · have hb : kindBad k = false := by simp [kindBad, h1, h2]
          rw [hb, Bool.false_or] at hall
          simp (maxDischargeDepth := 99) [-List.any_eq_true, cFKind_0, hlen, f0, f1, f15, f16, f17, hs, hg, hlt, hki, h1, h2, hw, hall]
    · rintro fr τ ⟨rfl, hlen, f0, f1, f15, f16, f17, hall⟩
      rw [List.drop_length, List.any_nil] at hall
      have hall := hall.symm
      by_cases hl1 : l.length = 1
      · obtain ⟨a, rfl⟩ := List.length_eq_one_iff.1 hl1
        obtain ⟨τ1, hτ1⟩ : ∃ τ1, τ1 = τ.alloc ⟨[.int .i64 2, .int .i64 3], .own⟩ := ⟨_, rfl⟩
        obtain ⟨τ2, hτ2⟩ : ∃ τ2, τ2 = τ1.alloc ⟨[.int .i64 4], .own⟩ := ⟨_, rfl⟩
        have k1 : Keeps τ τ1 := by rw [hτ1]; exact (Keeps.refl _).alloc
        have k2 : Keeps τ τ2 := by rw [hτ2]; exact k1.alloc
        have q1 := fun cap => fits_num τ1 τ.size cap a (by rw [hτ1]; simp)
        have q2 := fun cap => fits_text τ2 τ1.size cap a (by rw [hτ2]; simp)
        have g1 : τ1.get id = some ⟨[.int .i64 a], .own⟩ := by rw [k1.2 id hlq, hg]; rfl
        have g2 : τ2.get id = some ⟨[.int .i64 a], .own⟩ := by rw [k2.2 id hlq, hg]; rfl
        have qa := eq_falike τ2 s [a] (.inr ⟨id, cap, hs, g2⟩) hm
        rw [hs] at qa
        simp only [List.length_singleton] at f16 f17 hs qa
        simp only [List.map_cons, List.map_nil] at hg
        simp (maxDischargeDepth := 99) [-List.any_eq_true, cFKind_0, hlen, f0, f1, f15, f16, f17, hs, hg, ← hτ1, ← hτ2, q1, q2, g1, g2, k2]
        by_cases t0 : nm = bytes [97, 98, 115]
        · subst t0
          cases hb : numF a with
          | true =>
            have hk : kindOk (bytes [97, 98, 115]) [a] = (headK [a], true) := by unfold kindOk; rw [if_pos (by decide)]; simp [numK, hb]
            rw [kindF_yes hall hk]
            simp (maxDischargeDepth := 99) [-List.any_eq_true, hlen, f0, f1, hs, sbin, beqL_iff, g2, k2, f16, f17, hb, headK]
          | false =>
            have hk : kindOk (bytes [97, 98, 115]) [a] = (0, false) := by unfold kindOk; rw [if_pos (by decide)]; simp [numK, hb]
            rw [kindF_no hall hk]
            simp (maxDischargeDepth := 99) [-List.any_eq_true, hlen, f0, f1, hs, sbin, beqL_iff, g2, k2, f16, f17, hb, headK]
        by_cases t1 : nm = bytes [99, 101, 105, 108]
        · subst t1
          cases hb : numF a with
          | true =>
            have hk : kindOk (bytes [99, 101, 105, 108]) [a] = (2, true) := by unfold kindOk; rw [if_neg (by decide), if_pos (by decide)]; simp [numK, hb]
            rw [kindF_yes hall hk]
            simp (maxDischargeDepth := 99) [-List.any_eq_true, hlen, f0, f1, hs, sbin, beqL_iff, g2, k2, f16, f17, t0, hb, headK]
          | false =>
            have hk : kindOk (bytes [99, 101, 105, 108]) [a] = (2, false) := by unfold kindOk; rw [if_neg (by decide), if_pos (by decide)]; simp [numK, hb]
            rw [kindF_no hall hk]
            simp (maxDischargeDepth := 99) [-List.any_eq_true, hlen, f0, f1, hs, sbin, beqL_iff, g2, k2, f16, f17, t0, hb, headK]
        by_cases t2 : nm = bytes [102, 108, 111, 111, 114]
        · subst t2
          cases hb : numF a with
          | true =>
            have hk : kindOk (bytes [102, 108, 111, 111, 114]) [a] = (2, true) := by unfold kindOk; rw [if_neg (by decide), if_pos (by decide)]; simp [numK, hb]
            rw [kindF_yes hall hk]
            simp (maxDischargeDepth := 99) [-List.any_eq_true, hlen, f0, f1, hs, sbin, beqL_iff, g2, k2, f16, f17, t0, t1, hb, headK]
          | false =>
            have hk : kindOk (bytes [102, 108, 111, 111, 114]) [a] = (2, false) := by unfold kindOk; rw [if_neg (by decide), if_pos (by decide)]; simp [numK, hb]
            rw [kindF_no hall hk]
            simp (maxDischargeDepth := 99) [-List.any_eq_true, hlen, f0, f1, hs, sbin, beqL_iff, g2, k2, f16, f17, t0, t1, hb, headK]
        by_cases t3 : nm = bytes [114, 111, 117, 110, 100]
        · subst t3
          cases hb : numF a with
          | true =>
            have hk : kindOk (bytes [114, 111, 117, 110, 100]) [a] = (2, true) := by unfold kindOk; rw [if_neg (by decide), if_pos (by decide)]; simp [numK, hb]
            rw [kindF_yes hall hk]
            simp (maxDischargeDepth := 99) [-List.any_eq_true, hlen, f0, f1, hs, sbin, beqL_iff, g2, k2, f16, f17, t0, t1, t2, hb, headK]
          | false =>
            have hk : kindOk (bytes [114, 111, 117, 110, 100]) [a] = (2, false) := by unfold kindOk; rw [if_neg (by decide), if_pos (by decide)]; simp [numK, hb]
            rw [kindF_no hall hk]
            simp (maxDischargeDepth := 99) [-List.any_eq_true, hlen, f0, f1, hs, sbin, beqL_iff, g2, k2, f16, f17, t0, t1, t2, hb, headK]
        by_cases t4 : nm = bytes [115, 105, 103, 110]
        · subst t4
          cases hb : numF a with
          | true =>
            have hk : kindOk (bytes [115, 105, 103, 110]) [a] = (2, true) := by unfold kindOk; rw [if_neg (by decide), if_pos (by decide)]; simp [numK, hb]
            rw [kindF_yes hall hk]
            simp (maxDischargeDepth := 99) [-List.any_eq_true, hlen, f0, f1, hs, sbin, beqL_iff, g2, k2, f16, f17, t0, t1, t2, t3, hb, headK]
          | false =>
            have hk : kindOk (bytes [115, 105, 103, 110]) [a] = (2, false) := by unfold kindOk; rw [if_neg (by decide), if_pos (by decide)]; simp [numK, hb]
            rw [kindF_no hall hk]
            simp (maxDischargeDepth := 99) [-List.any_eq_true, hlen, f0, f1, hs, sbin, beqL_iff, g2, k2, f16, f17, t0, t1, t2, t3, hb, headK]
        by_cases t5 : nm = bytes [116, 111, 105, 110, 116]
        · subst t5
          cases hb : numF a with
          | true =>
            have hk : kindOk (bytes [116, 111, 105, 110, 116]) [a] = (2, true) := by unfold kindOk; rw [if_neg (by decide), if_pos (by decide)]; simp [numK, hb]
            rw [kindF_yes hall hk]
            simp (maxDischargeDepth := 99) [-List.any_eq_true, hlen, f0, f1, hs, sbin, beqL_iff, g2, k2, f16, f17, t0, t1, t2, t3, t4, hb, headK]
          | false =>
            have hk : kindOk (bytes [116, 111, 105, 110, 116]) [a] = (2, false) := by unfold kindOk; rw [if_neg (by decide), if_pos (by decide)]; simp [numK, hb]
            rw [kindF_no hall hk]
            simp (maxDischargeDepth := 99) [-List.any_eq_true, hlen, f0, f1, hs, sbin, beqL_iff, g2, k2, f16, f17, t0, t1, t2, t3, t4, hb, headK]
        by_cases t6 : nm = bytes [116, 111, 100, 101, 99]
        · subst t6
          cases hb : numF a with
          | true =>
            have hk : kindOk (bytes [116, 111, 100, 101, 99]) [a] = (3, true) := by unfold kindOk; rw [if_neg (by decide), if_neg (by decide), if_pos (by decide)]; simp [numK, hb]
            rw [kindF_yes hall hk]
            simp (maxDischargeDepth := 99) [-List.any_eq_true, hlen, f0, f1, hs, sbin, beqL_iff, g2, k2, f16, f17, t0, t1, t2, t3, t4, t5, hb, headK]
          | false =>
            have hk : kindOk (bytes [116, 111, 100, 101, 99]) [a] = (3, false) := by unfold kindOk; rw [if_neg (by decide), if_neg (by decide), if_pos (by decide)]; simp [numK, hb]
            rw [kindF_no hall hk]
            simp (maxDischargeDepth := 99) [-List.any_eq_true, hlen, f0, f1, hs, sbin, beqL_iff, g2, k2, f16, f17, t0, t1, t2, t3, t4, t5, hb, headK]
        by_cases t7 : nm = bytes [99, 111, 97, 108, 101, 115, 99, 101]
        · subst t7
          obtain ⟨fk, fb, hfal⟩ : ∃ k b, falS 0 true true [a] = (k, b) := ⟨_, _, rfl⟩
          rw [hfal] at qa
          cases fb with
          | true =>
            have hk : kindOk (bytes [99, 111, 97, 108, 101, 115, 99, 101]) [a] = (fk, true) := by unfold kindOk; rw [if_neg (by decide), if_neg (by decide), if_neg (by decide), if_pos (by decide)]; simp [hfal]
            rw [kindF_yes hall hk]
            simp (maxDischargeDepth := 99) [-List.any_eq_true, hlen, f0, f1, hs, sbin, beqL_iff, g2, k2, f16, f17, t0, t1, t2, t3, t4, t5, t6, qa]
          | false =>
            have hk : kindOk (bytes [99, 111, 97, 108, 101, 115, 99, 101]) [a] = (fk, false) := by unfold kindOk; rw [if_neg (by decide), if_neg (by decide), if_neg (by decide), if_pos (by decide)]; simp [hfal]
            rw [kindF_no hall hk]
            simp (maxDischargeDepth := 99) [-List.any_eq_true, hlen, f0, f1, hs, sbin, beqL_iff, g2, k2, f16, f17, t0, t1, t2, t3, t4, t5, t6, qa]
        by_cases t8 : nm = bytes [103, 114, 101, 97, 116, 101, 115, 116]
        · subst t8
          obtain ⟨fk, fb, hfal⟩ : ∃ k b, falS 0 true true [a] = (k, b) := ⟨_, _, rfl⟩
          rw [hfal] at qa
          cases fb with
          | true =>
            have hk : kindOk (bytes [103, 114, 101, 97, 116, 101, 115, 116]) [a] = (fk, true) := by unfold kindOk; rw [if_neg (by decide), if_neg (by decide), if_neg (by decide), if_pos (by decide)]; simp [hfal]
            rw [kindF_yes hall hk]
            simp (maxDischargeDepth := 99) [-List.any_eq_true, hlen, f0, f1, hs, sbin, beqL_iff, g2, k2, f16, f17, t0, t1, t2, t3, t4, t5, t6, t7, qa]
          | false =>
            have hk : kindOk (bytes [103, 114, 101, 97, 116, 101, 115, 116]) [a] = (fk, false) := by unfold kindOk; rw [if_neg (by decide), if_neg (by decide), if_neg (by decide), if_pos (by decide)]; simp [hfal]
            rw [kindF_no hall hk]
            simp (maxDischargeDepth := 99) [-List.any_eq_true, hlen, f0, f1, hs, sbin, beqL_iff, g2, k2, f16, f17, t0, t1, t2, t3, t4, t5, t6, t7, qa]
        by_cases t9 : nm = bytes [108, 101, 97, 115, 116]
        · subst t9
          obtain ⟨fk, fb, hfal⟩ : ∃ k b, falS 0 true true [a] = (k, b) := ⟨_, _, rfl⟩
          rw [hfal] at qa
          cases fb with
          | true =>
            have hk : kindOk (bytes [108, 101, 97, 115, 116]) [a] = (fk, true) := by unfold kindOk; rw [if_neg (by decide), if_neg (by decide), if_neg (by decide), if_pos (by decide)]; simp [hfal]
            rw [kindF_yes hall hk]
            simp (maxDischargeDepth := 99) [-List.any_eq_true, hlen, f0, f1, hs, sbin, beqL_iff, g2, k2, f16, f17, t0, t1, t2, t3, t4, t5, t6, t7, t8, qa]
          | false =>
            have hk : kindOk (bytes [108, 101, 97, 115, 116]) [a] = (fk, false) := by unfold kindOk; rw [if_neg (by decide), if_neg (by decide), if_neg (by decide), if_pos (by decide)]; simp [hfal]
            rw [kindF_no hall hk]
            simp (maxDischargeDepth := 99) [-List.any_eq_true, hlen, f0, f1, hs, sbin, beqL_iff, g2, k2, f16, f17, t0, t1, t2, t3, t4, t5, t6, t7, t8, qa]
        by_cases t10 : nm = bytes [110, 117, 108, 108, 105, 102]
        · subst t10
          have hk : kindOk (bytes [110, 117, 108, 108, 105, 102]) [a] = (0, false) := by unfold kindOk; rw [if_neg (by decide), if_neg (by decide), if_neg (by decide), if_neg (by decide), if_pos (by decide)]; simp
          rw [kindF_no hall hk]
          simp (maxDischargeDepth := 99) [-List.any_eq_true, hlen, f0, f1, hs, sbin, beqL_iff, g2, k2, f16, f17, t0, t1, t2, t3, t4, t5, t6, t7, t8, t9]
        by_cases t11 : nm = bytes [99, 111, 110, 99, 97, 116]
        · subst t11
          obtain ⟨R2, hR2⟩ : ∃ R2, (decide ((1 : Int) ≤ (([a] : List Int).length : Int)) && ([a] : List Int).all textF) = R2 := ⟨_, rfl⟩
          have hk : kindOk (bytes [99, 111, 110, 99, 97, 116]) [a] = (4, R2) := by unfold kindOk; rw [if_neg (by decide), if_neg (by decide), if_neg (by decide), if_neg (by decide), if_neg (by decide), if_pos (by decide), hR2]
          rw [kindF_of hall hk]
          simp (maxDischargeDepth := 99) [-List.any_eq_true, hlen, f0, f1, hs, sbin, beqL_iff, g2, k2, f16, f17, t0, t1, t2, t3, t4, t5, t6, t7, t8, t9, t10]
          refine concat_loop (l := [a]) hm τ τ2 k2 _ id cap g2 true R2 (by simp [hlen]) (by simp [hlen, hs]) (by simp [hlen]) (by simp [hlen]) (by simp [hlen]) (by simp [hlen]) (by rw [← hR2]; rfl) ?_
          intro fr2 υ hkυ hlen2 e11 e12
          cases R2 with
          | true => simp (maxDischargeDepth := 99) [hlen2, e11, e12, hkυ]
          | false => simp (maxDischargeDepth := 99) [hlen2, e11, e12, hkυ]
        by_cases t12 : nm = bytes [108, 101, 110, 103, 116, 104]
        · subst t12
          cases hb : textF a with
          | true =>
            have hk : kindOk (bytes [108, 101, 110, 103, 116, 104]) [a] = (2, true) := by unfold kindOk; rw [if_neg (by decide), if_neg (by decide), if_neg (by decide), if_neg (by decide), if_neg (by decide), if_neg (by decide), if_pos (by decide)]; simp [textK, hb]
            rw [kindF_yes hall hk]
            simp (maxDischargeDepth := 99) [-List.any_eq_true, hlen, f0, f1, hs, sbin, beqL_iff, g2, k2, f16, f17, t0, t1, t2, t3, t4, t5, t6, t7, t8, t9, t10, t11, hb, headK]
          | false =>
            have hk : kindOk (bytes [108, 101, 110, 103, 116, 104]) [a] = (2, false) := by unfold kindOk; rw [if_neg (by decide), if_neg (by decide), if_neg (by decide), if_neg (by decide), if_neg (by decide), if_neg (by decide), if_pos (by decide)]; simp [textK, hb]
            rw [kindF_no hall hk]
            simp (maxDischargeDepth := 99) [-List.any_eq_true, hlen, f0, f1, hs, sbin, beqL_iff, g2, k2, f16, f17, t0, t1, t2, t3, t4, t5, t6, t7, t8, t9, t10, t11, hb, headK]
        by_cases t13 : nm = bytes [108, 111, 119, 101, 114]
        · subst t13
          cases hb : textF a with
          | true =>
            have hk : kindOk (bytes [108, 111, 119, 101, 114]) [a] = (4, true) := by unfold kindOk; rw [if_neg (by decide), if_neg (by decide), if_neg (by decide), if_neg (by decide), if_neg (by decide), if_neg (by decide), if_neg (by decide), if_pos (by decide)]; simp [textK, hb]
            rw [kindF_yes hall hk]
            simp (maxDischargeDepth := 99) [-List.any_eq_true, hlen, f0, f1, hs, sbin, beqL_iff, g2, k2, f16, f17, t0, t1, t2, t3, t4, t5, t6, t7, t8, t9, t10, t11, t12, hb, headK]
          | false =>
            have hk : kindOk (bytes [108, 111, 119, 101, 114]) [a] = (4, false) := by unfold kindOk; rw [if_neg (by decide), if_neg (by decide), if_neg (by decide), if_neg (by decide), if_neg (by decide), if_neg (by decide), if_neg (by decide), if_pos (by decide)]; simp [textK, hb]
            rw [kindF_no hall hk]
            simp (maxDischargeDepth := 99) [-List.any_eq_true, hlen, f0, f1, hs, sbin, beqL_iff, g2, k2, f16, f17, t0, t1, t2, t3, t4, t5, t6, t7, t8, t9, t10, t11, t12, hb, headK]
        by_cases t14 : nm = bytes [117, 112, 112, 101, 114]
        · subst t14
          cases hb : textF a with
          | true =>
            have hk : kindOk (bytes [117, 112, 112, 101, 114]) [a] = (4, true) := by unfold kindOk; rw [if_neg (by decide), if_neg (by decide), if_neg (by decide), if_neg (by decide), if_neg (by decide), if_neg (by decide), if_neg (by decide), if_pos (by decide)]; simp [textK, hb]
            rw [kindF_yes hall hk]
            simp (maxDischargeDepth := 99) [-List.any_eq_true, hlen, f0, f1, hs, sbin, beqL_iff, g2, k2, f16, f17, t0, t1, t2, t3, t4, t5, t6, t7, t8, t9, t10, t11, t12, t13, hb, headK]
          | false =>
            have hk : kindOk (bytes [117, 112, 112, 101, 114]) [a] = (4, false) := by unfold kindOk; rw [if_neg (by decide), if_neg (by decide), if_neg (by decide), if_neg (by decide), if_neg (by decide), if_neg (by decide), if_neg (by decide), if_pos (by decide)]; simp [textK, hb]
            rw [kindF_no hall hk]
            simp (maxDischargeDepth := 99) [-List.any_eq_true, hlen, f0, f1, hs, sbin, beqL_iff, g2, k2, f16, f17, t0, t1, t2, t3, t4, t5, t6, t7, t8, t9, t10, t11, t12, t13, hb, headK]
        by_cases t15 : nm = bytes [116, 114, 105, 109]
        · subst t15
          cases hb : textF a with
          | true =>
            have hk : kindOk (bytes [116, 114, 105, 109]) [a] = (4, true) := by unfold kindOk; rw [if_neg (by decide), if_neg (by decide), if_neg (by decide), if_neg (by decide), if_neg (by decide), if_neg (by decide), if_neg (by decide), if_pos (by decide)]; simp [textK, hb]
            rw [kindF_yes hall hk]
            simp (maxDischargeDepth := 99) [-List.any_eq_true, hlen, f0, f1, hs, sbin, beqL_iff, g2, k2, f16, f17, t0, t1, t2, t3, t4, t5, t6, t7, t8, t9, t10, t11, t12, t13, t14, hb, headK]
          | false =>
            have hk : kindOk (bytes [116, 114, 105, 109]) [a] = (4, false) := by unfold kindOk; rw [if_neg (by decide), if_neg (by decide), if_neg (by decide), if_neg (by decide), if_neg (by decide), if_neg (by decide), if_neg (by decide), if_pos (by decide)]; simp [textK, hb]
            rw [kindF_no hall hk]
            simp (maxDischargeDepth := 99) [-List.any_eq_true, hlen, f0, f1, hs, sbin, beqL_iff, g2, k2, f16, f17, t0, t1, t2, t3, t4, t5, t6, t7, t8, t9, t10, t11, t12, t13, t14, hb, headK]
        by_cases t16 : nm = bytes [116, 111, 116, 101, 120, 116]
        · subst t16
          have hk : kindOk (bytes [116, 111, 116, 101, 120, 116]) [a] = (4, true) := by unfold kindOk; rw [if_neg (by decide), if_neg (by decide), if_neg (by decide), if_neg (by decide), if_neg (by decide), if_neg (by decide), if_neg (by decide), if_neg (by decide), if_pos (by decide)]; simp
          rw [kindF_yes hall hk]
          simp (maxDischargeDepth := 99) [-List.any_eq_true, hlen, f0, f1, hs, sbin, beqL_iff, g2, k2, f16, f17, t0, t1, t2, t3, t4, t5, t6, t7, t8, t9, t10, t11, t12, t13, t14, t15]
        by_cases t17 : nm = bytes [115, 117, 98, 115, 116, 114]
        · subst t17
          have hk : kindOk (bytes [115, 117, 98, 115, 116, 114]) [a] = (4, false) := by unfold kindOk; rw [if_neg (by decide), if_neg (by decide), if_neg (by decide), if_neg (by decide), if_neg (by decide), if_neg (by decide), if_neg (by decide), if_neg (by decide), if_neg (by decide), if_pos (by decide)]; rfl
          rw [kindF_no hall hk]
          simp (maxDischargeDepth := 99) [-List.any_eq_true, hlen, f0, f1, hs, sbin, beqL_iff, g2, k2, f16, f17, t0, t1, t2, t3, t4, t5, t6, t7, t8, t9, t10, t11, t12, t13, t14, t15, t16]
        have hk : kindOk nm [a] = (0, false) := by simp [kindOk, t0, t1, t2, t3, t4, t5, t6, t7, t8, t9, t10, t11, t12, t13, t14, t15, t16, t17]
        rw [kindF_no hall hk]
        simp (maxDischargeDepth := 99) [-List.any_eq_true, hlen, f0, f1, hs, sbin, beqL_iff, g2, k2, f16, f17, t0, t1, t2, t3, t4, t5, t6, t7, t8, t9, t10, t11, t12, t13, t14, t15, t16, t17]
      · have hn1 : ¬ (l.length : Int) = 1 := by omega
        have qa := eq_falike τ s l (.inr ⟨id, cap, hs, hg⟩) hm
        rw [hs] at qa
        have hnum : numK l = false := by
          unfold numK
          split
          · exact absurd rfl hl1
          · rfl
        have htext : textK l = false := by
          unfold textK
          split
          · exact absurd rfl hl1
          · rfl
        simp (maxDischargeDepth := 99) [-List.any_eq_true, cFKind_0, hlen, f0, f1, f15, f16, f17, hs, hg, hn1]
        by_cases t0 : nm = bytes [97, 98, 115]
        · subst t0
          have hk : kindOk (bytes [97, 98, 115]) l = (0, false) := by unfold kindOk; rw [if_pos (by decide)]; simp [hnum, htext]
          rw [kindF_no hall hk]
          simp (maxDischargeDepth := 99) [-List.any_eq_true, hlen, f0, f1, hs, sbin, beqL_iff, hg, f16, f17, hn1]
        by_cases t1 : nm = bytes [99, 101, 105, 108]
        · subst t1
          have hk : kindOk (bytes [99, 101, 105, 108]) l = (2, false) := by unfold kindOk; rw [if_neg (by decide), if_pos (by decide)]; simp [hnum, htext]
          rw [kindF_no hall hk]
          simp (maxDischargeDepth := 99) [-List.any_eq_true, hlen, f0, f1, hs, sbin, beqL_iff, hg, f16, f17, hn1, t0]
        by_cases t2 : nm = bytes [102, 108, 111, 111, 114]
        · subst t2
          have hk : kindOk (bytes [102, 108, 111, 111, 114]) l = (2, false) := by unfold kindOk; rw [if_neg (by decide), if_pos (by decide)]; simp [hnum, htext]
          rw [kindF_no hall hk]
          simp (maxDischargeDepth := 99) [-List.any_eq_true, hlen, f0, f1, hs, sbin, beqL_iff, hg, f16, f17, hn1, t0, t1]
        by_cases t3 : nm = bytes [114, 111, 117, 110, 100]
        · subst t3
          have hk : kindOk (bytes [114, 111, 117, 110, 100]) l = (2, false) := by unfold kindOk; rw [if_neg (by decide), if_pos (by decide)]; simp [hnum, htext]
          rw [kindF_no hall hk]
          simp (maxDischargeDepth := 99) [-List.any_eq_true, hlen, f0, f1, hs, sbin, beqL_iff, hg, f16, f17, hn1, t0, t1, t2]
        by_cases t4 : nm = bytes [115, 105, 103, 110]
        · subst t4
          have hk : kindOk (bytes [115, 105, 103, 110]) l = (2, false) := by unfold kindOk; rw [if_neg (by decide), if_pos (by decide)]; simp [hnum, htext]
          rw [kindF_no hall hk]
          simp (maxDischargeDepth := 99) [-List.any_eq_true, hlen, f0, f1, hs, sbin, beqL_iff, hg, f16, f17, hn1, t0, t1, t2, t3]
        by_cases t5 : nm = bytes [116, 111, 105, 110, 116]
        · subst t5
          have hk : kindOk (bytes [116, 111, 105, 110, 116]) l = (2, false) := by unfold kindOk; rw [if_neg (by decide), if_pos (by decide)]; simp [hnum, htext]
          rw [kindF_no hall hk]
          simp (maxDischargeDepth := 99) [-List.any_eq_true, hlen, f0, f1, hs, sbin, beqL_iff, hg, f16, f17, hn1, t0, t1, t2, t3, t4]
        by_cases t6 : nm = bytes [116, 111, 100, 101, 99]
        · subst t6
          have hk : kindOk (bytes [116, 111, 100, 101, 99]) l = (3, false) := by unfold kindOk; rw [if_neg (by decide), if_neg (by decide), if_pos (by decide)]; simp [hnum, htext]
          rw [kindF_no hall hk]
          simp (maxDischargeDepth := 99) [-List.any_eq_true, hlen, f0, f1, hs, sbin, beqL_iff, hg, f16, f17, hn1, t0, t1, t2, t3, t4, t5]
        by_cases t7 : nm = bytes [99, 111, 97, 108, 101, 115, 99, 101]
        · subst t7
          obtain ⟨fk, fb, hfal⟩ : ∃ k b, falS 0 true true l = (k, b) := ⟨_, _, rfl⟩
          rw [hfal] at qa
          cases fb with
          | true =>
            by_cases h1l : (1 : Int) ≤ (l.length : Int)
            · have h1n : 1 ≤ l.length := by omega
              have hk : kindOk (bytes [99, 111, 97, 108, 101, 115, 99, 101]) l = (fk, true) := by unfold kindOk; rw [if_neg (by decide), if_neg (by decide), if_neg (by decide), if_pos (by decide)]; simp [hfal, h1l, h1n]
              rw [kindF_yes hall hk]
              simp (maxDischargeDepth := 99) [-List.any_eq_true, hlen, f0, f1, hs, sbin, beqL_iff, hg, f16, f17, hn1, t0, t1, t2, t3, t4, t5, t6, qa, h1l, h1n]
            · have h1n : ¬ 1 ≤ l.length := by omega
              have hk : kindOk (bytes [99, 111, 97, 108, 101, 115, 99, 101]) l = (fk, false) := by unfold kindOk; rw [if_neg (by decide), if_neg (by decide), if_neg (by decide), if_pos (by decide)]; simp [hfal, h1l, h1n]
              rw [kindF_no hall hk]
              simp (maxDischargeDepth := 99) [-List.any_eq_true, hlen, f0, f1, hs, sbin, beqL_iff, hg, f16, f17, hn1, t0, t1, t2, t3, t4, t5, t6, qa, h1l, h1n]
          | false =>
            have hk : kindOk (bytes [99, 111, 97, 108, 101, 115, 99, 101]) l = (fk, false) := by unfold kindOk; rw [if_neg (by decide), if_neg (by decide), if_neg (by decide), if_pos (by decide)]; simp [hfal]
            rw [kindF_no hall hk]
            simp (maxDischargeDepth := 99) [-List.any_eq_true, hlen, f0, f1, hs, sbin, beqL_iff, hg, f16, f17, hn1, t0, t1, t2, t3, t4, t5, t6, qa]
        by_cases t8 : nm = bytes [103, 114, 101, 97, 116, 101, 115, 116]
        · subst t8
          obtain ⟨fk, fb, hfal⟩ : ∃ k b, falS 0 true true l = (k, b) := ⟨_, _, rfl⟩
          rw [hfal] at qa
          cases fb with
          | true =>
            by_cases h1l : (1 : Int) ≤ (l.length : Int)
            · have h1n : 1 ≤ l.length := by omega
              have hk : kindOk (bytes [103, 114, 101, 97, 116, 101, 115, 116]) l = (fk, true) := by unfold kindOk; rw [if_neg (by decide), if_neg (by decide), if_neg (by decide), if_pos (by decide)]; simp [hfal, h1l, h1n]
              rw [kindF_yes hall hk]
              simp (maxDischargeDepth := 99) [-List.any_eq_true, hlen, f0, f1, hs, sbin, beqL_iff, hg, f16, f17, hn1, t0, t1, t2, t3, t4, t5, t6, t7, qa, h1l, h1n]
            · have h1n : ¬ 1 ≤ l.length := by omega
              have hk : kindOk (bytes [103, 114, 101, 97, 116, 101, 115, 116]) l = (fk, false) := by unfold kindOk; rw [if_neg (by decide), if_neg (by decide), if_neg (by decide), if_pos (by decide)]; simp [hfal, h1l, h1n]
              rw [kindF_no hall hk]
              simp (maxDischargeDepth := 99) [-List.any_eq_true, hlen, f0, f1, hs, sbin, beqL_iff, hg, f16, f17, hn1, t0, t1, t2, t3, t4, t5, t6, t7, qa, h1l, h1n]
          | false =>
            have hk : kindOk (bytes [103, 114, 101, 97, 116, 101, 115, 116]) l = (fk, false) := by unfold kindOk; rw [if_neg (by decide), if_neg (by decide), if_neg (by decide), if_pos (by decide)]; simp [hfal]
            rw [kindF_no hall hk]
            simp (maxDischargeDepth := 99) [-List.any_eq_true, hlen, f0, f1, hs, sbin, beqL_iff, hg, f16, f17, hn1, t0, t1, t2, t3, t4, t5, t6, t7, qa]
        by_cases t9 : nm = bytes [108, 101, 97, 115, 116]
        · subst t9
          obtain ⟨fk, fb, hfal⟩ : ∃ k b, falS 0 true true l = (k, b) := ⟨_, _, rfl⟩
          rw [hfal] at qa
          cases fb with
          | true =>
            by_cases h1l : (1 : Int) ≤ (l.length : Int)
            · have h1n : 1 ≤ l.length := by omega
              have hk : kindOk (bytes [108, 101, 97, 115, 116]) l = (fk, true) := by unfold kindOk; rw [if_neg (by decide), if_neg (by decide), if_neg (by decide), if_pos (by decide)]; simp [hfal, h1l, h1n]
              rw [kindF_yes hall hk]
              simp (maxDischargeDepth := 99) [-List.any_eq_true, hlen, f0, f1, hs, sbin, beqL_iff, hg, f16, f17, hn1, t0, t1, t2, t3, t4, t5, t6, t7, t8, qa, h1l, h1n]
            · have h1n : ¬ 1 ≤ l.length := by omega
              have hk : kindOk (bytes [108, 101, 97, 115, 116]) l = (fk, false) := by unfold kindOk; rw [if_neg (by decide), if_neg (by decide), if_neg (by decide), if_pos (by decide)]; simp [hfal, h1l, h1n]
              rw [kindF_no hall hk]
              simp (maxDischargeDepth := 99) [-List.any_eq_true, hlen, f0, f1, hs, sbin, beqL_iff, hg, f16, f17, hn1, t0, t1, t2, t3, t4, t5, t6, t7, t8, qa, h1l, h1n]
          | false =>
            have hk : kindOk (bytes [108, 101, 97, 115, 116]) l = (fk, false) := by unfold kindOk; rw [if_neg (by decide), if_neg (by decide), if_neg (by decide), if_pos (by decide)]; simp [hfal]
            rw [kindF_no hall hk]
            simp (maxDischargeDepth := 99) [-List.any_eq_true, hlen, f0, f1, hs, sbin, beqL_iff, hg, f16, f17, hn1, t0, t1, t2, t3, t4, t5, t6, t7, t8, qa]
        by_cases t10 : nm = bytes [110, 117, 108, 108, 105, 102]
        · subst t10
          by_cases hl2 : l.length = 2
          · obtain ⟨x, y, rfl⟩ := len2 hl2
            obtain ⟨fk, fb, hfal⟩ : ∃ k b, falS 0 true true [x, y] = (k, b) := ⟨_, _, rfl⟩
            rw [hfal] at qa
            simp only [List.length_cons, List.length_nil, List.map_cons, List.map_nil] at qa hg f16 f17 hs
            cases fb with
            | true =>
              have hk : kindOk (bytes [110, 117, 108, 108, 105, 102]) [x, y] = (x, true) := by unfold kindOk; rw [if_neg (by decide), if_neg (by decide), if_neg (by decide), if_neg (by decide), if_pos (by decide)]; simp [hfal, headK]
              rw [kindF_yes hall hk]
              simp (maxDischargeDepth := 99) [-List.any_eq_true, hlen, f0, f1, hs, sbin, beqL_iff, hg, f16, f17, hn1, t0, t1, t2, t3, t4, t5, t6, t7, t8, t9, qa]
            | false =>
              have hk : kindOk (bytes [110, 117, 108, 108, 105, 102]) [x, y] = (x, false) := by unfold kindOk; rw [if_neg (by decide), if_neg (by decide), if_neg (by decide), if_neg (by decide), if_pos (by decide)]; simp [hfal, headK]
              rw [kindF_no hall hk]
              simp (maxDischargeDepth := 99) [-List.any_eq_true, hlen, f0, f1, hs, sbin, beqL_iff, hg, f16, f17, hn1, t0, t1, t2, t3, t4, t5, t6, t7, t8, t9, qa]
          · have hn2 : ¬ (l.length : Int) = 2 := by omega
            have hk : kindOk (bytes [110, 117, 108, 108, 105, 102]) l = (0, false) := by unfold kindOk; rw [if_neg (by decide), if_neg (by decide), if_neg (by decide), if_neg (by decide), if_pos (by decide)]; simp [hn2, hl2]
            rw [kindF_no hall hk]
            simp (maxDischargeDepth := 99) [-List.any_eq_true, hlen, f0, f1, hs, sbin, beqL_iff, hg, f16, f17, hn1, t0, t1, t2, t3, t4, t5, t6, t7, t8, t9, hn2, hl2]
        by_cases t11 : nm = bytes [99, 111, 110, 99, 97, 116]
        · subst t11
          obtain ⟨R2, hR2⟩ : ∃ R2, (decide ((1 : Int) ≤ ((l : List Int).length : Int)) && (l : List Int).all textF) = R2 := ⟨_, rfl⟩
          have hk : kindOk (bytes [99, 111, 110, 99, 97, 116]) l = (4, R2) := by unfold kindOk; rw [if_neg (by decide), if_neg (by decide), if_neg (by decide), if_neg (by decide), if_neg (by decide), if_pos (by decide), hR2]
          rw [kindF_of hall hk]
          simp (maxDischargeDepth := 99) [-List.any_eq_true, hlen, f0, f1, hs, sbin, beqL_iff, hg, f16, f17, hn1, t0, t1, t2, t3, t4, t5, t6, t7, t8, t9, t10]
          refine concat_loop (l := l) hm τ τ (Keeps.refl _) _ id cap hg (decide ((1 : Int) ≤ (l.length : Int))) R2 (by simp [hlen]) (by simp [hlen, hs]) (by simp [hlen]) (by simp [hlen]) (by simp [hlen]) (by simp [hlen]) hR2 ?_
          intro fr2 υ hkυ hlen2 e11 e12
          cases R2 with
          | true => simp (maxDischargeDepth := 99) [hlen2, e11, e12, hkυ]
          | false => simp (maxDischargeDepth := 99) [hlen2, e11, e12, hkυ]
        by_cases t12 : nm = bytes [108, 101, 110, 103, 116, 104]
        · subst t12
          have hk : kindOk (bytes [108, 101, 110, 103, 116, 104]) l = (2, false) := by unfold kindOk; rw [if_neg (by decide), if_neg (by decide), if_neg (by decide), if_neg (by decide), if_neg (by decide), if_neg (by decide), if_pos (by decide)]; simp [hnum, htext]
          rw [kindF_no hall hk]
          simp (maxDischargeDepth := 99) [-List.any_eq_true, hlen, f0, f1, hs, sbin, beqL_iff, hg, f16, f17, hn1, t0, t1, t2, t3, t4, t5, t6, t7, t8, t9, t10, t11]
        by_cases t13 : nm = bytes [108, 111, 119, 101, 114]
        · subst t13
          have hk : kindOk (bytes [108, 111, 119, 101, 114]) l = (4, false) := by unfold kindOk; rw [if_neg (by decide), if_neg (by decide), if_neg (by decide), if_neg (by decide), if_neg (by decide), if_neg (by decide), if_neg (by decide), if_pos (by decide)]; simp [hnum, htext]
          rw [kindF_no hall hk]
          simp (maxDischargeDepth := 99) [-List.any_eq_true, hlen, f0, f1, hs, sbin, beqL_iff, hg, f16, f17, hn1, t0, t1, t2, t3, t4, t5, t6, t7, t8, t9, t10, t11, t12]
        by_cases t14 : nm = bytes [117, 112, 112, 101, 114]
        · subst t14
          have hk : kindOk (bytes [117, 112, 112, 101, 114]) l = (4, false) := by unfold kindOk; rw [if_neg (by decide), if_neg (by decide), if_neg (by decide), if_neg (by decide), if_neg (by decide), if_neg (by decide), if_neg (by decide), if_pos (by decide)]; simp [hnum, htext]
          rw [kindF_no hall hk]
          simp (maxDischargeDepth := 99) [-List.any_eq_true, hlen, f0, f1, hs, sbin, beqL_iff, hg, f16, f17, hn1, t0, t1, t2, t3, t4, t5, t6, t7, t8, t9, t10, t11, t12, t13]
        by_cases t15 : nm = bytes [116, 114, 105, 109]
        · subst t15
          have hk : kindOk (bytes [116, 114, 105, 109]) l = (4, false) := by unfold kindOk; rw [if_neg (by decide), if_neg (by decide), if_neg (by decide), if_neg (by decide), if_neg (by decide), if_neg (by decide), if_neg (by decide), if_pos (by decide)]; simp [hnum, htext]
          rw [kindF_no hall hk]
          simp (maxDischargeDepth := 99) [-List.any_eq_true, hlen, f0, f1, hs, sbin, beqL_iff, hg, f16, f17, hn1, t0, t1, t2, t3, t4, t5, t6, t7, t8, t9, t10, t11, t12, t13, t14]
        by_cases t16 : nm = bytes [116, 111, 116, 101, 120, 116]
        · subst t16
          have hk : kindOk (bytes [116, 111, 116, 101, 120, 116]) l = (4, false) := by unfold kindOk; rw [if_neg (by decide), if_neg (by decide), if_neg (by decide), if_neg (by decide), if_neg (by decide), if_neg (by decide), if_neg (by decide), if_neg (by decide), if_pos (by decide)]; simp [hl1, hn1]
          rw [kindF_no hall hk]
          simp (maxDischargeDepth := 99) [-List.any_eq_true, hlen, f0, f1, hs, sbin, beqL_iff, hg, f16, f17, hn1, t0, t1, t2, t3, t4, t5, t6, t7, t8, t9, t10, t11, t12, t13, t14, t15]
        by_cases t17 : nm = bytes [115, 117, 98, 115, 116, 114]
        · subst t17
          by_cases hl3 : l.length = 3
          · obtain ⟨x, y, z, rfl⟩ := len3 hl3
            simp only [List.length_cons, List.length_nil, List.map_cons, List.map_nil] at hg f16 f17 hs
            obtain ⟨υ1, hυ1⟩ : ∃ υ1, υ1 = τ.alloc ⟨[.int .i64 4], .own⟩ := ⟨_, rfl⟩
            obtain ⟨υ2, hυ2⟩ : ∃ υ2, υ2 = υ1.alloc ⟨[.int .i64 2], .own⟩ := ⟨_, rfl⟩
            obtain ⟨υ3, hυ3⟩ : ∃ υ3, υ3 = υ2.alloc ⟨[.int .i64 2], .own⟩ := ⟨_, rfl⟩
            have kυ1 : Keeps τ υ1 := by rw [hυ1]; exact (Keeps.refl _).alloc
            have gυ1 : υ1.get id = some ⟨[.int .i64 x, .int .i64 y, .int .i64 z], .own⟩ := by rw [kυ1.2 id hlq, hg]
            have kυ2 : Keeps τ υ2 := by rw [hυ2]; exact (kυ1).alloc
            have gυ2 : υ2.get id = some ⟨[.int .i64 x, .int .i64 y, .int .i64 z], .own⟩ := by rw [kυ2.2 id hlq, hg]
            have kυ3 : Keeps τ υ3 := by rw [hυ3]; exact (kυ2).alloc
            have gυ3 : υ3.get id = some ⟨[.int .i64 x, .int .i64 y, .int .i64 z], .own⟩ := by rw [kυ3.2 id hlq, hg]
            have qυ1 := fun cap => fits_text υ1 τ.size cap x (by rw [hυ1]; simp)
            have qυ2 := fun cap => fits_int υ2 υ1.size cap y (by rw [hυ2]; simp)
            have qυ3 := fun cap => fits_int υ3 υ2.size cap z (by rw [hυ3]; simp)
            cases b1 : textF x with
            | false =>
              have hk : kindOk (bytes [115, 117, 98, 115, 116, 114]) [x, y, z] = (4, false) := by unfold kindOk; rw [if_neg (by decide), if_neg (by decide), if_neg (by decide), if_neg (by decide), if_neg (by decide), if_neg (by decide), if_neg (by decide), if_neg (by decide), if_neg (by decide), if_pos (by decide)]; simp [subK, b1]
              rw [kindF_no hall hk]
              simp (maxDischargeDepth := 99) [-List.any_eq_true, hlen, f0, f1, hs, sbin, beqL_iff, hg, f16, f17, hn1, t0, t1, t2, t3, t4, t5, t6, t7, t8, t9, t10, t11, t12, t13, t14, t15, t16, ← hυ1, ← hυ2, ← hυ3, qυ1, qυ2, qυ3, gυ1, gυ2, gυ3, kυ1, kυ2, kυ3, b1]
            | true =>
              cases b2 : intF y with
              | false =>
                have hk : kindOk (bytes [115, 117, 98, 115, 116, 114]) [x, y, z] = (4, false) := by unfold kindOk; rw [if_neg (by decide), if_neg (by decide), if_neg (by decide), if_neg (by decide), if_neg (by decide), if_neg (by decide), if_neg (by decide), if_neg (by decide), if_neg (by decide), if_pos (by decide)]; simp [subK, b1, b2]
                rw [kindF_no hall hk]
                simp (maxDischargeDepth := 99) [-List.any_eq_true, hlen, f0, f1, hs, sbin, beqL_iff, hg, f16, f17, hn1, t0, t1, t2, t3, t4, t5, t6, t7, t8, t9, t10, t11, t12, t13, t14, t15, t16, ← hυ1, ← hυ2, ← hυ3, qυ1, qυ2, qυ3, gυ1, gυ2, gυ3, kυ1, kυ2, kυ3, b1, b2]
              | true =>
                cases b3 : intF z with
                | false =>
                  have hk : kindOk (bytes [115, 117, 98, 115, 116, 114]) [x, y, z] = (4, false) := by unfold kindOk; rw [if_neg (by decide), if_neg (by decide), if_neg (by decide), if_neg (by decide), if_neg (by decide), if_neg (by decide), if_neg (by decide), if_neg (by decide), if_neg (by decide), if_pos (by decide)]; simp [subK, b1, b2, b3]
                  rw [kindF_no hall hk]
                  simp (maxDischargeDepth := 99) [-List.any_eq_true, hlen, f0, f1, hs, sbin, beqL_iff, hg, f16, f17, hn1, t0, t1, t2, t3, t4, t5, t6, t7, t8, t9, t10, t11, t12, t13, t14, t15, t16, ← hυ1, ← hυ2, ← hυ3, qυ1, qυ2, qυ3, gυ1, gυ2, gυ3, kυ1, kυ2, kυ3, b1, b2, b3]
                | true =>
                  have hk : kindOk (bytes [115, 117, 98, 115, 116, 114]) [x, y, z] = (4, true) := by unfold kindOk; rw [if_neg (by decide), if_neg (by decide), if_neg (by decide), if_neg (by decide), if_neg (by decide), if_neg (by decide), if_neg (by decide), if_neg (by decide), if_neg (by decide), if_pos (by decide)]; simp [subK, b1, b2, b3]
                  rw [kindF_yes hall hk]
                  simp (maxDischargeDepth := 99) [-List.any_eq_true, hlen, f0, f1, hs, sbin, beqL_iff, hg, f16, f17, hn1, t0, t1, t2, t3, t4, t5, t6, t7, t8, t9, t10, t11, t12, t13, t14, t15, t16, ← hυ1, ← hυ2, ← hυ3, qυ1, qυ2, qυ3, gυ1, gυ2, gυ3, kυ1, kυ2, kυ3, b1, b2, b3]
          · have hn3 : ¬ (l.length : Int) = 3 := by omega
            have hsub : subK l = false := by
              unfold subK
              split
              · exact absurd rfl hl3
              · rfl
            have hk : kindOk (bytes [115, 117, 98, 115, 116, 114]) l = (4, false) := by unfold kindOk; rw [if_neg (by decide), if_neg (by decide), if_neg (by decide), if_neg (by decide), if_neg (by decide), if_neg (by decide), if_neg (by decide), if_neg (by decide), if_neg (by decide), if_pos (by decide)]; rw [hsub]
            rw [kindF_no hall hk]
            simp (maxDischargeDepth := 99) [-List.any_eq_true, hlen, f0, f1, hs, sbin, beqL_iff, hg, f16, f17, hn1, t0, t1, t2, t3, t4, t5, t6, t7, t8, t9, t10, t11, t12, t13, t14, t15, t16, hn3, hl3]
        have hk : kindOk nm l = (0, false) := by simp [kindOk, t0, t1, t2, t3, t4, t5, t6, t7, t8, t9, t10, t11, t12, t13, t14, t15, t16, t17]
        rw [kindF_no hall hk]
        simp (maxDischargeDepth := 99) [-List.any_eq_true, hlen, f0, f1, hs, sbin, beqL_iff, hg, f16, f17, hn1, t0, t1, t2, t3, t4, t5, t6, t7, t8, t9, t10, t11, t12, t13, t14, t15, t16, t17]
end Go.Proofs.YtdpfgdmlmkpmbaaGreatDoor.Ab
