/- Several of my texts in one: Cd6, Cd7, Cd8, Cd9. -/
import Derived.Test.YtdpfgdmlmkpmbaaGreatDoorCdA
import Derived.Test.YtdpfgdmlmkpmbaaGreatDoorLitCd
/- The program's maker: its instructions as they grow. -/
namespace Go.Proofs.YtdpfgdmlmkpmbaaGreatDoor.Ab
open Go
set_option maxRecDepth 20000
set_option maxHeartbeats 8000000
set_option linter.unusedSimpArgs false

def icells (l : List Ins) : List SV := (l.map Ins.cells).flatten
theorem icells_len : ∀ l : List Ins, (icells l).length = l.length * 6
  | [] => rfl
  | o :: l => by
    have := icells_len l
    unfold icells at this ⊢
    simp only [List.map_cons, List.flatten_cons, List.length_append, this, Ins.cells_len, List.length_cons]
    omega
theorem icells_snoc (l : List Ins) (o : Ins) : icells (l ++ [o]) = icells l ++ o.cells := by simp [icells]
def notOf (s : SV) (id : Nat) : Prop := ∀ o e k c, s ≠ .slice id o e k c
/-- Append by one: only the slice's own old object dies, the new one is the newest. -/
theorem append_own {b : Nat} {τ : AHeap} {esz bytes : Nat} {s : AV} {cells vs : List SV} {n : Nat} (h : OutSl b τ esz s cells n) (hb : b ≤ τ.size) (he : 0 < esz)
    (hv : vs.length = esz) (hn : n + 1 ≤ maxElems) (hby : bytes ≤ maxBytes) :
    OptP (appendA τ esz bytes s 1 vs) (fun _ s' τ' => OutSl b τ' esz s' (cells ++ vs) (n + 1) ∧ τ'.size = τ.size + 1 ∧ s' = .one (.slice τ.size 0 esz (n + 1) none) ∧
      ∀ id, id < τ.size → (∀ o e k c, s ≠ .one (.slice id o e k c)) → τ'.get id = τ.get id) := by
  obtain ⟨hc, h⟩ := h
  rcases h with ⟨rfl, rfl⟩ | ⟨q, rfl, h0, hq, hg⟩
  · have h1 : 1 ≤ maxElems := by decide
    have hc0 : cells = [] := by simpa using hc
    subst hc0
    simp [appendA, appendK, h1, hby]
    refine ⟨⟨by simpa using hv, .inr ⟨τ.size, rfl, by omega, hb, by simp⟩⟩, fun id hid hid' => by omega⟩
  · have hlt := AHeap.get_lt hg
    have h2 : ¬ ((n + 1) * esz ≤ cells.length) := by rw [hc, Nat.succ_mul]; omega
    simp [appendA, appendK, hn, hby, hg, h2, hc.symm]
    have hmul : cells.length + esz = (n + 1) * esz := by rw [hc, Nat.succ_mul]
    refine ⟨⟨by simp [hv, hmul], .inr ⟨τ.size, rfl, by omega, hb, by simp⟩⟩, fun id hid hne => ?_⟩
    have e1 : ¬ (id = q ∧ q < τ.size) := fun e => hne 0 esz n none e.1.symm rfl rfl rfl rfl
    rw [if_neg (by omega), if_neg e1]

/-- A maker, with its instructions. -/
structure Mk (τ : AHeap) (m : Nat) (F A s : SV) (ops : List Ins) (bad : Bool) : Prop where
  obj : τ.get m = some ⟨[F, A, s, .bool bad], .own⟩
  sl : OutSl (m + 1) τ 6 (.one s) (icells ops) ops.length
/-- What a maker's step may change. -/
def Mv (m : Nat) (τ : AHeap) (s : SV) (τ' : AHeap) (s' : SV) : Prop := τ.size ≤ τ'.size ∧ ∀ id, id < τ.size → id ≠ m → notOf s id → τ'.get id = τ.get id ∧ notOf s' id
theorem Mv.refl (m : Nat) (τ : AHeap) (s : SV) : Mv m τ s τ s := ⟨Nat.le_refl _, fun _ _ _ h => ⟨rfl, h⟩⟩
theorem Mv.trans {m : Nat} {a b c : AHeap} {s t u : SV} (h : Mv m a s b t) (k : Mv m b t c u) : Mv m a s c u :=
  ⟨Nat.le_trans h.1 k.1, fun id h1 h2 h3 => by
    obtain ⟨q1, q2⟩ := h.2 id h1 h2 h3
    obtain ⟨q3, q4⟩ := k.2 id (Nat.lt_of_lt_of_le h1 h.1) h2 q2
    exact ⟨q3.trans q1, q4⟩⟩
theorem Mk.notOf_lt {τ : AHeap} {m : Nat} {F A s : SV} {ops : List Ins} {bad : Bool} (h : Mk τ m F A s ops bad) {id : Nat} (hid : id ≤ m ∨ τ.size ≤ id) : notOf s id := by
  intro o e k c he
  rcases h.sl.2 with ⟨h1, _⟩ | ⟨q, h1, _, h2, h3⟩
  · rw [he] at h1; cases h1
  · rw [he] at h1; cases h1
    have := AHeap.get_lt h3
    omega
/-- What was made beside it leaves a maker as it was. -/
theorem Mk.stay {τ τ' : AHeap} {m : Nat} {F A s : SV} {ops : List Ins} {bad : Bool} (h : Mk τ m F A s ops bad) (hk : ∀ id, id < τ.size → τ'.get id = τ.get id) : Mk τ' m F A s ops bad :=
  ⟨by rw [hk _ (AHeap.get_lt h.obj)]; exact h.obj, h.sl.stay (fun id _ h2 => hk id h2)⟩
theorem Mk.keeps {τ τ' : AHeap} {m : Nat} {F A s : SV} {ops : List Ins} {bad : Bool} (h : Mk τ m F A s ops bad) (hk : Keeps τ τ') : Mk τ' m F A s ops bad := h.stay hk.2
theorem Mv.keeps {τ τ' : AHeap} {m : Nat} {F A s : SV} {ops : List Ins} {bad : Bool} (_ : Mk τ m F A s ops bad) (hk : Keeps τ τ') : Mv m τ s τ' s := ⟨hk.1, fun id h1 _ h3 => ⟨hk.2 id h1, h3⟩⟩

theorem mk_emit {τ : AHeap} {m : Nat} {F A s : SV} {ops : List Ins} {bad : Bool} (h : Mk τ m F A s ops bad) (hn : ops.length < maxElems) (o : Ins) :
    OptP (lim TyD 37 [.one (.ptr m 0), .agg o.cells] τ) (fun _ v τ' => v = .one (.int .i64 ops.length) ∧ ∃ s', Mk τ' m F A s' (ops ++ [o]) bad ∧ Mv m τ s τ' s') := by
  refine lim_code (TyD_prim rfl) ((TyD_code _).trans codeCEmit) rfl ?_
  unfold BodyP
  obtain ⟨τ2, hτ2⟩ : ∃ τ2, τ2 = (τ.alloc ⟨o.cells, .own⟩).alloc ⟨o.cells, .own⟩ := ⟨_, rfl⟩
  have hk2 : Keeps τ τ2 := by rw [hτ2]; exact (Keeps.refl τ).alloc.alloc
  have hz2 : τ2.size = τ.size + 2 := by rw [hτ2]; simp
  have hm := AHeap.get_lt h.obj
  have h2 := h.keeps hk2
  have hg2 : τ2.get (τ.size + 1) = some ⟨o.cells, .own⟩ := by rw [hτ2]; simp
  have htk : List.take 6 o.cells = o.cells := rfl
  have hap := append_own (bytes := 64) (vs := o.cells) h2.sl (by omega) (by omega) rfl hn (by decide)
  have hobj := h.obj
  have hobj2 := h2.obj
  have hwl : wr .i64 (((ops.length + 1 : Nat) : Int) - 1) = ops.length := by unfold maxElems at hn; rw [wr64 (by omega) (by omega)]; omega
  have hm2 : ¬ m = τ.size := by omega
  have hspl : splice [.int .i64 0, .int .i64 0, .str [], .int .i64 0, .int .i64 0, .str []] 0 o.cells = o.cells := rfl
  have hnot : notOf s m := h.notOf_lt (.inl (Nat.le_refl _))
  simp (maxDischargeDepth := 99) [-writeAt, -splice, cCEmit, hobj, hm2, Ins.cells_len, htk, repeatCells, hspl, ← hτ2, srcLen, srcCells, hg2]
  refine hap.mono ?_
  rintro s' τ5 ⟨q1, q2, rfl, q3⟩
  have hg5 : τ5.get m = some ⟨[F, A, s, .bool bad], .own⟩ := by rw [q3 m (by omega) (fun o e k c he => hnot o e k c (AV.one.inj he)), hobj2]
  obtain ⟨τ6, hτ6⟩ : ∃ τ6, τ6 = τ5.put m ⟨[F, A, .slice τ2.size 0 6 (ops.length + 1) none, .bool bad], .own⟩ := ⟨_, rfl⟩
  have hw6 : writeAt τ5 m 2 [.slice τ2.size 0 6 (ops.length + 1) none] = some τ6 := by
    rw [hτ6]
    simp [writeAt, splice, hg5]
  have hg6 : τ6.get m = some ⟨[F, A, .slice τ2.size 0 6 (ops.length + 1) none, .bool bad], .own⟩ := by rw [hτ6]; simp [AHeap.get_lt hg5]
  simp (maxDischargeDepth := 99) [-writeAt, hw6, hg6, hwl]
  have hwn : wr .i64 (ops.length : Int) = ops.length := by unfold maxElems at hn; exact wr64 (by omega) (by omega)
  refine ⟨hwn, _, ⟨hg6, ?_⟩, ?_, fun id h1 h2' h3 => ⟨?_, ?_⟩⟩
  · have h7 := q1.stay (τ' := τ6) (fun id h1 h2 => by rw [hτ6, AHeap.get_put', if_neg (by omega)])
    simpa [icells_snoc] using h7
  · rw [hτ6, AHeap.size_put]; omega
  · rw [hτ6, AHeap.get_put', if_neg (by omega), q3 id (by omega) (fun o e k c he => h3 o e k c (AV.one.inj he)), hk2.2 id h1]
  · intro o e k c he
    cases he
    omega

def pshI (k n : Int) (s : List UInt8) : Ins := ⟨1, 0, [], k, n, s⟩
def binI (s : List UInt8) : Ins := ⟨4, 0, s, 0, 0, []⟩
theorem mk_push {τ : AHeap} {m : Nat} {F A s : SV} {ops : List Ins} {bad : Bool} (h : Mk τ m F A s ops bad) (hn : ops.length < maxElems) (k n : Int) (x : List UInt8) :
    OptP (lim TyD 35 [.one (.ptr m 0), .one (.int .i64 k), .one (.int .i64 n), .one (.str x)] τ) (fun _ v τ' => v = .tup [] ∧ ∃ s', Mk τ' m F A s' (ops ++ [pshI k n x]) bad ∧ Mv m τ s τ' s') := by
  refine lim_code (TyD_prim rfl) ((TyD_code _).trans codeCPush) rfl ?_
  unfold BodyP
  have he := mk_emit h hn (pshI k n x)
  have hc : (pshI k n x).cells = [.int .i64 1, .int .i64 0, .str [], .int .i64 k, .int .i64 n, .str x] := rfl
  rw [hc] at he
  simp (maxDischargeDepth := 99) [cCPush]
  refine he.mono ?_
  rintro v τ' ⟨rfl, hs⟩
  simp (maxDischargeDepth := 99)
  exact hs
theorem mk_binary {τ : AHeap} {m : Nat} {F A s : SV} {ops : List Ins} {bad : Bool} (h : Mk τ m F A s ops bad) (hn : ops.length < maxElems) (x : List UInt8) :
    OptP (lim TyD 42 [.one (.ptr m 0), .one (.str x)] τ) (fun _ v τ' => v = .tup [] ∧ ∃ s', Mk τ' m F A s' (ops ++ [binI x]) bad ∧ Mv m τ s τ' s') := by
  refine lim_code (TyD_prim rfl) ((TyD_code _).trans codeCBinary) rfl ?_
  unfold BodyP
  have he := mk_emit h hn (binI x)
  have hc : (binI x).cells = [.int .i64 4, .int .i64 0, .str x, .int .i64 0, .int .i64 0, .str []] := rfl
  rw [hc] at he
  simp (maxDischargeDepth := 99) [cCBinary]
  refine he.mono ?_
  rintro v τ' ⟨rfl, hs⟩
  simp (maxDischargeDepth := 99)
  exact hs

/-! ### a whole number -/
def litT (n : Int) : T := .mk 3 [] n 0 []
/-- What an expression that is a whole number adds: nothing where there are too many instructions. -/
def intS (n : Int) (p : List Ins × Bool) : List Ins × Bool := if 4096 < p.1.length then (p.1, true) else (p.1 ++ [pshI 2 n []], p.2)
theorem mk_int {τ : AHeap} {m : Nat} {F A s : SV} {ops : List Ins} {bad : Bool} (h : Mk τ m F A s ops bad) (hn : ops.length < maxElems) (n : Int) :
    OptP (lim TyD 22 [.one (.ptr m 0), .agg (litT n).cells] τ) (fun _ v τ' => v = .tup [] ∧ ∃ s', Mk τ' m F A s' (intS n (ops, bad)).1 (intS n (ops, bad)).2 ∧ Mv m τ s τ' s') := by
  refine lim_code (TyD_prim rfl) ((TyD_code _).trans codeCMExpr) rfl ?_
  unfold BodyP
  have hobj := h.obj
  have hm := AHeap.get_lt h.obj
  have hm2 : ¬ m = τ.size := by omega
  have hc : (litT n).cells = [.int .i64 3, .str [], .int .i64 n, .int .i64 0, .lst []] := rfl
  rw [hc]
  obtain ⟨τ1, hτ1⟩ : ∃ τ1, τ1 = τ.alloc ⟨[.int .i64 3, .str [], .int .i64 n, .int .i64 0, .lst []], .own⟩ := ⟨_, rfl⟩
  have hk1 : Keeps τ τ1 := by rw [hτ1]; simp
  have h1 := h.keeps hk1
  have hobj1 := h1.obj
  have hg1 : τ1.get τ.size = some ⟨[.int .i64 3, .str [], .int .i64 n, .int .i64 0, .lst []], .own⟩ := by rw [hτ1]; simp
  have hs : (s = .nilSlice ∧ ops.length = 0) ∨ ∃ q, s = .slice q 0 6 ops.length none := by
    rcases h.sl.2 with ⟨h1, h2⟩ | ⟨q, h1, _⟩
    · exact .inl ⟨AV.one.inj h1, h2⟩
    · exact .inr ⟨q, AV.one.inj h1⟩
  by_cases hbig : 4096 < ops.length
  · have hbig' : (4096 : Int) < (ops.length : Int) := by omega
    rcases hs with ⟨_, h0⟩ | ⟨q, hs⟩
    · omega
    · obtain ⟨τ2, hτ2⟩ : ∃ τ2, τ2 = τ1.put m ⟨[F, A, s, .bool true], .own⟩ := ⟨_, rfl⟩
      have hw : writeAt τ1 m 3 [.bool true] = some τ2 := by
        rw [hτ2]
        simp [writeAt, splice, hobj1]
      have hi : intS n (ops, bad) = (ops, true) := by unfold intS; rw [if_pos hbig]
      rw [hi]
      have hr : ∃ s', Mk τ2 m F A s' ops true ∧ Mv m τ s τ2 s' := by
        refine ⟨s, ⟨by rw [hτ2]; simp [AHeap.get_lt hobj1], h1.sl.stay (fun id q1 q2 => by rw [hτ2, AHeap.get_put', if_neg (by omega)])⟩, ?_, fun id q1 q2 q3 => ⟨?_, q3⟩⟩
        · rw [hτ2, AHeap.size_put]; exact hk1.1
        · rw [hτ2, AHeap.get_put', if_neg (by omega), hk1.2 id q1]
      rw [hs] at hobj hobj1
      simp (maxDischargeDepth := 99) [-writeAt, cCMExpr, ← hτ1, hobj1, hobj, hm2, hbig', hw]
      exact hr
  · have hbig' : ¬ (4096 : Int) < (ops.length : Int) := by omega
    have hi : intS n (ops, bad) = (ops ++ [pshI 2 n []], bad) := by unfold intS; rw [if_neg hbig]
    rw [hi]
    have hp := mk_push h1 hn 2 n []
    have hfin : ∀ τ', (∃ s', Mk τ' m F A s' (ops ++ [pshI 2 n []]) bad ∧ Mv m τ1 s τ' s') → ∃ s', Mk τ' m F A s' (ops ++ [pshI 2 n []]) bad ∧ Mv m τ s τ' s' := by
      rintro τ' ⟨s', q1, q2⟩
      exact ⟨s', q1, (Mv.keeps h hk1).trans q2⟩
    rcases hs with ⟨hs, h0⟩ | ⟨q, hs⟩
    · rw [hs] at hobj hobj1
      simp (maxDischargeDepth := 99) [-writeAt, cCMExpr, ← hτ1, hobj1, hobj, hm2, hg1]
      refine hp.mono ?_
      rintro v τ' ⟨rfl, hq⟩
      simp (maxDischargeDepth := 99)
      exact hfin _ hq
    · rw [hs] at hobj hobj1
      simp (maxDischargeDepth := 99) [-writeAt, cCMExpr, ← hτ1, hobj1, hobj, hm2, hg1, hbig']
      refine hp.mono ?_
      rintro v τ' ⟨rfl, hq⟩
      simp (maxDischargeDepth := 99)
      exact hfin _ hq
end Go.Proofs.YtdpfgdmlmkpmbaaGreatDoor.Ab

/- The program's maker on a list of whole numbers. -/
namespace Go.Proofs.YtdpfgdmlmkpmbaaGreatDoor.Ab
open Go
set_option maxRecDepth 20000
set_option maxHeartbeats 16000000
set_option linter.unusedSimpArgs false

def inT (l : List Int) : T := .mk 11 [] 0 0 (litT 1 :: l.map litT)
abbrev St := List Ins × Bool
def inStep (i : Nat) (n : Int) (p : St) : St :=
  if 0 < i then (((intS n (intS 1 p)).1 ++ [binI (bytes [61])]) ++ [binI (bytes [111, 114])], (intS n (intS 1 p)).2)
  else ((intS n (intS 1 p)).1 ++ [binI (bytes [61])], (intS n (intS 1 p)).2)
def inGo : Nat → List Int → St → St
  | _, [], p => p
  | i, n :: l, p => inGo (i + 1) l (inStep i n p)
theorem intS_len (n : Int) (p : St) : p.1.length ≤ (intS n p).1.length ∧ (intS n p).1.length ≤ p.1.length + 1 := by
  unfold intS
  split <;> simp
theorem inStep_len (i : Nat) (n : Int) (p : St) : (inStep i n p).1.length ≤ p.1.length + 4 := by
  have h1 := intS_len 1 p
  have h2 := intS_len n (intS 1 p)
  unfold inStep
  split <;> simp <;> omega

theorem mk_int' {τ : AHeap} {m : Nat} {F A s : SV} {p : St} (h : Mk τ m F A s p.1 p.2) (hn : p.1.length < maxElems) (n : Int) :
    OptP (lim TyD 22 [.one (.ptr m 0), .agg (litT n).cells] τ) (fun _ v τ' => v = .tup [] ∧ ∃ s', Mk τ' m F A s' (intS n p).1 (intS n p).2 ∧ Mv m τ s τ' s') := by
  obtain ⟨ops, bad⟩ := p
  exact mk_int h hn n

/-- Ahead of the i-th of the list. -/
def I7 (l : List Int) (m b : Nat) (F A s0 : SV) (τ0 : AHeap) (p0 : St) (i : Nat) (fr : List AV) (τ : AHeap) : Prop :=
  ∃ s p, fr.length = 191 ∧ getSlot fr 0 = .one (.ptr m 0) ∧ getSlot fr 3 = .one (.ptr b 0) ∧ getSlot fr 137 = .one (.lst (l.map fun n => (litT n).cells)) ∧ getSlot fr 138 = .one (.int .i64 l.length) ∧ getSlot fr 139 = .one (.int .i64 i) ∧
    Mk τ m F A s p.1 p.2 ∧ τ.get b = some ⟨[.int .i64 11, .str [], .int .i64 0, .int .i64 0, .lst ((litT 1).cells :: l.map fun n => (litT n).cells)], .own⟩ ∧ b ≠ m ∧ notOf s b ∧ Mv m τ0 s0 τ s ∧ p.1.length ≤ p0.1.length + 4 * i ∧ inGo i (l.drop i) p = inGo 0 l p0

theorem step7 (l : List Int) (m b : Nat) (F A s0 : SV) (τ0 : AHeap) (p0 : St) (hl : p0.1.length + 4 * l.length < maxElems) (i : Nat) (fr : List AV) (τ : AHeap) (hlt : i < l.length) (hI : I7 l m b F A s0 τ0 p0 i fr τ) (E : KE) (R : KN) :
    EndsI .go (lim TyD) cCMExpr_0 fr τ (fun _ fr τ => I7 l m b F A s0 τ0 p0 (i + 1) fr τ) E R := by
  obtain ⟨s, p, hlen, f0, f3, f137, f138, f139, hmk, hb, hbm, hnb, hmv, hpl, hgo⟩ := hI
  have hm' : l.length ≤ maxElems := by omega
  have hw := wr_next hlt hm'
  have hlti : (i : Int) < (l.length : Int) := by omega
  rw [List.drop_eq_getElem_cons hlt, inGo] at hgo
  obtain ⟨n, hn⟩ : ∃ n, l[i] = n := ⟨_, rfl⟩
  rw [hn] at hgo
  have hcl : (litT n).cells.length = 5 := rfl
  have htk : List.take 5 (litT n).cells = (litT n).cells := rfl
  have htk1 : List.take 5 (litT 1).cells = (litT 1).cells := rfl
  have hcl1 : (litT 1).cells.length = 5 := rfl
  obtain ⟨τ1, hτ1⟩ : ∃ τ1, τ1 = (τ.alloc ⟨[.int .i64 0, .str [], .int .i64 0, .int .i64 0, .nilSlice], .own⟩).put τ.size ⟨(litT n).cells, .own⟩ := ⟨_, rfl⟩
  have hk1 : Keeps τ τ1 := by rw [hτ1]; exact (Keeps.refl τ).alloc.put (Nat.le_refl _)
  have hz1 : τ1.size = τ.size + 1 := by rw [hτ1]; simp
  have hg1 : τ1.get τ.size = some ⟨(litT n).cells, .own⟩ := by rw [hτ1]; simp
  have hwz : writeAt (τ.alloc ⟨[.int .i64 0, .str [], .int .i64 0, .int .i64 0, .nilSlice], .own⟩) τ.size 0 (litT n).cells = some τ1 := by
    rw [hτ1]
    simp [writeAt, splice, litT, T.cells, T.cellsL]
  have hmk1 := hmk.keeps hk1
  have hmv1 := hmv.trans (Mv.keeps hmk hk1)
  have hb1 : τ1.get b = some ⟨[.int .i64 11, .str [], .int .i64 0, .int .i64 0, .lst ((litT 1).cells :: l.map fun n => (litT n).cells)], .own⟩ := by rw [hk1.2 b (AHeap.get_lt hb)]; exact hb
  have hnt : notOf s τ.size := hmk.notOf_lt (.inr (Nat.le_refl _))
  have hml := AHeap.get_lt hmk.obj
  have hbl := AHeap.get_lt hb
  have hlen1 := intS_len 1 p
  have hlen2 := intS_len n (intS 1 p)
  have h1 := mk_int' hmk1 (by omega) 1
  simp (maxDischargeDepth := 99) [-writeAt, cCMExpr_0, hlen, f0, f3, f137, f138, f139, hlti, hlt, hn, hcl, htk, hwz, hb1, hcl1, htk1]
  refine h1.mono ?_
  rintro v τ2 ⟨rfl, s2, hmk2, hmv2⟩
  have hg2 : τ2.get τ.size = some ⟨(litT n).cells, .own⟩ := by rw [(hmv2.2 τ.size (by omega) (by omega) hnt).1, hg1]
  have hb2 := hmv2.2 b (by omega) hbm hnb
  have h2 := mk_int' hmk2 (by omega) n
  simp (maxDischargeDepth := 99) [-writeAt, hlen, f0, hg2, hcl, htk]
  refine h2.mono ?_
  rintro v τ3 ⟨rfl, s3, hmk3, hmv3⟩
  have hb3 := hmv3.2 b (by have := hmv2.1; omega) hbm hb2.2
  have h3 := mk_binary hmk3 (by omega) (bytes [61])
  simp (maxDischargeDepth := 99) [-writeAt, hlen, f0]
  refine h3.mono ?_
  rintro v τ4 ⟨rfl, s4, hmk4, hmv4⟩
  have hb4 := hmv4.2 b (by have := hmv2.1; have := hmv3.1; omega) hbm hb3.2
  by_cases h0 : 0 < i
  · have h0' : (0 : Int) < (i : Int) := by omega
    have h4 := mk_binary hmk4 (by simp; omega) (bytes [111, 114])
    simp (maxDischargeDepth := 99) [-writeAt, hlen, f0, h0', h0]
    refine h4.mono ?_
    rintro v τ5 ⟨rfl, s5, hmk5, hmv5⟩
    have hb5 := hmv5.2 b (by have := hmv2.1; have := hmv3.1; have := hmv4.1; omega) hbm hb4.2
    have hst : inStep i n p = (((intS n (intS 1 p)).1 ++ [binI (bytes [61])]) ++ [binI (bytes [111, 114])], (intS n (intS 1 p)).2) := by unfold inStep; rw [if_pos h0]
    have hln := inStep_len i n p
    simp (maxDischargeDepth := 99) [-writeAt, hlen, f139, hw]
    refine ⟨s5, inStep i n p, by simp [hlen], by simp [hlen, f0], by simp [hlen, f3], by simp [hlen, f137], by simp [hlen, f138], by simp [hlen], by rw [hst]; exact hmk5, ?_, hbm, hb5.2, (((hmv1.trans hmv2).trans hmv3).trans hmv4).trans hmv5, by omega, hgo⟩
    rw [hb5.1, hb4.1, hb3.1, hb2.1, hb1]
  · have h0' : ¬ (0 : Int) < (i : Int) := by omega
    have hst : inStep i n p = ((intS n (intS 1 p)).1 ++ [binI (bytes [61])], (intS n (intS 1 p)).2) := by unfold inStep; rw [if_neg h0]
    have hln := inStep_len i n p
    simp (maxDischargeDepth := 99) [-writeAt, hlen, f0, h0', h0, f139, hw]
    refine ⟨s4, inStep i n p, by simp [hlen], by simp [hlen, f0], by simp [hlen, f3], by simp [hlen, f137], by simp [hlen, f138], by simp [hlen], by rw [hst]; exact hmk4, ?_, hbm, hb4.2, ((hmv1.trans hmv2).trans hmv3).trans hmv4, by omega, hgo⟩
    rw [hb4.1, hb3.1, hb2.1, hb1]

theorem mk_in {τ : AHeap} {m : Nat} {F A : SV} (h : Mk τ m F A .nilSlice [] false) (l : List Int) (hl : 4 * l.length < maxElems) :
    OptP (lim TyD 22 [.one (.ptr m 0), .agg (inT l).cells] τ) (fun _ v τ' => v = .tup [] ∧ ∃ s', Mk τ' m F A s' (inGo 0 l ([], false)).1 (inGo 0 l ([], false)).2 ∧ Mv m τ .nilSlice τ' s') := by
  refine lim_code (TyD_prim rfl) ((TyD_code _).trans codeCMExpr) rfl ?_
  unfold BodyP
  have hobj := h.obj
  have hm := AHeap.get_lt h.obj
  have hm2 : ¬ m = τ.size := by omega
  have hc : (inT l).cells = [.int .i64 11, .str [], .int .i64 0, .int .i64 0, .lst ((litT 1).cells :: l.map fun n => (litT n).cells)] := by
    simp [inT, T.cells, T.cellsL, T.cellsL_map]
  rw [hc]
  obtain ⟨τ1, hτ1⟩ : ∃ τ1, τ1 = τ.alloc ⟨[.int .i64 11, .str [], .int .i64 0, .int .i64 0, .lst ((litT 1).cells :: l.map fun n => (litT n).cells)], .own⟩ := ⟨_, rfl⟩
  have hk1 : Keeps τ τ1 := by rw [hτ1]; simp
  have h1 := h.keeps hk1
  have hobj1 := h1.obj
  have hg1 : τ1.get τ.size = some ⟨[.int .i64 11, .str [], .int .i64 0, .int .i64 0, .lst ((litT 1).cells :: l.map fun n => (litT n).cells)], .own⟩ := by rw [hτ1]; simp
  have hlw2 : ∀ ll : List (List SV), lstW 5 (((litT 1).cells :: ll)) = true := fun _ => rfl
  have htl : List.take l.length (List.map (fun n => (litT n).cells) l) = List.map (fun n => (litT n).cells) l := List.take_of_length_le (by simp)
  have hz1 : τ1.size = τ.size + 1 := by rw [hτ1]; simp
  simp (maxDischargeDepth := 99) [-writeAt, cCMExpr, ← hτ1, hobj1, hobj, hm2, hg1, hlw2, htl]
  refine endsi_to 1 (fun fr τ' => ∃ s', Mk τ' m F A s' (inGo 0 l ([], false)).1 (inGo 0 l ([], false)).2 ∧ Mv m τ1 .nilSlice τ' s') ?_ ?_
  · refine endsi_range l.length (I7 l m τ.size F A .nilSlice τ1 ([], false)) ?_ ?_ ?_
    · exact ⟨.nilSlice, ([], false), by simp, by simp, by simp, by simp, by simp, by simp, h1, hg1, by omega, (fun o e k c he => by cases he), Mv.refl _ _ _, by simp, rfl⟩
    · intro i fr τ' hlt hI
      exact step7 l m τ.size F A .nilSlice τ1 ([], false) (by simpa using hl) i fr τ' hlt hI _ _
    · rintro fr τ' ⟨s, p, hlen, f0, f3, f137, f138, f139, hmk, hb, hbm, hnb, hmv, hpl, hgo⟩
      rw [List.drop_length, inGo] at hgo
      simp (maxDischargeDepth := 99) [cCMExpr_0, hlen, f138, f139]
      exact ⟨s, by rw [← hgo]; exact hmk, hmv⟩
  · rintro fr τ' ⟨s', q1, q2⟩
    simp (maxDischargeDepth := 99)
    exact ⟨s', q1, (Mv.keeps h hk1).trans q2⟩
end Go.Proofs.YtdpfgdmlmkpmbaaGreatDoor.Ab

/- A list of whole numbers, compiled: what comes of it, and how high its stack grows. -/
namespace Go.Proofs.YtdpfgdmlmkpmbaaGreatDoor.Ab
open Go
set_option maxRecDepth 20000
set_option maxHeartbeats 8000000
set_option linter.unusedSimpArgs false

/-! ### its type -/
theorem expr_lit {n : Int} (h : 0 ≤ n) : exprB (litT n) = true := by
  rw [exprB_eq]
  simp [leafB, litT, T.kind, T.text, T.n, T.kids, h]
theorem expS_lit (F : List Fld) (aggs ins : Bool) (n : Int) : expS F aggs (litT n) ins ⟨0, 0⟩ = (2, ⟨0, 0⟩) := by
  rw [expS_eq]
  simp [nodeS, litT, T.kind]
theorem kinds_lits (F : List Fld) (aggs ins : Bool) : ∀ l : List Int, kindsS (fun t st => expS F aggs t ins st) (l.map litT) ⟨0, 0⟩ = (List.replicate l.length 2, ⟨0, 0⟩)
  | [] => rfl
  | n :: l => by
    rw [List.map_cons, kindsS, expS_lit]
    simp only
    rw [kinds_lits F aggs ins l]
    rfl
theorem compared22 : comparedB 2 2 = true := by decide
theorem in_type (l : List Int) (h0 : l ≠ []) (hp : ∀ n ∈ l, 0 ≤ n) : exprB (inT l) = true ∧ tyExpr [] true (inT l) = (1, 0, 0) := by
  have he : exprB (inT l) = true := by
    rw [exprB_eq]
    have hall : (inT l).kids.all exprB = true := by
      rw [List.all_eq_true]
      intro t ht
      simp only [inT, T.kids, List.mem_cons, List.mem_map] at ht
      rcases ht with rfl | ⟨n, hn, rfl⟩
      · exact expr_lit (by omega)
      · exact expr_lit (hp n hn)
    have hlen : 1 ≤ l.length := by
      cases l with
      | nil => exact absurd rfl h0
      | cons => simp
    have hh : headB (inT l) = true := by
      simp [headB, inT, T.kind, bareB, T.text, T.n, T.kids]
      omega
    rw [hh, hall]
    simp
  refine ⟨he, ?_⟩
  have hx : expS [] true (inT l) false ⟨0, 0⟩ = (1, ⟨0, 0⟩) := by
    rw [expS_eq]
    have hk : kindsS (fun t st => expS [] true t false st) (inT l).kids ⟨0, 0⟩ = (List.replicate (l.length + 1) 2, ⟨0, 0⟩) := by
      have := kinds_lits [] true false (1 :: l)
      simpa [inT, T.kids] using this
    simp only [nodeS, hk]
    have hkd : (inT l).kind = 11 := rfl
    rw [hkd]
    simp [amongS, List.replicate_succ, compared22]
  unfold tyExpr
  rw [if_pos he, hx]
  simp
theorem inT_size (l : List Int) : (inT l).size = l.length + 2 := by
  have h : ∀ l : List Int, T.sizeL (l.map litT) = l.length := by
    intro l
    induction l with
    | nil => rfl
    | cons n l ih =>
      simp only [List.map_cons, T.sizeL, ih, litT, T.size, List.length_nil, List.length_cons]
      omega
  simp only [inT, T.size, T.sizeL, h, litT, List.length_nil]
  omega

/-! ### Compile -/
def compF (l : List Int) : List Ins × Int :=
  if (inGo 0 l ([], false)).2 = true ∨ 4096 < (inGo 0 l ([], false)).1.length then ([], 120)
  else if (heightsF (inGo 0 l ([], false)).1).2 = true then ((inGo 0 l ([], false)).1, 0) else ([], 120)
theorem ichunks : ∀ l : List Ins, chunks 6 l.length (icells l) = l.map Ins.cells
  | [] => rfl
  | o :: l => by
    have h1 : icells (o :: l) = o.cells ++ icells l := by simp [icells]
    rw [List.length_cons, chunks, h1, List.take_append_of_le_length (by rw [Ins.cells_len]; exact Nat.le_refl _), List.drop_append_of_le_length (by rw [Ins.cells_len]; exact Nat.le_refl _)]
    rw [List.take_of_length_le (by rw [Ins.cells_len]; exact Nat.le_refl _), List.drop_eq_nil_of_le (by rw [Ins.cells_len]; exact Nat.le_refl _), List.nil_append, ichunks l]
    rfl
theorem frz_ins (F : SV → Option (SV × List Nat)) (hi : ∀ k n, F (.int k n) = some (.int k n, [])) (hs : ∀ s, F (.str s) = some (.str s, [])) (l : List Ins) : frzEW F (l.map Ins.cells) = some (l.map Ins.cells, []) := by
  refine frzEW_id F (fun e he => ?_)
  obtain ⟨o, _, rfl⟩ := List.mem_map.1 he
  refine frzLW_id F (fun s hs' => ?_)
  simp only [Ins.cells, List.mem_cons, List.not_mem_nil, or_false] at hs'
  rcases hs' with rfl | rfl | rfl | rfl | rfl | rfl <;> first | exact hi _ _ | exact hs _
theorem frzD_slice {f : Nat} {σ : AHeap} {id off esz len : Nat} {cap : Option Nat} {cs : List SV} {es : List (List SV)} {ids : List Nat} (hg : σ.get id = some ⟨cs, .own⟩) (hl : off + len * esz ≤ cs.length)
    (he : frzEW (frzD f σ) (chunks esz len (cs.drop off)) = some (es, ids)) : frzD (f + 1) σ (.slice id off esz len cap) = some (.lst es, id :: ids) := by
  have hb : Nat.ble (off + len * esz) cs.length = true := Nat.ble_eq_true_of_le hl
  rw [frzD]
  simp only [hg, hb, he]
/-- A slice of instructions of one's own, handed over. -/
theorem frz_out {τ : AHeap} {b : Nat} {s : SV} {ops : List Ins} (h : OutSl b τ 6 (.one s) (icells ops) ops.length) : ∃ ids, frzDA frzDepth τ (.one s) = some (.one (.lst (ops.map Ins.cells)), ids) := by
  rcases h.2 with ⟨h1, h2⟩ | ⟨q, h1, h2, h3, h4⟩
  · cases h1
    have : ops = [] := List.length_eq_zero_iff.1 h2
    subst this
    exact ⟨[], rfl⟩
  · cases h1
    have hf := frz_ins (frzD 8 τ) (fun _ _ => rfl) (fun _ => rfl) ops
    refine ⟨[q], ?_⟩
    have h5 := frzD_slice (cap := none) (f := 8) (off := 0) (esz := 6) (len := ops.length) h4 (by rw [icells_len]; omega) (by rw [List.drop_zero, ichunks]; exact hf)
    simp only [frzDA, frzDepth]
    rw [h5]

theorem eq_compile (σ : AHeap) (args : List AV) (ids : List Nat) (l : List Int) (h0 : l ≠ []) (hp : ∀ n ∈ l, 0 ≤ n) (hl : 4 * l.length < maxElems)
    (ha : frzDAs frzDepth σ args = some ([.agg (inT l).cells, .one (.lst []), .one (.lst [])], ids)) :
    lim TyD 8 args σ = some (.tup [.one (.lst ((compF l).1.map Ins.cells)), .one (.int .i64 (compF l).2)], killAll σ ids) := by
  refine lim_mv (TyD_prim rfl) ((TyD_code _).trans codeCCompile) rfl ha ?_
  unfold BodyP compF
  obtain ⟨hx, hty⟩ := in_type l h0 hp
  have hsz : (inT l).size ≤ maxElems := by rw [inT_size]; unfold maxElems at hl ⊢; omega
  have hte := fun σ => eq_tyExpr σ (inT l) (.one (.lst [])) [] true (.inl rfl) (by simp) hsz (fun h => by rw [hx] at h; cases h)
  rw [hty] at hte
  have htk : List.take 5 (inT l).cells = (inT l).cells := rfl
  have hcl : (inT l).cells.length = 5 := rfl
  obtain ⟨τ1, hτ1⟩ : ∃ τ1, τ1 = (emptyH.alloc ⟨(inT l).cells, .own⟩).alloc ⟨[.lst [], .lst [], .nilSlice, .bool false], .own⟩ := ⟨_, rfl⟩
  have hmk : Mk τ1 (emptyH.size + 1) (.lst []) (.lst []) .nilSlice [] false := ⟨by rw [hτ1]; simp, OutSl.nil _ _ _⟩
  have hz1 : τ1.size = emptyH.size + 2 := by rw [hτ1]; simp
  have hg1 : τ1.get emptyH.size = some ⟨(inT l).cells, .own⟩ := by rw [hτ1]; simp
  have hin := mk_in hmk l hl
  simp (maxDischargeDepth := 99) [-writeAt, cCCompile, hte, htk, hcl, ← hτ1, hg1]
  refine hin.mono ?_
  rintro v τ2 ⟨rfl, s, hmk2, hmv⟩
  have hobj := hmk2.obj
  have hfz := frz_out hmk2.sl
  obtain ⟨ids2, hfz⟩ := hfz
  have hlen : ∃ N : Nat, N = (inGo 0 l ([], false)).1.length := ⟨_, rfl⟩
  generalize hp : inGo 0 l ([], false) = p at *
  obtain ⟨ops, bad⟩ := p
  simp only at hobj hfz hmk2 ⊢
  have hs : (s = .nilSlice ∧ ops.length = 0) ∨ ∃ q, s = .slice q 0 6 ops.length none := by
    rcases hmk2.sl.2 with ⟨h1, h2⟩ | ⟨q, h1, _⟩
    · exact .inl ⟨AV.one.inj h1, h2⟩
    · exact .inr ⟨q, AV.one.inj h1⟩
  cases bad with
  | true =>
    simp (maxDischargeDepth := 99) [hobj]
  | false =>
    by_cases hbig : 4096 < ops.length
    · have hbig' : (4096 : Int) < (ops.length : Int) := by omega
      rcases hs with ⟨_, h0⟩ | ⟨q, hs⟩
      · omega
      · rw [hs] at hobj
        simp (maxDischargeDepth := 99) [hobj, hbig, hbig']
    · have hbig' : ¬ (4096 : Int) < (ops.length : Int) := by omega
      have hh := eq_heights τ2 (.one s) ops ids2 hfz (by unfold maxElems; omega)
      simp only [frzDA] at hfz
      cases hok : (heightsF ops).2 with
      | true =>
        rw [hok] at hh
        rcases hs with ⟨hs, h0⟩ | ⟨q, hs⟩
        · rw [hs] at hobj hh hfz
          simp (maxDischargeDepth := 99) [hobj, hbig, hbig', hh]
          exact List.length_eq_zero_iff.1 h0
        · rw [hs] at hobj hh hfz
          simp (maxDischargeDepth := 99) [hobj, hbig, hbig', hh]
          split at hfz
          · rename_i a i e
            cases hfz
            simp [e]
          · cases hfz
      | false =>
        rw [hok] at hh
        rcases hs with ⟨hs, h0⟩ | ⟨q, hs⟩
        · rw [hs] at hobj hh hfz
          simp (maxDischargeDepth := 99) [hobj, hbig, hbig', hh]
        · rw [hs] at hobj hh hfz
          simp (maxDischargeDepth := 99) [hobj, hbig, hbig', hh]
end Go.Proofs.YtdpfgdmlmkpmbaaGreatDoor.Ab

/- The plain law of the long list: 4 n - 1 instructions, or too many. -/
namespace Go.Proofs.YtdpfgdmlmkpmbaaGreatDoor.Ab
open Go
set_option maxRecDepth 20000
set_option maxHeartbeats 8000000
set_option linter.unusedSimpArgs false

/-! ### how many there are -/
theorem intS_small {n : Int} {p : St} (h : p.1.length ≤ 4096) : intS n p = (p.1 ++ [pshI 2 n []], p.2) := by
  unfold intS
  rw [if_neg (by omega)]
theorem inStep_grow (i : Nat) (n : Int) (p : St) : p.1.length ≤ (inStep i n p).1.length := by
  have h1 := intS_len 1 p
  have h2 := intS_len n (intS 1 p)
  unfold inStep
  split <;> simp <;> omega
theorem inGo_grow : ∀ (l : List Int) (i : Nat) (p : St), p.1.length ≤ (inGo i l p).1.length
  | [], _, _ => Nat.le_refl _
  | n :: l, i, p => Nat.le_trans (inStep_grow i n p) (inGo_grow l (i + 1) _)
/-- The instructions of one round. -/
def blk (i : Nat) (n : Int) : List Ins := [pshI 2 1 [], pshI 2 n [], binI (bytes [61])] ++ if 0 < i then [binI (bytes [111, 114])] else []
theorem blk_len (i : Nat) (n : Int) : (blk i n).length = if 0 < i then 4 else 3 := by
  unfold blk
  split <;> simp
theorem inStep_small {i : Nat} {n : Int} {p : St} (h : p.1.length + 1 ≤ 4096) : inStep i n p = (p.1 ++ blk i n, p.2) := by
  unfold inStep blk
  rw [intS_small (by omega : p.1.length ≤ 4096), intS_small (by simp; omega)]
  split <;> simp
def blks : Nat → List Int → List Ins
  | _, [] => []
  | i, n :: l => blk i n ++ blks (i + 1) l
theorem blks_len : ∀ (l : List Int) (i : Nat), 0 < i → (blks i l).length = 4 * l.length
  | [], _, _ => rfl
  | n :: l, i, h => by
    simp only [blks, List.length_append, blk_len, if_pos h, blks_len l (i + 1) (by omega), List.length_cons]
    omega
/-- All within the bound. -/
theorem inGo_in : ∀ (l : List Int) (i : Nat) (p : St), p.1.length + (blks i l).length ≤ 4096 → inGo i l p = (p.1 ++ blks i l, p.2)
  | [], _, p, _ => by simp [inGo, blks]
  | n :: l, i, p, h => by
    have h3 : 3 ≤ (blk i n).length := by rw [blk_len]; split <;> omega
    simp only [blks, List.length_append] at h
    rw [inGo, inStep_small (by omega), inGo_in l (i + 1) _ (by simp only [List.length_append]; omega)]
    simp [blks]
/-- Past the bound. -/
theorem inGo_out : ∀ (l : List Int) (i : Nat) (p : St), 0 < i → p.1.length % 4 = 3 → 4096 < p.1.length + 4 * l.length → p.1.length ≤ 4096 → 4096 < (inGo i l p).1.length
  | [], _, p, _, _, h, _ => by simp at h; omega
  | n :: l, i, p, hi, hm, h, hp => by
    have hs := inStep_small (i := i) (n := n) (p := p) (by omega)
    rw [inGo, hs]
    have hl : (p.1 ++ blk i n).length = p.1.length + 4 := by rw [List.length_append, blk_len, if_pos hi]
    by_cases hb : p.1.length + 4 ≤ 4096
    · exact inGo_out l (i + 1) _ (by omega) (by simp only [hl]; omega) (by simp only [hl, List.length_cons] at *; omega) (by simp only [hl]; exact hb)
    · exact Nat.lt_of_lt_of_le (by simp only [hl]; omega) (inGo_grow l (i + 1) _)
theorem in_count (l : List Int) (h0 : l ≠ []) : (4 * l.length ≤ 4097 → inGo 0 l ([], false) = (blks 0 l, false) ∧ (blks 0 l).length = 4 * l.length - 1) ∧ (4097 < 4 * l.length → 4096 < (inGo 0 l ([], false)).1.length) := by
  cases l with
  | nil => exact absurd rfl h0
  | cons n l =>
    have hb : (blks 0 (n :: l)).length = 4 * (n :: l).length - 1 := by
      simp only [blks, List.length_append, blk_len, blks_len l 1 (by omega), List.length_cons]
      simp
      omega
    refine ⟨fun h => ⟨?_, hb⟩, fun h => ?_⟩
    · have := inGo_in (n :: l) 0 ([], false) (by rw [hb]; simp only [List.length_cons] at h ⊢; simp; omega)
      simpa using this
    · rw [inGo, inStep_small (by simp)]
      have hl3 : (blk 0 n).length = 3 := by rw [blk_len]; rfl
      exact inGo_out l 1 _ (by omega) (by simp [hl3]) (by simp only [List.nil_append, hl3, List.length_cons] at *; omega) (by simp [hl3])

/-! ### how high they grow -/
theorem goH_append (N : Nat) : ∀ (a b : List Ins) (i : Nat) (t : List Int) (m : Int), goH N (a ++ b) i t m = match goH N a i t m with
    | none => none
    | some (t', m') => goH N b (i + a.length) t' m'
  | [], b, i, t, m => by simp [goH]
  | o :: a, b, i, t, m => by
    simp only [List.cons_append, goH]
    cases stepH N i o t with
    | none => rfl
    | some r =>
      simp only
      rw [goH_append N a b]
      simp only [List.length_cons]
      rw [show i + 1 + a.length = i + (a.length + 1) by omega]
/-- An instruction that goes on to the next place, where nothing has come. -/
theorem stepH_on (N : Nat) (o : Ins) (pre post : List Int) (h : Int) (h0 : 0 ≤ h) (hm : mayB o pre.length N = true) (ha : (needF o).1 ≤ h) (hb : h + (needF o).2 ≤ 1024) (hk : ¬ o.kind = 7) (hk2 : ¬ o.kind = 8) :
    stepH N pre.length o (pre ++ h :: -1 :: post) = some ((pre ++ [h]) ++ (h + (needF o).2) :: post, h + (needF o).2) := by
  have hg : (pre ++ h :: -1 :: post).getD pre.length 0 = h := by simp [List.getD]
  have hg1 : (pre ++ h :: -1 :: post).getD (pre.length + 1) 0 = -1 := by
    simp [List.getD, List.getElem?_append_right]
  unfold stepH
  simp only [hg]
  rw [if_neg (by omega), hm, if_neg (by simp), if_neg (by omega), if_neg (by omega), if_neg (by rintro (e | e) <;> contradiction)]
  simp only
  rw [if_neg hk]
  unfold comeH
  rw [hg1, if_pos (by omega)]
  simp only [Option.some.injEq, Prod.mk.injEq, and_true]
  rw [List.set_append_right _ _ (by omega)]
  simp
theorem need_push (n : Int) (s : List UInt8) (k : Int) : needF (pshI k n s) = (0, 1) := rfl
theorem need_bin (s : List UInt8) : needF (binI s) = (2, -1) := rfl
theorem may_push (n k : Int) (s : List UInt8) (i N : Int) : mayB (pshI k n s) i N = true := rfl
theorem may_eq (i N : Int) : mayB (binI (bytes [61])) i N = true := by
  have : opB (bytes [61]) = true := by decide
  simpa [mayB, binI] using this
theorem may_or (i N : Int) : mayB (binI (bytes [111, 114])) i N = true := by
  have : opB (bytes [111, 114]) = true := by decide
  simpa [mayB, binI] using this
theorem goH_one (N : Nat) (o : Ins) (l : List Ins) (pre post : List Int) (h m : Int) (h0 : 0 ≤ h) (hm : mayB o pre.length N = true) (ha : (needF o).1 ≤ h) (hb : h + (needF o).2 ≤ 1024) (hk : ¬ o.kind = 7) (hk2 : ¬ o.kind = 8) :
    goH N (o :: l) pre.length (pre ++ h :: -1 :: post) m = goH N l (pre ++ [h]).length ((pre ++ [h]) ++ (h + (needF o).2) :: post) (max m (h + (needF o).2)) := by
  rw [goH, stepH_on N o pre post h h0 hm ha hb hk hk2]
  simp
/-- Where the first round has gone. -/
theorem goH_first (N : Nat) (n : Int) (l : List Ins) (post : List Int) : goH N ([pshI 2 1 [], pshI 2 n [], binI (bytes [61])] ++ l) 0 (0 :: -1 :: -1 :: -1 :: post) 0 = goH N l 3 ([0, 1, 2] ++ 1 :: post) 2 := by
  have h1 := goH_one N (pshI 2 1 []) ([pshI 2 n [], binI (bytes [61])] ++ l) [] (-1 :: -1 :: post) 0 0 (by omega) rfl (by decide) (by decide) (by decide) (by decide)
  have h2 := goH_one N (pshI 2 n []) ([binI (bytes [61])] ++ l) [0] (-1 :: post) 1 1 (by omega) rfl (by rw [need_push]; decide) (by rw [need_push]; decide) (by show ¬ (1 : Int) = 7; decide) (by show ¬ (1 : Int) = 8; decide)
  have h3 := goH_one N (binI (bytes [61])) l [0, 1] post 2 2 (by omega) (may_eq _ _) (by decide) (by decide) (by decide) (by decide)
  rw [need_push] at h1 h2
  rw [need_bin] at h3
  exact h1.trans (h2.trans h3)
theorem goH_round (N : Nat) (n : Int) (l : List Ins) (pre post : List Int) (m : Int) (hm : 0 ≤ m) (hm3 : m ≤ 3) :
    goH N ([pshI 2 1 [], pshI 2 n [], binI (bytes [61]), binI (bytes [111, 114])] ++ l) pre.length (pre ++ 1 :: -1 :: -1 :: -1 :: -1 :: post) m = goH N l (pre ++ [1, 2, 3, 2]).length ((pre ++ [1, 2, 3, 2]) ++ 1 :: post) 3 := by
  have h1 := goH_one N (pshI 2 1 []) ([pshI 2 n [], binI (bytes [61]), binI (bytes [111, 114])] ++ l) pre (-1 :: -1 :: -1 :: post) 1 m (by omega) rfl (by decide) (by decide) (by decide) (by decide)
  have h2 := goH_one N (pshI 2 n []) ([binI (bytes [61]), binI (bytes [111, 114])] ++ l) (pre ++ [1]) (-1 :: -1 :: post) 2 (max m 2) (by omega) rfl (by rw [need_push]; decide) (by rw [need_push]; decide) (by show ¬ (1 : Int) = 7; decide) (by show ¬ (1 : Int) = 8; decide)
  have h3 := goH_one N (binI (bytes [61])) ([binI (bytes [111, 114])] ++ l) (pre ++ [1] ++ [2]) (-1 :: post) 3 (max (max m 2) 3) (by omega) (may_eq _ _) (by decide) (by decide) (by decide) (by decide)
  have h4 := goH_one N (binI (bytes [111, 114])) l (pre ++ [1] ++ [2] ++ [3]) post 2 (max (max (max m 2) 3) 2) (by omega) (may_or _ _) (by decide) (by decide) (by decide) (by decide)
  rw [need_push] at h1 h2
  rw [need_bin] at h3 h4
  have e : max (max (max (max m 2) 3) 2) 1 = 3 := by omega
  have key := h1.trans (h2.trans (h3.trans h4))
  simp only [List.append_assoc, List.cons_append, List.nil_append] at key ⊢
  rw [show (2 : Int) + (2, -1).2 = 1 by decide, e] at key
  exact key
theorem goH_rounds (N : Nat) : ∀ (l : List Int) (i : Nat) (pre post : List Int) (m : Int), 0 < i → 0 ≤ m → m ≤ 3 → ∃ pre' m', goH N (blks i l) pre.length (pre ++ 1 :: (List.replicate (4 * l.length) (-1) ++ post)) m = some (pre' ++ 1 :: post, m') ∧ pre'.length = pre.length + 4 * l.length ∧ 0 ≤ m' ∧ m' ≤ 3
  | [], i, pre, post, m, _, h1, h2 => ⟨pre, m, by simp [blks, goH], by simp, h1, h2⟩
  | n :: l, i, pre, post, m, hi, h1, h2 => by
    obtain ⟨pre', m', q1, q2, q3, q4⟩ := goH_rounds N l (i + 1) (pre ++ [1, 2, 3, 2]) post 3 (by omega) (by omega) (by omega)
    refine ⟨pre', m', ?_, by rw [q2]; simp; omega, q3, q4⟩
    have hb : blk i n = [pshI 2 1 [], pshI 2 n [], binI (bytes [61]), binI (bytes [111, 114])] := by unfold blk; rw [if_pos hi]; rfl
    have hr : List.replicate (4 * (n :: l).length) (-1 : Int) ++ post = -1 :: -1 :: -1 :: -1 :: (List.replicate (4 * l.length) (-1) ++ post) := by
      rw [List.length_cons, show 4 * (l.length + 1) = 4 * l.length + 1 + 1 + 1 + 1 by omega]
      simp [List.replicate_succ]
    rw [blks, hb, hr, goH_round N n (blks (i + 1) l) pre _ m h1 h2]
    exact q1
theorem in_heights (l : List Int) (h0 : l ≠ []) (hl : 4 * l.length ≤ 4097) : (heightsF (blks 0 l)).2 = true ∧ (heightsF (blks 0 l)).1 ≤ 3 := by
  obtain ⟨hc, _⟩ := in_count l h0
  obtain ⟨_, hlen⟩ := hc hl
  cases l with
  | nil => exact absurd rfl h0
  | cons n l =>
    have hl' : 4 * l.length + 4 ≤ 4097 := by rw [List.length_cons] at hl; omega
    have hlen' : (blks 0 (n :: l)).length = 4 * l.length + 3 := by rw [hlen, List.length_cons]; omega
    have ht : tall0 (blks 0 (n :: l)).length = 0 :: -1 :: -1 :: -1 :: (List.replicate (4 * l.length) (-1) ++ []) := by
      rw [hlen']
      unfold tall0
      rw [show 4 * l.length + 3 + 1 = 4 * l.length + 1 + 1 + 1 + 1 by omega]
      simp [List.replicate_succ]
    have hb : blks 0 (n :: l) = [pshI 2 1 [], pshI 2 n [], binI (bytes [61])] ++ blks 1 l := by
      rw [blks]
      rfl
    obtain ⟨pre', m', q1, q2, q3, q4⟩ := goH_rounds (blks 0 (n :: l)).length l 1 [0, 1, 2] [] 2 (by omega) (by omega) (by omega)
    have hg : goH (blks 0 (n :: l)).length (blks 0 (n :: l)) 0 (tall0 (blks 0 (n :: l)).length) 0 = some (pre' ++ [1], m') := by
      rw [ht]
      generalize hN : (blks 0 (n :: l)).length = N at q1 ⊢
      rw [hb, goH_first]
      exact q1
    have hF := heights_some (ops := blks 0 (n :: l)) (by omega) (by omega) hg
    rw [hF]
    refine ⟨?_, q4⟩
    have hp : pre'.length = (blks 0 (n :: l)).length := by rw [q2, hlen']; simp; omega
    simp [List.getD, ← hp]
theorem comp_long (l : List Int) (h0 : l ≠ []) : (4 * l.length ≤ 4097 → compF l = (blks 0 l, 0) ∧ (blks 0 l).length = 4 * l.length - 1 ∧ depthF (blks 0 l) ≤ 3) ∧ (4097 < 4 * l.length → compF l = ([], 120)) := by
  obtain ⟨hc, ho⟩ := in_count l h0
  refine ⟨fun h => ?_, fun h => ?_⟩
  · obtain ⟨h1, h2⟩ := hc h
    obtain ⟨h3, h4⟩ := in_heights l h0 h
    refine ⟨?_, h2, ?_⟩
    · unfold compF
      rw [h1, if_neg (by simp; omega), if_pos h3]
    · unfold depthF
      rw [if_pos h3]
      exact h4
  · unfold compF
    rw [if_pos (.inr (ho h))]
end Go.Proofs.YtdpfgdmlmkpmbaaGreatDoor.Ab
