/- Several of my texts in one: CdW, Cd1, Cd2, Cd3, Cd4. -/
import Derived.Test.YtdpfgdmlmkpmbaaGreatDoorTyH
import Derived.Test.YtdpfgdmlmkpmbaaGreatDoorLitCd
/- The document's words; the chapter's own examples run whole. -/
namespace Go.Proofs.YtdpfgdmlmkpmbaaGreatDoor.Ab
open Go
set_option maxRecDepth 100000
set_option maxHeartbeats 4000000
set_option linter.unusedSimpArgs false

/-! ### the words -/
def partsOf : AFunc → List (List UInt8)
  | .mk _ _ (.seq _ (.seq (.region (⟨_, .bslice _ _ _ ps, _⟩ :: _)) _)) => ps.filterMap fun | (_, _, .const (.one (.str s))) => some s | _ => none
  | _ => []
def refWords : List (List UInt8) := partsOf cRWords
theorem ev_words (σ : AHeap) : evCall TyD 2 122 [] σ = some (.one (.slice σ.size 0 1 58 (some 58)), σ.alloc ⟨refWords.map SV.str, .own⟩) := by kernel_rfl
theorem refWords_len : refWords.length = 58 := by kernel_rfl
theorem lim_words05 (σ : AHeap) : lim TyD 122 [] σ = some (.one (.slice σ.size 0 1 58 (some 58)), σ.alloc ⟨refWords.map SV.str, .own⟩) := lim_of (ev_words σ)

theorem eq_word (σ : AHeap) (s : List UInt8) : lim TyD 78 [.one (.str s)] σ = some (.one (.bool (decide (s ∈ refWords))), σ) := by
  refine lim_rd (args' := [.one (.str s)]) (ids := []) (TyD_prim rfl) ((TyD_code _).trans codeRWord) rfl (by simp [frzDAs, frzDA, frzD, frzDepth]) ?_ rfl
  unfold BodyP
  have hw := lim_words05 emptyH
  have hl := refWords_len
  generalize refWords = ws at hw hl ⊢
  simp (maxDischargeDepth := 99) [cRWord, hw]
  have hm : ws.length ≤ maxElems := by rw [hl]; decide
  refine endsi_range ws.length (fun i fr τ => fr.length = 18 ∧ getSlot fr 0 = .one (.str s) ∧ getSlot fr 3 = .one (.slice emptyH.size 0 1 58 (some 58)) ∧ getSlot fr 4 = .one (.int .i64 i) ∧ τ.get emptyH.size = some ⟨ws.map SV.str, .own⟩ ∧ decide (s ∈ ws) = decide (s ∈ ws.drop i)) ?_ ?_ ?_
  · simp
  · rintro i fr τ hlt ⟨hlen, f0, f3, f4, hg, hall⟩
    have hw := wr_next hlt hm
    have hlt' : i < 58 := by omega
    have hlti : (i : Int) < 58 := by omega
    rw [List.drop_eq_getElem_cons hlt] at hall
    by_cases hb : ws[i] = s
    · have hmem : s ∈ ws := by rw [← hb]; exact List.getElem_mem hlt
      simp (maxDischargeDepth := 99) [cRWord_0, hlen, f0, f3, f4, hg, hlt, hlt', hlti, sbin, beqL_iff, hb, hw, hmem]
    · have hb' : ¬ s = ws[i] := fun e => hb e.symm
      simp only [List.mem_cons, hb', false_or] at hall
      simp (maxDischargeDepth := 99) [cRWord_0, hlen, f0, f3, f4, hg, hlt, hlt', hlti, sbin, beqL_iff, hb, hw, hall]
  · rintro fr τ ⟨hlen, f0, f3, f4, hg, hall⟩
    rw [List.drop_length] at hall
    simp at hall
    simp (maxDischargeDepth := 99) [cRWord_0, hlen, f0, f3, f4, hl, hall]

/-! ### the steps of the closed runs -/
def memB (s : List UInt8) : List (List UInt8) → Bool
  | [] => false
  | x :: l => match beqL s x with
    | true => true
    | false => memB s l
theorem memB_iff (s : List UInt8) : ∀ l, memB s l = decide (s ∈ l)
  | [] => by simp [memB]
  | x :: l => by
    unfold memB
    rw [beqL_iff, memB_iff s l]
    by_cases h : s = x <;> simp [h]
def pWord : Prim := fun args σ => match args with
  | [.one (.str s)] => some (.one (.bool (memB s refWords)), σ)
  | _ => none
theorem primOk_word : PrimOk Tryz.prog 78 pWord := by
  intro args σ v σ' h
  unfold pWord at h
  split at h
  · rename_i s
    cases h
    rw [memB_iff]
    obtain ⟨n, hn⟩ := lim_iff.1 (eq_word σ s)
    exact sound TyD_good n _ _ σ _ σ hn
  · cases h

/-- A tree out of its cells. -/
def svT : Nat → List SV → Option T
  | 0, _ => none
  | f + 1, c => match c with
    | [.int .i64 k, .str s, .int .i64 n, .int .i64 a, .lst l] => match l.mapM (svT f) with
      | some kids => some (.mk k s n a kids)
      | none => none
    | _ => none
theorem mapM_cells {g : List SV → Option T} (hg : ∀ c t, g c = some t → c = t.cells) : ∀ {l : List (List SV)} {ts : List T}, l.mapM g = some ts → l = ts.map T.cells
  | [], ts, h => by simp at h; subst h; rfl
  | c :: l, ts, h => by
    simp only [List.mapM_cons, Option.bind_eq_bind, Option.bind_eq_some_iff, Option.pure_def, Option.some.injEq] at h
    obtain ⟨t, h1, ts', h2, rfl⟩ := h
    rw [hg c t h1, mapM_cells hg h2]
    rfl
theorem svT_spec : ∀ (f : Nat) (c : List SV) (t : T), svT f c = some t → c = t.cells
  | 0, c, t, h => by cases h
  | f + 1, c, t, h => by
    unfold svT at h
    split at h
    · rename_i k s n a l
      split at h
      · rename_i kids hk
        cases h
        have := mapM_cells (fun c t h => svT_spec f c t h) hk
        rw [this, T.cells_eq]
        rfl
      · cases h
    · cases h
def pForm : Prim := fun args σ => match args with
  | [.agg c] => match svT 20 c with
    | some t => match Nat.ble t.size 1000 && exprB t with
      | true => some (.one (.int .i64 1), σ)
      | false => none
    | none => none
  | _ => none
theorem primOk_form : PrimOk Tryz.prog 33 pForm := by
  intro args σ v σ' h
  unfold pForm at h
  split at h
  · rename_i c
    split at h
    · rename_i t ht
      split at h
      · rename_i hb
        cases h
        rw [svT_spec _ _ _ ht]
        rw [Bool.and_eq_true] at hb
        have hm : t.size ≤ 1000 := Nat.le_of_ble_eq_true hb.1
        obtain ⟨n, hn⟩ := lim_iff.1 (eq_form_expr σ t (by unfold maxElems; omega) hb.2)
        exact sound TyD_good n _ _ σ _ σ hn
      · cases h
    · cases h
  · cases h
def cdPrims : List (Nat × Prim) := [(78, pWord), (33, pForm)]
def cdHint (f : Nat) : Hint := match Nat.beq f 7 with
  | true => .mv
  | false => .no
/-- The context of the closed runs. -/
noncomputable def CdK : Ctx := ⟨codeOf, primAt cdPrims, cdHint⟩
theorem CdK_good : CdK.Good Tryz.prog where
  code := fun f F h => codeOf_good h
  prim := fun f p h => primAt_ok (l := cdPrims) (fun g p hm => by
    simp only [cdPrims, List.mem_cons, Prod.mk.injEq, List.not_mem_nil, or_false] at hm
    rcases hm with ⟨rfl, rfl⟩ | ⟨rfl, rfl⟩
    · exact primOk_word
    · exact primOk_form) f p h
end Go.Proofs.YtdpfgdmlmkpmbaaGreatDoor.Ab

/- Programs of instructions as values; how high their stack grows: what the program and the document say, as one function. -/
namespace Go.Proofs.YtdpfgdmlmkpmbaaGreatDoor.Ab
open Go
set_option maxRecDepth 20000
set_option maxHeartbeats 4000000
set_option linter.unusedSimpArgs false

structure Ins where
  kind : Int
  n : Int
  text : List UInt8
  vk : Int
  vn : Int
  vt : List UInt8
  deriving DecidableEq
def Ins.cells (o : Ins) : List SV := [.int .i64 o.kind, .int .i64 o.n, .str o.text, .int .i64 o.vk, .int .i64 o.vn, .str o.vt]
theorem Ins.cells_len (o : Ins) : o.cells.length = 6 := rfl
theorem Ins.cells_lo (n : Nat) (o : Ins) : loL n o.cells = true := by simp [Ins.cells]
theorem ins_lo (n : Nat) : ∀ l : List Ins, loE n (l.map Ins.cells) = true
  | [] => rfl
  | o :: l => by simp [Ins.cells_lo, ins_lo n l]

/-- May an instruction stand at a place of so many? -/
def mayB (o : Ins) (i n : Int) : Bool :=
  if o.kind = 1 ∨ o.kind = 10 then true
  else if o.kind = 2 ∨ o.kind = 9 then decide (0 ≤ o.n) && decide (o.n < 9223372036854775807)
  else if o.kind = 3 then decide (o.text = bytes [45]) || decide (o.text = bytes [110, 111, 116])
  else if o.kind = 4 then opB o.text
  else if o.kind = 5 then decide (o.n = 0) || decide (o.n = 1)
  else if o.kind = 6 then decide (0 ≤ o.n) && decide (o.n ≤ 1024)
  else if o.kind = 7 ∨ o.kind = 8 then decide (i < o.n) && decide (o.n ≤ n)
  else false

/-- How many values it asks for, and how many more there are then. -/
def needF (o : Ins) : Int × Int :=
  if o.kind = 1 ∨ o.kind = 2 ∨ o.kind = 9 then (0, 1)
  else if o.kind = 3 ∨ o.kind = 5 ∨ o.kind = 10 then (1, 0)
  else if o.kind = 4 then (2, -1)
  else if o.kind = 6 then (o.n, wr .i64 (1 - o.n))
  else if o.kind = 8 then (1, -1)
  else (0, 0)

/-- A height comes to a place: none was there, or the same. -/
def comeH (tall : List Int) (at_ : Nat) (h : Int) : Option (List Int) :=
  if tall.getD at_ 0 < 0 then some (tall.set at_ h) else if tall.getD at_ 0 = h then some tall else none

def stepH (n i : Nat) (o : Ins) (tall : List Int) : Option (List Int × Int) :=
  let h := tall.getD i 0
  if h < 0 then none
  else if mayB o i n = false then none
  else if h < (needF o).1 then none
  else if 1024 < h + (needF o).2 then none
  else
    let h' := h + (needF o).2
    match (if o.kind = 7 ∨ o.kind = 8 then comeH tall o.n.toNat h' else some tall) with
    | none => none
    | some t1 => match (if o.kind = 7 then some t1 else comeH t1 (i + 1) h') with
      | none => none
      | some t2 => some (t2, h')

def goH (n : Nat) : List Ins → Nat → List Int → Int → Option (List Int × Int)
  | [], _, tall, most => some (tall, most)
  | o :: l, i, tall, most => match stepH n i o tall with
    | none => none
    | some (t, h) => goH n l (i + 1) t (max most h)

def tall0 (n : Nat) : List Int := (List.replicate (n + 1) (-1)).set 0 0

/-- The greatest height, and whether it may be. -/
def heightsF (ops : List Ins) : Int × Bool :=
  if ops.length = 0 ∨ 4096 < ops.length then (0, false)
  else match goH ops.length ops 0 (tall0 ops.length) 0 with
    | none => (0, false)
    | some (t, m) => (m, decide (t.getD ops.length 0 = 1))
def depthF (ops : List Ins) : Int := if (heightsF ops).2 = true then (heightsF ops).1 else 0
def overB (o : Ins) (fields aggs : Int) : Bool := (decide (o.kind = 2) && decide (fields ≤ o.n)) || (decide (o.kind = 9) && decide (aggs ≤ o.n))
def checkF (ops : List Ins) (fields aggs : Int) : Int := if ops.any (fun o => overB o fields aggs) = true then 120 else if (heightsF ops).2 = true then 0 else 120
end Go.Proofs.YtdpfgdmlmkpmbaaGreatDoor.Ab

/- The program's needs, may, and what comes to a place. -/
namespace Go.Proofs.YtdpfgdmlmkpmbaaGreatDoor.Ab
open Go
set_option maxRecDepth 20000
set_option maxHeartbeats 8000000
set_option linter.unusedSimpArgs false

/-! ### what is handed over as it is -/
theorem frzD_int (σ : AHeap) (k : IntKind) (n : Int) : frzD frzDepth σ (.int k n) = some (.int k n, []) := rfl
theorem frzD_bool (σ : AHeap) (b : Bool) : frzD frzDepth σ (.bool b) = some (.bool b, []) := rfl
theorem frzD_str (σ : AHeap) (s : List UInt8) : frzD frzDepth σ (.str s) = some (.str s, []) := rfl
theorem frzD_lst (σ : AHeap) {es : List (List SV)} (h : loE 0 es = true) : frzD frzDepth σ (.lst es) = some (.lst es, []) := by
  simp [frzD, frzDepth, h]
theorem frzD_nil (σ : AHeap) : frzD frzDepth σ .nilSlice = some (.lst [], []) := rfl
attribute [simp] frzD_int frzD_bool frzD_str frzD_nil frzDA frzDAs frzLW
theorem Ins.frz (σ : AHeap) (o : Ins) : frzLW (frzD frzDepth σ) o.cells = some (o.cells, []) := by simp [Ins.cells]
/-- Cells that are handed over as they are, in a slice of any depth. -/
theorem frzLW_id (F : SV → Option (SV × List Nat)) : ∀ {l : List SV}, (∀ s ∈ l, F s = some (s, [])) → frzLW F l = some (l, [])
  | [], _ => rfl
  | s :: l, h => by simp [frzLW, h s (by simp), frzLW_id F (fun x hx => h x (List.mem_cons_of_mem _ hx))]
theorem frzEW_id (F : SV → Option (SV × List Nat)) : ∀ {l : List (List SV)}, (∀ e ∈ l, frzLW F e = some (e, [])) → frzEW F l = some (l, [])
  | [], _ => rfl
  | e :: l, h => by simp [frzEW, h e (by simp), frzEW_id F (fun x hx => h x (List.mem_cons_of_mem _ hx))]

theorem eq_needs (σ : AHeap) (o : Ins) : lim TyD 48 [.agg o.cells] σ = some (.tup [.one (.int .i64 (needF o).1), .one (.int .i64 (needF o).2)], σ) := by
  refine lim_rd (args' := [.agg o.cells]) (ids := []) (TyD_prim rfl) ((TyD_code _).trans codeCNeeds) rfl (by simp [Ins.frz]) ?_ rfl
  unfold BodyP needF Ins.cells
  obtain ⟨k, n, s, a, b, c⟩ := o
  by_cases h1 : k = 1
  · simp (maxDischargeDepth := 99) [cCNeeds, h1]
  by_cases h2 : k = 2
  · simp (maxDischargeDepth := 99) [cCNeeds, h2]
  by_cases h9 : k = 9
  · simp (maxDischargeDepth := 99) [cCNeeds, h9]
  by_cases h3 : k = 3
  · simp (maxDischargeDepth := 99) [cCNeeds, h3]
  by_cases h5 : k = 5
  · simp (maxDischargeDepth := 99) [cCNeeds, h5]
  by_cases h10 : k = 10
  · simp (maxDischargeDepth := 99) [cCNeeds, h10]
  by_cases h4 : k = 4
  · simp (maxDischargeDepth := 99) [cCNeeds, h4]
  by_cases h6 : k = 6
  · simp (maxDischargeDepth := 99) [cCNeeds, h6]
  by_cases h8 : k = 8
  · simp (maxDischargeDepth := 99) [cCNeeds, h8]
  · simp (maxDischargeDepth := 99) [cCNeeds, h1, h2, h9, h3, h5, h10, h4, h6, h8]

theorem eq_may (σ : AHeap) (o : Ins) (i n : Int) : lim TyD 49 [.agg o.cells, .one (.int .i64 i), .one (.int .i64 n)] σ = some (.one (.bool (mayB o i n)), σ) := by
  refine lim_rd (args' := [.agg o.cells, .one (.int .i64 i), .one (.int .i64 n)]) (ids := []) (TyD_prim rfl) ((TyD_code _).trans codeCMay) rfl (by simp [Ins.frz]) ?_ rfl
  unfold BodyP mayB Ins.cells
  obtain ⟨k, m, s, a, b, c⟩ := o
  by_cases h1 : k = 1
  · simp (maxDischargeDepth := 99) [cCMay, h1]
  by_cases h10 : k = 10
  · simp (maxDischargeDepth := 99) [cCMay, h10]
  by_cases h2 : k = 2
  · by_cases q : 0 ≤ m
    · simp (maxDischargeDepth := 99) [cCMay, h2, q]
    · simp (maxDischargeDepth := 99) [cCMay, h2, q]
  by_cases h9 : k = 9
  · by_cases q : 0 ≤ m
    · simp (maxDischargeDepth := 99) [cCMay, h9, q]
    · simp (maxDischargeDepth := 99) [cCMay, h9, q]
  by_cases h3 : k = 3
  · by_cases q : s = bytes [45]
    · simp (maxDischargeDepth := 99) [cCMay, h3, q, sbin, beqL_iff]
    · simp (maxDischargeDepth := 99) [cCMay, h3, q, sbin, beqL_iff]
  by_cases h4 : k = 4
  · simp (maxDischargeDepth := 99) [cCMay, h4, eq_ops]
  by_cases h5 : k = 5
  · by_cases q : m = 0
    · simp (maxDischargeDepth := 99) [cCMay, h5, q]
    · simp (maxDischargeDepth := 99) [cCMay, h5, q]
  by_cases h6 : k = 6
  · by_cases q : 0 ≤ m
    · simp (maxDischargeDepth := 99) [cCMay, h6, q]
    · simp (maxDischargeDepth := 99) [cCMay, h6, q]
  by_cases h7 : k = 7
  · by_cases q : i < m
    · simp (maxDischargeDepth := 99) [cCMay, h7, q]
    · simp (maxDischargeDepth := 99) [cCMay, h7, q]
  by_cases h8 : k = 8
  · by_cases q : i < m
    · simp (maxDischargeDepth := 99) [cCMay, h8, q]
    · simp (maxDischargeDepth := 99) [cCMay, h8, q]
  · simp (maxDischargeDepth := 99) [cCMay, h1, h2, h9, h3, h5, h10, h4, h6, h7, h8]

/-! ### a row of whole numbers that is written -/
def tcellsI (l : List Int) : List SV := l.map fun n => .int .i64 n
theorem writeI {τ : AHeap} {q : Nat} {l : List Int} (h : τ.get q = some ⟨tcellsI l, .own⟩) {i : Nat} (hi : i < l.length) (x : Int) : writeAt τ q i [.int .i64 x] = some (τ.put q ⟨tcellsI (l.set i x), .own⟩) := by
  have hs : splice (tcellsI l) i [SV.int .i64 x] = tcellsI (l.set i x) := by
    unfold splice tcellsI
    rw [List.set_eq_take_append_cons_drop, if_pos hi]
    simp
  unfold writeAt
  rw [h]
  have : Nat.ble (i + [SV.int .i64 x].length) (tcellsI l).length = true := by simp [tcellsI]; omega
  simp only [this, hs]
theorem readI {l : List Int} {i : Nat} (hi : i < l.length) : (tcellsI l)[i]? = some (.int .i64 (l.getD i 0)) := by
  simp [tcellsI, hi]

/-- The row of heights, and the variable that holds it. -/
def HRow (τ : AHeap) (q b : Nat) (l : List Int) : Prop := q ≠ b ∧ τ.get q = some ⟨tcellsI l, .own⟩ ∧ τ.get b = some ⟨[.slice q 0 1 l.length (some l.length)], .own⟩

theorem eq_come (τ : AHeap) (q b : Nat) (l : List Int) (h : HRow τ q b l) (i : Nat) (hi : i < l.length) (x : Int) :
    lim TyD 47 [.one (.int .i64 i), .one (.int .i64 x), .one (.ptr b 0)] τ =
      some (.one (.bool (comeH l i x).isSome), if l.getD i 0 < 0 then τ.put q ⟨tcellsI (l.set i x), .own⟩ else τ) := by
  obtain ⟨hne, hq, hb⟩ := h
  have key : OptP (lim TyD 47 [.one (.int .i64 i), .one (.int .i64 x), .one (.ptr b 0)] τ) (fun _ v σ => v = .one (.bool (comeH l i x).isSome) ∧ σ = if l.getD i 0 < 0 then τ.put q ⟨tcellsI (l.set i x), .own⟩ else τ) := by
    refine lim_code (TyD_prim rfl) ((TyD_code _).trans codeCCome) rfl ?_
    unfold BodyP comeH
    have hw := writeI hq hi x
    have hr := readI hi
    have hlt := AHeap.get_lt hq
    have hi' : (i : Int) < (l.length : Int) := by omega
    have hne' : ¬ b = q := fun e => hne e.symm
    by_cases hneg : l.getD i 0 < 0
    · have hr2 : (tcellsI (l.set i x))[i]? = some (.int .i64 x) := by
        rw [readI (by simpa using hi)]
        simp [List.getD, hi]
      generalize l.getD i 0 = y at *
      generalize hset : tcellsI (l.set i x) = cs2 at *
      generalize hcs : tcellsI l = cs at *
      simp (maxDischargeDepth := 99) [-writeAt, cCCome, hb, hq, hr, hneg, hi, hw, hr2, hne', hlt]
    · generalize l.getD i 0 = y at *
      generalize hcs : tcellsI l = cs at *
      by_cases he : y = x
      · subst he
        simp (maxDischargeDepth := 99) [-writeAt, cCCome, hb, hq, hr, hneg, hi, hne', hlt]
      · simp (maxDischargeDepth := 99) [-writeAt, cCCome, hb, hq, hr, hneg, hi, he, hne', hlt]
  obtain ⟨v, σ, h1, rfl, rfl⟩ := key
  exact h1
end Go.Proofs.YtdpfgdmlmkpmbaaGreatDoor.Ab

/- The program's heights, Check, Depth. -/
namespace Go.Proofs.YtdpfgdmlmkpmbaaGreatDoor.Ab
open Go
set_option maxRecDepth 20000
set_option maxHeartbeats 16000000
set_option linter.unusedSimpArgs false

theorem mm_max (a b : Int) : mm true a b = max a b := by
  simp only [mm]
  rw [Int.max_def]
  by_cases h : a ≤ b
  · rw [if_pos h]
    by_cases h2 : a < b
    · rw [if_pos h2]
    · rw [if_neg h2]; omega
  · rw [if_neg h, if_neg (by omega)]
theorem repI : ∀ n, repeatCells [SV.int .i64 0] n = tcellsI (List.replicate n 0)
  | 0 => rfl
  | n + 1 => by simp [repeatCells, repI n, tcellsI, List.replicate_succ]

theorem need_bounds {o : Ins} {i n : Int} (h : mayB o i n = true) : -1023 ≤ (needF o).2 ∧ (needF o).2 ≤ 1 ∧ 0 ≤ (needF o).1 ∧ (needF o).1 ≤ 1024 ∧ 0 ≤ (needF o).1 + (needF o).2 := by
  unfold needF
  by_cases h1 : o.kind = 1 ∨ o.kind = 2 ∨ o.kind = 9
  · simp [h1]
  by_cases h2 : o.kind = 3 ∨ o.kind = 5 ∨ o.kind = 10
  · simp [h1, h2]
  by_cases h3 : o.kind = 4
  · simp [h3]
  by_cases h4 : o.kind = 6
  · have : 0 ≤ o.n ∧ o.n ≤ 1024 := by
      unfold mayB at h
      simp [h4] at h
      exact h
    rw [if_neg h1, if_neg h2, if_neg h3, if_pos h4]
    simp only
    rw [wr64 (by omega) (by omega)]
    omega
  by_cases h5 : o.kind = 8
  · simp [h5]
  · simp [h1, h2, h3, h4, h5]
theorem may_place {o : Ins} {i n : Int} (h : mayB o i n = true) (hk : o.kind = 7 ∨ o.kind = 8) : i < o.n ∧ o.n ≤ n := by
  unfold mayB at h
  rcases hk with hk | hk <;> simp [hk] at h <;> exact h

/-- All heights are heights. -/
def TallOk (n : Nat) (l : List Int) : Prop := l.length = n + 1 ∧ ∀ j, -1 ≤ l.getD j 0 ∧ l.getD j 0 ≤ 1024
theorem TallOk.set {n : Nat} {l : List Int} (h : TallOk n l) (i : Nat) {x : Int} (h1 : 0 ≤ x) (h2 : x ≤ 1024) : TallOk n (l.set i x) := by
  refine ⟨by simpa using h.1, fun j => ?_⟩
  have := h.2 j
  simp only [List.getD, List.getElem?_set] at this ⊢
  by_cases hij : i = j
  · subst hij
    by_cases hlt : i < l.length
    · simp [hlt]; omega
    · simp [hlt]
  · simp [hij]; exact this
theorem TallOk.come {n : Nat} {l l' : List Int} (h : TallOk n l) {i : Nat} {x : Int} (h1 : 0 ≤ x) (h2 : x ≤ 1024) (hc : comeH l i x = some l') : TallOk n l' := by
  unfold comeH at hc
  split at hc
  · cases hc; exact h.set i h1 h2
  · split at hc
    · cases hc; exact h
    · cases hc
theorem HRow.come {τ : AHeap} {q b : Nat} {l l' : List Int} (h : HRow τ q b l) {i : Nat} {x : Int} (hc : comeH l i x = some l') :
    HRow (if l.getD i 0 < 0 then τ.put q ⟨tcellsI (l.set i x), .own⟩ else τ) q b l' := by
  obtain ⟨h1, h2, h3⟩ := h
  unfold comeH at hc
  have hlt := AHeap.get_lt h2
  have hne : ¬ b = q := fun e => h1 e.symm
  split at hc
  · rename_i hneg
    cases hc
    rw [if_pos hneg]
    exact ⟨h1, by simp [hlt], by simp [hne, h3]⟩
  · rename_i hneg
    split at hc
    · cases hc
      rw [if_neg hneg]
      exact ⟨h1, h2, h3⟩
    · cases hc
theorem HRow.keeps {τ τ' : AHeap} {q b : Nat} {l : List Int} (h : HRow τ q b l) (hk : Keeps τ τ') : HRow τ' q b l :=
  ⟨h.1, by rw [hk.2 _ (AHeap.get_lt h.2.1)]; exact h.2.1, by rw [hk.2 _ (AHeap.get_lt h.2.2)]; exact h.2.2⟩
theorem tall0_ok (n : Nat) : TallOk n (tall0 n) := by
  have h0 : TallOk n (List.replicate (n + 1) (-1)) := by
    refine ⟨by simp, fun j => ?_⟩
    simp only [List.getD, List.getElem?_replicate]
    by_cases h : j < n + 1 <;> simp [h]
  exact h0.set 0 (by omega) (by omega)

/-- Where the run stands ahead of the i-th instruction. -/
def I2 (ops : List Ins) (q b : Nat) (i : Nat) (fr : List AV) (τ : AHeap) : Prop :=
  ∃ tall most, fr.length = 113 ∧ getSlot fr 4 = .one (.int .i64 ops.length) ∧ getSlot fr 5 = .one (.ptr b 0) ∧ getSlot fr 7 = .one (.func 47 [.ptr b 0]) ∧ getSlot fr 8 = .one (.int .i64 most) ∧
    getSlot fr 38 = .one (.lst (ops.map Ins.cells)) ∧ getSlot fr 39 = .one (.int .i64 ops.length) ∧ getSlot fr 40 = .one (.int .i64 i) ∧ HRow τ q b tall ∧ TallOk ops.length tall ∧ 0 ≤ most ∧ most ≤ 1024 ∧
    goH ops.length (ops.drop i) i tall most = goH ops.length ops 0 (tall0 ops.length) 0

/-- What the end must say. -/
def R2 (ops : List Ins) (fr : List AV) : Prop := getSlot fr 2 = .one (.int .i64 (heightsF ops).1) ∧ getSlot fr 3 = .one (.bool (heightsF ops).2)

theorem heights_none {ops : List Ins} (h0 : ops.length ≠ 0) (h1 : ops.length ≤ 4096) (h : goH ops.length ops 0 (tall0 ops.length) 0 = none) : heightsF ops = (0, false) := by
  unfold heightsF
  rw [if_neg (by omega), h]
theorem heights_some {ops : List Ins} (h0 : ops.length ≠ 0) (h1 : ops.length ≤ 4096) {t : List Int} {m : Int} (h : goH ops.length ops 0 (tall0 ops.length) 0 = some (t, m)) : heightsF ops = (m, decide (t.getD ops.length 0 = 1)) := by
  unfold heightsF
  rw [if_neg (by omega), h]

theorem step2 (ops : List Ins) (q b : Nat) (h0 : ops.length ≠ 0) (h1 : ops.length ≤ 4096) (i : Nat) (fr : List AV) (τ : AHeap) (hlt : i < ops.length) (hI : I2 ops q b i fr τ) (E : KE) (R : KN)
    (hR : ∀ fr τ, fr.length = 113 → getSlot fr 2 = .one (.int .i64 0) → getSlot fr 3 = .one (.bool false) → heightsF ops = (0, false) → R .go fr τ) :
    EndsI .go (lim TyD) cCHeights_1 fr τ (fun _ fr τ => I2 ops q b (i + 1) fr τ) E R := by
  obtain ⟨tall, most, hlen, f4, f5, f7, f8, f38, f39, f40, hrow, htall, hm0, hm1, hgo⟩ := hI
  have hw := wr_next hlt (by unfold maxElems; omega)
  have hlti : (i : Int) < (ops.length : Int) := by omega
  rw [List.drop_eq_getElem_cons hlt] at hgo
  have hit : i < tall.length := by rw [htall.1]; omega
  have hit1 : i + 1 < tall.length := by rw [htall.1]; omega
  obtain ⟨o, ho⟩ : ∃ o, ops[i] = o := ⟨_, rfl⟩
  rw [ho] at hgo
  have htk : List.take 6 o.cells = o.cells := rfl
  obtain ⟨τ1, hτ1⟩ : ∃ τ1, τ1 = (τ.alloc ⟨[.int .i64 0, .int .i64 0, .str [], .int .i64 0, .int .i64 0, .str []], .own⟩).put τ.size ⟨o.cells, .own⟩ := ⟨_, rfl⟩
  have hk1 : Keeps τ τ1 := by rw [hτ1]; exact (Keeps.refl τ).alloc.put (Nat.le_refl _)
  have hg1 : τ1.get τ.size = some ⟨o.cells, .own⟩ := by rw [hτ1]; simp
  have hrow1 := hrow.keeps hk1
  have hwz : writeAt (τ.alloc ⟨[.int .i64 0, .int .i64 0, .str [], .int .i64 0, .int .i64 0, .str []], .own⟩) τ.size 0 o.cells = some τ1 := by
    rw [hτ1]
    simp [writeAt, splice, Ins.cells]
  have hne : goH ops.length ops 0 (tall0 ops.length) 0 = none → heightsF ops = (0, false) := heights_none h0 h1
  have hneeds := eq_needs τ1 o
  have hmay := eq_may τ1 o i ops.length
  have hrd := readI hit
  have htb := htall.2 i
  obtain ⟨hqb, hq, hb⟩ := hrow1
  have hrow1 : HRow τ1 q b tall := ⟨hqb, hq, hb⟩
  have hcells : o.cells = [.int .i64 o.kind, .int .i64 o.n, .str o.text, .int .i64 o.vk, .int .i64 o.vn, .str o.vt] := rfl
  have hlst : lstW 6 (ops.map Ins.cells) = true := by
    cases ops with
    | nil => rfl
    | cons a l => rfl
  simp only [goH, stepH] at hgo
  have hb' : τ1.get b = some ⟨[.slice q 0 1 tall.length (some tall.length)], .own⟩ := hb
  generalize hh : tall.getD i 0 = h at hgo hrd htb
  have hnb := fun hm => need_bounds (o := o) (i := i) (n := ops.length) hm
  have hpl := fun hm => may_place (o := o) (i := i) (n := ops.length) hm
  have hcm1 : ∀ x, 0 ≤ o.n → o.n ≤ ops.length → lim TyD 47 [.one (.int .i64 o.n), .one (.int .i64 x), .one (.ptr b 0)] τ1 = some (.one (.bool (comeH tall o.n.toNat x).isSome), if decide (tall.getD o.n.toNat 0 < 0) = true then τ1.put q ⟨tcellsI (tall.set o.n.toNat x), .own⟩ else τ1) := by
    intro x p1 p2
    have := eq_come τ1 q b tall hrow1 o.n.toNat (by rw [htall.1]; omega) x
    rw [Int.toNat_of_nonneg p1] at this
    simpa using this
  have hcm2 : ∀ τ' l x, HRow τ' q b l → l.length = ops.length + 1 → lim TyD 47 [.one (.int .i64 ((i : Int) + 1)), .one (.int .i64 x), .one (.ptr b 0)] τ' = some (.one (.bool (comeH l (i + 1) x).isSome), if decide (l.getD (i + 1) 0 < 0) = true then τ'.put q ⟨tcellsI (l.set (i + 1) x), .own⟩ else τ') := by
    intro τ' l x p1 p2
    have := eq_come τ' q b l p1 (i + 1) (by rw [p2]; omega) x
    simpa using this
  have hw' : wr .i64 ((i : Int) + 1) = (i : Int) + 1 := by rw [hw]; simp
  have hqlt : ¬ τ.size = q := by have := AHeap.get_lt hrow.2.1; omega
  have hg2 : ∀ (c : Bool) X, (if c = true then τ1.put q X else τ1).get τ.size = some ⟨o.cells, .own⟩ := by
    intro c X
    cases c <;> simp [hg1, hqlt]
  have hc0 : o.cells[0]? = some (.int .i64 o.kind) := rfl
  have hc1 : o.cells[1]? = some (.int .i64 o.n) := rfl
  clear hτ1 hk1 hrow hcells
  generalize needF o = nd at hgo hneeds hnb
  by_cases c1 : h < 0
  · rw [if_pos c1] at hgo
    simp (maxDischargeDepth := 99) [-writeAt, cCHeights_1, hlen, f4, f5, f7, f8, f38, f39, f40, hlti, hlt, ho, htk, Ins.cells_len, hwz, hg1, hb, hq, hrd, hit, hneeds, c1]
    exact hR _ _ (by simp [hlen]) (by simp [hlen]) (by simp [hlen]) (hne hgo.symm)
  rw [if_neg c1] at hgo
  cases c2 : mayB o i ops.length with
  | false =>
    rw [c2] at hgo hmay
    rw [if_pos rfl] at hgo
    simp (maxDischargeDepth := 99) [-writeAt, cCHeights_1, hlen, f4, f5, f7, f8, f38, f39, f40, hlti, hlt, ho, htk, Ins.cells_len, hwz, hg1, hb, hq, hrd, hit, hneeds, c1, hmay]
    exact hR _ _ (by simp [hlen]) (by simp [hlen]) (by simp [hlen]) (hne hgo.symm)
  | true =>
    rw [c2] at hgo hmay
    rw [if_neg (by simp)] at hgo
    obtain ⟨b1, b2, b3, b4, b5⟩ := hnb c2
    have hpl := hpl c2
    by_cases c3 : h < nd.1
    · rw [if_pos c3] at hgo
      simp (maxDischargeDepth := 99) [-writeAt, cCHeights_1, hlen, f4, f5, f7, f8, f38, f39, f40, hlti, hlt, ho, htk, Ins.cells_len, hwz, hg1, hb, hq, hrd, hit, hneeds, c1, hmay, c3]
      exact hR _ _ (by simp [hlen]) (by simp [hlen]) (by simp [hlen]) (hne hgo.symm)
    rw [if_neg c3] at hgo
    have hwa : wr .i64 (h + nd.2) = h + nd.2 := wr64 (by omega) (by omega)
    by_cases c4 : 1024 < h + nd.2
    · rw [if_pos c4] at hgo
      simp (maxDischargeDepth := 99) [-writeAt, cCHeights_1, hlen, f4, f5, f7, f8, f38, f39, f40, hlti, hlt, ho, htk, Ins.cells_len, hwz, hg1, hb, hq, hrd, hit, hneeds, c1, hmay, c3, hwa, c4]
      exact hR _ _ (by simp [hlen]) (by simp [hlen]) (by simp [hlen]) (hne hgo.symm)
    rw [if_neg c4] at hgo
    have hx0 : 0 ≤ h + nd.2 := by omega
    have hx1 : h + nd.2 ≤ 1024 := by omega
    have hmx0 : 0 ≤ max most (h + nd.2) := by omega
    have hmx1 : max most (h + nd.2) ≤ 1024 := by omega
    have c4' : ¬ (1024 < h + nd.2) := c4
    obtain ⟨x, hx⟩ : ∃ x, h + nd.2 = x := ⟨_, rfl⟩
    have hwa : wr .i64 (h + nd.2) = x := hwa.trans hx
    rw [hx] at hgo hx0 hx1 hmx0 hmx1 c4'
    have hcome : ∀ {l l' : List Int} {a : Nat} {τ' : AHeap}, HRow τ' q b l → comeH l a x = some l' → HRow (if decide (l.getD a 0 < 0) = true then τ'.put q ⟨tcellsI (l.set a x), .own⟩ else τ') q b l' := by
      intro l l' a τ' p1 p2
      have := p1.come p2
      simpa using this
    by_cases k78 : o.kind = 7 ∨ o.kind = 8
    · obtain ⟨p1, p2⟩ := hpl k78
      have hcc := hcm1 x (by omega) p2
      rw [if_pos k78] at hgo
      have hgt := hg2 (decide (tall.getD o.n.toNat 0 < 0)) ⟨tcellsI (tall.set o.n.toNat x), .own⟩
      cases hcm : comeH tall o.n.toNat x with
      | none =>
        rw [hcm] at hgo hcc
        generalize (if decide (tall.getD o.n.toNat 0 < 0) = true then τ1.put q ⟨tcellsI (tall.set o.n.toNat x), .own⟩ else τ1) = τ2 at hcc hgt
        rcases k78 with k7 | k8
        · rw [k7] at hc0
          simp (maxDischargeDepth := 99) [-writeAt, cCHeights_1, hlen, f4, f5, f7, f8, f38, f39, f40, hlti, hlt, ho, htk, Ins.cells_len, hwz, hg1, hb, hq, hrd, hit, hneeds, c1, hmay, c3, hwa, c4', mms, mm_max, hc0, hc1, hw', hcc, hgt]
          exact hR _ _ (by simp [hlen]) (by simp [hlen]) (by simp [hlen]) (hne hgo.symm)
        · rw [k8] at hc0
          simp (maxDischargeDepth := 99) [-writeAt, cCHeights_1, hlen, f4, f5, f7, f8, f38, f39, f40, hlti, hlt, ho, htk, Ins.cells_len, hwz, hg1, hb, hq, hrd, hit, hneeds, c1, hmay, c3, hwa, c4', mms, mm_max, hc0, hc1, hw', hcc, hgt]
          exact hR _ _ (by simp [hlen]) (by simp [hlen]) (by simp [hlen]) (hne hgo.symm)
      | some t1 =>
        have hr1 := hcome hrow1 hcm
        have ht1 := htall.come hx0 hx1 hcm
        rw [hcm] at hgo hcc
        generalize (if decide (tall.getD o.n.toNat 0 < 0) = true then τ1.put q ⟨tcellsI (tall.set o.n.toNat x), .own⟩ else τ1) = τ2 at hcc hgt hr1
        rcases k78 with k7 | k8
        · rw [k7] at hc0
          simp only at hgo
          rw [if_pos k7] at hgo
          simp (maxDischargeDepth := 99) [-writeAt, cCHeights_1, hlen, f4, f5, f7, f8, f38, f39, f40, hlti, hlt, ho, htk, Ins.cells_len, hwz, hg1, hb, hq, hrd, hit, hneeds, c1, hmay, c3, hwa, c4', mms, mm_max, hc0, hc1, hw', hcc, hgt]
          exact ⟨t1, max most x, by simp [hlen], by simp [hlen, f4], by simp [hlen, f5], by simp [hlen, f7], by simp [hlen], by simp [hlen, f38], by simp [hlen, f39], by simp [hlen], hr1, ht1, hmx0, hmx1, hgo⟩
        · rw [k8] at hc0
          simp only at hgo
          rw [if_neg (by omega)] at hgo
          have hcc2 := hcm2 τ2 t1 x hr1 ht1.1
          cases hcm' : comeH t1 (i + 1) x with
          | none =>
            rw [hcm'] at hgo hcc2
            generalize (if decide (t1.getD (i + 1) 0 < 0) = true then τ2.put q ⟨tcellsI (t1.set (i + 1) x), .own⟩ else τ2) = τ3 at hcc2
            simp (maxDischargeDepth := 99) [-writeAt, cCHeights_1, hlen, f4, f5, f7, f8, f38, f39, f40, hlti, hlt, ho, htk, Ins.cells_len, hwz, hg1, hb, hq, hrd, hit, hneeds, c1, hmay, c3, hwa, c4', mms, mm_max, hc0, hc1, hw', hcc, hgt, hcc2]
            exact hR _ _ (by simp [hlen]) (by simp [hlen]) (by simp [hlen]) (hne hgo.symm)
          | some t2 =>
            have hr2 := hcome hr1 hcm'
            have ht2 := ht1.come hx0 hx1 hcm'
            rw [hcm'] at hgo hcc2
            generalize (if decide (t1.getD (i + 1) 0 < 0) = true then τ2.put q ⟨tcellsI (t1.set (i + 1) x), .own⟩ else τ2) = τ3 at hcc2 hr2
            simp (maxDischargeDepth := 99) [-writeAt, cCHeights_1, hlen, f4, f5, f7, f8, f38, f39, f40, hlti, hlt, ho, htk, Ins.cells_len, hwz, hg1, hb, hq, hrd, hit, hneeds, c1, hmay, c3, hwa, c4', mms, mm_max, hc0, hc1, hw', hcc, hgt, hcc2]
            exact ⟨t2, max most x, by simp [hlen], by simp [hlen, f4], by simp [hlen, f5], by simp [hlen, f7], by simp [hlen], by simp [hlen, f38], by simp [hlen, f39], by simp [hlen], hr2, ht2, hmx0, hmx1, hgo⟩
    · have k7 : ¬ o.kind = 7 := fun e => k78 (.inl e)
      have k8 : ¬ o.kind = 8 := fun e => k78 (.inr e)
      rw [if_neg k78] at hgo
      simp only at hgo
      rw [if_neg k7] at hgo
      have hcc2 := hcm2 τ1 tall x hrow1 htall.1
      cases hcm' : comeH tall (i + 1) x with
      | none =>
        rw [hcm'] at hgo hcc2
        generalize (if decide (tall.getD (i + 1) 0 < 0) = true then τ1.put q ⟨tcellsI (tall.set (i + 1) x), .own⟩ else τ1) = τ3 at hcc2
        simp (maxDischargeDepth := 99) [-writeAt, cCHeights_1, hlen, f4, f5, f7, f8, f38, f39, f40, hlti, hlt, ho, htk, Ins.cells_len, hwz, hg1, hb, hq, hrd, hit, hneeds, c1, hmay, c3, hwa, c4', mms, mm_max, hc0, hc1, hw', k7, k8, hcc2]
        exact hR _ _ (by simp [hlen]) (by simp [hlen]) (by simp [hlen]) (hne hgo.symm)
      | some t2 =>
        have hr2 := hcome hrow1 hcm'
        have ht2 := htall.come hx0 hx1 hcm'
        rw [hcm'] at hgo hcc2
        generalize (if decide (tall.getD (i + 1) 0 < 0) = true then τ1.put q ⟨tcellsI (tall.set (i + 1) x), .own⟩ else τ1) = τ3 at hcc2 hr2
        simp (maxDischargeDepth := 99) [-writeAt, cCHeights_1, hlen, f4, f5, f7, f8, f38, f39, f40, hlti, hlt, ho, htk, Ins.cells_len, hwz, hg1, hb, hq, hrd, hit, hneeds, c1, hmay, c3, hwa, c4', mms, mm_max, hc0, hc1, hw', k7, k8, hcc2]
        exact ⟨t2, max most x, by simp [hlen], by simp [hlen, f4], by simp [hlen, f5], by simp [hlen, f7], by simp [hlen], by simp [hlen, f38], by simp [hlen, f39], by simp [hlen], hr2, ht2, hmx0, hmx1, hgo⟩
end Go.Proofs.YtdpfgdmlmkpmbaaGreatDoor.Ab

/- The program's heights, Check, Depth, whole. -/
namespace Go.Proofs.YtdpfgdmlmkpmbaaGreatDoor.Ab
open Go
set_option maxRecDepth 20000
set_option maxHeartbeats 16000000
set_option linter.unusedSimpArgs false

/-- Ahead of the i-th place that is written with -1. -/
def I1 (ops : List Ins) (b : Nat) (i : Nat) (fr : List AV) (τ : AHeap) : Prop :=
  fr.length = 113 ∧ getSlot fr 0 = .one (.lst (ops.map Ins.cells)) ∧ getSlot fr 4 = .one (.int .i64 ops.length) ∧ getSlot fr 5 = .one (.ptr b 0) ∧ getSlot fr 27 = .one (.int .i64 ((ops.length : Int) + 1)) ∧ getSlot fr 28 = .one (.int .i64 i) ∧
    HRow τ emptyH.size b (List.replicate i (-1) ++ List.replicate (ops.length + 1 - i) 0)
def O1 (ops : List Ins) (b : Nat) (fr : List AV) (τ : AHeap) : Prop :=
  fr.length = 113 ∧ getSlot fr 0 = .one (.lst (ops.map Ins.cells)) ∧ getSlot fr 4 = .one (.int .i64 ops.length) ∧ getSlot fr 5 = .one (.ptr b 0) ∧ HRow τ emptyH.size b (List.replicate (ops.length + 1) (-1))
theorem rep_set (n i : Nat) (h : i < n) : (List.replicate i (-1 : Int) ++ List.replicate (n - i) 0).set i (-1) = List.replicate (i + 1) (-1) ++ List.replicate (n - (i + 1)) 0 := by
  obtain ⟨k, rfl⟩ : ∃ k, n = i + (k + 1) := ⟨n - i - 1, by omega⟩
  rw [show i + (k + 1) - i = k + 1 by omega, show i + (k + 1) - (i + 1) = k by omega, List.set_append_right _ _ (by simp)]
  simp [List.replicate_succ', List.append_assoc]
  rw [← List.replicate_succ', List.replicate_succ]
  rfl

theorem eq_heights (σ : AHeap) (s : AV) (ops : List Ins) (ids : List Nat) (hs : frzDA frzDepth σ s = some (.one (.lst (ops.map Ins.cells)), ids)) (hm : ops.length ≤ maxElems) :
    lim TyD 23 [s] σ = some (.tup [.one (.int .i64 (heightsF ops).1), .one (.bool (heightsF ops).2)], σ) := by
  refine lim_rd (args' := [.one (.lst (ops.map Ins.cells))]) (ids := ids ++ []) (TyD_prim rfl) ((TyD_code _).trans codeCHeights) rfl (by simp only [frzDAs, hs]) ?_ rfl
  unfold BodyP
  have hm' : ops.length ≤ 4294967296 := hm
  by_cases h0 : ops.length = 0
  · have : ops = [] := List.length_eq_zero_iff.1 h0
    subst this
    simp (maxDischargeDepth := 99) [cCHeights, heightsF]
  by_cases h1 : 4096 < ops.length
  · have h1' : (4096 : Int) < (ops.length : Int) := by omega
    have h0' : ¬ (ops.length : Int) = 0 := by omega
    have h0'' : ¬ ops = [] := fun e => h0 (by rw [e]; rfl)
    have hF : heightsF ops = (0, false) := by unfold heightsF; rw [if_pos (.inr h1)]
    simp (maxDischargeDepth := 99) [cCHeights, h0', h1', h0'', hF]
  have h1' : ¬ (4096 : Int) < (ops.length : Int) := by omega
  have h0' : ¬ (ops.length : Int) = 0 := by omega
  have h0'' : ¬ ops = [] := fun e => h0 (by rw [e]; rfl)
  have hw : wr .i64 ((ops.length : Int) + 1) = (ops.length : Int) + 1 := wr64 (by omega) (by omega)
  have ht : ((ops.length : Int) + 1).toNat = ops.length + 1 := by omega
  have hnn : (0 : Int) ≤ (ops.length : Int) + 1 := by omega
  have hme : ops.length + 1 ≤ maxElems := by unfold maxElems; omega
  have hmb : (8 : Nat) ≤ maxBytes := by decide
  have hcons : SV.int .i64 0 :: tcellsI (List.replicate ops.length 0) = tcellsI (List.replicate (ops.length + 1) 0) := by rw [List.replicate_succ]; rfl
  obtain ⟨σ1, hσ1⟩ : ∃ σ1, σ1 = ((emptyH.alloc ⟨SV.int .i64 0 :: tcellsI (List.replicate ops.length 0), .own⟩).alloc ⟨[.nilSlice], .own⟩).put (emptyH.size + 1) ⟨[.slice emptyH.size 0 1 (ops.length + 1) (some (ops.length + 1))], .own⟩ := ⟨_, rfl⟩
  have hrow : HRow σ1 emptyH.size (emptyH.size + 1) (List.replicate (ops.length + 1) 0) := by
    refine ⟨by omega, ?_, ?_⟩
    · rw [hσ1, ← hcons]; simp
    · rw [hσ1]; simp
  have hwz : writeAt ((emptyH.alloc ⟨SV.int .i64 0 :: tcellsI (List.replicate ops.length 0), .own⟩).alloc ⟨[.nilSlice], .own⟩) (emptyH.size + 1) 0 [.slice emptyH.size 0 1 (ops.length + 1) (some (ops.length + 1))] = some σ1 := by
    rw [hσ1]
    simp [writeAt, splice]
  have hb0 := hrow.2.2
  rw [List.length_replicate] at hb0
  simp (maxDischargeDepth := 99) [-writeAt, cCHeights, h0', h1', h0'', hw, ht, hnn, hme, hmb, repI, hwz, hb0]
  have hwn : ∀ i, i < ops.length + 1 → wr .i64 ((i : Int) + 1) = (i : Int) + 1 := fun i hi => wr64 (by omega) (by omega)
  refine endsi_to 0 (O1 ops (emptyH.size + 1)) ?_ ?_
  · refine endsi_range (ops.length + 1) (I1 ops (emptyH.size + 1)) ?_ ?_ ?_
    · exact ⟨by simp, by simp, by simp, by simp, by simp, by simp, by simpa using hrow⟩
    · rintro i fr τ hlt ⟨hlen, f0, f4, f5, f27, f28, hr⟩
      have hwi := hwn i hlt
      have hlti : (i : Int) < (ops.length : Int) + 1 := by omega
      have hl : (List.replicate i (-1 : Int) ++ List.replicate (ops.length + 1 - i) 0).length = ops.length + 1 := by simp; omega
      have hwr := writeI hr.2.1 (i := i) (by rw [hl]; exact hlt) (-1)
      rw [rep_set _ _ hlt] at hwr
      have hb := hr.2.2
      rw [hl] at hb
      have hne := hr.1
      have hlq := AHeap.get_lt hr.2.1
      obtain ⟨τ1, hτ1⟩ : ∃ τ1, τ1 = τ.put emptyH.size ⟨tcellsI (List.replicate (i + 1) (-1) ++ List.replicate (ops.length + 1 - (i + 1)) 0), .own⟩ := ⟨_, rfl⟩
      rw [← hτ1] at hwr
      have hr1 : HRow τ1 emptyH.size (emptyH.size + 1) (List.replicate (i + 1) (-1) ++ List.replicate (ops.length + 1 - (i + 1)) 0) := by
        refine ⟨hne, by rw [hτ1]; simp [hlq], ?_⟩
        rw [hτ1]
        have hl2 : (List.replicate (i + 1) (-1 : Int) ++ List.replicate (ops.length + 1 - (i + 1)) 0).length = ops.length + 1 := by simp; omega
        rw [hl2]
        simp [hb]
      simp (maxDischargeDepth := 99) [-writeAt, -List.append_eq_nil_iff, cCHeights_0, hlen, f0, f4, f5, f27, f28, hlti, hlt, hb, hwr, hwi]
      exact ⟨by simp [hlen], by simp [hlen, f0], by simp [hlen, f4], by simp [hlen, f5], by simp [hlen, f27], by simp [hlen], hr1⟩
    · rintro fr τ ⟨hlen, f0, f4, f5, f27, f28, hr⟩
      have hnl : ¬ (((ops.length + 1 : Nat) : Int) < (ops.length : Int) + 1) := by omega
      have : HRow τ emptyH.size (emptyH.size + 1) (List.replicate (ops.length + 1) (-1)) := by simpa using hr
      simp (maxDischargeDepth := 99) [cCHeights_0, hlen, f27, f28, hnl]
      exact ⟨by simp [hlen], by simp [hlen, f0], by simp [hlen, f4], by simp [hlen, f5], this⟩
  · rintro fr τ ⟨hlen, f0, f4, f5, hr⟩
    have hwr := writeI hr.2.1 (i := 0) (by simp) 0
    have hb := hr.2.2
    rw [List.length_replicate] at hb
    have hne := hr.1
    have hlq := AHeap.get_lt hr.2.1
    obtain ⟨τ1, hτ1⟩ : ∃ τ1, τ1 = τ.put emptyH.size ⟨tcellsI ((List.replicate (ops.length + 1) (-1)).set 0 0), .own⟩ := ⟨_, rfl⟩
    rw [← hτ1] at hwr
    have hr1 : HRow τ1 emptyH.size (emptyH.size + 1) (tall0 ops.length) := by
      refine ⟨hne, by rw [hτ1]; unfold tall0; simp [hlq], ?_⟩
      rw [hτ1, (tall0_ok ops.length).1]
      simp [hb]
    simp (maxDischargeDepth := 99) [-writeAt, hlen, f0, f4, f5, hb, hwr]
    refine endsi_to 2 (fun fr τ => I2 ops emptyH.size (emptyH.size + 1) ops.length fr τ) ?_ ?_
    · refine endsi_range ops.length (I2 ops emptyH.size (emptyH.size + 1)) ?_ ?_ ?_
      · exact ⟨tall0 ops.length, 0, by simp [hlen], by simp [hlen, f4], by simp [hlen, f5], by simp [hlen], by simp [hlen], by simp [hlen, f0], by simp [hlen], by simp [hlen], hr1, tall0_ok _, by omega, by omega, rfl⟩
      · intro i fr τ hlt hI
        refine step2 ops _ _ h0 (by omega) i fr τ hlt hI _ _ ?_
        intro fr τ q1 q2 q3 q4
        rw [q4]
        simp [q2, q3]
      · intro fr τ hI
        have hI' := hI
        obtain ⟨tall, most, hlen, f4, f5, f7, f8, f38, f39, f40, _⟩ := hI'
        simp (maxDischargeDepth := 99) [cCHeights_1, hlen, f39, f40]
        obtain ⟨tall, most, hlen, f4, f5, f7, f8, f38, f39, f40, q1, q2, q3, q4, q5⟩ := hI
        exact ⟨tall, most, by simp [hlen], by simp [hlen, f4], by simp [hlen, f5], by simp [hlen, f7], by simp [hlen, f8], by simp [hlen, f38], by simp [hlen, f39], by simp [hlen, f40], q1, q2, q3, q4, q5⟩
    · rintro fr τ ⟨tall, most, hlen, f4, f5, f7, f8, f38, f39, f40, q1, q2, q3, q4, q5⟩
      rw [List.drop_length] at q5
      have hF := heights_some h0 (by omega) q5.symm
      obtain ⟨_, hq, hb⟩ := q1
      rw [q2.1] at hb
      have hrd := readI (l := tall) (i := ops.length) (by rw [q2.1]; omega)
      have hnn : (0 : Int) ≤ (ops.length : Int) := by omega
      simp (maxDischargeDepth := 99) [hlen, f4, f5, f8, hb, hq, hrd, hF]
end Go.Proofs.YtdpfgdmlmkpmbaaGreatDoor.Ab
