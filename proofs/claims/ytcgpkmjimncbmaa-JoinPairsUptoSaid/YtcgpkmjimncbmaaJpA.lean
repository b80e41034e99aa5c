/- Several of my texts in one: Jp0, Jp1, Jp2, Jp3, Jp4. -/
import Derived.Test.YtcgpkmjimncbmaaJvD
import Derived.Test.YtcgpkmjimncbmaaLitJp
/- Arrivals as values; rows that are slices of their own, and what is handed over of them. -/
namespace Go.Proofs.Ytcgpkmjimncbmaa.Ab
open Go
set_option maxRecDepth 20000
set_option maxHeartbeats 4000000
set_option linter.unusedSimpArgs false
set_option linter.unusedVariables false

structure Vl where
  k : Int
  n : Int
  s : List UInt8
def Vl.cells (v : Vl) : List SV := [.int .i64 v.k, .int .i64 v.n, .str v.s]
structure Fa where
  q : Int
  t : Int
  r : List Vl
/-- An arrival whose row nobody writes. -/
def Fa.cells (a : Fa) : List SV := [.int .i64 a.q, .int .i64 a.t, .lst (a.r.map Vl.cells)]
def vcells (r : List Vl) : List SV := (r.map Vl.cells).flatten
def facells (l : List Fa) : List SV := (l.map Fa.cells).flatten
theorem vcells_app (a b : List Vl) : vcells (a ++ b) = vcells a ++ vcells b := by simp [vcells]
theorem vcells_len : ∀ r : List Vl, (vcells r).length = r.length * 3
  | [] => rfl
  | v :: r => by
    have h1 : vcells (v :: r) = v.cells ++ vcells r := rfl
    rw [h1, List.length_append, show v.cells.length = 3 from rfl, vcells_len r, List.length_cons]
    omega
theorem vchunks : ∀ r : List Vl, chunks 3 r.length (vcells r) = r.map Vl.cells
  | [] => rfl
  | o :: l => by
    have h1 : vcells (o :: l) = o.cells ++ vcells l := rfl
    have h4 : o.cells.length = 3 := rfl
    rw [List.length_cons, chunks, h1, List.take_append_of_le_length (by rw [h4]; exact Nat.le_refl _), List.drop_append_of_le_length (by rw [h4]; exact Nat.le_refl _)]
    rw [List.take_of_length_le (by rw [h4]; exact Nat.le_refl _), List.drop_eq_nil_of_le (by rw [h4]; exact Nat.le_refl _), List.nil_append, vchunks l]
    rfl
theorem frzLid (F : SV → Option (SV × List Nat)) : ∀ {l : List SV}, (∀ s ∈ l, F s = some (s, [])) → frzLW F l = some (l, [])
  | [], _ => rfl
  | s :: l, h => by simp [frzLW, h s (by simp), frzLid F (fun x hx => h x (List.mem_cons_of_mem _ hx))]
theorem frzEid (F : SV → Option (SV × List Nat)) : ∀ {l : List (List SV)}, (∀ e ∈ l, frzLW F e = some (e, [])) → frzEW F l = some (l, [])
  | [], _ => rfl
  | e :: l, h => by simp [frzEW, h e (by simp), frzEid F (fun x hx => h x (List.mem_cons_of_mem _ hx))]
theorem frz_vals (F : SV → Option (SV × List Nat)) (hi : ∀ k n, F (.int k n) = some (.int k n, [])) (hs : ∀ s, F (.str s) = some (.str s, [])) (r : List Vl) : frzEW F (r.map Vl.cells) = some (r.map Vl.cells, []) := by
  refine frzEid F (fun e he => ?_)
  obtain ⟨o, _, rfl⟩ := List.mem_map.1 he
  refine frzLid F (fun s hs' => ?_)
  simp only [Vl.cells, List.mem_cons, List.not_mem_nil, or_false] at hs'
  rcases hs' with rfl | rfl | rfl <;> first | exact hi _ _ | exact hs _
theorem vals_lo : ∀ r : List Vl, loE 0 (r.map Vl.cells) = true
  | [] => rfl
  | t :: l => by
    have h := vals_lo l
    simp only [List.map_cons, loE, h, Bool.and_true]
    rfl
theorem fas_lo : ∀ l : List Fa, loE 0 (l.map Fa.cells) = true
  | [] => rfl
  | a :: l => by
    have h := fas_lo l
    have h2 := vals_lo a.r
    simp only [List.map_cons, loE, h, Bool.and_true, Fa.cells, loL, SV.lo, h2, Bool.true_and]
theorem fas_frz (σ : AHeap) (l : List Fa) : frzDA frzDepth σ (.one (.lst (l.map Fa.cells))) = some (.one (.lst (l.map Fa.cells)), []) := by
  have h := fas_lo l
  simp only [frzDA, frzDepth, frzD, SV.lo, h]
theorem row_frz (σ : AHeap) (r : List Vl) : frzDA frzDepth σ (.one (.lst (r.map Vl.cells))) = some (.one (.lst (r.map Vl.cells)), []) := by
  have h := vals_lo r
  simp only [frzDA, frzDepth, frzD, SV.lo, h]
theorem frzOwn {f : Nat} {σ : AHeap} {id off esz len : Nat} {cap : Option Nat} {cs : List SV} {es : List (List SV)} {ids : List Nat} (hg : σ.get id = some ⟨cs, .own⟩) (hl : off + len * esz ≤ cs.length)
    (he : frzEW (frzD f σ) (chunks esz len (cs.drop off)) = some (es, ids)) : frzD (f + 1) σ (.slice id off esz len cap) = some (.lst es, id :: ids) := by
  have hb : Nat.ble (off + len * esz) cs.length = true := Nat.ble_eq_true_of_le hl
  rw [frzD]
  simp only [hg, hb, he]
/-- A row in memory of its own, that is not the object named. -/
def RowAt (σ : AHeap) (ban : Option Nat) (s : SV) (r : List Vl) : Prop := ∃ id cap, s = .slice id 0 3 r.length cap ∧ ban ≠ some id ∧ σ.get id = some ⟨vcells r, .own⟩
/-- Arrivals whose rows lie so. -/
def Outs (σ : AHeap) (ban : Option Nat) : List SV → List Fa → Prop
  | [], [] => True
  | q :: t :: s :: cs, a :: l => q = .int .i64 a.q ∧ t = .int .i64 a.t ∧ RowAt σ ban s a.r ∧ Outs σ ban cs l
  | _, _ => False
theorem Outs.len {σ : AHeap} {ban : Option Nat} : ∀ {cs : List SV} {l : List Fa}, Outs σ ban cs l → cs.length = l.length * 3
  | [], [], _ => rfl
  | [], _ :: _, h => h.elim
  | [_], _, h => by cases ‹List Fa› <;> exact h.elim
  | [_, _], _, h => by cases ‹List Fa› <;> exact h.elim
  | _ :: _ :: _ :: _, [], h => h.elim
  | q :: t :: s :: cs, a :: l, h => by
    have := Outs.len h.2.2.2
    simp only [List.length_cons]
    omega
theorem Outs.stay {σ σ' : AHeap} {ban ban' : Option Nat} (hk : ∀ id, id < σ.size → ban ≠ some id → σ'.get id = σ.get id ∧ ban' ≠ some id) : ∀ {cs : List SV} {l : List Fa}, Outs σ ban cs l → Outs σ' ban' cs l
  | [], [], _ => trivial
  | [], _ :: _, h => h.elim
  | [_], _, h => by cases ‹List Fa› <;> exact h.elim
  | [_, _], _, h => by cases ‹List Fa› <;> exact h.elim
  | _ :: _ :: _ :: _, [], h => h.elim
  | q :: t :: s :: cs, a :: l, ⟨h1, h2, ⟨id, cap, e, hb, hg⟩, h4⟩ => by
    obtain ⟨k1, k2⟩ := hk id (AHeap.get_lt hg) hb
    exact ⟨h1, h2, ⟨id, cap, e, k2, by rw [k1]; exact hg⟩, Outs.stay hk h4⟩
theorem Outs.snoc {σ : AHeap} {ban : Option Nat} {s : SV} {a : Fa} (hr : RowAt σ ban s a.r) : ∀ {cs : List SV} {l : List Fa}, Outs σ ban cs l → Outs σ ban (cs ++ [.int .i64 a.q, .int .i64 a.t, s]) (l ++ [a])
  | [], [], _ => ⟨rfl, rfl, hr, trivial⟩
  | [], _ :: _, h => h.elim
  | [_], _, h => by cases ‹List Fa› <;> exact h.elim
  | [_, _], _, h => by cases ‹List Fa› <;> exact h.elim
  | _ :: _ :: _ :: _, [], h => h.elim
  | q :: t :: s :: cs, a :: l, ⟨h1, h2, h3, h4⟩ => ⟨h1, h2, h3, Outs.snoc hr h4⟩
theorem Outs.frz {σ : AHeap} {ban : Option Nat} {f : Nat} : ∀ {cs : List SV} {l : List Fa}, Outs σ ban cs l → ∃ ids, frzEW (frzD (f + 2) σ) (chunks 3 l.length cs) = some (l.map Fa.cells, ids)
  | [], [], _ => ⟨[], rfl⟩
  | [], _ :: _, h => h.elim
  | [_], _, h => by cases ‹List Fa› <;> exact h.elim
  | [_, _], _, h => by cases ‹List Fa› <;> exact h.elim
  | _ :: _ :: _ :: _, [], h => h.elim
  | q :: t :: s :: cs, a :: l, h => by
    obtain ⟨rfl, rfl, ⟨id, cap, rfl, _, hg⟩, h4⟩ := h
    obtain ⟨ids, hf⟩ := Outs.frz (f := f) h4
    have h3 : frzD (f + 2) σ (.slice id 0 3 a.r.length cap) = some (.lst (a.r.map Vl.cells), id :: []) :=
      frzOwn (f := f + 1) hg (by rw [vcells_len]; omega) (by rw [List.drop_zero, vchunks]; exact frz_vals (frzD (f + 1) σ) (fun _ _ => rfl) (fun _ => rfl) a.r)
    have e1 : ∀ n : Int, frzD (f + 2) σ (.int .i64 n) = some (.int .i64 n, []) := fun n => rfl
    refine ⟨([] ++ ([] ++ ((id :: []) ++ []))) ++ ids, ?_⟩
    show frzEW (frzD (f + 2) σ) ([.int .i64 a.q, .int .i64 a.t, .slice id 0 3 a.r.length cap] :: chunks 3 l.length cs) = _
    simp only [frzEW, frzLW, e1, h3, hf]
    rfl
theorem frz_outs {σ : AHeap} {b : Nat} {ban : Option Nat} {sv : SV} {cs : List SV} {l : List Fa} (h : OutSl b σ 3 (.one sv) cs l.length) (ho : Outs σ ban cs l) : ∃ ids, frzD 9 σ sv = some (.lst (l.map Fa.cells), ids) := by
  rcases h.2 with ⟨h1, h2⟩ | ⟨q, h1, h2, h3, h4⟩
  · cases h1
    have : l = [] := List.length_eq_zero_iff.1 h2
    subst this
    exact ⟨[], rfl⟩
  · cases h1
    obtain ⟨ids, hf⟩ := ho.frz (f := 6)
    exact ⟨q :: ids, frzOwn (f := 8) h4 (by rw [h.1]; omega) (by rw [List.drop_zero]; exact hf)⟩
theorem putOk {τ : AHeap} {id : Nat} {cs cs' vs : List SV} (off : Nat) (h : τ.get id = some ⟨cs, .own⟩) (hs : splice cs off vs = cs') (hl : off + vs.length ≤ cs.length) :
    ∃ τ', writeAt τ id off vs = some τ' ∧ τ'.get id = some ⟨cs', .own⟩ ∧ (∀ j, j ≠ id → τ'.get j = τ.get j) ∧ τ'.size = τ.size := by
  refine ⟨τ.put id ⟨cs', .own⟩, ?_, by simp [AHeap.get_lt h], fun j hj => by rw [AHeap.get_put', if_neg (fun e => hj e.1)], by simp⟩
  unfold writeAt
  rw [h]
  have : Nat.ble (off + vs.length) cs.length = true := Nat.ble_eq_true_of_le hl
  simp only [this, hs]
/-- An append to a slice that nobody shares, by what it leaves. -/
def slId : AV → Option Nat
  | .one (.slice q _ _ _ _) => some q
  | _ => none
theorem append_o2 {b : Nat} {τ : AHeap} {esz bytes : Nat} {s : AV} {cells vs : List SV} {n : Nat} (h : OutSl b τ esz s cells n) (hb : b ≤ τ.size) (he : 0 < esz)
    (hv : vs.length = esz) (hn : n + 1 ≤ maxElems) (hby : bytes ≤ maxBytes) :
    OptP (appendA τ esz bytes s 1 vs) (fun _ s' τ' => OutSl b τ' esz s' (cells ++ vs) (n + 1) ∧ τ'.size = τ.size + 1 ∧ slId s' = some τ.size ∧ ∀ id, id < τ.size → slId s ≠ some id → τ'.get id = τ.get id) := by
  obtain ⟨hc, h⟩ := h
  rcases h with ⟨rfl, rfl⟩ | ⟨q, rfl, h0, hq, hg⟩
  · have h1 : 1 ≤ maxElems := by decide
    have hc0 : cells = [] := by simpa using hc
    subst hc0
    simp [appendA, appendK, h1, hby]
    refine ⟨⟨by simpa using hv, .inr ⟨τ.size, rfl, by omega, hb, by simp⟩⟩, rfl, fun id hid _ hid' => by omega⟩
  · have hlt := AHeap.get_lt hg
    have h2 : ¬ ((n + 1) * esz ≤ cells.length) := by rw [hc, Nat.succ_mul]; omega
    simp [appendA, appendK, hn, hby, hg, h2, hc.symm]
    have hmul : cells.length + esz = (n + 1) * esz := by rw [hc, Nat.succ_mul]
    refine ⟨⟨by simp [hv, hmul], .inr ⟨τ.size, rfl, by omega, hb, by simp⟩⟩, rfl, fun id hid hne => ?_⟩
    have h3 : ¬ id = q := fun e => hne (by rw [e]; rfl)
    rw [if_neg (by omega), if_neg (fun h => h3 h.1)]
/-- A function that is handed slices for good: some answer with what is said of it. -/
theorem lim_mv_ex {C : Ctx} {f : Nat} {F : AFunc} {args : List AV} {σ : AHeap} (h : C.prim f = none) (hc : C.code f = some F) (hh : C.hint f = .mv) {args' : List AV} {ids : List Nat} (ha : frzDAs frzDepth σ args = some (args', ids)) {Φ : AV → Prop}
    (hb : BodyP C F args' emptyH (fun _ v σ' => ∃ V i, frzDA frzDepth σ' v = some (V, i) ∧ Φ V)) : ∃ V, lim C f args σ = some (V, killAll σ ids) ∧ Φ V := by
  obtain ⟨n, x, fr, σ', vs, hx, h1, h2, V, i, h3, h4⟩ := body_fin hb
  refine ⟨V, lim_of (n := n + 1) ?_, h4⟩
  rcases hx with rfl | rfl <;> simp only [evCall, h, hc, hh, inArgs, hintRes, ha, h1, afterB, h2, h3]
def jpHint (f : Nat) : Hint := match memN f [9, 10, 12], memN f [11, 29] with
  | true, _ => .mv
  | _, true => .rd
  | _, _ => .no
noncomputable def JpC : Ctx := ⟨codeOf, primAt jvPrims, jpHint⟩
theorem JpC_good : JpC.Good Try.prog where
  code := fun f F h => codeOf_good h
  prim := fun f p h => JvD_good.prim f p h
theorem JpC_code (f : Nat) : JpC.code f = codeOf f := by kernel_rfl
theorem JpC_awake (σ : AHeap) : lim JpC 13 [] σ = some (.one (.bool true), σ) := (lim_prim (p := pBool true) (by kernel_rfl)).trans rfl
end Go.Proofs.Ytcgpkmjimncbmaa.Ab

/- What fits of arrivals: some of them, at most two hundred, none without a row. -/
namespace Go.Proofs.Ytcgpkmjimncbmaa.Ab
open Go
set_option maxRecDepth 20000
set_option maxHeartbeats 8000000
set_option linter.unusedSimpArgs false
set_option linter.unusedVariables false

theorem facells_app (a b : List Fa) : facells (a ++ b) = facells a ++ facells b := by simp [facells]
theorem fachunks : ∀ r : List Fa, chunks 3 r.length (facells r) = r.map Fa.cells
  | [] => rfl
  | o :: l => by
    have h1 : facells (o :: l) = o.cells ++ facells l := rfl
    have h4 : o.cells.length = 3 := rfl
    rw [List.length_cons, chunks, h1, List.take_append_of_le_length (by rw [h4]; exact Nat.le_refl _), List.drop_append_of_le_length (by rw [h4]; exact Nat.le_refl _)]
    rw [List.take_of_length_le (by rw [h4]; exact Nat.le_refl _), List.drop_eq_nil_of_le (by rw [h4]; exact Nat.le_refl _), List.nil_append, fachunks l]
    rfl
theorem frz_fas {τ : AHeap} {b : Nat} {s : SV} {l : List Fa} (h : OutSl b τ 3 (.one s) (facells l) l.length) : ∃ ids, frzD 9 τ s = some (.lst (l.map Fa.cells), ids) := by
  rcases h.2 with ⟨h1, h2⟩ | ⟨q, h1, h2, h3, h4⟩
  · cases h1
    have : l = [] := List.length_eq_zero_iff.1 h2
    subst this
    exact ⟨[], rfl⟩
  · cases h1
    have hf : frzEW (frzD 8 τ) (l.map Fa.cells) = some (l.map Fa.cells, []) := by
      refine frzEid _ (fun e he => ?_)
      obtain ⟨o, _, rfl⟩ := List.mem_map.1 he
      refine frzLid _ (fun s hs' => ?_)
      have hv := vals_lo o.r
      simp only [Fa.cells, List.mem_cons, List.not_mem_nil, or_false] at hs'
      rcases hs' with rfl | rfl | rfl
      · rfl
      · rfl
      · simp only [frzD, SV.lo, hv]
    exact ⟨[q], frzOwn (cap := none) (f := 8) (off := 0) (esz := 3) (len := l.length) h4 (by rw [h.1]; omega) (by rw [List.drop_zero, fachunks]; exact hf)⟩

/-- Ahead of the i-th arrival. -/
def IFt (l : List Fa) (i : Nat) (fr : List AV) (τ : AHeap) : Prop :=
  ∃ (q t : Int) (out : List Fa), out.length ≤ i ∧ fr.length = 80 ∧ getSlot fr 0 = .one (.lst (l.map Fa.cells)) ∧ getSlot fr 1 = .one (.int .i64 0) ∧ getSlot fr 7 = .one (.int .i64 q) ∧ getSlot fr 8 = .one (.int .i64 t) ∧ getSlot fr 9 = .one (.int .i64 i) ∧
    OutSl 0 τ 3 (getSlot fr 6) (facells out) out.length ∧ ∀ a ∈ out, a ∈ l ∧ a.r ≠ []
def FFt (l : List Fa) (fr : List AV) (τ : AHeap) : Prop :=
  ∃ (t : Int) (out : List Fa), out.length ≤ 200 ∧ fr.length = 80 ∧ getSlot fr 1 = .one (.int .i64 0) ∧ getSlot fr 8 = .one (.int .i64 t) ∧ OutSl 0 τ 3 (getSlot fr 6) (facells out) out.length ∧ ∀ a ∈ out, a ∈ l ∧ a.r ≠ []
def FitR (l : List Fa) (V : AV) : Prop := ∃ (t : Int) (out : List Fa), V = .tup [.one (.lst (out.map Fa.cells)), .one (.int .i64 t)] ∧ out.length ≤ 200 ∧ ∀ a ∈ out, a ∈ l ∧ a.r ≠ []
theorem fit_ex (σ : AHeap) (l : List Fa) (hm : l.length ≤ 1048576) : ∃ (t : Int) (out : List Fa), lim JpC 9 [.one (.lst (l.map Fa.cells)), .one (.int .i64 0)] σ = some (.tup [.one (.lst (out.map Fa.cells)), .one (.int .i64 t)], σ) ∧ out.length ≤ 200 ∧ ∀ a ∈ out, a ∈ l ∧ a.r ≠ [] := by
  have key := lim_mv_ex (C := JpC) (f := 9) (F := cJFit) (σ := σ) (args := [.one (.lst (l.map Fa.cells)), .one (.int .i64 0)]) (by kernel_rfl) ((JpC_code _).trans codeJFit) (by kernel_rfl)
    (args' := [.one (.lst (l.map Fa.cells)), .one (.int .i64 0)]) (ids := [] ++ ([] ++ [])) (by simp only [frzDAs, fas_frz]; rfl)
    (Φ := FitR l) ?_
  · obtain ⟨V, h1, t, out, rfl, h2, h3⟩ := key
    exact ⟨t, out, h1, h2, h3⟩
  · unfold BodyP
    obtain ⟨Q, hQ⟩ : ∃ Q, l.map Fa.cells = Q := ⟨_, rfl⟩
    have hQl : Q.length = l.length := by rw [← hQ]; simp
    rw [hQ]
    simp (maxDischargeDepth := 99) [cJFit]
    refine endsi_to 0 (FFt l) ?_ ?_
    · refine endsi_range (min l.length 200) (IFt l) ?_ ?_ ?_
      · exact ⟨0, 0, [], Nat.le_refl _, by simp, by simp [hQ], by simp, by simp, by simp, by simp, OutSl.nil _ _ _, fun a h => by cases h⟩
      · rintro i fr τ hlt ⟨q, t, out, hol, hlen, f0, f1, f7, f8, f9, hO, hall⟩
        rw [hQ] at f0
        have hil : i < l.length := by omega
        have hi2 : i < 200 := by omega
        have hilI : (i : Int) < (l.length : Int) := by omega
        have hi2I : (i : Int) < 200 := by omega
        have hw := wr_next hil (by unfold maxElems; omega)
        obtain ⟨a, ha⟩ : ∃ a, l[i] = a := ⟨_, rfl⟩
        have ham : a ∈ l := by rw [← ha]; exact List.getElem_mem hil
        have hcg : Q[i]? = some a.cells := by rw [← hQ, List.getElem?_map, List.getElem?_eq_getElem hil, ha]; rfl
        have hcg2 : Q[i]'(by omega) = a.cells := (List.getElem?_eq_some_iff.1 hcg).2
        have hcl : a.cells.length = 3 := rfl
        have htk : List.take 3 a.cells = a.cells := rfl
        -- its cell
        obtain ⟨τ1, hτ1⟩ : ∃ τ1, τ1 = τ.alloc ⟨[.int .i64 0, .int .i64 0, .nilSlice], .own⟩ := ⟨_, rfl⟩
        have g1 : τ1.get τ.size = some ⟨[.int .i64 0, .int .i64 0, .nilSlice], .own⟩ := by rw [hτ1]; simp
        have k1 : ∀ id, id < τ.size → τ1.get id = τ.get id := fun id h => by rw [hτ1, AHeap.get_alloc, if_neg (by omega)]
        have z1 : τ1.size = τ.size + 1 := by rw [hτ1]; simp
        obtain ⟨τ2, w2, g2, o2, z2⟩ := putOk (vs := a.cells) (cs' := a.cells) 0 g1 rfl (by simp [Fa.cells])
        have hO2 : OutSl 0 τ2 3 (getSlot fr 6) (facells out) out.length := hO.stay (fun id _ h => by rw [o2 id (by omega), k1 id h])
        obtain ⟨s, hs⟩ : ∃ s, getSlot fr 6 = s := ⟨_, rfl⟩
        rw [hs] at hO2
        obtain ⟨E, hE⟩ : ∃ E, a.r.map Vl.cells = E := ⟨_, rfl⟩
        have hEl : E.length = a.r.length := by rw [← hE]; simp
        have hc0 : a.cells[0]? = some (.int .i64 a.q) := rfl
        have hc1 : a.cells[1]? = some (.int .i64 a.t) := rfl
        have hc2 : a.cells[2]? = some (.lst E) := by rw [← hE]; rfl
        have hd0 : a.cells[0]'(by rw [hcl]; decide) = .int .i64 a.q := rfl
        have hd1 : a.cells[1]'(by rw [hcl]; decide) = .int .i64 a.t := rfl
        have hd2 : a.cells[2]'(by rw [hcl]; decide) = .lst E := (List.getElem?_eq_some_iff.1 hc2).2
        have hskip : ∀ fr', fr'.length = 80 → getSlot fr' 0 = .one (.lst Q) → getSlot fr' 1 = .one (.int .i64 0) → getSlot fr' 6 = s → getSlot fr' 7 = .one (.int .i64 q) → getSlot fr' 8 = .one (.int .i64 t) → getSlot fr' 9 = .one (.int .i64 ((i + 1 : Nat) : Int)) → IFt l (i + 1) fr' τ2 :=
          fun fr' a1 a2 a3 a4 a5 a6 a7 => ⟨q, t, out, by omega, a1, by rw [hQ]; exact a2, a3, a5, a6, a7, by rw [a4]; exact hO2, hall⟩
        by_cases c1 : a.q ≤ q
        · simp (maxDischargeDepth := 99) [-writeAt, -Int.natCast_add, cJFit_0, hlen, f0, f1, f7, f8, f9, hs, hQl, hil, hilI, hi2, hi2I, hcg, hcg2, hcl, htk, ← hτ1, w2, g2, hc0, hc1, hc2, hd0, hd1, hd2, hw, c1]
          exact hskip _ (by simp [hlen]) (by simp [hlen, f0]) (by simp [hlen, f1]) (by simp [hlen, hs]) (by simp [hlen, f7]) (by simp [hlen, f8]) (by simp [hlen])
        by_cases c2 : 1073741824 < a.q
        · simp (maxDischargeDepth := 99) [-writeAt, -Int.natCast_add, cJFit_0, hlen, f0, f1, f7, f8, f9, hs, hQl, hil, hilI, hi2, hi2I, hcg, hcg2, hcl, htk, ← hτ1, w2, g2, hc0, hc1, hc2, hd0, hd1, hd2, hw, c1, c2]
          exact hskip _ (by simp [hlen]) (by simp [hlen, f0]) (by simp [hlen, f1]) (by simp [hlen, hs]) (by simp [hlen, f7]) (by simp [hlen, f8]) (by simp [hlen])
        by_cases c3 : a.t < t
        · simp (maxDischargeDepth := 99) [-writeAt, -Int.natCast_add, cJFit_0, hlen, f0, f1, f7, f8, f9, hs, hQl, hil, hilI, hi2, hi2I, hcg, hcg2, hcl, htk, ← hτ1, w2, g2, hc0, hc1, hc2, hd0, hd1, hd2, hw, c1, c2, c3]
          exact hskip _ (by simp [hlen]) (by simp [hlen, f0]) (by simp [hlen, f1]) (by simp [hlen, hs]) (by simp [hlen, f7]) (by simp [hlen, f8]) (by simp [hlen])
        by_cases c4 : 1099511627776 < a.t
        · simp (maxDischargeDepth := 99) [-writeAt, -Int.natCast_add, cJFit_0, hlen, f0, f1, f7, f8, f9, hs, hQl, hil, hilI, hi2, hi2I, hcg, hcg2, hcl, htk, ← hτ1, w2, g2, hc0, hc1, hc2, hd0, hd1, hd2, hw, c1, c2, c3, c4]
          exact hskip _ (by simp [hlen]) (by simp [hlen, f0]) (by simp [hlen, f1]) (by simp [hlen, hs]) (by simp [hlen, f7]) (by simp [hlen, f8]) (by simp [hlen])
        have hgood : a.r ≠ [] → ∀ fr' s' τ3, fr'.length = 80 → getSlot fr' 0 = .one (.lst Q) → getSlot fr' 1 = .one (.int .i64 0) → getSlot fr' 6 = s' → getSlot fr' 7 = .one (.int .i64 a.q) → getSlot fr' 8 = .one (.int .i64 a.t) → getSlot fr' 9 = .one (.int .i64 ((i + 1 : Nat) : Int)) →
            OutSl 0 τ3 3 s' (facells out ++ a.cells) (out.length + 1) → IFt l (i + 1) fr' τ3 := fun hne fr' s' τ3 a1 a2 a3 a4 a5 a6 a7 h => by
          refine ⟨a.q, a.t, out ++ [a], by simp only [List.length_append, List.length_cons, List.length_nil]; omega, a1, by rw [hQ]; exact a2, a3, a5, a6, a7, ?_, fun x hx => ?_⟩
          · rw [a4, facells_app, List.length_append]
            exact h
          · rcases List.mem_append.1 hx with hx | hx
            · exact hall x hx
            · rw [List.mem_singleton] at hx
              subst hx
              exact ⟨ham, hne⟩
        obtain ⟨τ3, hτ3⟩ : ∃ τ3, τ3 = τ2.alloc ⟨a.cells, .own⟩ := ⟨_, rfl⟩
        have g3 : τ3.get τ2.size = some ⟨a.cells, .own⟩ := by rw [hτ3]; simp
        have hO3 : OutSl 0 τ3 3 s (facells out) out.length := hO2.stay (fun id _ h => by rw [hτ3, AHeap.get_alloc, if_neg (by omega)])
        have hap := append_o2 (bytes := 40) (vs := a.cells) hO3 (Nat.zero_le _) (by omega) rfl (by unfold maxElems; omega) (by decide)
        by_cases c6 : a.r = []
        · have hE0 : E.length = 0 := by rw [hEl, c6]; rfl
          rcases hO2.2 with ⟨e1, e2⟩ | ⟨qo, e1, e2, _, e4⟩
          · rw [e1] at hs
            simp (maxDischargeDepth := 99) [-writeAt, -Int.natCast_add, cJFit_0, hlen, f0, f1, f7, f8, f9, hs, hQl, hil, hilI, hi2, hi2I, hcg, hcg2, hcl, htk, ← hτ1, w2, g2, hc0, hc1, hc2, hd0, hd1, hd2, hw, c1, c2, c3, c4, hE0]
            exact hskip _ (by simp [hlen]) (by simp [hlen, f0]) (by simp [hlen, f1]) (by simp [hlen, hs, e1]) (by simp [hlen, f7]) (by simp [hlen, f8]) (by simp [hlen])
          · rw [e1] at hs
            have e2I : (0 : Int) < (out.length : Int) := by omega
            obtain ⟨o, rest, ho⟩ : ∃ o rest, out = o :: rest := by
              cases out with
              | nil => simp at e2
              | cons o rest => exact ⟨o, rest, rfl⟩
            have hfc : (facells out)[2]? = some (.lst (o.r.map Vl.cells)) := by rw [ho]; rfl
            have hol : o.r ≠ [] := (hall o (by rw [ho]; simp)).2
            have hor : ¬ (0 : Int) = (o.r.length : Int) := by
              have := List.length_pos_iff.2 hol
              omega
            have hor2 : ¬ 0 = o.r.length := by
              have := List.length_pos_iff.2 hol
              omega
            simp (maxDischargeDepth := 99) [-writeAt, -Int.natCast_add, cJFit_0, hlen, f0, f1, f7, f8, f9, hs, hQl, hil, hilI, hi2, hi2I, hcg, hcg2, hcl, htk, ← hτ1, w2, g2, hc0, hc1, hc2, hd0, hd1, hd2, hw, c1, c2, c3, c4, hE0, e2, e2I, e4, hfc, hor, hor2]
            exact hskip _ (by simp [hlen]) (by simp [hlen, f0]) (by simp [hlen, f1]) (by simp [hlen, hs, e1]) (by simp [hlen, f7]) (by simp [hlen, f8]) (by simp [hlen])
        · have hEp : ¬ (E.length : Int) = 0 := by
            have := List.length_pos_iff.2 c6
            omega
          have hEp2 : ¬ E = [] := by
            intro e
            rw [e] at hEp
            exact hEp rfl
          rcases hO2.2 with ⟨e1, e2⟩ | ⟨qo, e1, e2, _, e4⟩
          · rw [e1] at hs hap
            simp (maxDischargeDepth := 99) [-writeAt, -Int.natCast_add, cJFit_0, hlen, f0, f1, f7, f8, f9, hs, hQl, hil, hilI, hi2, hi2I, hcg, hcg2, hcl, htk, ← hτ1, w2, g2, hc0, hc1, hc2, hd0, hd1, hd2, hw, c1, c2, c3, c4, hEp, hEp2, splice, repeatCells, srcLen, srcCells, ← hτ3, g3]
            refine hap.mono ?_
            rintro v τ4 ⟨p1, _, _, _⟩
            simp (maxDischargeDepth := 99) [-Int.natCast_add, hlen, f9, hw]
            exact hgood c6 _ _ _ (by simp [hlen]) (by simp [hlen, f0]) (by simp [hlen, f1]) rfl (by simp [hlen]) (by simp [hlen]) (by simp [hlen]) (by simp only [getSlot_setSlot]; simpa [hlen] using p1)
          · rw [e1] at hs hap
            have e2I : (0 : Int) < (out.length : Int) := by omega
            obtain ⟨o, rest, ho⟩ : ∃ o rest, out = o :: rest := by
              cases out with
              | nil => simp at e2
              | cons o rest => exact ⟨o, rest, rfl⟩
            have hfc : (facells out)[2]? = some (.lst (o.r.map Vl.cells)) := by rw [ho]; rfl
            have hfcl : (facells out).length = out.length * 3 := hO2.1
            have hfd : (facells out)[2]'(by omega) = .lst (o.r.map Vl.cells) := (List.getElem?_eq_some_iff.1 hfc).2
            have hone : ¬ o.r = [] := (hall o (by rw [ho]; simp)).2
            by_cases c5 : a.r.length = o.r.length
            · have c5I : (E.length : Int) = (o.r.length : Int) := by omega
              simp (maxDischargeDepth := 99) [-writeAt, -Int.natCast_add, cJFit_0, hlen, f0, f1, f7, f8, f9, hs, hQl, hil, hilI, hi2, hi2I, hcg, hcg2, hcl, htk, ← hτ1, w2, g2, hc0, hc1, hc2, hd0, hd1, hd2, hw, c1, c2, c3, c4, hEp, hEp2, e2, e2I, e4, hfc, hfcl, hfd, c5I, hone, splice, repeatCells, srcLen, srcCells, ← hτ3, g3]
              refine hap.mono ?_
              rintro v τ4 ⟨p1, _, _, _⟩
              simp (maxDischargeDepth := 99) [-Int.natCast_add, hlen, f9, hw]
              exact hgood c6 _ _ _ (by simp [hlen]) (by simp [hlen, f0]) (by simp [hlen, f1]) rfl (by simp [hlen]) (by simp [hlen]) (by simp [hlen]) (by simp only [getSlot_setSlot]; simpa [hlen] using p1)
            · have c5I : ¬ (E.length : Int) = (o.r.length : Int) := by omega
              simp (maxDischargeDepth := 99) [-writeAt, -Int.natCast_add, cJFit_0, hlen, f0, f1, f7, f8, f9, hs, hQl, hil, hilI, hi2, hi2I, hcg, hcg2, hcl, htk, ← hτ1, w2, g2, hc0, hc1, hc2, hd0, hd1, hd2, hw, c1, c2, c3, c4, hEp, hEp2, e2, e2I, e4, hfc, hfcl, hfd, c5I]
              exact hskip _ (by simp [hlen]) (by simp [hlen, f0]) (by simp [hlen, f1]) (by simp [hlen, hs, e1]) (by simp [hlen, f7]) (by simp [hlen, f8]) (by simp [hlen])
      · rintro fr τ ⟨q, t, out, hol, hlen, f0, f1, f7, f8, f9, hO, hall⟩
        rw [hQ] at f0
        have hfin : ∀ fr', fr'.length = 80 → getSlot fr' 1 = .one (.int .i64 0) → getSlot fr' 6 = getSlot fr 6 → getSlot fr' 8 = .one (.int .i64 t) → FFt l fr' τ := fun fr' a1 a2 a3 a4 => ⟨t, out, by omega, a1, a2, a4, by rw [a3]; exact hO, hall⟩
        by_cases hc : l.length ≤ 200
        · have e : min l.length 200 = l.length := by omega
          rw [e] at f9
          simp (maxDischargeDepth := 99) [-Int.natCast_add, cJFit_0, hlen, f0, f9, hQl]
          exact hfin _ (by simp [hlen]) (by simp [hlen, f1]) (by simp [hlen]) (by simp [hlen, f8])
        · have e : min l.length 200 = 200 := by omega
          rw [e] at f9
          have f9 : getSlot fr 9 = .one (.int .i64 200) := f9
          have hcI : (200 : Int) < (l.length : Int) := by omega
          simp (maxDischargeDepth := 99) [-Int.natCast_add, cJFit_0, hlen, f0, f9, hQl, hcI]
          exact hfin _ (by simp [hlen]) (by simp [hlen, f1]) (by simp [hlen]) (by simp [hlen, f8])
    · rintro fr τ ⟨t, out, hol, hlen, f1, f8, hO, hall⟩
      obtain ⟨s, hs⟩ : ∃ s, getSlot fr 6 = .one s := by
        rcases hO.2 with ⟨h1, _⟩ | ⟨q, h1, _⟩
        · exact ⟨_, h1⟩
        · exact ⟨_, h1⟩
      rw [hs] at hO
      obtain ⟨ids, hf⟩ := frz_fas hO
      have e1 : ∀ n : Int, frzD 9 τ (.int .i64 n) = some (.int .i64 n, []) := fun n => rfl
      have m1 : mms false .i64 0 [.one (.int .i64 1099511627776)] = some (.int .i64 0) := rfl
      have m2 : mms true .i64 t [.one (.int .i64 0)] = some (.int .i64 (mm true t 0)) := rfl
      simp (maxDischargeDepth := 99) [hlen, f1, f8, hs, m1, m2]
      exact ⟨.tup [.one (.lst (out.map Fa.cells)), .one (.int .i64 (mm true t 0))], ⟨ids ++ ([] ++ []), by simp only [frzDA, frzDAs, frzDepth, hf, e1]⟩, mm true t 0, out, rfl, hol, hall⟩
end Go.Proofs.Ytcgpkmjimncbmaa.Ab

/- The program's pairs. -/
namespace Go.Proofs.Ytcgpkmjimncbmaa.Ab
open Go
set_option maxRecDepth 20000
set_option maxHeartbeats 8000000
set_option linter.unusedSimpArgs false
set_option linter.unusedVariables false

def pairF (a b : Fa) : Fa := ⟨wr .i64 (wr .i64 (a.q * 2147483648) + b.q), mm true a.t b.t, a.r ++ b.r⟩
def pairsF (L R : List Fa) : List Fa := L.flatMap fun a => R.map (pairF a)
theorem pairs_snoc (L R : List Fa) (a : Fa) : pairsF (L ++ [a]) R = pairsF L R ++ R.map (pairF a) := by simp [pairsF]
theorem pairs_len (L R : List Fa) : (pairsF L R).length = L.length * R.length := by
  unfold pairsF
  induction L with
  | nil => simp
  | cons a L ih => rw [List.flatMap_cons, List.length_append, List.length_map, ih, List.length_cons, Nat.succ_mul, Nat.add_comm]
/-- An append to nothing, and to cells that nobody writes. -/
theorem app_nil {σ : AHeap} {esz bytes k : Nat} {vs : List SV} (h1 : k + 1 ≤ maxElems) (h2 : bytes ≤ maxBytes) : appendA σ esz bytes (.one .nilSlice) (k + 1) vs = some (.one (.slice σ.size 0 esz (k + 1) none), σ.alloc ⟨vs, .own⟩) := by
  have b1 : Nat.ble (k + 1) maxElems = true := Nat.ble_eq_true_of_le h1
  have b2 : Nat.ble bytes maxBytes = true := Nat.ble_eq_true_of_le h2
  simp only [appendA, appendK, b1, b2, Bool.and_true]
theorem app_lstx {σ : AHeap} {bytes k : Nat} {E : List (List SV)} {vs : List SV} (h1 : E.length + (k + 1) ≤ maxElems) (h2 : bytes ≤ maxBytes) (hf : E.flatten.length = E.length * 3) (hp : 0 < E.length) :
    appendA σ 3 bytes (.one (.lstx E)) (k + 1) vs = some (.one (.slice σ.size 0 3 (E.length + (k + 1)) none), σ.alloc ⟨E.flatten ++ vs, .own⟩) := by
  have b1 : Nat.ble (E.length + (k + 1)) maxElems = true := Nat.ble_eq_true_of_le h1
  have b2 : Nat.ble bytes maxBytes = true := Nat.ble_eq_true_of_le h2
  have b3 : Nat.beq E.flatten.length (E.length * 3) = true := by rw [hf]; exact Nat.beq_refl _
  have b4 : Nat.blt 0 E.length = true := Nat.ble_eq_true_of_le hp
  simp only [appendA, appendK, b1, b2, b3, b4, Bool.and_true]
theorem app_own {σ : AHeap} {bytes n k q : Nat} {cs vs : List SV} (h1 : n + (k + 1) ≤ maxElems) (h2 : bytes ≤ maxBytes) (hg : σ.get q = some ⟨cs, .own⟩) (hc : cs.length = n * 3) :
    appendA σ 3 bytes (.one (.slice q 0 3 n none)) (k + 1) vs = some (.one (.slice σ.size 0 3 (n + (k + 1)) none), (σ.put q ⟨cs, .dead⟩).alloc ⟨cs ++ vs, .own⟩) := by
  have b1 : Nat.ble (n + (k + 1)) maxElems = true := Nat.ble_eq_true_of_le h1
  have b2 : Nat.ble bytes maxBytes = true := Nat.ble_eq_true_of_le h2
  have b3 : Nat.beq 3 3 = true := rfl
  have b4 : Nat.ble (0 + (n + (k + 1)) * 3) cs.length = false := by
    cases h : Nat.ble (0 + (n + (k + 1)) * 3) cs.length with
    | false => rfl
    | true => have := Nat.le_of_ble_eq_true h; omega
  have b5 : Nat.beq (0 + n * 3) cs.length = true := by rw [hc, Nat.zero_add]; exact Nat.beq_refl _
  simp only [appendA, appendK, b1, b2, b3, b4, b5, Bool.and_true, hg, List.drop_zero]
theorem src_row (σ : AHeap) (r : List Vl) : srcCells σ 3 r.length (.one (.lst (r.map Vl.cells))) = some (vcells r) := by
  have hl := vcells_len r
  have h1 : List.take r.length (r.map Vl.cells) = r.map Vl.cells := List.take_of_length_le (by simp)
  unfold vcells at hl ⊢
  simp only [srcCells, h1, hl, List.length_map]
  rw [Nat.ble_self_eq_true, show Nat.beq (r.length * 3) (r.length * 3) = true from Nat.beq_refl _]
  rfl
theorem src_own {σ : AHeap} {q n : Nat} {cap : Option Nat} {cs : List SV} (hg : σ.get q = some ⟨cs, .own⟩) (hc : cs.length = n * 3) : srcCells σ 3 n (.one (.slice q 0 3 n cap)) = some cs := by
  have b1 : Nat.beq 3 3 = true := rfl
  have b2 : Nat.ble (0 + n * 3) cs.length = true := Nat.ble_eq_true_of_le (by omega)
  have b3 : (cs.drop 0).take (n * 3) = cs := by rw [List.drop_zero]; exact List.take_of_length_le (by omega)
  simp only [srcCells, b1, Nat.ble_self_eq_true, Bool.and_true, hg, b2, b3]
theorem rows_wide (r : List Vl) : lstW 3 (r.map Vl.cells) = true := by cases r <;> rfl

/-- What has come out, and the object named. -/
def PInv (fr : List AV) (τ : AHeap) (out : List Fa) : Prop := ∃ s cs, getSlot fr 5 = s ∧ OutSl 0 τ 3 s cs out.length ∧ Outs τ (slId s) cs out
def IPo (L R : List Fa) (i : Nat) (fr : List AV) (τ : AHeap) : Prop :=
  fr.length = 56 ∧ getSlot fr 1 = .one (.lst (R.map Fa.cells)) ∧ getSlot fr 11 = .one (.lst (L.map Fa.cells)) ∧ getSlot fr 12 = .one (.int .i64 L.length) ∧ getSlot fr 13 = .one (.int .i64 i) ∧ PInv fr τ (pairsF (L.take i) R)
def IPi (L R : List Fa) (i : Nat) (a : Fa) (p : Nat) (j : Nat) (fr : List AV) (τ : AHeap) : Prop :=
  fr.length = 56 ∧ getSlot fr 1 = .one (.lst (R.map Fa.cells)) ∧ getSlot fr 11 = .one (.lst (L.map Fa.cells)) ∧ getSlot fr 12 = .one (.int .i64 L.length) ∧ getSlot fr 13 = .one (.int .i64 i) ∧
    getSlot fr 7 = .one (.ptr p 0) ∧ τ.get p = some ⟨a.cells, .own⟩ ∧ slId (getSlot fr 5) ≠ some p ∧
    getSlot fr 17 = .one (.lst (R.map Fa.cells)) ∧ getSlot fr 18 = .one (.int .i64 R.length) ∧ getSlot fr 19 = .one (.int .i64 j) ∧ PInv fr τ (pairsF (L.take i) R ++ (R.take j).map (pairF a))
theorem PInv.stay {fr fr' : List AV} {τ τ' : AHeap} {out : List Fa} (h : PInv fr τ out) (hf : getSlot fr' 5 = getSlot fr 5) (hk : ∀ id, id < τ.size → τ'.get id = τ.get id) : PInv fr' τ' out := by
  obtain ⟨s, cs, h1, h2, h3⟩ := h
  exact ⟨s, cs, by rw [hf]; exact h1, h2.stay (fun id _ h => hk id h), h3.stay (fun id h hb => ⟨hk id h, hb⟩)⟩
theorem slId_lt {τ : AHeap} {s : AV} {cs : List SV} {n q : Nat} (h : OutSl 0 τ 3 s cs n) (hq : slId s = some q) : q < τ.size := by
  rcases h.2 with ⟨rfl, _⟩ | ⟨p, rfl, _, _, hg⟩
  · cases hq
  · cases hq
    exact AHeap.get_lt hg
theorem step_pair {L R : List Fa} {i j p : Nat} {a : Fa} {fr : List AV} {τ : AHeap} {E : KE} {S : KN} (hjl : j < R.length) (hR : R.length ≤ 200) (hL : (pairsF (L.take i) R).length ≤ 40000) (hra : a.r ≠ [] ∧ a.r.length ≤ 1048576) (hrb : ∀ b ∈ R, b.r ≠ [] ∧ b.r.length ≤ 1048576) (h : IPi L R i a p j fr τ) :
    EndsI .go (lim JpC) cJPairs_0 fr τ (fun _ fr σ => IPi L R i a p (j + 1) fr σ) E S := by
  obtain ⟨hlen, f1, f11, f12, f13, f7, hp, hnp, f17, f18, f19, s, cs, f5, hO, hS⟩ := h
  obtain ⟨b, hb⟩ : ∃ b, R[j] = b := ⟨_, rfl⟩
  have hbm : b ∈ R := by rw [← hb]; exact List.getElem_mem hjl
  obtain ⟨hb1, hb2⟩ := hrb b hbm
  obtain ⟨ha1, ha2⟩ := hra
  have hjI : (j : Int) < (R.length : Int) := by omega
  have hw := wr_next hjl (by unfold maxElems; omega)
  obtain ⟨Q, hQ⟩ : ∃ Q, R.map Fa.cells = Q := ⟨_, rfl⟩
  have hQl : Q.length = R.length := by rw [← hQ]; simp
  rw [hQ] at f1 f17
  have hcg : Q[j]? = some b.cells := by rw [← hQ, List.getElem?_map, List.getElem?_eq_getElem hjl, hb]; rfl
  have hcg2 : Q[j]'(by omega) = b.cells := (List.getElem?_eq_some_iff.1 hcg).2
  have hcl : ∀ x : Fa, x.cells.length = 3 := fun _ => rfl
  have htk : ∀ x : Fa, List.take 3 x.cells = x.cells := fun _ => rfl
  -- the rows
  obtain ⟨EA, hEA⟩ : ∃ EA, a.r.map Vl.cells = EA := ⟨_, rfl⟩
  obtain ⟨EB, hEB⟩ : ∃ EB, b.r.map Vl.cells = EB := ⟨_, rfl⟩
  have hEAl : EA.length = a.r.length := by rw [← hEA]; simp
  have hEBl : EB.length = b.r.length := by rw [← hEB]; simp
  have hEAw : lstW 3 EA = true := by rw [← hEA]; exact rows_wide _
  have hEAt : EA.take EA.length = EA := List.take_of_length_le (Nat.le_refl _)
  have hEAf : EA.flatten = vcells a.r := by rw [← hEA]; rfl
  have hap0 : 0 < a.r.length := List.length_pos_iff.2 ha1
  have hbp0 : 0 < b.r.length := List.length_pos_iff.2 hb1
  obtain ⟨m, hm⟩ : ∃ m, b.r.length = m + 1 := ⟨b.r.length - 1, by omega⟩
  have hca0 : a.cells[0]? = some (.int .i64 a.q) := rfl
  have hca1 : a.cells[1]? = some (.int .i64 a.t) := rfl
  have hca2 : a.cells[2]? = some (.lst EA) := by rw [← hEA]; rfl
  have hcb0 : b.cells[0]? = some (.int .i64 b.q) := rfl
  have hcb1 : b.cells[1]? = some (.int .i64 b.t) := rfl
  have hcb2 : b.cells[2]? = some (.lst EB) := by rw [← hEB]; rfl
  have hda0 : a.cells[0]'(by rw [hcl]; decide) = .int .i64 a.q := rfl
  have hda1 : a.cells[1]'(by rw [hcl]; decide) = .int .i64 a.t := rfl
  have hda2 : a.cells[2]'(by rw [hcl]; decide) = .lst EA := (List.getElem?_eq_some_iff.1 hca2).2
  have hdb0 : b.cells[0]'(by rw [hcl]; decide) = .int .i64 b.q := rfl
  have hdb1 : b.cells[1]'(by rw [hcl]; decide) = .int .i64 b.t := rfl
  have hdb2 : b.cells[2]'(by rw [hcl]; decide) = .lst EB := (List.getElem?_eq_some_iff.1 hcb2).2
  -- the memory, step by step
  have hpl := AHeap.get_lt hp
  obtain ⟨τ1, hτ1⟩ : ∃ τ1, τ1 = τ.alloc ⟨[.int .i64 0, .int .i64 0, .nilSlice], .own⟩ := ⟨_, rfl⟩
  have g1 : τ1.get τ.size = some ⟨[.int .i64 0, .int .i64 0, .nilSlice], .own⟩ := by rw [hτ1]; simp
  have k1 : ∀ id, id < τ.size → τ1.get id = τ.get id := fun id h => by rw [hτ1, AHeap.get_alloc, if_neg (by omega)]
  have z1 : τ1.size = τ.size + 1 := by rw [hτ1]; simp
  obtain ⟨τ2, w2, g2, o2, z2⟩ := putOk (vs := b.cells) (cs' := b.cells) 0 g1 rfl (by simp [Fa.cells])
  have k2 : ∀ id, id < τ.size → τ2.get id = τ.get id := fun id h => by rw [o2 id (by omega), k1 id h]
  have hp2 : τ2.get p = some ⟨a.cells, .own⟩ := by rw [k2 p hpl]; exact hp
  obtain ⟨τ3, hτ3⟩ : ∃ τ3, τ3 = τ2.alloc ⟨vcells (a.r ++ b.r), .own⟩ := ⟨_, rfl⟩
  have z3 : τ3.size = τ2.size + 1 := by rw [hτ3]; simp
  have g3 : τ3.get τ2.size = some ⟨vcells (a.r ++ b.r), .own⟩ := by rw [hτ3]; simp
  have k3 : ∀ id, id < τ2.size → τ3.get id = τ2.get id := fun id h => by rw [hτ3, AHeap.get_alloc, if_neg (by omega)]
  have hlm : a.r.length + (m + 1) ≤ maxElems := by unfold maxElems; omega
  have hlr : (a.r ++ b.r).length = a.r.length + (m + 1) := by rw [List.length_append, hm]
  have happ1 : appendA τ2 3 32 (.one (.lstx EA)) (m + 1) (vcells b.r) = some (.one (.slice τ2.size 0 3 (a.r.length + (m + 1)) none), τ3) := by
    rw [app_lstx (by rw [hEAl]; unfold maxElems; omega) (by decide) (by rw [hEAf, hEAl, vcells_len]) (by omega), hEAl, hEAf, ← vcells_app, hτ3]
  have hs1 : srcCells τ2 3 (m + 1) (.one (.lst EB)) = some (vcells b.r) := by rw [← hm, ← hEB]; exact src_row _ _
  obtain ⟨τ4, hτ4⟩ : ∃ τ4, τ4 = τ3.alloc ⟨vcells (a.r ++ b.r), .own⟩ := ⟨_, rfl⟩
  have z4 : τ4.size = τ3.size + 1 := by rw [hτ4]; simp
  have g4 : τ4.get τ3.size = some ⟨vcells (a.r ++ b.r), .own⟩ := by rw [hτ4]; simp
  have k4 : ∀ id, id < τ3.size → τ4.get id = τ3.get id := fun id h => by rw [hτ4, AHeap.get_alloc, if_neg (by omega)]
  have hs2 : srcCells τ3 3 (a.r.length + (m + 1)) (.one (.slice τ2.size 0 3 (a.r.length + (m + 1)) none)) = some (vcells (a.r ++ b.r)) := src_own g3 (by rw [vcells_len, hlr])
  have happ2 : appendA τ3 3 32 (.one .nilSlice) (a.r.length + (m + 1)) (vcells (a.r ++ b.r)) = some (.one (.slice τ3.size 0 3 (a.r.length + (m + 1)) none), τ4) := by
    rw [hτ4]
    exact app_nil (k := a.r.length + m) hlm (by decide)
  have hp4 : τ4.get p = some ⟨a.cells, .own⟩ := by rw [k4 p (by omega), k3 p (by omega)]; exact hp2
  have g4b : τ4.get τ.size = some ⟨b.cells, .own⟩ := by rw [k4 _ (by omega), k3 _ (by omega)]; exact g2
  obtain ⟨q, hq⟩ : ∃ q, wr .i64 (wr .i64 (a.q * 2147483648) + b.q) = q := ⟨_, rfl⟩
  obtain ⟨t, ht⟩ : ∃ t, mm true a.t b.t = t := ⟨_, rfl⟩
  obtain ⟨x, hx⟩ : ∃ x : Fa, x = ⟨q, t, a.r ++ b.r⟩ := ⟨_, rfl⟩
  have hxp : pairF a b = x := by rw [hx, ← hq, ← ht]; rfl
  have hsh : shiftBin .shl .i64 a.q 31 = some (.int .i64 (wr .i64 (a.q * 2147483648))) := rfl
  have hmm : mms true .i64 a.t [.one (.int .i64 b.t)] = some (.int .i64 t) := by rw [← ht]; rfl
  obtain ⟨τ5, hτ5⟩ : ∃ τ5, τ5 = τ4.alloc ⟨[.int .i64 q, .int .i64 t, .slice τ3.size 0 3 (a.r.length + (m + 1)) none], .own⟩ := ⟨_, rfl⟩
  have g5 : τ5.get τ4.size = some ⟨[.int .i64 q, .int .i64 t, .slice τ3.size 0 3 (a.r.length + (m + 1)) none], .own⟩ := by rw [hτ5]; simp
  have z5 : τ5.size = τ4.size + 1 := by rw [hτ5]; simp
  have k5 : ∀ id, id < τ4.size → τ5.get id = τ4.get id := fun id h => by rw [hτ5, AHeap.get_alloc, if_neg (by omega)]
  have kall : ∀ id, id < τ.size → τ5.get id = τ.get id := fun id h => by rw [k5 id (by omega), k4 id (by omega), k3 id (by omega), k2 id h]
  have hO5 := hO.stay (τ' := τ5) (fun id _ h => kall id h)
  have hon : (pairsF (L.take i) R ++ (R.take j).map (pairF a)).length ≤ 40200 := by
    rw [List.length_append, List.length_map, List.length_take]
    omega
  have hap := append_o2 (bytes := 40) (vs := [.int .i64 q, .int .i64 t, .slice τ3.size 0 3 (a.r.length + (m + 1)) none]) hO5 (Nat.zero_le _) (by omega) rfl (by unfold maxElems; omega) (by decide)
  have hss : ∀ y : Nat, (srcLen (.one (.slice y 0 3 (a.r.length + (m + 1)) none))) = some (a.r.length + (m + 1)) := fun _ => rfl
  have hsl1 : srcLen (.one (.slice τ4.size 0 3 1 (some 1))) = some 1 := rfl
  have hsc1 : srcCells τ5 3 1 (.one (.slice τ4.size 0 3 1 (some 1))) = some [.int .i64 q, .int .i64 t, .slice τ3.size 0 3 (a.r.length + (m + 1)) none] := src_own g5 rfl
  have hsb : srcLen (.one (.lst EB)) = some (m + 1) := by rw [← hm, ← hEBl]; rfl
  have hEAp : ¬ EA.length = 0 := by omega
  have hEAn : ¬ EA = [] := by intro e; rw [e] at hEAp; exact hEAp rfl
  simp (maxDischargeDepth := 99) [-writeAt, -Int.natCast_add, cJPairs_0, hlen, f1, f11, f12, f13, f7, f17, f18, f19, f5, hQl, hjl, hjI, hcg, hcg2, hcl, htk, ← hτ1, w2, g2, hp2, hca0, hca1, hca2, hcb0, hcb1, hcb2, hda0, hda1, hda2, hdb0, hdb1, hdb2, hEAw, hEAt, hEAn, hsb, hs1, happ1, hss, hs2, happ2, hp4, g4b, hsh, hq, hmm, splice, repeatCells, ← hτ5, hsl1, hsc1]
  refine hap.mono ?_
  rintro v τ6 ⟨p1, p2, p3, p4⟩
  have hns : ∀ id, τ.size ≤ id → slId s ≠ some id := fun id h e => by
    have := slId_lt hO e
    omega
  have hnp2 : slId s ≠ some p := by rw [← f5]; exact hnp
  have k6 : ∀ id, id < τ5.size → slId s ≠ some id → τ6.get id = τ5.get id := fun id h1 h2 => p4 id h1 h2
  have hp6 : τ6.get p = some ⟨a.cells, .own⟩ := by rw [k6 p (by omega) hnp2, k5 p (by omega)]; exact hp4
  have hrow : RowAt τ6 (slId v) (.slice τ3.size 0 3 (a.r.length + (m + 1)) none) x.r := by
    refine ⟨τ3.size, none, by rw [hx]; simp only; rw [hlr], by rw [p3]; intro e; have := Option.some.inj e; omega, ?_⟩
    rw [k6 _ (by omega) (hns _ (by omega)), k5 _ (by omega), g4, hx]
  have hS6 : Outs τ6 (slId v) (cs ++ [.int .i64 q, .int .i64 t, .slice τ3.size 0 3 (a.r.length + (m + 1)) none]) ((pairsF (L.take i) R ++ (R.take j).map (pairF a)) ++ [x]) := by
    have := Outs.snoc (a := x) hrow (hS.stay (σ' := τ6) (ban' := slId v) (fun id h1 h2 => ⟨by rw [k6 id (by omega) h2, kall id h1], by rw [p3]; intro e; have := Option.some.inj e; omega⟩))
    rw [hx] at this ⊢
    exact this
  have htake : pairsF (L.take i) R ++ (R.take (j + 1)).map (pairF a) = (pairsF (L.take i) R ++ (R.take j).map (pairF a)) ++ [x] := by
    rw [List.take_succ_eq_append_getElem hjl, hb, List.map_append, List.append_assoc, ← hxp]
    rfl
  have hlen6 : ((pairsF (L.take i) R ++ (R.take j).map (pairF a)) ++ [x]).length = (pairsF (L.take i) R ++ (R.take j).map (pairF a)).length + 1 := by rw [List.length_append]; rfl
  have hfin : ∀ fr', fr'.length = 56 → getSlot fr' 1 = .one (.lst Q) → getSlot fr' 11 = .one (.lst (L.map Fa.cells)) → getSlot fr' 12 = .one (.int .i64 L.length) → getSlot fr' 13 = .one (.int .i64 i) → getSlot fr' 7 = .one (.ptr p 0) → getSlot fr' 5 = v →
      getSlot fr' 17 = .one (.lst Q) → getSlot fr' 18 = .one (.int .i64 R.length) → getSlot fr' 19 = .one (.int .i64 ((j + 1 : Nat) : Int)) → IPi L R i a p (j + 1) fr' τ6 := fun fr' e1 e2 e3 e4 e5 e6 e7 e8 e9 e10 =>
    ⟨e1, by rw [hQ]; exact e2, e3, e4, e5, e6, hp6, by rw [e7, p3]; intro e; have := Option.some.inj e; omega, by rw [hQ]; exact e8, e9, e10, v, _, e7, by rw [htake, hlen6]; exact p1, by rw [htake]; exact hS6⟩
  simp (maxDischargeDepth := 99) [-Int.natCast_add, hlen, f19, hw]
  exact hfin _ (by simp [hlen]) (by simp [hlen, f1]) (by simp [hlen, f11]) (by simp [hlen, f12]) (by simp [hlen, f13]) (by simp [hlen, f7]) (by simp [hlen]) (by simp [hlen, f17]) (by simp [hlen, f18]) (by simp [hlen])
/-- The program's pairs, on rows that are not empty. -/
theorem eq_pairs (σ : AHeap) (L R : List Fa) (hL : L.length ≤ 200) (hR : R.length ≤ 200) (hra : ∀ a ∈ L, a.r ≠ [] ∧ a.r.length ≤ 1048576) (hrb : ∀ b ∈ R, b.r ≠ [] ∧ b.r.length ≤ 1048576) :
    lim JpC 10 [.one (.lst (L.map Fa.cells)), .one (.lst (R.map Fa.cells))] σ = some (.one (.lst ((pairsF L R).map Fa.cells)), σ) := by
  have key := lim_mv (C := JpC) (f := 10) (F := cJPairs) (σ := σ) (args := [.one (.lst (L.map Fa.cells)), .one (.lst (R.map Fa.cells))]) (by kernel_rfl) ((JpC_code _).trans codeJPairs) (by kernel_rfl)
    (args' := [.one (.lst (L.map Fa.cells)), .one (.lst (R.map Fa.cells))]) (ids := [] ++ ([] ++ [])) (by simp only [frzDAs, fas_frz]) (V := .one (.lst ((pairsF L R).map Fa.cells))) ?_
  · exact key
  · unfold BodyP
    simp (maxDischargeDepth := 99) [-List.map_map, cJPairs]
    refine endsi_to 0 (fun fr τ => fr.length = 56 ∧ PInv fr τ (pairsF L R)) ?_ ?_
    · refine endsi_range L.length (IPo L R) ?_ ?_ ?_
      · exact ⟨by simp, by simp, by simp, by simp, by simp, .one .nilSlice, [], by simp, OutSl.nil _ _ _, trivial⟩
      · rintro i fr τ hlt ⟨hlen, f1, f11, f12, f13, hP⟩
        have hltI : (i : Int) < (L.length : Int) := by omega
        have hw := wr_next hlt (by unfold maxElems; omega)
        obtain ⟨a, ha⟩ : ∃ a, L[i] = a := ⟨_, rfl⟩
        have ham : a ∈ L := by rw [← ha]; exact List.getElem_mem hlt
        obtain ⟨Q, hQ⟩ : ∃ Q, L.map Fa.cells = Q := ⟨_, rfl⟩
        have hQl : Q.length = L.length := by rw [← hQ]; simp
        obtain ⟨Q2, hQ2⟩ : ∃ Q2, R.map Fa.cells = Q2 := ⟨_, rfl⟩
        have hQ2l : Q2.length = R.length := by rw [← hQ2]; simp
        rw [hQ] at f11
        rw [hQ2] at f1
        have hcg : Q[i]? = some a.cells := by rw [← hQ, List.getElem?_map, List.getElem?_eq_getElem hlt, ha]; rfl
        have hcg2 : Q[i]'(by omega) = a.cells := (List.getElem?_eq_some_iff.1 hcg).2
        have hcl : a.cells.length = 3 := rfl
        have htk : List.take 3 a.cells = a.cells := rfl
        obtain ⟨τ1, hτ1⟩ : ∃ τ1, τ1 = τ.alloc ⟨[.int .i64 0, .int .i64 0, .nilSlice], .own⟩ := ⟨_, rfl⟩
        have g1 : τ1.get τ.size = some ⟨[.int .i64 0, .int .i64 0, .nilSlice], .own⟩ := by rw [hτ1]; simp
        have k1 : ∀ id, id < τ.size → τ1.get id = τ.get id := fun id h => by rw [hτ1, AHeap.get_alloc, if_neg (by omega)]
        obtain ⟨τ2, w2, g2, o2, z2⟩ := putOk (vs := a.cells) (cs' := a.cells) 0 g1 rfl (by simp [Fa.cells])
        have k2 : ∀ id, id < τ.size → τ2.get id = τ.get id := fun id h => by rw [o2 id (by omega), k1 id h]
        have hpl : (pairsF (L.take i) R).length ≤ 40000 := by
          rw [pairs_len, List.length_take]
          exact Nat.le_trans (Nat.mul_le_mul (show min i L.length ≤ 200 by omega) hR) (by decide)
        have htake : pairsF (L.take (i + 1)) R = pairsF (L.take i) R ++ (R.take R.length).map (pairF a) := by
          rw [List.take_succ_eq_append_getElem hlt, ha, pairs_snoc, List.take_of_length_le (Nat.le_refl _)]
        have hns : slId (getSlot fr 5) ≠ some τ.size := by
          obtain ⟨s, cs, e1, e2, _⟩ := hP
          rw [e1]
          intro e
          have := slId_lt e2 e
          omega
        simp (maxDischargeDepth := 99) [-writeAt, -List.map_map, -Int.natCast_add, cJPairs_1, hlen, f1, f11, f12, f13, hQl, hQ2l, hlt, hltI, hcg, hcg2, hcl, htk, ← hτ1, w2]
        refine endsi_to 2 (IPi L R i a τ.size R.length) ?_ ?_
        · refine endsi_range R.length (IPi L R i a τ.size) ?_ ?_ ?_
          · refine ⟨by simp [hlen], by rw [hQ2]; simp [hlen, f1], by rw [hQ]; simp [hlen, f11], by simp [hlen, f12], by simp [hlen, f13], by simp [hlen], g2, by simpa [hlen] using hns, by rw [hQ2]; simp [hlen], by simp [hlen], by simp [hlen], ?_⟩
            rw [List.take_zero, List.map_nil, List.append_nil]
            exact hP.stay (by simp [hlen]) k2
          · rintro j fr τ' hj hI
            exact step_pair hj hR hpl (hra a ham) hrb hI
          · rintro fr τ' ⟨hlen, f1, f11, f12, f13, f7, hp, hnp, f17, f18, f19, hP⟩
            have hfin : ∀ fr', fr'.length = 56 → (∀ k, k < 20 → getSlot fr' k = getSlot fr k) → IPi L R i a τ.size R.length fr' τ' := fun fr' e1 e2 =>
              ⟨e1, by rw [e2 1 (by decide)]; exact f1, by rw [e2 11 (by decide)]; exact f11, by rw [e2 12 (by decide)]; exact f12, by rw [e2 13 (by decide)]; exact f13, by rw [e2 7 (by decide)]; exact f7, hp, by rw [e2 5 (by decide)]; exact hnp,
                by rw [e2 17 (by decide)]; exact f17, by rw [e2 18 (by decide)]; exact f18, by rw [e2 19 (by decide)]; exact f19, hP.stay (e2 5 (by decide)) (fun id _ => rfl)⟩
            simp (maxDischargeDepth := 99) [cJPairs_0, hlen, f18, f19]
            exact hfin _ (by simp [hlen]) (fun k hk => by rw [getSlot_setSlot, if_neg (by omega)])
        · rintro fr τ' ⟨hlen, f1, f11, f12, f13, f7, hp, hnp, f17, f18, f19, hP⟩
          rw [← htake] at hP
          have hfin : ∀ fr', fr'.length = 56 → getSlot fr' 1 = getSlot fr 1 → getSlot fr' 11 = getSlot fr 11 → getSlot fr' 12 = getSlot fr 12 → getSlot fr' 13 = .one (.int .i64 ((i + 1 : Nat) : Int)) → getSlot fr' 5 = getSlot fr 5 → IPo L R (i + 1) fr' τ' := fun fr' e1 e2 e3 e4 e5 e6 =>
            ⟨e1, by rw [e2]; exact f1, by rw [e3]; exact f11, by rw [e4]; exact f12, e5, hP.stay e6 (fun id _ => rfl)⟩
          simp (maxDischargeDepth := 99) [-Int.natCast_add, hlen, f13, hw]
          exact hfin _ (by simp [hlen]) (by simp [hlen]) (by simp [hlen]) (by simp [hlen]) (by simp [hlen]) (by simp [hlen])
      · rintro fr τ ⟨hlen, f1, f11, f12, f13, hP⟩
        rw [List.take_of_length_le (Nat.le_refl _)] at hP
        simp (maxDischargeDepth := 99) [cJPairs_1, hlen, f12, f13]
        exact hP.stay (by simp [hlen]) (fun id _ => rfl)
    · rintro fr τ ⟨hlen, s, cs, f5, hO, hS⟩
      obtain ⟨sv, rfl⟩ : ∃ sv, s = .one sv := by
        rcases hO.2 with ⟨h1, _⟩ | ⟨q, h1, _⟩
        · exact ⟨_, h1⟩
        · exact ⟨_, h1⟩
      obtain ⟨ids, hf⟩ := frz_outs hO hS
      simp (maxDischargeDepth := 99) [-List.map_map, hlen, f5]
      exact ⟨ids, by simp only [frzDA, frzDepth, hf]⟩
end Go.Proofs.Ytcgpkmjimncbmaa.Ab

/- The document's pairs. -/
namespace Go.Proofs.Ytcgpkmjimncbmaa.Ab
open Go
set_option maxRecDepth 20000
set_option maxHeartbeats 8000000
set_option linter.unusedSimpArgs false
set_option linter.unusedVariables false

def IRo (L R : List Fa) (i : Nat) (fr : List AV) (τ : AHeap) : Prop :=
  fr.length = 60 ∧ getSlot fr 0 = .one (.lst (L.map Fa.cells)) ∧ getSlot fr 1 = .one (.lst (R.map Fa.cells)) ∧ getSlot fr 6 = .one (.int .i64 i) ∧ PInv fr τ (pairsF (L.take i) R)
def IRi (L R : List Fa) (i : Nat) (a : Fa) (j : Nat) (fr : List AV) (τ : AHeap) : Prop :=
  fr.length = 60 ∧ getSlot fr 0 = .one (.lst (L.map Fa.cells)) ∧ getSlot fr 1 = .one (.lst (R.map Fa.cells)) ∧ getSlot fr 6 = .one (.int .i64 i) ∧ getSlot fr 7 = .one (.int .i64 j) ∧ PInv fr τ (pairsF (L.take i) R ++ (R.take j).map (pairF a))
theorem step_rpair {L R : List Fa} {i j : Nat} {a : Fa} {fr : List AV} {τ : AHeap} {E : KE} {S : KN} (hil : i < L.length) (hai : L[i] = a) (hjl : j < R.length) (hR : R.length ≤ 200) (hL : (pairsF (L.take i) R).length ≤ 40000) (hra : a.r ≠ [] ∧ a.r.length ≤ 1048576) (hrb : ∀ b ∈ R, b.r ≠ [] ∧ b.r.length ≤ 1048576) (h : IRi L R i a j fr τ) :
    EndsI .go (lim JpC) cJRPairs_0 fr τ (fun _ fr σ => IRi L R i a (j + 1) fr σ) E S := by
  obtain ⟨hlen, f0, f1, f6, f7, s, cs, f5, hO, hS⟩ := h
  obtain ⟨b, hb⟩ : ∃ b, R[j] = b := ⟨_, rfl⟩
  have hbm : b ∈ R := by rw [← hb]; exact List.getElem_mem hjl
  obtain ⟨hb1, hb2⟩ := hrb b hbm
  obtain ⟨ha1, ha2⟩ := hra
  have hjI : (j : Int) < (R.length : Int) := by omega
  have hiI : (i : Int) < (L.length : Int) := by omega
  have hw := wr_next hjl (by unfold maxElems; omega)
  obtain ⟨Q, hQ⟩ : ∃ Q, R.map Fa.cells = Q := ⟨_, rfl⟩
  have hQl : Q.length = R.length := by rw [← hQ]; simp
  obtain ⟨P, hP⟩ : ∃ P, L.map Fa.cells = P := ⟨_, rfl⟩
  have hPl : P.length = L.length := by rw [← hP]; simp
  rw [hQ] at f1
  rw [hP] at f0
  have hcg : Q[j]? = some b.cells := by rw [← hQ, List.getElem?_map, List.getElem?_eq_getElem hjl, hb]; rfl
  have hcg2 : Q[j]'(by omega) = b.cells := (List.getElem?_eq_some_iff.1 hcg).2
  have hdg : P[i]? = some a.cells := by rw [← hP, List.getElem?_map, List.getElem?_eq_getElem hil, hai]; rfl
  have hdg2 : P[i]'(by omega) = a.cells := (List.getElem?_eq_some_iff.1 hdg).2
  have hcl : ∀ x : Fa, x.cells.length = 3 := fun _ => rfl
  obtain ⟨EA, hEA⟩ : ∃ EA, a.r.map Vl.cells = EA := ⟨_, rfl⟩
  obtain ⟨EB, hEB⟩ : ∃ EB, b.r.map Vl.cells = EB := ⟨_, rfl⟩
  have hEAl : EA.length = a.r.length := by rw [← hEA]; simp
  have hEBl : EB.length = b.r.length := by rw [← hEB]; simp
  have hap0 : 0 < a.r.length := List.length_pos_iff.2 ha1
  have hbp0 : 0 < b.r.length := List.length_pos_iff.2 hb1
  obtain ⟨m, hm⟩ : ∃ m, b.r.length = m + 1 := ⟨b.r.length - 1, by omega⟩
  obtain ⟨n, hn⟩ : ∃ n, a.r.length = n + 1 := ⟨a.r.length - 1, by omega⟩
  have hca0 : a.cells[0]? = some (.int .i64 a.q) := rfl
  have hca1 : a.cells[1]? = some (.int .i64 a.t) := rfl
  have hca2 : a.cells[2]? = some (.lst EA) := by rw [← hEA]; rfl
  have hcb0 : b.cells[0]? = some (.int .i64 b.q) := rfl
  have hcb1 : b.cells[1]? = some (.int .i64 b.t) := rfl
  have hcb2 : b.cells[2]? = some (.lst EB) := by rw [← hEB]; rfl
  have hda0 : a.cells[0]'(by rw [hcl]; decide) = .int .i64 a.q := rfl
  have hda1 : a.cells[1]'(by rw [hcl]; decide) = .int .i64 a.t := rfl
  have hda2 : a.cells[2]'(by rw [hcl]; decide) = .lst EA := (List.getElem?_eq_some_iff.1 hca2).2
  have hdb0 : b.cells[0]'(by rw [hcl]; decide) = .int .i64 b.q := rfl
  have hdb1 : b.cells[1]'(by rw [hcl]; decide) = .int .i64 b.t := rfl
  have hdb2 : b.cells[2]'(by rw [hcl]; decide) = .lst EB := (List.getElem?_eq_some_iff.1 hcb2).2
  -- the memory, step by step
  have hlm : n + 1 + (m + 1) ≤ maxElems := by unfold maxElems; omega
  have hlr : (a.r ++ b.r).length = n + 1 + (m + 1) := by rw [List.length_append, hm, hn]
  obtain ⟨τ1, hτ1⟩ : ∃ τ1, τ1 = τ.alloc ⟨vcells a.r, .own⟩ := ⟨_, rfl⟩
  have z1 : τ1.size = τ.size + 1 := by rw [hτ1]; simp
  have g1 : τ1.get τ.size = some ⟨vcells a.r, .own⟩ := by rw [hτ1]; simp
  have k1 : ∀ id, id < τ.size → τ1.get id = τ.get id := fun id h => by rw [hτ1, AHeap.get_alloc, if_neg (by omega)]
  have hs1 : srcCells τ 3 (n + 1) (.one (.lst EA)) = some (vcells a.r) := by rw [← hn, ← hEA]; exact src_row _ _
  have happ1 : appendA τ 3 32 (.one .nilSlice) (n + 1) (vcells a.r) = some (.one (.slice τ.size 0 3 (n + 1) none), τ1) := by
    rw [hτ1]
    exact app_nil (by unfold maxElems; omega) (by decide)
  obtain ⟨τ2, hτ2⟩ : ∃ τ2, τ2 = (τ1.put τ.size ⟨vcells a.r, .dead⟩).alloc ⟨vcells (a.r ++ b.r), .own⟩ := ⟨_, rfl⟩
  have z2 : τ2.size = τ1.size + 1 := by rw [hτ2]; simp
  have g2 : τ2.get τ1.size = some ⟨vcells (a.r ++ b.r), .own⟩ := by rw [hτ2, AHeap.get_alloc, if_pos (by simp)]
  have k2 : ∀ id, id < τ.size → τ2.get id = τ.get id := fun id h => by
    rw [hτ2, AHeap.get_alloc, if_neg (by rw [AHeap.size_put]; omega), AHeap.get_put', if_neg (fun h => by omega), k1 id h]
  have hs2 : srcCells τ1 3 (m + 1) (.one (.lst EB)) = some (vcells b.r) := by rw [← hm, ← hEB]; exact src_row _ _
  have happ2 : appendA τ1 3 32 (.one (.slice τ.size 0 3 (n + 1) none)) (m + 1) (vcells b.r) = some (.one (.slice τ1.size 0 3 (n + 1 + (m + 1)) none), τ2) := by
    rw [app_own hlm (by decide) g1 (by rw [vcells_len, hn]), hτ2, vcells_app]
  obtain ⟨q, hq⟩ : ∃ q, wr .i64 (wr .i64 (a.q * 2147483648) + b.q) = q := ⟨_, rfl⟩
  obtain ⟨t, ht⟩ : ∃ t, mm true a.t b.t = t := ⟨_, rfl⟩
  obtain ⟨x, hx⟩ : ∃ x : Fa, x = ⟨q, t, a.r ++ b.r⟩ := ⟨_, rfl⟩
  have hxp : pairF a b = x := by rw [hx, ← hq, ← ht]; rfl
  have hmm : mms true .i64 a.t [.one (.int .i64 b.t)] = some (.int .i64 t) := by rw [← ht]; rfl
  obtain ⟨τ5, hτ5⟩ : ∃ τ5, τ5 = τ2.alloc ⟨[.int .i64 q, .int .i64 t, .slice τ1.size 0 3 (n + 1 + (m + 1)) none], .own⟩ := ⟨_, rfl⟩
  have g5 : τ5.get τ2.size = some ⟨[.int .i64 q, .int .i64 t, .slice τ1.size 0 3 (n + 1 + (m + 1)) none], .own⟩ := by rw [hτ5]; simp
  have z5 : τ5.size = τ2.size + 1 := by rw [hτ5]; simp
  have k5 : ∀ id, id < τ2.size → τ5.get id = τ2.get id := fun id h => by rw [hτ5, AHeap.get_alloc, if_neg (by omega)]
  have kall : ∀ id, id < τ.size → τ5.get id = τ.get id := fun id h => by rw [k5 id (by omega), k2 id h]
  have hO5 := hO.stay (τ' := τ5) (fun id _ h => kall id h)
  have hon : (pairsF (L.take i) R ++ (R.take j).map (pairF a)).length ≤ 40200 := by
    rw [List.length_append, List.length_map, List.length_take]
    omega
  have hap := append_o2 (bytes := 40) (vs := [.int .i64 q, .int .i64 t, .slice τ1.size 0 3 (n + 1 + (m + 1)) none]) hO5 (Nat.zero_le _) (by omega) rfl (by unfold maxElems; omega) (by decide)
  have hsl1 : srcLen (.one (.slice τ2.size 0 3 1 (some 1))) = some 1 := rfl
  have hsc1 : srcCells τ5 3 1 (.one (.slice τ2.size 0 3 1 (some 1))) = some [.int .i64 q, .int .i64 t, .slice τ1.size 0 3 (n + 1 + (m + 1)) none] := src_own g5 rfl
  have hsb : srcLen (.one (.lst EB)) = some (m + 1) := by rw [← hm, ← hEBl]; rfl
  have hsa : srcLen (.one (.lst EA)) = some (n + 1) := by rw [← hn, ← hEAl]; rfl
  have hns : ∀ id, τ.size ≤ id → slId s ≠ some id := fun id h e => by
    have := slId_lt hO e
    omega
  simp (maxDischargeDepth := 99) [-writeAt, -Int.natCast_add, cJRPairs_0, hlen, f0, f1, f6, f7, f5, hQl, hPl, hjl, hjI, hil, hiI]
  refine endsi_draw ?_
  simp (maxDischargeDepth := 99) [-writeAt, -Int.natCast_add, -sameObj, hlen, f0, f1, f6, f7, f5, hQl, hPl, hjl, hjI, hil, hiI, hcg, hcg2, hdg, hdg2, hcl, hca0, hca1, hca2, hcb0, hcb1, hcb2, hda0, hda1, hda2, hdb0, hdb1, hdb2, hsb, hsa, hs1, happ1, hs2, happ2, hq, hmm, splice, repeatCells, ← hτ5, hsl1, hsc1]
  refine hap.mono ?_
  rintro v τ6 ⟨p1, p2, p3, p4⟩
  have k6 : ∀ id, id < τ5.size → slId s ≠ some id → τ6.get id = τ5.get id := fun id h1 h2 => p4 id h1 h2
  have hrow : RowAt τ6 (slId v) (.slice τ1.size 0 3 (n + 1 + (m + 1)) none) x.r := by
    refine ⟨τ1.size, none, by rw [hx]; simp only; rw [hlr], by rw [p3]; intro e; have := Option.some.inj e; omega, ?_⟩
    rw [k6 _ (by omega) (hns _ (by omega)), k5 _ (by omega), g2, hx]
  have hS6 : Outs τ6 (slId v) (cs ++ [.int .i64 q, .int .i64 t, .slice τ1.size 0 3 (n + 1 + (m + 1)) none]) ((pairsF (L.take i) R ++ (R.take j).map (pairF a)) ++ [x]) := by
    have := Outs.snoc (a := x) hrow (hS.stay (σ' := τ6) (ban' := slId v) (fun id h1 h2 => ⟨by rw [k6 id (by omega) h2, kall id h1], by rw [p3]; intro e; have := Option.some.inj e; omega⟩))
    rw [hx] at this ⊢
    exact this
  have htake : pairsF (L.take i) R ++ (R.take (j + 1)).map (pairF a) = (pairsF (L.take i) R ++ (R.take j).map (pairF a)) ++ [x] := by
    rw [List.take_succ_eq_append_getElem hjl, hb, List.map_append, List.append_assoc, ← hxp]
    rfl
  have hlen6 : ((pairsF (L.take i) R ++ (R.take j).map (pairF a)) ++ [x]).length = (pairsF (L.take i) R ++ (R.take j).map (pairF a)).length + 1 := by rw [List.length_append]; rfl
  have hfin : ∀ fr', fr'.length = 60 → getSlot fr' 0 = .one (.lst P) → getSlot fr' 1 = .one (.lst Q) → getSlot fr' 6 = .one (.int .i64 i) → getSlot fr' 7 = .one (.int .i64 ((j + 1 : Nat) : Int)) → getSlot fr' 5 = v → IRi L R i a (j + 1) fr' τ6 := fun fr' e1 e2 e3 e4 e5 e6 =>
    ⟨e1, by rw [hP]; exact e2, by rw [hQ]; exact e3, e4, e5, v, _, e6, by rw [htake, hlen6]; exact p1, by rw [htake]; exact hS6⟩
  simp (maxDischargeDepth := 99) [-Int.natCast_add, -sameObj, hlen, f7, hw]
  exact hfin _ (by simp [hlen]) (by simp [hlen, f0]) (by simp [hlen, f1]) (by simp [hlen, f6]) (by simp [hlen]) (by simp [hlen])
/-- The document's pairs, on rows that are not empty. -/
theorem eq_rpairs (σ : AHeap) (L R : List Fa) (hL : L.length ≤ 200) (hR : R.length ≤ 200) (hra : ∀ a ∈ L, a.r ≠ [] ∧ a.r.length ≤ 1048576) (hrb : ∀ b ∈ R, b.r ≠ [] ∧ b.r.length ≤ 1048576) :
    lim JpC 12 [.one (.lst (L.map Fa.cells)), .one (.lst (R.map Fa.cells))] σ = some (.one (.lst ((pairsF L R).map Fa.cells)), σ) := by
  have key := lim_mv (C := JpC) (f := 12) (F := cJRPairs) (σ := σ) (args := [.one (.lst (L.map Fa.cells)), .one (.lst (R.map Fa.cells))]) (by kernel_rfl) ((JpC_code _).trans codeJRPairs) (by kernel_rfl)
    (args' := [.one (.lst (L.map Fa.cells)), .one (.lst (R.map Fa.cells))]) (ids := [] ++ ([] ++ [])) (by simp only [frzDAs, fas_frz]) (V := .one (.lst ((pairsF L R).map Fa.cells))) ?_
  · exact key
  · unfold BodyP
    simp (maxDischargeDepth := 99) [-List.map_map, cJRPairs]
    refine endsi_to 0 (fun fr τ => fr.length = 60 ∧ PInv fr τ (pairsF L R)) ?_ ?_
    · refine endsi_range L.length (IRo L R) ?_ ?_ ?_
      · exact ⟨by simp, by simp, by simp, by simp, .one .nilSlice, [], by simp, OutSl.nil _ _ _, trivial⟩
      · rintro i fr τ hlt ⟨hlen, f0, f1, f6, hP⟩
        have hltI : (i : Int) < (L.length : Int) := by omega
        have hw := wr_next hlt (by unfold maxElems; omega)
        obtain ⟨a, ha⟩ : ∃ a, L[i] = a := ⟨_, rfl⟩
        have ham : a ∈ L := by rw [← ha]; exact List.getElem_mem hlt
        obtain ⟨Q, hQ⟩ : ∃ Q, L.map Fa.cells = Q := ⟨_, rfl⟩
        have hQl : Q.length = L.length := by rw [← hQ]; simp
        obtain ⟨Q2, hQ2⟩ : ∃ Q2, R.map Fa.cells = Q2 := ⟨_, rfl⟩
        have hQ2l : Q2.length = R.length := by rw [← hQ2]; simp
        rw [hQ] at f0
        rw [hQ2] at f1
        have hpl : (pairsF (L.take i) R).length ≤ 40000 := by
          rw [pairs_len, List.length_take]
          exact Nat.le_trans (Nat.mul_le_mul (show min i L.length ≤ 200 by omega) hR) (by decide)
        have htake : pairsF (L.take (i + 1)) R = pairsF (L.take i) R ++ (R.take R.length).map (pairF a) := by
          rw [List.take_succ_eq_append_getElem hlt, ha, pairs_snoc, List.take_of_length_le (Nat.le_refl _)]
        simp (maxDischargeDepth := 99) [-writeAt, -List.map_map, -Int.natCast_add, cJRPairs_1, hlen, f0, f1, f6, hQl, hQ2l, hlt, hltI]
        refine endsi_to 2 (IRi L R i a R.length) ?_ ?_
        · refine endsi_range R.length (IRi L R i a) ?_ ?_ ?_
          · refine ⟨by simp [hlen], by rw [hQ]; simp [hlen, f0], by rw [hQ2]; simp [hlen, f1], by simp [hlen, f6], by simp [hlen], ?_⟩
            rw [List.take_zero, List.map_nil, List.append_nil]
            exact hP.stay (by simp [hlen]) (fun id _ => rfl)
          · rintro j fr τ' hj hI
            exact step_rpair hlt ha hj hR hpl (hra a ham) hrb hI
          · rintro fr τ' ⟨hlen, f0, f1, f6, f7, hP⟩
            have hfin : ∀ fr', fr'.length = 60 → (∀ k, k < 8 → getSlot fr' k = getSlot fr k) → IRi L R i a R.length fr' τ' := fun fr' e1 e2 =>
              ⟨e1, by rw [e2 0 (by decide)]; exact f0, by rw [e2 1 (by decide)]; exact f1, by rw [e2 6 (by decide)]; exact f6, by rw [e2 7 (by decide)]; exact f7, hP.stay (e2 5 (by decide)) (fun id _ => rfl)⟩
            have hRl : (R.map Fa.cells).length = R.length := by simp
            simp (maxDischargeDepth := 99) [-List.map_map, cJRPairs_0, hlen, f1, f7, hRl]
            exact hfin _ (by simp [hlen]) (fun k hk => by
              rw [getSlot_setSlot, if_neg (by omega), getSlot_setSlot, if_neg (by omega), getSlot_setSlot, if_neg (by omega), getSlot_setSlot, if_neg (by omega)])
        · rintro fr τ' ⟨hlen, f0, f1, f6, f7, hP⟩
          rw [← htake] at hP
          have hfin : ∀ fr', fr'.length = 60 → getSlot fr' 0 = getSlot fr 0 → getSlot fr' 1 = getSlot fr 1 → getSlot fr' 6 = .one (.int .i64 ((i + 1 : Nat) : Int)) → getSlot fr' 5 = getSlot fr 5 → IRo L R (i + 1) fr' τ' := fun fr' e1 e2 e3 e4 e5 =>
            ⟨e1, by rw [e2]; exact f0, by rw [e3]; exact f1, e4, hP.stay e5 (fun id _ => rfl)⟩
          simp (maxDischargeDepth := 99) [-Int.natCast_add, hlen, f6, hw]
          exact hfin _ (by simp [hlen]) (by simp [hlen]) (by simp [hlen]) (by simp [hlen]) (by simp [hlen])
      · rintro fr τ ⟨hlen, f0, f1, f6, hP⟩
        rw [List.take_of_length_le (Nat.le_refl _)] at hP
        have hLl : (L.map Fa.cells).length = L.length := by simp
        simp (maxDischargeDepth := 99) [-List.map_map, cJRPairs_1, hlen, f0, f6, hLl]
        exact hP.stay (by simp [hlen]) (fun id _ => rfl)
    · rintro fr τ ⟨hlen, s, cs, f5, hO, hS⟩
      obtain ⟨sv, rfl⟩ : ∃ sv, s = .one sv := by
        rcases hO.2 with ⟨h1, _⟩ | ⟨q, h1, _⟩
        · exact ⟨_, h1⟩
        · exact ⟨_, h1⟩
      obtain ⟨ids, hf⟩ := frz_outs hO hS
      simp (maxDischargeDepth := 99) [-List.map_map, hlen, f5]
      exact ⟨ids, by simp only [frzDA, frzDepth, hf]⟩
end Go.Proofs.Ytcgpkmjimncbmaa.Ab

/- The same arrivals are the same; JoinPairs walked. -/
namespace Go.Proofs.Ytcgpkmjimncbmaa.Ab
open Go
set_option maxRecDepth 20000
set_option maxHeartbeats 8000000
set_option linter.unusedSimpArgs false
set_option linter.unusedVariables false

theorem eqS_vl (v : Vl) : evEqS 3 [(0, .int), (1, .int), (2, .str)] (.agg v.cells) (.agg v.cells) = some true := by
  unfold evEqS Vl.cells
  simp [eqOffs, eqS, beqL_refl]
theorem eq_row (σ : AHeap) (r : List Vl) (hr : r.length ≤ 4194304) : lim JpC 29 [.one (.lst (r.map Vl.cells)), .one (.lst (r.map Vl.cells))] σ = some (.one (.bool true), σ) := by
  refine lim_rd (args' := [.one (.lst (r.map Vl.cells)), .one (.lst (r.map Vl.cells))]) (ids := [] ++ ([] ++ [])) (by kernel_rfl) ((JpC_code _).trans codeJSameRow) (by kernel_rfl) (by simp only [frzDAs, row_frz]) ?_ rfl
  unfold BodyP
  obtain ⟨Q, hQ⟩ : ∃ Q, r.map Vl.cells = Q := ⟨_, rfl⟩
  have hQl : Q.length = r.length := by rw [← hQ]; simp
  rw [hQ]
  simp (maxDischargeDepth := 99) [cJSameRow]
  refine endsi_to 0 (fun fr τ => fr.length = 26) ?_ ?_
  · refine endsi_range r.length (fun i fr τ => fr.length = 26 ∧ getSlot fr 0 = .one (.lst Q) ∧ getSlot fr 1 = .one (.lst Q) ∧ getSlot fr 5 = .one (.int .i64 i)) ?_ ?_ ?_
    · simp
    · rintro i fr τ hlt ⟨hlen, f0, f1, f5⟩
      have hw := wr_next hlt (by unfold maxElems; omega)
      have hltI : (i : Int) < (r.length : Int) := by omega
      obtain ⟨o, ho⟩ : ∃ o, r[i] = o := ⟨_, rfl⟩
      have hcg : Q[i]? = some o.cells := by rw [← hQ, List.getElem?_map, List.getElem?_eq_getElem hlt, ho]; rfl
      have hcg2 : Q[i]'(by omega) = o.cells := (List.getElem?_eq_some_iff.1 hcg).2
      have hcl : o.cells.length = 3 := rfl
      have htk : List.take 3 o.cells = o.cells := rfl
      have heq := eqS_vl o
      simp (maxDischargeDepth := 99) [-Int.natCast_add, -evEqS, cJSameRow_0, hlen, f0, f1, f5, hQl, hlt, hltI, hcg, hcg2, hcl, htk, heq, hw]
    · rintro fr τ ⟨hlen, f0, f1, f5⟩
      simp (maxDischargeDepth := 99) [cJSameRow_0, hlen, f0, f5, hQl]
  · rintro fr τ hlen
    simp (maxDischargeDepth := 99) [hlen]
theorem eq_sameA (σ : AHeap) (l : List Fa) (hl : l.length ≤ 40000) (hr : ∀ a ∈ l, a.r.length ≤ 4194304) : lim JpC 11 [.one (.lst (l.map Fa.cells)), .one (.lst (l.map Fa.cells))] σ = some (.one (.bool true), σ) := by
  refine lim_rd (args' := [.one (.lst (l.map Fa.cells)), .one (.lst (l.map Fa.cells))]) (ids := [] ++ ([] ++ [])) (by kernel_rfl) ((JpC_code _).trans codeJSame) (by kernel_rfl) (by simp only [frzDAs, fas_frz]) ?_ rfl
  unfold BodyP
  obtain ⟨Q, hQ⟩ : ∃ Q, l.map Fa.cells = Q := ⟨_, rfl⟩
  have hQl : Q.length = l.length := by rw [← hQ]; simp
  rw [hQ]
  simp (maxDischargeDepth := 99) [cJSame]
  refine endsi_to 0 (fun fr τ => fr.length = 55) ?_ ?_
  · refine endsi_range l.length (fun i fr τ => fr.length = 55 ∧ getSlot fr 0 = .one (.lst Q) ∧ getSlot fr 1 = .one (.lst Q) ∧ getSlot fr 5 = .one (.int .i64 i)) ?_ ?_ ?_
    · simp
    · rintro i fr τ hlt ⟨hlen, f0, f1, f5⟩
      have hw := wr_next hlt (by unfold maxElems; omega)
      have hltI : (i : Int) < (l.length : Int) := by omega
      obtain ⟨a, ha⟩ : ∃ a, l[i] = a := ⟨_, rfl⟩
      have ham : a ∈ l := by rw [← ha]; exact List.getElem_mem hlt
      have hcg : Q[i]? = some a.cells := by rw [← hQ, List.getElem?_map, List.getElem?_eq_getElem hlt, ha]; rfl
      have hcg2 : Q[i]'(by omega) = a.cells := (List.getElem?_eq_some_iff.1 hcg).2
      have hcl : a.cells.length = 3 := rfl
      have hrow := fun σ => eq_row σ a.r (hr a ham)
      obtain ⟨E, hE⟩ : ∃ E, a.r.map Vl.cells = E := ⟨_, rfl⟩
      rw [hE] at hrow
      have hca0 : a.cells[0]? = some (.int .i64 a.q) := rfl
      have hca1 : a.cells[1]? = some (.int .i64 a.t) := rfl
      have hca2 : a.cells[2]? = some (.lst E) := by rw [← hE]; rfl
      have hda0 : a.cells[0]'(by rw [hcl]; decide) = .int .i64 a.q := rfl
      have hda1 : a.cells[1]'(by rw [hcl]; decide) = .int .i64 a.t := rfl
      have hda2 : a.cells[2]'(by rw [hcl]; decide) = .lst E := (List.getElem?_eq_some_iff.1 hca2).2
      simp (maxDischargeDepth := 99) [-Int.natCast_add, cJSame_0, hlen, f0, f1, f5, hQl, hlt, hltI, hcg, hcg2, hcl, hca0, hca1, hca2, hda0, hda1, hda2, hrow, hw]
    · rintro fr τ ⟨hlen, f0, f1, f5⟩
      simp (maxDischargeDepth := 99) [cJSame_0, hlen, f0, f5, hQl]
  · rintro fr τ hlen
    simp (maxDischargeDepth := 99) [hlen]
theorem law_pairs (L R : List Fa) (hL : L.length ≤ 1048576) (hR : R.length ≤ 1048576) (hLr : ∀ a ∈ L, a.r.length ≤ 1048576) (hRr : ∀ a ∈ R, a.r.length ≤ 1048576) : ∃ σ', lim JpC 3 [.one (.lst (L.map Fa.cells)), .one (.lst (R.map Fa.cells))] emptyH = some (.one (.bool true), σ') := by
  have key : OptP (lim JpC 3 [.one (.lst (L.map Fa.cells)), .one (.lst (R.map Fa.cells))] emptyH) (fun _ v _ => v = .one (.bool true)) := by
    refine lim_code (by kernel_rfl) ((JpC_code _).trans codeJLaw) (by kernel_rfl) ?_
    unfold BodyP
    obtain ⟨t1, A, ha, ha1, ha2⟩ := fit_ex emptyH L hL
    obtain ⟨t2, B, hb, hb1, hb2⟩ := fit_ex emptyH R hR
    have hA : ∀ a ∈ A, a.r ≠ [] ∧ a.r.length ≤ 1048576 := fun a h => ⟨(ha2 a h).2, hLr a (ha2 a h).1⟩
    have hB : ∀ a ∈ B, a.r ≠ [] ∧ a.r.length ≤ 1048576 := fun a h => ⟨(hb2 a h).2, hRr a (hb2 a h).1⟩
    have hp := eq_pairs emptyH A B ha1 hb1 hA hB
    have hq := eq_rpairs emptyH A B ha1 hb1 hA hB
    have hn := pairs_len A B
    have hmul : A.length * B.length ≤ 40000 := Nat.le_trans (Nat.mul_le_mul ha1 hb1) (by decide)
    have hs := eq_sameA emptyH (pairsF A B) (by rw [hn]; exact hmul) (fun x hx => by
      unfold pairsF at hx
      rw [List.mem_flatMap] at hx
      obtain ⟨a, ha, hx⟩ := hx
      obtain ⟨b, hb, rfl⟩ := List.mem_map.1 hx
      have h1 := (hA a ha).2
      have h2 := (hB b hb).2
      show (a.r ++ b.r).length ≤ _
      rw [List.length_append]
      omega)
    have hwm : wr .i64 ((A.length : Int) * (B.length : Int)) = ((pairsF A B).length : Int) := by
      rw [hn]
      obtain ⟨M, hM⟩ : ∃ M, A.length * B.length = M := ⟨_, rfl⟩
      rw [hM] at hmul ⊢
      have : (A.length : Int) * (B.length : Int) = (M : Int) := by rw [← hM]; exact (Int.natCast_mul _ _).symm
      rw [this]
      exact wr64 (by omega) (by omega)
    have hal : (A.map Fa.cells).length = A.length := by simp
    have hbl : (B.map Fa.cells).length = B.length := by simp
    have hpl : ((pairsF A B).map Fa.cells).length = (pairsF A B).length := by simp
    generalize (pairsF A B).map Fa.cells = W at *
    generalize (pairsF A B).length = N at *
    generalize A.map Fa.cells = QA at *
    generalize B.map Fa.cells = QB at *
    simp (maxDischargeDepth := 99) [-Int.natCast_mul, cJLaw, ha, hb, hp, hq, hs, hal, hbl, hpl, hwm, JpC_awake]
  obtain ⟨v, σ', h1, rfl⟩ := key
  exact ⟨σ', h1⟩
end Go.Proofs.Ytcgpkmjimncbmaa.Ab
