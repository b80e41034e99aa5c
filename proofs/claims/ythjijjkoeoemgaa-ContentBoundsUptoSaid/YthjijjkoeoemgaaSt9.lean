/- Content's sorted view: the clone, the comparison, the stable sort. -/
import Derived.Test.YthjijjkoeoemgaaCt21
import Derived.Test.YthjijjkoeoemgaaStA
import Derived.Test.YthjijjkoeoemgaaLitB
namespace Go.Proofs.Ythjijjkoeoemgaa.Ab
open Go
set_option maxRecDepth 20000
set_option maxHeartbeats 4000000
set_option linter.unusedSimpArgs false
set_option linter.unusedVariables false

theorem run64 (σ : AHeap) (q : Nat) (l : List Arr) (hq : σ.get q = some ⟨acells l, .own⟩) (h0 : 0 < l.length) (hm : l.length ≤ maxElems) (f : Nat) (hf : 5 ≤ f) :
    OptP (evCall D9 f 56 [.one (.slice q 0 3 l.length none)] σ) (fun _ v τ => v = .one (.slice (σ.size + 1) 0 3 l.length none) ∧ τ.get (σ.size + 1) = some ⟨acells l, .own⟩ ∧ Keeps σ τ) := by
  obtain ⟨f, rfl⟩ : ∃ k, f = k + 1 := ⟨f - 1, by omega⟩
  refine evCall_code (D9_prim 56) ((D9_code 56).trans code64) ?_
  have hlc := acells_length l
  have hid := AHeap.get_lt hq
  have hne : ¬ q = σ.size := by omega
  have htk : (acells l).take (l.length * 3) = acells l := List.take_of_length_le (by omega)
  obtain ⟨n, hn⟩ : ∃ n, l.length = n + 1 := ⟨l.length - 1, by omega⟩
  have hs : srcCells (σ.alloc ⟨[], .own⟩) 3 l.length (.one (.slice q 0 3 l.length none)) = some (acells l) := by
    simp [srcCells, hq, hne, hlc, htk]
  have hap : appendA (σ.alloc ⟨[], .own⟩) 3 40 (.one (.slice σ.size 0 3 0 (some 0))) l.length (acells l) = some (.one (.slice (σ.size + 1) 0 3 l.length none), (σ.alloc ⟨[], .own⟩).alloc ⟨acells l, .own⟩) := by
    have hmx : n + 1 ≤ maxElems := by omega
    have hby : 40 ≤ maxBytes := by decide
    rw [hn]
    simp [appendA, appendK, hmx, hby]
  simp (maxDischargeDepth := 99) [c64, srcLen, hs, hap]
/-- Within the numbers of 64 bits. -/
def VIn (l : List V) : Prop := ∀ v ∈ l, -9223372036854775808 ≤ v.n ∧ v.n ≤ 9223372036854775807
theorem atV_in {l : List V} (h : VIn l) (c : Int) : -9223372036854775808 ≤ (atV l c).n ∧ (atV l c).n ≤ 9223372036854775807 := by
  unfold atV List.getD
  cases hg : l[c.toNat]? with
  | none => simp [V0]
  | some v => exact h v (List.mem_of_getElem? hg)
/-- The order of a sorted view. -/
def cfV (v : VS) (a b : Arr) : Int := if v.d = true then lexV (atV b.vals (v.cols.headD 0)) (atV a.vals (v.cols.headD 0)) else lexV (atV a.vals (v.cols.headD 0)) (atV b.vals (v.cols.headD 0))
theorem cfV_ord (v : VS) : COrd (cfV v) where
  anti := fun x y => by
    unfold cfV
    split
    · exact lexV_anti _ _
    · exact lexV_anti _ _
  trans := fun x y z h k => by
    unfold cfV at *
    split
    · rename_i hd
      rw [if_pos hd] at h k
      exact lexV_trans _ _ _ k h
    · rename_i hd
      rw [if_neg hd] at h k
      exact lexV_trans _ _ _ h k
/-- A row that can be read, beside the object id. -/
def rowOk (σ : AHeap) (id : Nat) (a : Arr) : Prop := slVals σ (.one a.row) = some a.vals ∧ VIn a.vals ∧ ∀ q o n c, a.row = .slice q o 3 n c → q ≠ id ∧ q < σ.size
theorem slVals_but {σ τ : AHeap} {id : Nat} (hk : KeepsBut id σ τ) {a : Arr} (h : rowOk σ id a) : slVals τ (.one a.row) = some a.vals := by
  obtain ⟨h1, _, h3⟩ := h
  rcases slVals_spec h1 with ⟨e, hl⟩ | ⟨q, off, cap, e, _, _⟩
  · have e : a.row = .nilSlice := by injection e
    rw [e, hl]; rfl
  · have e : a.row = .slice q off 3 a.vals.length cap := by injection e
    obtain ⟨n1, n2⟩ := h3 q off a.vals.length cap e
    rw [e] at h1 ⊢
    exact slVals_get h1 (hk.2 q n2 n1)
theorem run66 (σ : AHeap) (id p r : Nat) (v : VS) (now c : Int) (hc0 : 0 ≤ c) (hcc : v.cols.headD 0 = c) (hp : σ.get p = some ⟨v.at' now, .own⟩) (hr : σ.get r = some ⟨[.int .i64 c], .own⟩) (hpi : p ≠ id) (hri : r ≠ id) :
    CmpOk σ id 58 [.ptr p 0, .ptr r 0] 40 (rowOk σ id) (cfV v) := by
  intro τ hk f hf a b ha hb
  obtain ⟨f, rfl⟩ : ∃ k, f = k + 1 := ⟨f - 1, by omega⟩
  refine evCall_code (D9_prim 58) ((D9_code 58).trans code66) ?_
  have sa := slVals_but hk ha
  have sb := slVals_but hk hb
  have ia := atV_in ha.2.1 c
  have ib := atV_in hb.2.1 c
  rw [← hk.2 p (AHeap.get_lt hp) hpi] at hp
  rw [← hk.2 r (AHeap.get_lt hr) hri] at hr
  have lp := AHeap.get_lt hp
  have lr := AHeap.get_lt hr
  obtain ⟨f, rfl⟩ : ∃ k, f = k + 1 := ⟨f - 1, by omega⟩
  unfold VS.at' at hp
  have main : ∀ (x y : Arr) (τ1 : AHeap) (fr : List AV), slVals τ (.one x.row) = some x.vals → slVals τ (.one y.row) = some y.vals → (-9223372036854775808 ≤ (atV x.vals c).n ∧ (atV x.vals c).n ≤ 9223372036854775807) → (-9223372036854775808 ≤ (atV y.vals c).n ∧ (atV y.vals c).n ≤ 9223372036854775807) →
      Keeps τ τ1 → τ1.get τ.size = some ⟨[.int .i64 x.seq, .int .i64 x.time, x.row], .own⟩ → τ1.get (τ.size + 1) = some ⟨[.int .i64 y.seq, .int .i64 y.time, y.row], .own⟩ → fr.length = 19 → getSlot fr 3 = .one (.ptr r 0) → getSlot fr 4 = .one (.ptr τ.size 0) → getSlot fr 5 = .one (.ptr (τ.size + 1) 0) → lexV (atV x.vals c) (atV y.vals c) = cfV v a b →
      EndsC .go (evCall D9 (f + 1)) (f + 1) (.draw [⟨some 12, .load (some 3) (.tmp 4), none⟩, ⟨some 13, .load none (.tmp 3), none⟩, ⟨some 14, .call (.const (.one (.func 60 []))) [.tmp 12, .tmp 13], none⟩, ⟨some 15, .load (some 3) (.tmp 5), none⟩, ⟨some 16, .load none (.tmp 3), none⟩, ⟨some 17, .call (.const (.one (.func 60 []))) [.tmp 15, .tmp 16], none⟩, ⟨some 18, .call (.const (.one (.func 59 []))) [.tmp 14, .tmp 17], none⟩, ⟨some 6, .mov (.tmp 18), none⟩] [(2, 3), (2, 4)]) fr τ1
        (fun _ fr τ' => getSlot fr 6 = .one (.int .i64 (cfV v a b)) ∧ Keeps τ τ') (fun _ _ _ _ => False) (fun _ fr τ' => getSlot fr 6 = .one (.int .i64 (cfV v a b)) ∧ Keeps τ τ') := by
    intro x y τ1 fr hx hy ix iy k1 g1 g2 hl f3 f4 f5 hcf
    have g3 := hr
    rw [← k1.2 r lr] at g3
    have h1 := run_at τ1 x c (slVals_keeps k1 hx) hc0 (f + 1) (by omega)
    have hord := orderV_lex (atV x.vals c) (atV y.vals c) ix iy
    rw [hcf] at hord
    refine ends_draw ?_
    simp (maxDischargeDepth := 99) [hl, f3, f4, f5, g1, g3, -SV.same]
    refine h1.mono ?_
    rintro w τ2 ⟨rfl, k2⟩
    have g4 : τ2.get (τ.size + 1) = some ⟨[.int .i64 y.seq, .int .i64 y.time, y.row], .own⟩ := by rw [k2.2 _ (AHeap.get_lt g2), g2]
    have g5 : τ2.get r = some ⟨[.int .i64 c], .own⟩ := by rw [k2.2 _ (AHeap.get_lt g3), g3]
    have h2 := run_at τ2 y c (slVals_keeps (k1.trans k2) hy) hc0 (f + 1) (by omega)
    simp (maxDischargeDepth := 99) [hl, f3, f4, f5, g1, g3, g4, g5, -SV.same]
    refine h2.mono ?_
    rintro w τ3 ⟨rfl, k3⟩
    have hrs := slVals_same hy
    simp (maxDischargeDepth := 99) [hl, f3, f4, f5, g1, g2, g3, g4, g5, D9_Order, pv56, V.av, hord, hrs, k1.trans (k2.trans k3), -SV.same]
    all_goals simp [SV.same]
  obtain ⟨τ0, hτ0⟩ : ∃ τ0, τ0 = (τ.alloc ⟨[.int .i64 a.seq, .int .i64 a.time, a.row], .own⟩).alloc ⟨[.int .i64 b.seq, .int .i64 b.time, b.row], .own⟩ := ⟨_, rfl⟩
  have k0 : Keeps τ τ0 := by rw [hτ0]; exact ((Keeps.refl _).alloc).alloc
  have g1 : τ0.get τ.size = some ⟨[.int .i64 a.seq, .int .i64 a.time, a.row], .own⟩ := by rw [hτ0]; simp
  have g2 : τ0.get (τ.size + 1) = some ⟨[.int .i64 b.seq, .int .i64 b.time, b.row], .own⟩ := by rw [hτ0]; simp
  have gp := hp
  rw [← k0.2 p lp] at gp
  by_cases hd : v.d = true
  · rw [hd] at gp
    obtain ⟨τ1, hτ1⟩ : ∃ τ1, τ1 = τ0.put τ.size ⟨[.int .i64 b.seq, .int .i64 b.time, b.row], .own⟩ := ⟨_, rfl⟩
    have w1 : writeAt τ0 τ.size 0 [.int .i64 b.seq, .int .i64 b.time, b.row] = some τ1 := by rw [hτ1]; simp [writeAt, splice, g1]
    have hz1 := AHeap.get_lt g1
    have hz2 := AHeap.get_lt g2
    have h2' : τ1.get (τ.size + 1) = some ⟨[.int .i64 b.seq, .int .i64 b.time, b.row], .own⟩ := by rw [hτ1, AHeap.get_put', if_neg (by omega), g2]
    obtain ⟨τ2, hτ2⟩ : ∃ τ2, τ2 = τ1.put (τ.size + 1) ⟨[.int .i64 a.seq, .int .i64 a.time, a.row], .own⟩ := ⟨_, rfl⟩
    have w2 : writeAt τ1 (τ.size + 1) 0 [.int .i64 a.seq, .int .i64 a.time, a.row] = some τ2 := by rw [hτ2]; simp [writeAt, splice, h2']
    have k2 : Keeps τ τ2 := by rw [hτ2, hτ1]; exact (k0.put (Nat.le_refl _)).put (Nat.le_succ _)
    have e1 : τ2.get τ.size = some ⟨[.int .i64 b.seq, .int .i64 b.time, b.row], .own⟩ := by rw [hτ2, AHeap.get_put', if_neg (by omega), hτ1, AHeap.get_put', if_pos ⟨rfl, hz1⟩]
    have e2 : τ2.get (τ.size + 1) = some ⟨[.int .i64 a.seq, .int .i64 a.time, a.row], .own⟩ := by rw [hτ2, AHeap.get_put', if_pos ⟨rfl, by rw [hτ1, AHeap.size_put]; exact hz2⟩]
    have hM := fun fr => main b a τ2 fr sb sa ib ia k2 e1 e2
    have hcf : lexV (atV b.vals c) (atV a.vals c) = cfV v a b := by unfold cfV; rw [if_pos hd, hcc]
    simp (maxDischargeDepth := 99) [c66, ← hτ0, gp, g1, g2, w1, w2, -writeAt]
    refine Ends.mono (hM _ (by simp) (by simp) (by simp) (by simp) hcf) ?_ ?_ ?_
    · intro t fr τ' h
      change EndsC .go (evCall D9 (f + 1)) (f + 1) ACode.ret fr τ' _ _ _
      rw [ends_ret]
      exact h
    · intro i t fr τ' h; exact h
    · intro t fr τ' h; exact h
  · have hd' : v.d = false := by simpa using hd
    rw [hd'] at gp
    have hM := fun fr => main a b τ0 fr sa sb ia ib k0 g1 g2
    have hcf : lexV (atV a.vals c) (atV b.vals c) = cfV v a b := by unfold cfV; rw [if_neg hd, hcc]
    simp (maxDischargeDepth := 99) [c66, ← hτ0, gp, g1, g2]
    refine Ends.mono (hM _ (by simp) (by simp) (by simp) (by simp) hcf) ?_ ?_ ?_
    · intro t fr τ' h
      change EndsC .go (evCall D9 (f + 1)) (f + 1) ACode.ret fr τ' _ _ _
      rw [ends_ret]
      exact h
    · intro i t fr τ' h; exact h
    · intro t fr τ' h; exact h
theorem run65 (cf : Arr → Arr → Int) (hc : COrd cf) (σ : AHeap) (id fn : Nat) (caps : List SV) (K : Nat) (ok : Arr → Prop) (hcmp : CmpOk σ id fn caps K ok cf) (L : List Arr) (hok : AllOk ok L) (hm : L.length ≤ 1048576) (hinc : SeqInc L 0 L.length) (hg : σ.get id = some ⟨acells L, .own⟩)
    (f : Nat) (hf : K + L.length + L.length + 310 ≤ f) :
    OptP (evCall D9 f 57 [.one (.slice id 0 3 L.length none), .one (.func fn caps)] σ) (fun _ _ τ => ∃ M, Kin σ id L M τ ∧ SrtC cf M 0 L.length) := by
  obtain ⟨f, rfl⟩ : ∃ k, f = k + 1 := ⟨f - 1, by omega⟩
  refine evCall_code (D9_prim 57) ((D9_code 57).trans codest65) ?_
  simp (maxDischargeDepth := 99) [cst65]
  refine (stable_run cf hc σ id fn caps K ok hcmp L hok hm hinc hg f (by omega)).mono ?_
  rintro v τ ⟨M, h1, h2⟩
  simp (maxDischargeDepth := 99)
  exact ⟨M, h1, h2⟩
end Go.Proofs.Ythjijjkoeoemgaa.Ab
