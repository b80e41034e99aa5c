/- An operation looks at its own slots alone. -/
import Derived.Test.YthjijjkoeoemgaaAbSound
namespace Go.Proofs.Ythjijjkoeoemgaa.Ab
open Go
set_option linter.unusedSimpArgs false
set_option linter.unusedVariables false

/-- Two frames that agree at some slots. -/
def Agree (L : List Nat) (f1 f2 : List AV) : Prop := ∀ t ∈ L, getSlot f1 t = getSlot f2 t

theorem Agree.left {L M : List Nat} {f1 f2 : List AV} (h : Agree (L ++ M) f1 f2) : Agree L f1 f2 := fun t ht => h t (List.mem_append_left _ ht)
theorem Agree.right {L M : List Nat} {f1 f2 : List AV} (h : Agree (L ++ M) f1 f2) : Agree M f1 f2 := fun t ht => h t (List.mem_append_right _ ht)

theorem ev_agree {x : AOpd} {f1 f2 : List AV} (h : Agree x.slots f1 f2) : ev f1 x = ev f2 x := by
  cases x with
  | tmp t => exact h t (by simp [AOpd.slots])
  | const v => rfl

theorem evs_agree : ∀ {l : List AOpd} {f1 f2 : List AV}, Agree (listSlots l) f1 f2 → evs f1 l = evs f2 l
  | [], _, _, _ => rfl
  | x :: l, f1, f2, h => by
    simp only [evs]
    rw [ev_agree h.left, evs_agree h.right]

theorem evFns_agree : ∀ {l : List AOpd} {f1 f2 : List AV}, Agree (listSlots l) f1 f2 → evFns f1 l = evFns f2 l
  | [], _, _, _ => rfl
  | x :: l, f1, f2, h => by
    simp only [evFns]
    rw [ev_agree h.left, evFns_agree h.right]

theorem fillA_agree : ∀ {l : List (Nat × Nat × AOpd)} {f1 f2 : List AV} {cs : List SV}, Agree (partSlots l) f1 f2 → fillA f1 cs l = fillA f2 cs l
  | [], _, _, _, _ => rfl
  | (o, n, x) :: l, f1, f2, cs, h => by
    simp only [fillA]
    rw [ev_agree h.left]
    cases ev f2 x <;> simp only [fillA_agree h.right]

theorem optNat_agree {x : Option AOpd} {f1 f2 : List AV} {d : Nat} (h : Agree (optSlots x) f1 f2) : optNat f1 x d = optNat f2 x d := by
  cases x with
  | none => rfl
  | some x => simp only [optNat]; rw [ev_agree h]

theorem evOp_agree {op : AOp} {f1 f2 : List AV} {σ : AHeap} (h : Agree op.slots f1 f2) : evOp f1 σ op = evOp f2 σ op := by
  cases op with
  | mov x => simp only [evOp]; rw [ev_agree h]
  | pick c a b => simp only [evOp]; rw [ev_agree h.left.left, ev_agree h.left.right, ev_agree h.right]
  | new cells => rfl
  | box x => simp only [evOp]; rw [ev_agree h]
  | load agg x => simp only [evOp]; rw [ev_agree h]
  | store n a x => simp only [evOp]; rw [ev_agree h.left, ev_agree h.right]
  | nilck x => simp only [evOp]; rw [ev_agree h]
  | bin op x y => simp only [evOp]; rw [ev_agree h.left, ev_agree h.right]
  | eqv neg k x y => simp only [evOp]; rw [ev_agree h.left, ev_agree h.right]
  | eqvS neg n offs x y => simp only [evOp]; rw [ev_agree h.left, ev_agree h.right]
  | un op x => simp only [evOp]; rw [ev_agree h]
  | conv k x => simp only [evOp]; rw [ev_agree h]
  | build zero parts => simp only [evOp]; rw [fillA_agree h]
  | bslice esz len zero parts => simp only [evOp]; rw [fillA_agree h]
  | mkfn f caps => simp only [evOp]; rw [evFns_agree h]
  | mkslice esz bytes zero l c => simp only [evOp]; rw [ev_agree h.left, ev_agree h.right]
  | slice esz x lo hi mx =>
    simp only [evOp]
    have h1 := ev_agree h.left.left.left
    have h2 : ∀ d, optNat f1 lo d = optNat f2 lo d := fun d => optNat_agree h.left.left.right
    have h3 : ∀ d, optNat f1 hi d = optNat f2 hi d := fun d => optNat_agree h.left.right
    have h4 : ∀ d, optNat f1 mx d = optNat f2 mx d := fun d => optNat_agree h.right
    have h5 : ∀ m, mx = some m → ev f1 m = ev f2 m := by rintro m rfl; exact ev_agree h.right
    rw [h1]
    simp only [h2, h3, h4]
    cases mx with
    | none => rfl
    | some m => simp only [h5 m rfl]
  | slstr x lo hi =>
    simp only [evOp]
    have h2 : ∀ d, optNat f1 lo d = optNat f2 lo d := fun d => optNat_agree h.left.right
    have h3 : ∀ d, optNat f1 hi d = optNat f2 hi d := fun d => optNat_agree h.right
    rw [ev_agree h.left.left]
    simp only [h2, h3]
  | slarr n esz x lo hi =>
    simp only [evOp]
    have h2 : ∀ d, optNat f1 lo d = optNat f2 lo d := fun d => optNat_agree h.left.right
    have h3 : ∀ d, optNat f1 hi d = optNat f2 hi d := fun d => optNat_agree h.right
    rw [ev_agree h.left.left]
    simp only [h2, h3]
  | faddr off x => simp only [evOp]; rw [ev_agree h]
  | field off agg x => simp only [evOp]; rw [ev_agree h]
  | iaddr esz x i => simp only [evOp]; rw [ev_agree h.left, ev_agree h.right]
  | iaddrA n esz x i => simp only [evOp]; rw [ev_agree h.left, ev_agree h.right]
  | idxS x i => simp only [evOp]; rw [ev_agree h.left, ev_agree h.right]
  | idxA n esz agg x i => simp only [evOp]; rw [ev_agree h.left, ev_agree h.right]
  | extract x i => simp only [evOp]; rw [ev_agree h]
  | len x => simp only [evOp]; rw [ev_agree h]
  | lenS x => simp only [evOp]; rw [ev_agree h]
  | cap x => simp only [evOp]; rw [ev_agree h]
  | append esz bytes zero x y => simp only [evOp]; rw [ev_agree h.left, ev_agree h.right]
  | appendZ esz bytes zero x n => simp only [evOp]; rw [ev_agree h.left, ev_agree h.right]
  | copy esz x y => simp only [evOp]; rw [ev_agree h.left, ev_agree h.right]
  | minmax isMax x rest => simp only [evOp]; rw [ev_agree h.left, evs_agree h.right]
  | clear esz zero x => simp only [evOp]; rw [ev_agree h]
  | call f args => rfl

theorem evStep_agree {call : CallF} {op : AOp} {f1 f2 : List AV} {σ : AHeap} (h : Agree op.slots f1 f2) : evStep call f1 σ op = evStep call f2 σ op := by
  cases op
  case call f args =>
    simp only [evStep]
    rw [ev_agree h.left, evs_agree h.right]
  all_goals exact evOp_agree h

/-! ### a frame of which some slots alone are left -/
def maskF (L : List Nat) : Nat → List AV → List AV
  | _, [] => []
  | i, v :: l => (if L.contains i then v else undefA) :: maskF L (i + 1) l

theorem maskF_length (L : List Nat) : ∀ (i : Nat) (fr : List AV), (maskF L i fr).length = fr.length
  | _, [] => rfl
  | i, v :: l => by simp [maskF, maskF_length L (i + 1) l]

theorem maskF_get (L : List Nat) : ∀ (i : Nat) (fr : List AV) (t : Nat), getSlot (maskF L i fr) t = if L.contains (i + t) then getSlot fr t else undefA
  | _, [], t => by simp [maskF, getSlot]
  | i, v :: l, 0 => by simp [maskF, getSlot]
  | i, v :: l, t + 1 => by
    simp only [maskF, getSlot]
    rw [maskF_get L (i + 1) l t, show i + 1 + t = i + (t + 1) by omega]

def maskV (L : List Nat) (tmps : Array Value) : Array Value := tmps.mapIdx fun i v => if L.contains i then v else undef

theorem maskV_get (L : List Nat) (tmps : Array Value) (t : Nat) : (maskV L tmps).getD t undef = if L.contains t then tmps.getD t undef else undef := by
  unfold maskV
  simp only [Array.getD_eq_getD_getElem?, Array.getElem?_mapIdx]
  cases tmps[t]? <;> simp

theorem FR.mask {ρ : Loc} {L : List Nat} {fr : List AV} {tmps : Array Value} (hl : fr.length = tmps.size) (h : ∀ t ∈ L, VR ρ (getSlot fr t) (tmps.getD t undef)) :
    FR ρ (maskF L 0 fr) (maskV L tmps) := by
  refine ⟨by simp [maskF_length, maskV, hl], fun t => ?_⟩
  rw [maskF_get, maskV_get, Nat.zero_add]
  by_cases hc : L.contains t = true
  · rw [if_pos hc, if_pos hc]
    exact h t (by simpa using hc)
  · rw [if_neg hc, if_neg hc]
    exact VR.undef

theorem mask_agree (L M : List Nat) (hM : ∀ t ∈ M, t ∈ L) (fr : List AV) : Agree M (maskF L 0 fr) fr := by
  intro t ht
  rw [maskF_get, Nat.zero_add, if_pos (by simpa using hM t ht)]

/-- The model's operation over such a frame. -/
theorem execOp_mask {P : Program} {ops : Array Oper} {o : Oper} {aop : AOp} {L : List Nat} {a : Act} (hc : compOp P o.op = some aop) (hL : ∀ t ∈ o.looksAt ops, t ∈ L) :
    execOp ({ a with tmps := maskV L a.tmps } : Act).eval o = execOp a.eval o := by
  refine execOp_congr o (fun cs b e => by rw [e] at hc; simp [compOp] at hc) (fun x hx => ?_)
  cases x with
  | tmp t =>
    have ht : t ∈ L := hL t (List.mem_append_left _ (List.mem_filterMap.2 ⟨.tmp t, by simpa using hx, rfl⟩))
    show (maskV L a.tmps).getD t undef = a.tmps.getD t undef
    rw [maskV_get, if_pos (by simpa using ht)]
  | _ => rfl

end Go.Proofs.Ythjijjkoeoemgaa.Ab
