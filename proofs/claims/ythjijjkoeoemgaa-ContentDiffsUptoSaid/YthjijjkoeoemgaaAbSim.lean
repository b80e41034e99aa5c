/- Reasoning about a run of the abstract machine: what must hold ahead of code so that it ends, and so. -/
import Derived.Test.YthjijjkoeoemgaaAbPrim
namespace Go.Proofs.Ythjijjkoeoemgaa.Ab
open Go
set_option linter.unusedSimpArgs false
set_option linter.unusedVariables false

/-- A mark: only what bears 'go' is run by the rewriting; what waits for its turn bears a variable. -/
inductive Tok where
  | go | idle

abbrev KN := Tok → List AV → AHeap → Prop
abbrev KE := Nat → Tok → List AV → AHeap → Prop

/-- Code ends: on its way (N), by an exit (E), by a return (R). -/
def Ends (o : Out) (N : KN) (E : KE) (R : KN) : Prop :=
  ∃ x fr σ, o = some (x, fr, σ) ∧ match x with
    | .normal => N .go fr σ
    | .exit i => E i .go fr σ
    | .ret => R .go fr σ

/-- The same of code that is about to run (its parts are looked at one by one, as they come). -/
def EndsC (_ : Tok) (call : CallF) (m : Nat) (c : ACode) (fr : List AV) (σ : AHeap) (N : KN) (E : KE) (R : KN) : Prop :=
  Ends (evCode call m c fr σ) N E R

def guardP (b : Bool) (A B : Tok → Prop) : Prop := (b = true → A .go) ∧ (b = false → B .go)

def OptP (o : Option (AV × AHeap)) (K : Tok → AV → AHeap → Prop) : Prop := ∃ v σ, o = some (v, σ) ∧ K .go v σ

def POps (_ : Tok) (call : CallF) (l : List AOper) (fr : List AV) (σ : AHeap) (N : KN) : Prop :=
  ∃ fr' σ', evOps call l fr σ = some (fr', σ') ∧ N .go fr' σ'

def PStep (_ : Tok) (call : CallF) (op : AOp) (fr : List AV) (σ : AHeap) (K : Tok → AV → AHeap → Prop) : Prop := OptP (evStep call fr σ op) K

theorem pstep_go {call : CallF} {op : AOp} {fr : List AV} {σ : AHeap} {K : Tok → AV → AHeap → Prop} : PStep .go call op fr σ K = OptP (evStep call fr σ op) K := rfl

def condP (v : AV) (A B : Tok → Prop) : Prop := match v with
  | .one (.bool b) => (b = true → A .go) ∧ (b = false → B .go)
  | _ => False

theorem optP_some (v : AV) (σ : AHeap) (K : Tok → AV → AHeap → Prop) : OptP (some (v, σ)) K = K .go v σ := by
  apply propext
  exact ⟨fun ⟨_, _, h, k⟩ => by cases h; exact k, fun k => ⟨v, σ, rfl, k⟩⟩

theorem OptP.mono {o : Option (AV × AHeap)} {K K' : Tok → AV → AHeap → Prop} (h : OptP o K) (hk : ∀ v σ, K .go v σ → K' .go v σ) : OptP o K' := by
  obtain ⟨v, σ, e, k⟩ := h
  exact ⟨v, σ, e, hk v σ k⟩

theorem condP_true (A B : Tok → Prop) : condP (.one (.bool true)) A B = A .go := by simp [condP]
theorem condP_false (A B : Tok → Prop) : condP (.one (.bool false)) A B = B .go := by simp [condP]
theorem guardP_true (A B : Tok → Prop) : guardP true A B = A .go := by simp [guardP]
theorem guardP_false (A B : Tok → Prop) : guardP false A B = B .go := by simp [guardP]
theorem condP_intro {b : Bool} {A B : Tok → Prop} (h1 : b = true → A .go) (h2 : b = false → B .go) : condP (.one (.bool b)) A B := ⟨h1, h2⟩
theorem guardP_intro {b : Bool} {A B : Tok → Prop} (h1 : b = true → A .go) (h2 : b = false → B .go) : guardP b A B := ⟨h1, h2⟩

section
variable {call : CallF} {m : Nat} {N : KN} {E : KE} {R : KN} {fr : List AV} {σ : AHeap}

theorem ends_skip : EndsC .go call m .skip fr σ N E R = N .go fr σ  := by
  unfold EndsC
  apply propext; constructor
  · rintro ⟨x, a, b, h, k⟩
    simp only [evCode, Option.some.injEq, Prod.mk.injEq] at h
    obtain ⟨rfl, rfl, rfl⟩ := h
    exact k
  · intro k; exact ⟨.normal, fr, σ, by simp only [evCode], k⟩

theorem ends_ret : EndsC .go call m .ret fr σ N E R = R .go fr σ  := by
  unfold EndsC
  apply propext; constructor
  · rintro ⟨x, a, b, h, k⟩
    simp only [evCode, Option.some.injEq, Prod.mk.injEq] at h
    obtain ⟨rfl, rfl, rfl⟩ := h
    exact k
  · intro k; exact ⟨.ret, fr, σ, by simp only [evCode], k⟩

theorem ends_exit {i : Nat} : EndsC .go call m (.exit i) fr σ N E R = E i .go fr σ  := by
  unfold EndsC
  apply propext; constructor
  · rintro ⟨x, a, b, h, k⟩
    simp only [evCode, Option.some.injEq, Prod.mk.injEq] at h
    obtain ⟨rfl, rfl, rfl⟩ := h
    exact k
  · intro k; exact ⟨.exit i, fr, σ, by simp only [evCode], k⟩

theorem ends_seq {a b : ACode} : EndsC .go call m (.seq a b) fr σ N E R = EndsC .go call m a fr σ (fun t fr σ => EndsC t call m b fr σ N E R) E R  := by
  unfold EndsC
  apply propext; constructor
  · rintro ⟨x, u, v, h, k⟩
    simp only [evCode] at h
    split at h
    · rename_i fr' σ' ha
      exact ⟨.normal, _, _, ha, x, u, v, h, k⟩
    · rename_i r hr
      refine ⟨x, u, v, h, ?_⟩
      cases x with
      | normal => exact absurd h (hr _ _)
      | exit i => exact k
      | ret => exact k
  · rintro ⟨x, u, v, h, k⟩
    cases x with
    | normal =>
      obtain ⟨y, u', v', h', k'⟩ := k
      exact ⟨y, u', v', by simp only [evCode, h]; exact h', k'⟩
    | exit i => exact ⟨.exit i, u, v, by simp only [evCode, h], k⟩
    | ret => exact ⟨.ret, u, v, by simp only [evCode, h], k⟩

theorem ends_cond {c : AOpd} {a b : ACode} : EndsC .go call m (.cond c a b) fr σ N E R = condP (ev fr c) (fun t => EndsC t call m a fr σ N E R) (fun t => EndsC t call m b fr σ N E R)  := by
  unfold EndsC
  apply propext
  simp only [evCode]
  constructor
  · intro h
    split at h
    · rename_i e; rw [e, condP_true]; exact h
    · rename_i e; rw [e, condP_false]; exact h
    · obtain ⟨_, _, _, h, _⟩ := h; cases h
  · intro h
    unfold condP at h
    split at h
    · rename_i b' e
      cases b' with
      | true => rw [e]; exact h.1 rfl
      | false => rw [e]; exact h.2 rfl
    · exact h.elim

theorem ends_block {i : Nat} {a : ACode} : EndsC .go call m (.block i a) fr σ N E R = EndsC .go call m a fr σ N (fun j t fr σ => if j = i then N t fr σ else E j t fr σ) R  := by
  unfold EndsC
  apply propext
  simp only [evCode]
  constructor
  · rintro ⟨x, u, v, h, k⟩
    split at h
    · rename_i j fr' σ' ha
      by_cases e : j = i
      · subst e
        simp only [Nat.beq_refl, Option.some.injEq, Prod.mk.injEq] at h
        obtain ⟨rfl, rfl, rfl⟩ := h
        exact ⟨.exit j, _, _, ha, by simpa using k⟩
      · have : Nat.beq j i = false := by
          cases hb : Nat.beq j i with
          | false => rfl
          | true => exact absurd (Nat.eq_of_beq_eq_true hb) e
        simp only [this, Option.some.injEq, Prod.mk.injEq] at h
        obtain ⟨rfl, rfl, rfl⟩ := h
        exact ⟨.exit j, _, _, ha, by simp only [if_neg e]; exact k⟩
    · rename_i r hr
      refine ⟨x, u, v, h, ?_⟩
      cases x with
      | normal => exact k
      | exit j => exact absurd h (hr _ _ _)
      | ret => exact k
  · rintro ⟨x, u, v, h, k⟩
    cases x with
    | normal => exact ⟨.normal, u, v, by rw [h], k⟩
    | ret => exact ⟨.ret, u, v, by rw [h], k⟩
    | exit j =>
      by_cases e : j = i
      · subst e
        exact ⟨.normal, u, v, by rw [h]; simp, by simpa using k⟩
      · have : Nat.beq j i = false := by
          cases hb : Nat.beq j i with
          | false => rfl
          | true => exact absurd (Nat.eq_of_beq_eq_true hb) e
        simp only [if_neg e] at k
        exact ⟨.exit j, u, v, by rw [h]; simp only [this], k⟩

theorem ends_region {l : List AOper} : EndsC .go call m (.region l) fr σ N E R = POps .go call l fr σ N  := by
  unfold EndsC
  apply propext
  simp only [evCode]
  constructor
  · rintro ⟨x, u, v, h, k⟩
    split at h
    · rename_i fr' σ' ho
      simp only [Option.some.injEq, Prod.mk.injEq] at h
      obtain ⟨rfl, rfl, rfl⟩ := h
      exact ⟨_, _, ho, k⟩
    · cases h
  · rintro ⟨u, v, h, k⟩
    exact ⟨.normal, u, v, by rw [h], k⟩

theorem Ends.mono {o : Out} {N' : KN} {E' : KE} {R' : KN} (h : Ends o N E R)
    (hn : ∀ t fr σ, N t fr σ → N' t fr σ) (he : ∀ i t fr σ, E i t fr σ → E' i t fr σ) (hr : ∀ t fr σ, R t fr σ → R' t fr σ) : Ends o N' E' R' := by
  obtain ⟨x, u, v, h, k⟩ := h
  refine ⟨x, u, v, h, ?_⟩
  cases x with
  | normal => exact hn _ _ _ k
  | exit i => exact he _ _ _ _ k
  | ret => exact hr _ _ _ k

/-- A loop by what holds ahead of each round, with a number that goes down. -/
theorem ends_loop {a : ACode} {I : Nat → List AV → AHeap → Prop}
    (step : ∀ k fr σ, I k fr σ → EndsC .go call m a fr σ (fun _ fr σ => ∃ j, j < k ∧ I j fr σ) E R) {k : Nat} (h0 : I k fr σ) (hk : k < m) :
    EndsC .go call m (.loop a) fr σ N E R := by
  unfold EndsC at *
  have go : ∀ (f k : Nat) (fr : List AV) (σ : AHeap), k < f → I k fr σ → Ends (evLoop (evCode call m a) f fr σ) N E R := by
    intro f
    induction f with
    | zero => intro k fr σ h; omega
    | succ f ih =>
      intro k fr σ hkf hi
      obtain ⟨x, u, v, h, q⟩ := step k fr σ hi
      cases x with
      | normal =>
        obtain ⟨j, hj, hi'⟩ := q
        obtain ⟨y, u', v', h', q'⟩ := ih j u v (by omega) hi'
        exact ⟨y, u', v', by simp only [evLoop, h]; exact h', q'⟩
      | exit i => exact ⟨.exit i, u, v, by simp only [evLoop, h], q⟩
      | ret => exact ⟨.ret, u, v, by simp only [evLoop, h], q⟩
  obtain ⟨y, u', v', h', q'⟩ := go m k fr σ hk h0
  exact ⟨y, u', v', by simp only [evCode]; exact h', q'⟩

theorem pops_nil : POps .go call [] fr σ N = N .go fr σ := by
  apply propext; constructor
  · rintro ⟨u, v, h, k⟩
    simp only [evOps, Option.some.injEq, Prod.mk.injEq] at h
    obtain ⟨rfl, rfl⟩ := h
    exact k
  · intro k; exact ⟨fr, σ, rfl, k⟩

theorem pops_cons {d : Option Nat} {op : AOp} {l : List AOper} :
    POps .go call (⟨d, op, none⟩ :: l) fr σ N = OptP (evStep call fr σ op) (fun t v σ' => POps t call l (putDst fr d v) σ' N) := by
  apply propext
  unfold POps OptP
  simp only [evOps, evOper, wantedA]
  constructor
  · rintro ⟨u, v, h, k⟩
    split at h
    · rename_i fr' σ' h1
      split at h1
      · rename_i v' σ'' h2
        simp only [Option.some.injEq, Prod.mk.injEq] at h1
        obtain ⟨rfl, rfl⟩ := h1
        exact ⟨_, _, h2, _, _, h, k⟩
      · cases h1
    · cases h
  · rintro ⟨v, σ', h, u, v', h', k⟩
    exact ⟨u, v', by rw [h]; exact h', k⟩

theorem pops_consG {d : Option Nat} {op : AOp} {l : List AOper} {s : Nat} {w : Bool} :
    POps .go call (⟨d, op, some (s, w)⟩ :: l) fr σ N = guardP (wantedA fr (some (s, w))) (fun t => PStep t call op fr σ (fun t v σ' => POps t call l (putDst fr d v) σ' N))
      (fun t => POps t call l (putDst fr d undefA) σ N) := by
  apply propext
  unfold POps PStep OptP guardP
  simp only [evOps, evOper]
  cases hw : wantedA fr (some (s, w)) with
  | false => simp
  | true =>
    simp only [true_imp_iff, reduceCtorEq, false_imp_iff, and_true]
    constructor
    · rintro ⟨u, v, h, k⟩
      split at h
      · rename_i fr' σ' h1
        split at h1
        · rename_i v' σ'' h2
          simp only [Option.some.injEq, Prod.mk.injEq] at h1
          obtain ⟨rfl, rfl⟩ := h1
          exact ⟨_, _, h2, _, _, h, k⟩
        · cases h1
      · cases h
    · rintro ⟨v, σ', h, u, v', h', k⟩
      exact ⟨u, v', by rw [h]; exact h', k⟩

theorem wanted_eq {s : Nat} {w b : Bool} (h : getSlot fr s = .one (.bool b)) : wantedA fr (some (s, w)) = (b == w) := by
  simp only [wantedA, h]

theorem step_call {f : AOpd} {args : List AOpd} : evStep call fr σ (.call f args) = match ev fr f with
    | .one (.func f caps) => call f (evs fr args ++ caps.map AV.one) σ
    | _ => none := rfl
end

/-! ### a whole function -/
theorem evCall_prim {C : Ctx} {f : Nat} {p : Prim} (h : C.prim f = some p) (n : Nat) (args : List AV) (σ : AHeap) : evCall C (n + 1) f args σ = p args σ := by
  simp only [evCall, h]

theorem evCall_code {C : Ctx} {f : Nat} {F : AFunc} (h : C.prim f = none) (hc : C.code f = some F) {n : Nat} {args : List AV} {σ : AHeap} {K : Tok → AV → AHeap → Prop}
    (hb : EndsC .go (evCall C n) n F.body (args ++ repUndef (F.ntmps - args.length)) σ
      (fun t fr σ' => ∃ vs, resOfs fr σ' F.results = some vs ∧ K t (tupOf vs) σ') (fun _ _ _ _ => False) (fun t fr σ' => ∃ vs, resOfs fr σ' F.results = some vs ∧ K t (tupOf vs) σ')) :
    OptP (evCall C (n + 1) f args σ) K := by
  obtain ⟨x, u, v, h1, h2⟩ := hb
  unfold OptP
  simp only [evCall, h, hc, h1]
  cases x with
  | normal =>
    obtain ⟨vs, h3, h4⟩ := h2
    exact ⟨_, _, by simp only [h3], h4⟩
  | exit i => exact h2.elim
  | ret =>
    obtain ⟨vs, h3, h4⟩ := h2
    exact ⟨_, _, by simp only [h3], h4⟩

/-! ### frames -/
theorem getSlot_setSlot : ∀ (fr : List AV) (d t : Nat) (v : AV), getSlot (setSlot fr d v) t = if t = d ∧ d < fr.length then v else getSlot fr t
  | [], d, t, v => by simp [setSlot, getSlot]
  | a :: l, 0, 0, v => by simp [setSlot, getSlot]
  | a :: l, 0, t + 1, v => by simp [setSlot, getSlot]
  | a :: l, d + 1, 0, v => by simp [setSlot, getSlot]
  | a :: l, d + 1, t + 1, v => by simp [setSlot, getSlot, getSlot_setSlot l d t v]

theorem setSlot_length : ∀ (fr : List AV) (d : Nat) (v : AV), (setSlot fr d v).length = fr.length
  | [], _, _ => rfl
  | _ :: _, 0, _ => rfl
  | _ :: l, d + 1, v => by simp [setSlot, setSlot_length l d v]


theorem optP_pure1 (s : SV) (σ : AHeap) : pure1 σ (some s) = some (.one s, σ) := rfl

theorem blt_dec (a b : Nat) : Nat.blt a b = decide (a < b) := by
  cases h : Nat.blt a b with
  | true => simp [Nat.blt_eq] at h; simp [h]
  | false => simp only [Bool.eq_false_iff, ne_eq, Nat.blt_eq] at h; simp [h]
theorem ble_dec (a b : Nat) : Nat.ble a b = decide (a ≤ b) := by
  cases h : Nat.ble a b with
  | true => simp [Nat.ble_eq] at h; simp [h]
  | false => simp only [Bool.eq_false_iff, ne_eq, Nat.ble_eq] at h; simp [h]
theorem beq_dec (a b : Nat) : Nat.beq a b = decide (a = b) := by
  cases h : Nat.beq a b with
  | true => simp at h; simp [h]
  | false => simp only [Bool.eq_false_iff, ne_eq, Nat.beq_eq] at h; simp [h]

theorem AHeap.get_put' (σ : AHeap) (o : AObj) (i id : Nat) : (σ.put i o).get id = if id = i ∧ i < σ.size then some o else σ.get id := by
  by_cases h : i < σ.size
  · rw [AHeap.get_put σ o i id h]; simp [h]
  · rw [if_neg (by omega)]
    unfold AHeap.get AHeap.put
    simp only [PT.get_set]
    cases hb : Nat.blt id σ.size with
    | false => rfl
    | true =>
      have : id < σ.size := by simpa [Nat.blt_eq] using hb
      rw [if_neg (by omega)]

/-- What an object gives to a load. -/
def rd (o : Option AObj) (agg : Option Nat) (off : Nat) : Option AV := match o with
  | some ⟨cs, .own⟩ | some ⟨cs, .ro⟩ => partA cs agg off
  | _ => none
theorem loadA_rd (σ : AHeap) (agg : Option Nat) (id off : Nat) : loadA σ agg id off = rd (σ.get id) agg off := rfl
theorem rd_own (cs : List SV) (agg : Option Nat) (off : Nat) : rd (some ⟨cs, .own⟩) agg off = partA cs agg off := rfl
theorem rd_ro (cs : List SV) (agg : Option Nat) (off : Nat) : rd (some ⟨cs, .ro⟩) agg off = partA cs agg off := rfl

/-- What was there is there, as it was. -/
def Keeps (σ σ' : AHeap) : Prop := σ.size ≤ σ'.size ∧ ∀ id, id < σ.size → σ'.get id = σ.get id
theorem Keeps.refl (σ : AHeap) : Keeps σ σ := ⟨Nat.le_refl _, fun _ _ => rfl⟩
theorem Keeps.trans {a b c : AHeap} (h1 : Keeps a b) (h2 : Keeps b c) : Keeps a c :=
  ⟨Nat.le_trans h1.1 h2.1, fun id h => by rw [h2.2 id (Nat.lt_of_lt_of_le h h1.1), h1.2 id h]⟩
theorem Keeps.alloc {σ τ : AHeap} {o : AObj} (h : Keeps σ τ) : Keeps σ (τ.alloc o) :=
  ⟨Nat.le_trans h.1 (by rw [AHeap.size_alloc]; omega), fun id hid => by rw [AHeap.get_alloc, if_neg (by have := h.1; omega), h.2 id hid]⟩
theorem Keeps.put {σ τ : AHeap} {i : Nat} {o : AObj} (h : Keeps σ τ) (hi : σ.size ≤ i) : Keeps σ (τ.put i o) :=
  ⟨h.1, fun id hid => by rw [AHeap.get_put', if_neg (by omega), h.2 id hid]⟩

/-- A function laid whose answer holds nothing new and that wrote nothing old. -/
theorem primOk_pure {P : Program} {C : Ctx} (hC : C.Good P) {f : Nat} {p : Prim}
    (h : ∀ args σ v σ', p args σ = some (v, σ') → σ' = σ ∧ v.lo σ.size = true ∧ ∃ n, OptP (evCall C n f args σ) (fun _ v1 σ1 => v1 = v ∧ Keeps σ σ1)) : PrimOk P f p :=
  primOk_of_run hC fun args σ v σ' hp => by
    obtain ⟨rfl, hlo, n, v1, σ1, he, rfl, hk⟩ := h args σ v σ' hp
    exact ⟨n, v1, σ1, id, he, Iso.pure hk.1 hk.2 hlo⟩

/-- The elements of a slice, read one by one. -/
def rdList (o : Option AObj) (agg : Option Nat) (esz : Nat) : Nat → Nat → Option (List AV)
  | _, 0 => some []
  | off, n + 1 => match rd o agg off, rdList o agg esz (off + esz) n with
    | some v, some l => some (v :: l)
    | _, _ => none

theorem rdList_spec {o : Option AObj} {agg : Option Nat} {esz : Nat} : ∀ {n off : Nat} {l : List AV}, rdList o agg esz off n = some l →
    l.length = n ∧ ∀ i (h : i < l.length), rd o agg (off + i * esz) = some l[i]
  | 0, off, l, h => by
    simp only [rdList, Option.some.injEq] at h
    subst h
    exact ⟨rfl, fun i h => absurd h (by simp)⟩
  | n + 1, off, l, h => by
    simp only [rdList] at h
    split at h
    · rename_i v l' h1 h2
      cases h
      obtain ⟨k1, k2⟩ := rdList_spec h2
      refine ⟨by simp [k1], fun i hi => ?_⟩
      cases i with
      | zero => simpa using h1
      | succ i =>
        have := k2 i (by simpa using hi)
        rw [show off + (i + 1) * esz = off + esz + i * esz by rw [Nat.succ_mul]; omega]
        simpa using this
    · cases h

theorem wr64 {n : Int} (h1 : -9223372036854775808 ≤ n) (h2 : n ≤ 9223372036854775807) : wr .i64 n = n := by
  simp only [wr, h1, h2, and_self, if_true]
theorem wru64 {n : Int} (h1 : 0 ≤ n) (h2 : n ≤ 18446744073709551615) : wr .u64 n = n := by
  simp only [wr, h1, h2, and_self, if_true]
/-- A counter's next. -/
theorem wr_next {i n : Nat} (h : i < n) (hn : n ≤ maxElems) : wr .i64 ((i : Int) + 1) = ((i + 1 : Nat) : Int) := by
  unfold maxElems at hn
  rw [wr64 (by omega) (by omega)]
  simp

def wantB (v : AV) (w : Bool) : Bool := match v with
  | .one (.bool b) => b == w
  | _ => false
theorem wanted_some (fr : List AV) (s : Nat) (w : Bool) : wantedA fr (some (s, w)) = wantB (getSlot fr s) w := rfl
theorem wanted_none (fr : List AV) : wantedA fr none = true := rfl
theorem wantB_bool (b w : Bool) : wantB (.one (.bool b)) w = (b == w) := rfl
theorem wantB_undef (w : Bool) : wantB undefA w = false := rfl

attribute [simp] wanted_some wanted_none wantB_bool wantB_undef getSlot_setSlot setSlot_length
attribute [simp] loadA_rd rd_own rd_ro Keeps.refl Keeps.alloc Keeps.put
attribute [simp] blt_dec ble_dec beq_dec
attribute [simp] ends_skip ends_ret ends_exit ends_seq ends_cond ends_block ends_region pops_nil pops_cons pops_consG pstep_go step_call optP_some condP_true condP_false guardP_true guardP_false
  evStep evOp ev evs putDst setSlot getSlot repUndef pure1 evBin ibin resOfs resOf tupOf AV.cells partA evUn evEq evEqS eqS eqOffs fillA evFns asNat optNat
  writeAt splice AHeap.get_alloc AHeap.get_put' AHeap.size_alloc AHeap.size_put

end Go.Proofs.Ythjijjkoeoemgaa.Ab
