/- A slice that grows by append, as the machine keeps it: its cells, and what is laid in its place. -/
import Derived.Test.YthjijjkoeoemgaaAbSim2
namespace Go.Proofs.Ythjijjkoeoemgaa.Ab
open Go
set_option linter.unusedSimpArgs false
set_option linter.unusedVariables false

/-- A slice that was grown by append alone from nil: its object lies at b or above and holds just its cells. -/
def OutSl (b : Nat) (τ : AHeap) (esz : Nat) (s : AV) (cells : List SV) (n : Nat) : Prop :=
  cells.length = n * esz ∧ ((s = .one .nilSlice ∧ n = 0) ∨ ∃ q, s = .one (.slice q 0 esz n none) ∧ 0 < n ∧ b ≤ q ∧ τ.get q = some ⟨cells, .own⟩)

theorem OutSl.nil (b : Nat) (τ : AHeap) (esz : Nat) : OutSl b τ esz (.one .nilSlice) [] 0 := ⟨by simp, .inl ⟨rfl, rfl⟩⟩

theorem OutSl.stay {b : Nat} {τ τ' : AHeap} {esz : Nat} {s : AV} {cells : List SV} {n : Nat} (h : OutSl b τ esz s cells n) (hk : ∀ id, b ≤ id → id < τ.size → τ'.get id = τ.get id) :
    OutSl b τ' esz s cells n := by
  refine ⟨h.1, ?_⟩
  rcases h.2 with h | ⟨q, h1, h0, h2, h3⟩
  · exact .inl h
  · exact .inr ⟨q, h1, h0, h2, by rw [hk q h2 (AHeap.get_lt h3), h3]⟩

theorem append_out {b : Nat} {τ : AHeap} {esz bytes : Nat} {s : AV} {cells vs : List SV} {n : Nat} (h : OutSl b τ esz s cells n) (hb : b ≤ τ.size) (he : 0 < esz)
    (hv : vs.length = esz) (hn : n + 1 ≤ maxElems) (hby : bytes ≤ maxBytes) :
    OptP (appendA τ esz bytes s 1 vs) (fun _ s' τ' => OutSl b τ' esz s' (cells ++ vs) (n + 1) ∧ τ'.size = τ.size + 1 ∧ ∀ id, id < b → τ'.get id = τ.get id) := by
  obtain ⟨hc, h⟩ := h
  rcases h with ⟨rfl, rfl⟩ | ⟨q, rfl, h0, hq, hg⟩
  · have h1 : 1 ≤ maxElems := by decide
    have hc0 : cells = [] := by simpa using hc
    subst hc0
    simp [appendA, appendK, h1, hby]
    refine ⟨⟨by simpa using hv, .inr ⟨τ.size, rfl, by omega, hb, by simp⟩⟩, fun id hid hid' => by omega⟩
  · have hlt := AHeap.get_lt hg
    have h2 : ¬ ((n + 1) * esz ≤ cells.length) := by rw [hc, Nat.succ_mul]; omega
    simp [appendA, appendK, hn, hby, hg, h2, hc.symm]
    have hmul : cells.length + esz = (n + 1) * esz := by rw [hc, Nat.succ_mul]
    refine ⟨⟨by simp [hv, hmul], .inr ⟨τ.size, rfl, by omega, hb, by simp⟩⟩, fun id hid => ?_⟩
    rw [if_neg (by omega), if_neg (by omega)]

theorem ar1 (k : Nat) : (k ≤ k + 1 + 1) = True := eq_true (by omega)
theorem ar2 (k : Nat) : (k ≤ k + 1 + 1 + 1) = True := eq_true (by omega)
theorem ar3 (k : Nat) : (k ≤ k + 1 + 1 + 1 + 1) = True := eq_true (by omega)
theorem ar4 (k : Nat) : (k < k + 1 + 1) = True := eq_true (by omega)
theorem ar5 (k : Nat) : (k < k + 1 + 1 + 1) = True := eq_true (by omega)
theorem ar6 (k : Nat) : (k < k + 1 + 1 + 1 + 1) = True := eq_true (by omega)
theorem ar7 (k : Nat) : (k = k + 1 + 1) = False := eq_false (by omega)
theorem ar8 (k : Nat) : (k = k + 1 + 1 + 1) = False := eq_false (by omega)
theorem ar9 (k : Nat) : (k = k + 1 + 1 + 1 + 1) = False := eq_false (by omega)
theorem ar10 (k : Nat) : (k + 1 + 1 = k) = False := eq_false (by omega)
theorem ar11 (k : Nat) : (k + 1 + 1 + 1 = k) = False := eq_false (by omega)
theorem ar12 (k : Nat) : (k + 1 + 1 + 1 + 1 = k) = False := eq_false (by omega)


/-- A loop that is left by one exit alone, with what holds there. -/
theorem ends_to {call : CallF} {m : Nat} {N : KN} {E : KE} {R : KN} {fr : List AV} {σ : AHeap} {c : ACode} (i : Nat) (Q : List AV → AHeap → Prop)
    (h : EndsC .go call m c fr σ (fun _ _ _ => False) (fun j _ fr σ => j = i ∧ Q fr σ) R) (k : ∀ fr σ, Q fr σ → E i .go fr σ) : EndsC .go call m c fr σ N E R := by
  obtain ⟨x, u, v, h1, h2⟩ := h
  refine ⟨x, u, v, h1, ?_⟩
  cases x with
  | normal => exact h2.elim
  | exit j => obtain ⟨rfl, hq⟩ := h2; exact k u v hq
  | ret => exact h2

/-- Values that name no object. -/
def plainS : SV → Bool
  | .bool _ | .int _ _ | .str _ | .nilPtr | .nilSlice | .nilFunc | .nilIface => true
  | _ => false
def plainL : List SV → Bool
  | [] => true
  | s :: l => plainS s && plainL l
theorem plainS_ren {s : SV} (h : plainS s = true) (π : Nat → Nat) : s.ren π = s := by cases s <;> first | rfl | cases h
theorem plainS_lo {s : SV} (h : plainS s = true) (n : Nat) : s.lo n = true := by cases s <;> first | rfl | cases h
theorem plainL_ren : ∀ {l : List SV}, plainL l = true → ∀ π, renL π l = l
  | [], _, _ => rfl
  | s :: l, h, π => by
    simp only [plainL, Bool.and_eq_true] at h
    simp only [renL, plainS_ren h.1, plainL_ren h.2]
theorem plainL_lo : ∀ {l : List SV}, plainL l = true → ∀ n, loL n l = true
  | [], _, _ => rfl
  | s :: l, h, n => by
    simp only [plainL, Bool.and_eq_true] at h
    simp only [loL, plainS_lo h.1, plainL_lo h.2, Bool.and_self]
theorem plainL_append : ∀ {l m : List SV}, plainL l = true → plainL m = true → plainL (l ++ m) = true
  | [], _, _, h => h
  | s :: l, m, h, k => by
    simp only [plainL, Bool.and_eq_true] at h
    simp only [List.cons_append, plainL, h.1, plainL_append h.2 k, Bool.and_self]

/-- What is laid for such a slice. -/
def outRes (σ : AHeap) (esz : Nat) (cells : List SV) (n : Nat) : AV × AHeap := match n with
  | 0 => (.one .nilSlice, σ)
  | n + 1 => (.one (.slice σ.size 0 esz (n + 1) none), σ.alloc ⟨cells, .own⟩)

theorem iso_out {σ τ : AHeap} {b : Nat} {esz n : Nat} {s : AV} {cells : List SV} (h : OutSl b τ esz s cells n) (hb : σ.size ≤ b) (hk : Keeps σ τ) (hp : plainL cells = true) :
    ∃ π, Iso σ (outRes σ esz cells n).2 τ (outRes σ esz cells n).1 s π := by
  obtain ⟨hc, h⟩ := h
  rcases h with ⟨rfl, rfl⟩ | ⟨q, rfl, h0, hq, hg⟩
  · exact ⟨id, Iso.pure hk.1 hk.2 rfl⟩
  · cases n with
    | zero => omega
    | succ n =>
      have hlt := AHeap.get_lt hg
      refine ⟨fun id => if id < σ.size then id else q, ?_⟩
      exact {
        size := by simp [outRes]
        old := fun id h => by simp [h]
        new := fun id h1 h2 => by
          simp [outRes] at h2
          rw [if_neg (by omega)]
          exact ⟨by omega, hlt⟩
        inj := fun i j h1 h2 h3 h4 _ => by simp [outRes] at h2 h4; omega
        val := by simp [outRes, AV.ren, SV.ren]
        vbelow := by simp [outRes, AV.lo, SV.lo]
        kept := fun id h => .inl ⟨by simp [outRes, Nat.ne_of_lt h], hk.2 id h⟩
        made := fun id h1 h2 => by
          simp [outRes] at h2
          have : id = σ.size := by omega
          subst this
          exact ⟨⟨cells, .own⟩, by simp [outRes], by simp [plainL_ren hp, hg], plainL_lo hp _⟩ }

end Go.Proofs.Ythjijjkoeoemgaa.Ab
