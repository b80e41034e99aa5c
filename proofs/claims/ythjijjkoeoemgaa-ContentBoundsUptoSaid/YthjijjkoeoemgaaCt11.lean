/- What a view holds: content's held, for the views by time. -/
import Derived.Test.YthjijjkoeoemgaaCt10
namespace Go.Proofs.Ythjijjkoeoemgaa.Ab
open Go
set_option maxRecDepth 20000
set_option maxHeartbeats 2000000
set_option linter.unusedSimpArgs false

/-- A first row's width. -/
def wid (l : List Arr) : Int := ((rAt l 0).vals.length : Int)
/-- May a view be over these arrivals? -/
def okL (v : VS) (l : List Arr) : Prop := errV v.k v.n v.cols v.d (wid l) = 0
theorem slInts_same {σ : AHeap} {s : SV} {l : List Int} (h : slInts σ (.one s) = some l) : SV.same s s = true := by
  rcases slInts_spec h with ⟨h, _⟩ | ⟨id, off, cap, h, _⟩
  · cases h; rfl
  · cases h; simp [SV.same]
theorem VS.ok.same {σ : AHeap} {v : VS} (h : v.ok σ) : SV.same v.s v.s = true := slInts_same h
theorem pCheck_eq {τ : AHeap} {v : VS} (h : v.ok τ) (n : Int) : pCheck [.agg [.int .i64 v.k, .int .i64 v.n, v.s, .bool v.d], .one (.int .i64 n)] τ = some (.one (.int .i64 (errV v.k v.n v.cols v.d n)), τ) := by
  unfold pCheck
  simp only [show slInts τ (.one v.s) = some v.cols from h]
theorem rAt0 {l : List Arr} (h : 0 < l.length) : rAt l 0 = l[0] := by simp [rAt, List.getD, h]

theorem how3 (σ : AHeap) (f : Nat) (hf : 5 ≤ f) : OptP (evCall D9 f 37 [.one (.int .i64 3)] σ) (fun _ v τ => v = .one (.func 43 []) ∧ Keeps σ τ) := by
  obtain ⟨f, rfl⟩ : ∃ k, f = k + 1 := ⟨f - 1, by omega⟩
  refine evCall_code (D9_prim 37) ((D9_code 37).trans code37) ?_
  simp (maxDischargeDepth := 99) [c37]
theorem how5 (σ : AHeap) (f : Nat) (hf : 5 ≤ f) : OptP (evCall D9 f 37 [.one (.int .i64 5)] σ) (fun _ v τ => v = .one (.func 45 []) ∧ Keeps σ τ) := by
  obtain ⟨f, rfl⟩ : ∃ k, f = k + 1 := ⟨f - 1, by omega⟩
  refine evCall_code (D9_prim 37) ((D9_code 37).trans code37) ?_
  simp (maxDischargeDepth := 99) [c37]

theorem run26 (σ : AHeap) (s : AV) (l : List Arr) (v : VS) (now : Int) (h : Arrs σ s l) (hv : v.ok σ) (g K : Nat) (R : List Arr)
    (hhow : 0 < l.length → okL v l → ∀ τ f, 5 ≤ f → OptP (evCall D9 f 37 [.one (.int .i64 v.k)] τ) (fun _ r τ' => r = .one (.func g []) ∧ Keeps τ τ'))
    (hrun : 0 < l.length → okL v l → ∀ τ, Keeps σ τ → ∀ f, K ≤ f → OptP (evCall D9 f g [.agg (v.at' now), s] τ) (fun _ r τ' => Arrs τ' r R ∧ Keeps τ τ'))
    (h0 : l.length = 0 → R = []) (h1 : ¬ okL v l → R = []) (f : Nat) (hf : K + 20 ≤ f) :
    OptP (evCall D9 f 26 [.agg v.cells, s, .one (.int .i64 now)] σ) (fun _ r τ => Arrs τ r R ∧ Keeps σ τ) := by
  obtain ⟨f, rfl⟩ : ∃ k, f = k + 1 := ⟨f - 1, by omega⟩
  refine evCall_code (D9_prim 26) ((D9_code 26).trans code26) ?_
  have hnil : ∀ τ, Arrs τ (.one .nilSlice) [] := fun τ => ⟨.inl ⟨rfl, rfl⟩, fun a ha => by cases ha⟩
  obtain ⟨τ, hτ⟩ : ∃ τ, τ = σ.alloc ⟨[.int .i64 v.k, .int .i64 v.n, v.s, .bool v.d], .own⟩ := ⟨_, rfl⟩
  have hk : Keeps σ τ := by rw [hτ]; exact (Keeps.refl _).alloc
  have hb : τ.get σ.size = some ⟨[.int .i64 v.k, .int .i64 v.n, v.s, .bool v.d], .own⟩ := by rw [hτ]; simp
  have hsame := hv.same
  by_cases hl : l.length = 0
  · have hR := h0 hl
    have el : l = [] := List.length_eq_zero_iff.1 hl
    subst el
    subst hR
    rcases h.rd with ⟨rfl, _⟩ | ⟨id, off, cap, rfl, _⟩
    · simp (maxDischargeDepth := 99) [c26, VS.cells, hnil]
    · simp (maxDischargeDepth := 99) [c26, VS.cells, hnil]
  · have hpos : 0 < l.length := by omega
    rcases h.rd with ⟨_, e⟩ | ⟨id, off, cap, rfl, hm, hrd⟩
    · exact absurd (by rw [e]; rfl) hl
    obtain ⟨_, _, _, p3⟩ := hrd 0 hpos
    simp only [Nat.zero_mul, Nat.add_zero] at p3
    rw [← hk.2 id (rd_lt p3)] at p3
    have hl' : ¬ (l.length : Int) = 0 := by omega
    have hl'' : ¬ l = [] := by intro e; rw [e] at hl; exact hl rfl
    have hrow := row_len (h.2 _ (rAt_mem hpos))
    have hpc := pCheck_eq (hv.keeps hk) (wid l)
    unfold wid at hpc
    obtain ⟨f, rfl⟩ : ∃ k, f = k + 1 := ⟨f - 1, by omega⟩
    have hgo : EndsC .go (evCall D9 (f + 1)) (f + 1) c26.body ([.agg v.cells, .one (.slice id off 3 l.length cap), .one (.int .i64 now)] ++ repUndef (c26.ntmps - 3)) σ
        (fun t fr σ' => ∃ vs, resOfs fr σ' c26.results = some vs ∧ (Arrs σ' (tupOf vs) R ∧ Keeps σ σ')) (fun _ _ _ _ => False) (fun t fr σ' => ∃ vs, resOfs fr σ' c26.results = some vs ∧ (Arrs σ' (tupOf vs) R ∧ Keeps σ σ')) := by
      by_cases hok : okL v l
      · have hH := hhow hpos hok τ (f + 1) (by omega)
        have hR := hrun hpos hok
        unfold okL wid at hok
        rw [hok] at hpc
        generalize (rAt l 0).vals.length = w at hrow hpc
        rcases hrow with ⟨e1, rfl⟩ | ⟨ri, ro, rc, e1⟩
        all_goals
          rw [e1] at p3
          try simp only [Int.natCast_zero] at hpc
          simp (maxDischargeDepth := 99) [c26, VS.cells, hl', hl'', p3, hpos, D9_7, ← hτ, hpc, hb]
          refine ends_draw ?_
          simp (maxDischargeDepth := 99) [hb, -SV.same]
          refine hH.mono ?_
          rintro r τ2 ⟨rfl, k2⟩
          have hb2 : τ2.get σ.size = some ⟨[.int .i64 v.k, .int .i64 v.n, v.s, .bool v.d], .own⟩ := by rw [k2.2 _ (AHeap.get_lt hb), hb]
          have hrr := hR τ2 (hk.trans k2) (f + 1) (by omega)
          unfold VS.at' at hrr
          simp (maxDischargeDepth := 99) [hb, hb2, -SV.same, hsame]
          refine hrr.mono ?_
          rintro r τ3 ⟨q1, k3⟩
          simp (maxDischargeDepth := 99) [hb, hb2, -SV.same, hsame, q1, (hk.trans k2).trans k3]
          all_goals simp [SV.same]
      · have hR := h1 hok
        subst hR
        unfold okL wid at hok
        generalize (rAt l 0).vals.length = w at hrow hpc hok
        rcases hrow with ⟨e1, rfl⟩ | ⟨ri, ro, rc, e1⟩
        all_goals
          rw [e1] at p3
          try simp only [Int.natCast_zero] at hpc hok
          simp (maxDischargeDepth := 99) [c26, VS.cells, hl', hl'', p3, hpos, D9_7, ← hτ, hpc, hb, hok, hnil, hk]
    exact hgo
end Go.Proofs.Ythjijjkoeoemgaa.Ab
