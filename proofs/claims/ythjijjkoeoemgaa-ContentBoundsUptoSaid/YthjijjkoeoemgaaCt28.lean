/- content's Of and One, whole. -/
import Derived.Test.YthjijjkoeoemgaaCt25
namespace Go.Proofs.Ythjijjkoeoemgaa.Ab
open Go
set_option maxRecDepth 20000
set_option maxHeartbeats 4000000
set_option linter.unusedSimpArgs false
set_option linter.unusedVariables false

theorem keys_len' {l m : List Arr} (h : l.map Arr.key = m.map Arr.key) : l.length = m.length := by simpa using congrArg List.length h
theorem keys_mem {l m : List Arr} (h : l.map Arr.key = m.map Arr.key) {a : Arr} (ha : a ∈ l) : ∃ b ∈ m, b.key = a.key := by
  have : a.key ∈ m.map Arr.key := by rw [← h]; exact List.mem_map_of_mem ha
  obtain ⟨b, hb, e⟩ := List.mem_map.1 this
  exact ⟨b, hb, e⟩
theorem arrs_copy {σ : AHeap} {b : Nat} {v : AV} {out l : List Arr} (hm : l.length ≤ maxElems) (hk : out.map Arr.key = l.map Arr.key) (hr : RowsOk σ out) (hO : OutSl b σ 3 v (acells out) out.length) : Arrs σ v out :=
  acells_outsl hO (by rw [keys_len' hk]; exact hm) hr
theorem grown_out {σ : AHeap} {b : Nat} {v : AV} {l : List Arr} (hO : OutSl b σ 3 v (acells l) l.length) (h : 0 < l.length) : Grown σ v l := by
  rcases hO.2 with ⟨_, e⟩ | ⟨q, e, _, _, e3⟩
  · omega
  · exact ⟨q, e, e3⟩
/-- What is copied has the same keys. -/
def CopyOf (σ : AHeap) (v : AV) (l : List Arr) : Prop := ∃ out, out.map Arr.key = l.map Arr.key ∧ Arrs σ v out ∧ (0 < out.length → Grown σ v out)
theorem run_Of (σ : AHeap) (s s1 : AV) (l : List Arr) (vs : List VS) (now : Int) (hV : Views σ s vs) (hN : NoCap s) (hA : Arrs σ s1 l) (hG : 0 < l.length → Grown σ s1 l) (hL : LOk l now) (C : Nat) (hC : ∀ v ∈ vs, v.cols.length ≤ C) (hsub : ∀ a ∈ ofL vs l now, a ∈ l) (hlen : (ofL vs l now).length ≤ l.length) (f : Nat) (hf : C + vs.length + 2700 ≤ f) :
    OptP (evCall D9 f 11 [s, s1, .one (.int .i64 now)] σ) (fun _ r τ => CopyOf τ r (ofL vs l now) ∧ Keeps σ τ) := by
  obtain ⟨f, rfl⟩ : ∃ k, f = k + 1 := ⟨f - 1, by omega⟩
  refine evCall_code (D9_prim 11) ((D9_code 11).trans codeb8) ?_
  have h200 := hL.t.len
  simp (maxDischargeDepth := 99) [cb8]
  refine (of_run σ s s1 l vs now hV hN hA hG hL C hC f (by omega)).mono ?_
  rintro r τ ⟨hr, hk⟩
  simp (maxDischargeDepth := 99)
  refine (run23 τ r _ hr (fun a ha => hL.t.vals _ (hsub a ha)) f (by omega)).mono ?_
  rintro v τ2 ⟨out, h1, h2, h3, h4⟩
  simp (maxDischargeDepth := 99) [hk.trans h4]
  exact ⟨out, h1, arrs_copy (by unfold maxElems; omega) h1 h2 h3, grown_out h3⟩
theorem run_One (σ : AHeap) (s : AV) (l : List Arr) (v : VS) (now : Int) (hA : Arrs σ s l) (hG : 0 < l.length → Grown σ s l) (hv : v.ok σ) (hL : LOk l now) (C : Nat) (hC : v.cols.length ≤ C) (f : Nat) (hf : C + 2300 ≤ f) :
    OptP (evCall D9 f 15 [.agg v.cells, s, .one (.int .i64 now)] σ) (fun _ r τ => CopyOf τ r (heldF v l now) ∧ Keeps σ τ) := by
  obtain ⟨f, rfl⟩ : ∃ k, f = k + 1 := ⟨f - 1, by omega⟩
  refine evCall_code (D9_prim 15) ((D9_code 15).trans codeb10) ?_
  have h200 := hL.t.len
  have hl := heldF_len v l now
  have k0 : Keeps σ (σ.alloc ⟨v.cells, .own⟩) := (Keeps.refl _).alloc
  have hh := held_run (σ.alloc ⟨v.cells, .own⟩) s l v now (hA.keeps k0) (fun h => (hG h).keeps k0) (hv.keeps k0) hL C hC f (by omega)
  unfold VS.cells at k0 hh ⊢
  simp (maxDischargeDepth := 99) [cb10]
  refine hh.mono ?_
  rintro r τ ⟨hr, hk⟩
  simp (maxDischargeDepth := 99)
  refine (run23 τ r _ hr (fun a ha => hL.t.vals _ (heldF_sub _ _ _ a ha)) f (by omega)).mono ?_
  rintro v τ2 ⟨out, h1, h2, h3, h4⟩
  simp (maxDischargeDepth := 99) [k0.trans (hk.trans h4)]
  exact ⟨out, h1, arrs_copy (by unfold maxElems; omega) h1 h2 h3, grown_out h3⟩
end Go.Proofs.Ythjijjkoeoemgaa.Ab
