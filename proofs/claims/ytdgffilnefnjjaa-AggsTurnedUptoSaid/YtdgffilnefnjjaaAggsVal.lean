/- The values of a slice that was read. -/
import Derived.Test.YtdgffilnefnjjaaAggs13
import Derived.Test.YtdgffilnefnjjaaAbLaw
namespace Go.Proofs.Ytdgffilnefnjjaa.Ab
open Go
set_option linter.unusedSimpArgs false
section
variable {P : Program} {g : Nat → Option AObj}
theorem rd_val {t ti ts : TypeId} {fs : Array Field} (ht : P.underlying t = some (.struct fs)) (hf : fs.toList.map (·.type) = [ti, ti, ts]) (hi : P.underlying ti = some (.int .i64)) (hs : P.underlying ts = some .string)
    {ss : List SV} {b : Nat} (h : Rd P g t ss b) : ∃ v : V, ss = v.cells ∧ inI v.n = true ∧ inI v.k = true ∧ v.s.length ≤ b := by
  obtain ⟨c, rfl, h'⟩ := rd_struct ht h
  clear h
  rw [hf] at h'
  have h := h'
  clear h'
  obtain ⟨s1, r1, b1, c1, rfl, rfl, h1, h⟩ := rdF_cons h
  obtain ⟨s2, r2, b2, c2, rfl, rfl, h2, h⟩ := rdF_cons h
  obtain ⟨s3, r3, b3, c3, rfl, rfl, h3, h⟩ := rdF_cons h
  obtain ⟨rfl, rfl⟩ := rdF_nil h
  obtain ⟨k, rfl, hk⟩ := rd_int hi h1
  obtain ⟨n, rfl, hn⟩ := rd_int hi h2
  obtain ⟨s, rfl, rfl⟩ := rd_str hs h3
  have e1 := wf64 hk
  have e2 := wf64 hn
  refine ⟨⟨k, n, s⟩, rfl, by simp [inI]; omega, by simp [inI]; omega, by simp only; omega⟩
theorem rdL_vals {t ti ts : TypeId} {fs : Array Field} (ht : P.underlying t = some (.struct fs)) (hf : fs.toList.map (·.type) = [ti, ti, ts]) (hi : P.underlying ti = some (.int .i64)) (hs : P.underlying ts = some .string) :
    ∀ {n : Nat} {ss : List SV} {b : Nat}, RdL P g t ss n b → ∃ l : List V, ss = vcells l ∧ l.length = n ∧ (∀ v ∈ l, inI v.n = true ∧ inI v.k = true ∧ v.s.length ≤ b)
  | 0, _, _, h => by
    obtain ⟨rfl, rfl⟩ := rdL_nil h
    exact ⟨[], rfl, rfl, fun v hv => by cases hv⟩
  | n + 1, _, _, h => by
    obtain ⟨s1, s2, b1, b2, rfl, rfl, h1, h2⟩ := rdL_cons h
    obtain ⟨v, rfl, k1, k2, k3⟩ := rd_val ht hf hi hs h1
    obtain ⟨l, rfl, h4, h5⟩ := rdL_vals ht hf hi hs h2
    refine ⟨v :: l, rfl, by simp [h4], fun x hx => ?_⟩
    cases hx with
    | head => exact ⟨k1, k2, by omega⟩
    | tail _ hx =>
      obtain ⟨q1, q2, q3⟩ := h5 x hx
      exact ⟨q1, q2, by omega⟩
end
theorem rd_slVals {P : Program} {σ : AHeap} {tl t ti ts : TypeId} {fs : Array Field} (htl : P.underlying tl = some (.slice t)) (ht : P.underlying t = some (.struct fs)) (hf : fs.toList.map (·.type) = [ti, ti, ts])
    (hi : P.underlying ti = some (.int .i64)) (hs : P.underlying ts = some .string) (hc : P.cellsOf t = 3) {s : SV} {b : Nat} (h : Rd P σ.get tl [s] b) (hb : b ≤ 1048576) :
    ∃ l : List V, slVals σ (.one s) = some l ∧ (l.all fun v => inI v.n) = true ∧ l.length ≤ b ∧ (∀ v ∈ l, inI v.k = true ∧ v.s.length ≤ b) := by
  rcases rd_slice htl h with h3 | ⟨id, len, c, cap, cells, h3, rfl, hg, hl⟩
  · cases h3
    exact ⟨[], rfl, rfl, Nat.zero_le _, fun v hv => by cases hv⟩
  · cases h3
    have hle := hl.le
    obtain ⟨l, rfl, hlen, h5⟩ := rdL_vals ht hf hi hs hl
    subst hlen
    have hmx : l.length ≤ maxElems := by unfold maxElems; omega
    rw [hc]
    refine ⟨l, slVals_at hg (.inr rfl) hmx, ?_, by omega, fun v hv => ⟨(h5 v hv).2.1, by have := (h5 v hv).2.2; omega⟩⟩
    rw [List.all_eq_true]
    exact fun v hv => (h5 v hv).1
end Go.Proofs.Ytdgffilnefnjjaa.Ab
