/- What is popped up to one time and then up to a later one is what is popped at once, in its order, and each once: at every list of settings of which the reading's bulk is at most 1048576, and any two times. -/
import Derived.Test.YtdgffilnefnjjaaTim9
import Derived.Test.YtdgffilnefnjjaaAbLaw
namespace Go.Proofs.Ytdgffilnefnjjaa.TimersSplit
open Go.ChangeShapes Go.WideShapes Go.ChangeAt Go.RowKit Go.Proofs.Ytdgffilnefnjjaa.Ab

theorem params : Try.f8.params = #[63, 3, 3] := by kernel_rfl
theorem underI : Try.prog.underlying 3 = some (.int .i64) := by kernel_rfl
theorem underL : Try.prog.underlying 63 = some (.slice 64) := by kernel_rfl
theorem underA : Try.prog.underlying 64 = some (.array 2 3) := by kernel_rfl
theorem cellsA : Try.prog.cellsOf 64 = 2 := by kernel_rfl

theorem pairs {g : Nat → Option AObj} : ∀ {n : Nat} {ss : List SV} {b : Nat}, RdL Try.prog g 64 ss n b → ∃ l : List (Int × Int), ss = pcells l ∧ l.length = n
  | 0, _, _, h => by
    obtain ⟨rfl, rfl⟩ := rdL_nil h
    exact ⟨[], rfl, rfl⟩
  | n + 1, _, _, h => by
    obtain ⟨s1, s2, b1, b2, rfl, rfl, h1, h2⟩ := rdL_cons h
    obtain ⟨c, rfl, h3⟩ := rd_array underA h1
    obtain ⟨x1, x2, c1, c2, rfl, rfl, k1, k2⟩ := rdL_cons h3
    obtain ⟨y1, y2, d1, d2, rfl, rfl, k3, k4⟩ := rdL_cons k2
    obtain ⟨rfl, rfl⟩ := rdL_nil k4
    obtain ⟨p, rfl, _⟩ := rd_int underI k1
    obtain ⟨q, rfl, _⟩ := rd_int underI k3
    obtain ⟨l, rfl, h4⟩ := pairs h2
    exact ⟨(p, q) :: l, rfl, by simp [h4]⟩

theorem run (σ : AHeap) (avs : List AV) (b : Nat) (h : RdA Try.prog σ.get Try.f8.params.toList avs b) (hb : b ≤ 1048576) : ∃ n σ', evCall D3 n 8 avs σ = some (.one (.bool true), σ') := by
  rw [params] at h
  obtain ⟨s, l, b1, b2, rfl, rfl, h1, h⟩ := rdA_one (by kernel_rfl) h
  obtain ⟨s2, l2, b3, b4, rfl, rfl, h2, h⟩ := rdA_one (by kernel_rfl) h
  obtain ⟨s3, l3, b5, b6, rfl, rfl, h3, h⟩ := rdA_one (by kernel_rfl) h
  obtain rfl := rdA_nil h
  obtain ⟨x, hx, _⟩ := rd_int underI h2
  obtain ⟨y, hy, _⟩ := rd_int underI h3
  cases hx
  cases hy
  have hp : ∃ l, Prs σ (.one s) l ∧ l.length ≤ 1048576 := by
    rcases rd_slice underL h1 with h4 | ⟨id, len, c, cap, cells, h4, rfl, hg, hl⟩
    · cases h4
      exact ⟨[], .inl ⟨rfl, rfl⟩, Nat.zero_le _⟩
    · cases h4
      have hle := hl.le
      obtain ⟨l, rfl, rfl⟩ := pairs hl
      rw [cellsA]
      exact ⟨l, .inr ⟨id, cap, rfl, hg⟩, by omega⟩
  obtain ⟨l, hp, hl⟩ := hp
  obtain ⟨v, σ', he, rfl⟩ := run8 σ (.one s) l x y hp hl (l.length + 60) (Nat.le_refl _)
  exact ⟨_, σ', he⟩

set_option maxRecDepth 100000 in
theorem lifted (os : Os) (started : os.Started) (H : Type) (enc : TypeId × Value → H) (F : Stop.Interp) :
    ReturnsInHanded {} Try.checked os 8 .any ((Rows.OpenSpec.upto Rows.timersSplitSpec).pre6 enc Try.prog Try.f8 Rows.timersSplitUptoRow.domain false) (((Rows.OpenSpec.upto Rows.timersSplitSpec).at F).post enc Try.prog Try.f8 false true false false) := by
  refine returnsInHanded_of_cond (C := Try.checked) (s := Rows.OpenSpec.upto Rows.timersSplitSpec) (k := Rows.uptoSmall) rfl ownKn started (by kernel_rfl) Try.func8
    (OpenSpec.witness (enc := enc) (C := Try.checked) (s := Rows.OpenSpec.upto Rows.timersSplitSpec) (k := Rows.uptoSmall) rfl false ⟨#[], #[.slice none 0 0, .int .i64 0, .int .i64 0], []⟩ 8 (by kernel_rfl) (by kernel_rfl) (by kernel_rfl)
      (x := ([.nil, .lit (.int .i64 0), .lit (.int .i64 0)], [], [])) (by kernel_rfl) rfl (by kernel_rfl)) ?_
  intro W base args ds gs before hval hW _ hk _
  have hk' : Rows.uptoBulkAll (ds ++ gs) ≤ 1048576 := of_decide_eq_true hk
  exact law_contract D3_good (T := [63, 64, 3]) (tb := 4) (by kernel_rfl) (by kernel_rfl) laidOut (by kernel_rfl) Try.underlying4 rfl
    (fun H ds hds => by
      have hds : ds.length = 3 := hds
      match ds, hds with
      | [d, e, f], _ => rfl)
    run H enc W base args ds gs before hval hW hk'

theorem proved : Rows.TimersSplitUptoSaid :=
  OpenClaim.holds_of_cond 8 Try.f8 rfl rfl rfl rfl rfl rfl rfl ⟨rfl, rfl, rfl, rfl, rfl⟩ rfl rfl rfl rfl rfl (by kernel_rfl) Try.func8 (by kernel_rfl)
    (of_decide_eq_true (by kernel_rfl)) (by unfold Func.isWrapper; first | (rw [if_pos (by decide +kernel)]; kernel_rfl) | (rw [if_neg (by decide +kernel)]; exact ⟨rfl, rfl⟩))
    (fun os started H enc _ F => lifted os started H enc F)
#print axioms proved
end Go.Proofs.Ytdgffilnefnjjaa.TimersSplit
