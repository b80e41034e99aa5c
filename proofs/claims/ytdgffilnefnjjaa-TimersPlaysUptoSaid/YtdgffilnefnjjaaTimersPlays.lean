/- Every row of settings, cancellings and poppings does to a wheel what the document says, in its order: at every list of deeds of which the reading's bulk is at most 1048576. -/
import Derived.Test.YtdgffilnefnjjaaTq8
import Derived.Test.YtdgffilnefnjjaaAbLaw
namespace Go.Proofs.Ytdgffilnefnjjaa.TimersPlays
open Go.ChangeShapes Go.WideShapes Go.ChangeAt Go.RowKit Go.Proofs.Ytdgffilnefnjjaa.Ab

theorem params : Try.f6.params = #[43] := by kernel_rfl
theorem underI : Try.prog.underlying 3 = some (.int .i64) := by kernel_rfl
theorem underL : Try.prog.underlying 43 = some (.slice 51) := by kernel_rfl
theorem cellsO : Try.prog.cellsOf 51 = 3 := by kernel_rfl
theorem fieldsO : ∃ fs : Array Field, Try.prog.underlying 51 = some (.struct fs) ∧ fs.toList.map (·.type) = [3, 3, 3] := by
  refine ⟨match Try.prog.underlying 51 with | some (.struct fs) => fs | _ => #[], by kernel_rfl, by kernel_rfl⟩

theorem ops {g : Nat → Option AObj} : ∀ {n : Nat} {ss : List SV} {b : Nat}, RdL Try.prog g 51 ss n b → ∃ l : List T, ss = tcells l ∧ l.length = n
  | 0, _, _, h => by
    obtain ⟨rfl, rfl⟩ := rdL_nil h
    exact ⟨[], rfl, rfl⟩
  | n + 1, _, _, h => by
    obtain ⟨s1, s2, b1, b2, rfl, rfl, h1, h2⟩ := rdL_cons h
    obtain ⟨fs, hf1, hf2⟩ := fieldsO
    obtain ⟨c, rfl, h3⟩ := rd_struct hf1 h1
    rw [hf2] at h3
    obtain ⟨x1, r1, c1, d1, rfl, rfl, k1, h3⟩ := rdF_cons h3
    obtain ⟨x2, r2, c2, d2, rfl, rfl, k2, h3⟩ := rdF_cons h3
    obtain ⟨x3, r3, c3, d3, rfl, rfl, k3, h3⟩ := rdF_cons h3
    obtain ⟨rfl, rfl⟩ := rdF_nil h3
    obtain ⟨p, rfl, _⟩ := rd_int underI k1
    obtain ⟨q, rfl, _⟩ := rd_int underI k2
    obtain ⟨r, rfl, _⟩ := rd_int underI k3
    obtain ⟨l, rfl, h4⟩ := ops h2
    exact ⟨⟨p, q, r⟩ :: l, rfl, by simp [h4]⟩

theorem run (σ : AHeap) (avs : List AV) (b : Nat) (h : RdA Try.prog σ.get Try.f6.params.toList avs b) (hb : b ≤ 1048576) : ∃ n σ', evCall D3 n 6 avs σ = some (.one (.bool true), σ') := by
  rw [params] at h
  obtain ⟨s, l, b1, b2, rfl, rfl, h1, h⟩ := rdA_one (by kernel_rfl) h
  obtain rfl := rdA_nil h
  have hp : ∃ l, Ops σ (.one s) l ∧ l.length + 1 ≤ 1048576 := by
    rcases rd_slice underL h1 with h4 | ⟨id, len, c, cap, cells, h4, rfl, hg, hl⟩
    · cases h4
      exact ⟨[], .inl ⟨rfl, rfl⟩, by simp⟩
    · cases h4
      have hle := hl.le
      obtain ⟨l, rfl, rfl⟩ := ops hl
      rw [cellsO]
      exact ⟨l, .inr ⟨id, cap, rfl, hg⟩, by omega⟩
  obtain ⟨l, hp, hl⟩ := hp
  obtain ⟨v, σ', he, rfl⟩ := run6 σ (.one s) l hp hl (l.length + 100) (Nat.le_refl _)
  exact ⟨_, σ', he⟩

set_option maxRecDepth 100000 in
theorem lifted (os : Os) (started : os.Started) (H : Type) (enc : TypeId × Value → H) (F : Stop.Interp) :
    ReturnsInHanded {} Try.checked os 6 .any ((Rows.OpenSpec.upto Rows.timersPlaysSpec).pre6 enc Try.prog Try.f6 Rows.timersPlaysUptoRow.domain false) (((Rows.OpenSpec.upto Rows.timersPlaysSpec).at F).post enc Try.prog Try.f6 false true false false) := by
  refine returnsInHanded_of_cond (C := Try.checked) (s := Rows.OpenSpec.upto Rows.timersPlaysSpec) (k := Rows.uptoSmall) rfl ownKn started (by kernel_rfl) Try.func6
    (OpenSpec.witness (enc := enc) (C := Try.checked) (s := Rows.OpenSpec.upto Rows.timersPlaysSpec) (k := Rows.uptoSmall) rfl false ⟨#[], #[.slice none 0 0], []⟩ 8 (by kernel_rfl) (by kernel_rfl) (by kernel_rfl)
      (x := ([.nil], [], [])) (by kernel_rfl) rfl (by kernel_rfl)) ?_
  intro W base args ds gs before hval hW _ hk _
  have hk' : Rows.uptoBulkAll (ds ++ gs) ≤ 1048576 := of_decide_eq_true hk
  exact law_contract D3_good (T := [43, 51, 3]) (tb := 4) (by kernel_rfl) (by kernel_rfl) laidOut (by kernel_rfl) Try.underlying4 rfl
    (fun H ds hds => by
      have hds : ds.length = 1 := hds
      match ds, hds with
      | [d], _ => rfl)
    run H enc W base args ds gs before hval hW hk'

theorem proved : Rows.TimersPlaysUptoSaid :=
  OpenClaim.holds_of_cond 6 Try.f6 rfl rfl rfl rfl rfl rfl rfl ⟨rfl, rfl, rfl, rfl, rfl⟩ rfl rfl rfl rfl rfl (by kernel_rfl) Try.func6 (by kernel_rfl)
    (of_decide_eq_true (by kernel_rfl)) (by unfold Func.isWrapper; first | (rw [if_pos (by decide +kernel)]; kernel_rfl) | (rw [if_neg (by decide +kernel)]; exact ⟨rfl, rfl⟩))
    (fun os started H enc _ F => lifted os started H enc F)
#print axioms proved
end Go.Proofs.Ytdgffilnefnjjaa.TimersPlays
