/- Sums, averages and counts hang on no order of the values: at every list of values of which the reading's bulk is at most 1048576, distinct or not. -/
import Derived.Test.YtdgffilnefnjjaaAggsTurnW
import Derived.Test.YtdgffilnefnjjaaAggsVal
namespace Go.Proofs.Ytdgffilnefnjjaa.AggsTurned
open Go.ChangeShapes Go.WideShapes Go.ChangeAt Go.RowKit Go.Proofs.Ytdgffilnefnjjaa.Ab

theorem params : Try.f3.params = #[22, 4] := by kernel_rfl
theorem underB : Try.prog.underlying 4 = some .bool := by kernel_rfl
theorem underI : Try.prog.underlying 3 = some (.int .i64) := by kernel_rfl
theorem underS : Try.prog.underlying 9 = some .string := by kernel_rfl
theorem underL : Try.prog.underlying 22 = some (.slice 24) := by kernel_rfl
theorem cellsV : Try.prog.cellsOf 24 = 3 := by kernel_rfl
theorem fieldsV : ∃ fs : Array Field, Try.prog.underlying 24 = some (.struct fs) ∧ fs.toList.map (·.type) = [3, 3, 9] := by
  refine ⟨match Try.prog.underlying 24 with | some (.struct fs) => fs | _ => #[], by kernel_rfl, by kernel_rfl⟩

theorem run (σ : AHeap) (avs : List AV) (b : Nat) (h : RdA Try.prog σ.get Try.f3.params.toList avs b) (hb : b ≤ 1048576) : ∃ n σ', evCall C26 n 3 avs σ = some (.one (.bool true), σ') := by
  rw [params] at h
  obtain ⟨s, l, b1, b2, rfl, rfl, h1, h⟩ := rdA_one (by kernel_rfl) h
  obtain ⟨s2, l2, b3, b4, rfl, rfl, h2, h⟩ := rdA_one (by kernel_rfl) h
  obtain rfl := rdA_nil h
  obtain ⟨fs, hf1, hf2⟩ := fieldsV
  obtain ⟨l, hl, hin, _, _⟩ := rd_slVals underL hf1 hf2 underI underS cellsV h1 (by omega)
  obtain ⟨d, hd⟩ := rd_bool underB h2
  cases hd
  obtain ⟨v, σ', he, rfl⟩ := run3 σ (.one s) d l hl hin
  exact ⟨_, σ', he⟩

set_option maxRecDepth 100000 in
theorem lifted (os : Os) (started : os.Started) (H : Type) (enc : TypeId × Value → H) (F : Stop.Interp) :
    ReturnsInHanded {} Try.checked os 3 .any ((Rows.OpenSpec.upto Rows.aggsTurnedSpec).pre6 enc Try.prog Try.f3 Rows.aggsTurnedUptoRow.domain false) (((Rows.OpenSpec.upto Rows.aggsTurnedSpec).at F).post enc Try.prog Try.f3 false true false false) := by
  refine returnsInHanded_of_cond (C := Try.checked) (s := Rows.OpenSpec.upto Rows.aggsTurnedSpec) (k := Rows.uptoSmall) rfl ownKn started (by kernel_rfl) Try.func3
    (OpenSpec.witness (enc := enc) (C := Try.checked) (s := Rows.OpenSpec.upto Rows.aggsTurnedSpec) (k := Rows.uptoSmall) rfl false ⟨#[], #[.slice none 0 0, .bool false], []⟩ 8 (by kernel_rfl) (by kernel_rfl) (by kernel_rfl)
      (x := ([.nil, .lit (.bool false)], [], [])) (by kernel_rfl) rfl (by kernel_rfl)) ?_
  intro W base args ds gs before hval hW _ hk _
  have hk' : Rows.uptoBulkAll (ds ++ gs) ≤ 1048576 := of_decide_eq_true hk
  exact law_contract C26_good (T := [22, 24, 4, 3, 9]) (tb := 4) (by kernel_rfl) (by kernel_rfl) laidOut (by kernel_rfl) Try.underlying4 rfl
    (fun H ds hds => by
      have hds : ds.length = 2 := hds
      match ds, hds with
      | [d, e], _ => rfl)
    run H enc W base args ds gs before hval hW hk'

theorem proved : Rows.AggsTurnedUptoSaid :=
  OpenClaim.holds_of_cond 3 Try.f3 rfl rfl rfl rfl rfl rfl rfl ⟨rfl, rfl, rfl, rfl, rfl⟩ rfl rfl rfl rfl rfl (by kernel_rfl) Try.func3 (by kernel_rfl)
    (of_decide_eq_true (by kernel_rfl)) (by unfold Func.isWrapper; first | (rw [if_pos (by decide +kernel)]; kernel_rfl) | (rw [if_neg (by decide +kernel)]; exact ⟨rfl, rfl⟩))
    (fun os started H enc _ F => lifted os started H enc F)
#print axioms proved
end Go.Proofs.Ytdgffilnefnjjaa.AggsTurned
