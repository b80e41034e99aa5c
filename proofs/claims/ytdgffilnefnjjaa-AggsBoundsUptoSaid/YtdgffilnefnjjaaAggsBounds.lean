/- The average of whole numbers lies between the least and the greatest; the sum is what they add up to: at every list of ints of which the reading's bulk is at most 1048576. -/
import Derived.Test.YtdgffilnefnjjaaAggsBndW
import Derived.Test.YtdgffilnefnjjaaAbLaw
namespace Go.Proofs.Ytdgffilnefnjjaa.AggsBounds
open Go.ChangeShapes Go.WideShapes Go.ChangeAt Go.RowKit Go.Proofs.Ytdgffilnefnjjaa.Ab

theorem params : Try.f4.params = #[33] := by kernel_rfl

theorem under : Try.prog.underlying 33 = some (.slice 3) := by kernel_rfl
theorem underI : Try.prog.underlying 3 = some (.int .i64) := by kernel_rfl
theorem cells1 : Try.prog.cellsOf 3 = 1 := by kernel_rfl

theorem intsOf_map : ∀ l : List Int, intsOf ((l.map (SV.int .i64)).map AV.one) = some l
  | [] => rfl
  | n :: l => by
    have := intsOf_map l
    simp only [List.map_cons, intsOf, this]

theorem run (σ : AHeap) (avs : List AV) (b : Nat) (h : RdA Try.prog σ.get Try.f4.params.toList avs b) (hb : b ≤ 1048576) : ∃ n σ', evCall C27 n 4 avs σ = some (.one (.bool true), σ') := by
  rw [params] at h
  obtain ⟨s, l, b1, b2, rfl, rfl, h1, h2⟩ := rdA_one (by kernel_rfl) h
  obtain rfl := rdA_nil h2
  have hsl : ∃ l, slInts σ (.one s) = some l ∧ l.length ≤ maxElems := by
    rcases rd_slice under h1 with h3 | ⟨id, len, c, cap, cells, h3, rfl, hg, hl⟩
    · cases h3
      exact ⟨[], rfl, Nat.zero_le _⟩
    · cases h3
      obtain ⟨l, hlen, rfl, _⟩ := rdL_ints underI hl
      have hle := hl.le
      have hmx : l.length ≤ maxElems := by unfold maxElems; omega
      have hrd := rdList_one .ro (.inr rfl) (l.map (SV.int .i64)) [] []
      simp only [List.nil_append, List.append_nil, List.length_nil, List.length_map] at hrd
      subst hlen
      refine ⟨l, ?_, hmx⟩
      have h7 := intsOf_map l
      simp only [slInts, cells1, hg, hrd]
      simp [hmx]
      simpa using h7
  obtain ⟨l, hl, hm⟩ := hsl
  obtain ⟨v, σ', he, rfl⟩ := run4 σ (.one s) l hl hm
  exact ⟨_, σ', he⟩

set_option maxRecDepth 100000 in
theorem lifted (os : Os) (started : os.Started) (H : Type) (enc : TypeId × Value → H) (F : Stop.Interp) :
    ReturnsInHanded {} Try.checked os 4 .any ((Rows.OpenSpec.upto Rows.aggsBoundsSpec).pre6 enc Try.prog Try.f4 Rows.aggsBoundsUptoRow.domain false) (((Rows.OpenSpec.upto Rows.aggsBoundsSpec).at F).post enc Try.prog Try.f4 false true false false) := by
  refine returnsInHanded_of_cond (C := Try.checked) (s := Rows.OpenSpec.upto Rows.aggsBoundsSpec) (k := Rows.uptoSmall) rfl ownKn started (by kernel_rfl) Try.func4
    (OpenSpec.witness (enc := enc) (C := Try.checked) (s := Rows.OpenSpec.upto Rows.aggsBoundsSpec) (k := Rows.uptoSmall) rfl false ⟨#[], #[.slice none 0 0], []⟩ 8 (by kernel_rfl) (by kernel_rfl) (by kernel_rfl)
      (x := ([.nil], [], [])) (by kernel_rfl) rfl (by kernel_rfl)) ?_
  intro W base args ds gs before hval hW _ hk _
  have hk' : Rows.uptoBulkAll (ds ++ gs) ≤ 1048576 := of_decide_eq_true hk
  exact law_contract C27_good (T := [33, 3]) (tb := 4) (by kernel_rfl) (by kernel_rfl) laidOut (by kernel_rfl) Try.underlying4 rfl
    (fun H ds hds => by
      have hds : ds.length = 1 := hds
      match ds, hds with
      | [d], _ => rfl)
    run H enc W base args ds gs before hval hW hk'

theorem proved : Rows.AggsBoundsUptoSaid :=
  OpenClaim.holds_of_cond 4 Try.f4 rfl rfl rfl rfl rfl rfl rfl ⟨rfl, rfl, rfl, rfl, rfl⟩ rfl rfl rfl rfl rfl (by kernel_rfl) Try.func4 (by kernel_rfl)
    (of_decide_eq_true (by kernel_rfl)) (by unfold Func.isWrapper; first | (rw [if_pos (by decide +kernel)]; kernel_rfl) | (rw [if_neg (by decide +kernel)]; exact ⟨rfl, rfl⟩))
    (fun os started H enc _ F => lifted os started H enc F)
#print axioms proved
end Go.Proofs.Ytdgffilnefnjjaa.AggsBounds
