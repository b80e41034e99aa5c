/- Strings compared, the first that is not zero, numbers compared, values compared. -/
import Derived.Test.YtdgffilnefnjjaaAggs1
import Derived.Lib.Strings
import Derived.Lib.Slices
import Derived.Lib.Walk
import Derived.Lib.Bytealg
namespace Go.Proofs.Ytdgffilnefnjjaa.Ab
open Go
set_option maxRecDepth 20000
set_option maxHeartbeats 4000000
set_option linter.unusedSimpArgs false

/-! ### internal/bytealg.CompareString: the model's own entry -/
theorem walk91 (a b : ByteArray) (w : World) :
    Calls Try.prog 91 #[.string a, .string b] w fun e w' => e = .returned (.int .i64 (Lib.compareBytes a.data.toList b.data.toList)) ∧ w' = w := by
  go_enter Try.func91, Try.ntmps91
  go_wp2
  rw [run_callFunc_extern Try.func98 (by kernel_rfl) (by kernel_rfl) (by kernel_rfl) (e := Extern.BytealgCompare.compare) (by kernel_rfl), Lib.run_compareString]
  simp only [Result.andThen]
  rw [Oper.upon_value]
  go_wp2
  go_ret
  exact ⟨rfl, rfl⟩
def p91 : Prim := fun args σ => match args with
  | [.one (.str a), .one (.str b)] => some (.one (.int .i64 (Lib.compareBytes a b)), σ)
  | _ => none
theorem ok91 : PrimOk Try.prog 91 p91 := by
  intro args σ v σ' h
  unfold p91 at h
  split at h
  · rename_i a b
    cases h
    refine ⟨⟨_, Try.func91, by decide +kernel, by kernel_rfl⟩, fun ρ w vs hv hr => ?_⟩
    cases hv with
    | cons h1 t =>
      cases t with
      | cons h2 t =>
        cases t with
        | nil =>
          cases h1 with
          | one h1 =>
            cases h1
            cases h2 with
            | one h2 =>
              cases h2
              refine (walk91 _ _ w).mono ?_
              rintro e w' ⟨rfl, rfl⟩
              exact ⟨_, ρ, rfl, Post.refl hr, .one (.int _ _)⟩
  · cases h
noncomputable def C4 : Ctx := C3.lay 91 p91
theorem C4_good : C4.Good Try.prog := Ctx.lay_good C3_good ok91

/-! ### strings.Compare -/
theorem ok74 : PrimOk Try.prog 74 p91 := primOk_pure C4_good fun args σ v σ' h => by
  unfold p91 at h
  split at h
  · cases h
    refine ⟨rfl, rfl, 3, evCall_code rfl code74 ?_⟩
    have hp : ∀ n args σ, evCall C4 (n + 1) 91 args σ = p91 args σ := evCall_prim rfl
    simp [c74, hp, p91]
  · cases h
noncomputable def C5 : Ctx := C4.lay 74 p91
theorem C5_good : C5.Good Try.prog := Ctx.lay_good C4_good ok74

/-! ### cmp.Or of ints -/
def orZ : List Int → Int
  | [] => 0
  | a :: l => if a = 0 then orZ l else a
def intsOf : List AV → Option (List Int)
  | [] => some []
  | .one (.int .i64 n) :: l => match intsOf l with
    | some r => some (n :: r)
    | none => none
  | _ => none
theorem intsOf_spec : ∀ {l : List AV} {r : List Int}, intsOf l = some r → l = r.map fun n => .one (.int .i64 n)
  | [], r, h => by simp [intsOf] at h; subst h; rfl
  | a :: l, r, h => by
    unfold intsOf at h
    split at h
    · rename_i he; cases he
    · rename_i n l' he
      cases he
      split at h
      · rename_i r' hr
        cases h
        simp [intsOf_spec hr]
      · cases h
    · cases h
/-- The ints of a slice. -/
def slInts (σ : AHeap) : AV → Option (List Int)
  | .one .nilSlice => some []
  | .one (.slice id off e len _) => match Nat.beq e 1 && Nat.ble len maxElems, rdList (σ.get id) none 1 off len with
    | true, some l => intsOf l
    | _, _ => none
  | _ => none
theorem slInts_spec {σ : AHeap} {s : AV} {l : List Int} (h : slInts σ s = some l) : (s = .one .nilSlice ∧ l = []) ∨
    ∃ id off cap, s = .one (.slice id off 1 l.length cap) ∧ (∀ i (h : i < l.length), rd (σ.get id) none (off + i) = some (.one (.int .i64 l[i]))) ∧ l.length ≤ maxElems := by
  unfold slInts at h
  split at h
  · cases h; exact .inl ⟨rfl, rfl⟩
  · rename_i id off e len cap
    split at h
    · rename_i l' he hr
      obtain ⟨k1, k2⟩ := rdList_spec hr
      have := intsOf_spec h
      subst this
      simp at he
      obtain ⟨rfl, hm⟩ := he
      simp only [List.length_map] at k1
      subst k1
      refine .inr ⟨id, off, cap, rfl, fun i hi => ?_, hm⟩
      have := k2 i (by simpa using hi)
      simpa using this
    · cases h
  · cases h

def p73 : Prim := fun args σ => match args with
  | [s] => match slInts σ s with
    | some l => some (.one (.int .i64 (orZ l)), σ)
    | none => none
  | _ => none
theorem ok73 : PrimOk Try.prog 73 p73 := primOk_pure C5_good fun args σ v σ' h => by
  unfold p73 at h
  split at h
  · rename_i s
    split at h
    · rename_i l hl
      cases h
      refine ⟨rfl, rfl, l.length + 4, evCall_code rfl code73 ?_⟩
      rcases slInts_spec hl with ⟨rfl, rfl⟩ | ⟨id, off, cap, rfl, hr, hm⟩
      · simp [c73]
        refine ends_loop (I := fun k fr σ1 => k = 0 ∧ σ1 = σ ∧ fr.length = 18 ∧ getSlot fr 7 = .one (.int .i64 0) ∧ getSlot fr 8 = .one (.int .i64 0) ∧ getSlot fr 3 = .one (.int .i64 0)) ?_ (k := 0) ?_ (by omega)
        · rintro k fr σ1 ⟨rfl, rfl, hlen, h7, h8, h3⟩
          simp [c73_0, hlen, h7, h8, h3, orZ]
        · simp
      · simp [c73]
        refine ends_loop (I := fun k fr σ1 => ∃ i, k = l.length - i ∧ i ≤ l.length ∧ σ1 = σ ∧ fr.length = 18 ∧ getSlot fr 6 = .one (.slice id off 1 l.length cap) ∧ getSlot fr 7 = .one (.int .i64 l.length) ∧
          getSlot fr 8 = .one (.int .i64 i) ∧ getSlot fr 3 = .one (.int .i64 0) ∧ orZ (l.drop i) = orZ l) ?_ (k := l.length) ?_ (by omega)
        · rintro k fr σ1 ⟨i, rfl, hi, rfl, hlen, h6, h7, h8, h3, ho⟩
          by_cases hlt : i < l.length
          · have hd : l.drop i = l[i] :: l.drop (i + 1) := List.drop_eq_getElem_cons hlt
            have hw := wr_next hlt hm
            rw [hd] at ho
            by_cases hz : l[i] = 0
            · simp [c73_0, hlen, h6, h7, h8, h3, hlt, hr i hlt, hz, hw]
              simp [orZ, hz] at ho
              exact ⟨l.length - (i + 1), by omega, i + 1, rfl, by omega, by omega, ho⟩
            · simp [c73_0, hlen, h6, h7, h8, h3, hlt, hr i hlt, hz]
              simpa [orZ, hz] using ho
          · simp [c73_0, hlen, h6, h7, h8, h3, hlt]
            rw [List.drop_of_length_le (by omega)] at ho
            exact ho
        · exact ⟨0, by simp⟩
    · cases h
  · cases h
end Go.Proofs.Ytdgffilnefnjjaa.Ab
