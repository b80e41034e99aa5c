/- Which views may be, over so many columns: at every view of which the reading's bulk is at most 1048576, and any number of columns. -/
import Derived.Test.YthjijjkoeoemgaaCt2
namespace Go.Proofs.Ythjijjkoeoemgaa.Ab
open Go
set_option maxRecDepth 20000
set_option maxHeartbeats 4000000
set_option linter.unusedSimpArgs false
theorem awake_runs : saysTrue (evCall plainC 60 9 [] emptyH) = true := by kernel_rfl
theorem ok9 : PrimOk Try.prog 9 (pBool true) := primOk_closed plainC_good awake_runs
noncomputable def pCheck : Prim := fun args σ => match args with
  | [.agg [.int .i64 k, .int .i64 N, s, .bool d], .one (.int .i64 n)] => match slInts σ (.one s) with
    | some l => some (.one (.int .i64 (errV k N l d n)), σ)
    | none => none
  | _ => none
theorem ok7 : PrimOk Try.prog 7 pCheck := primOk_pure plainC_good fun args σ v σ' h => by
  unfold pCheck at h
  split at h
  · rename_i k N s d n
    split at h
    · rename_i l hl
      cases h
      exact ⟨rfl, rfl, _, run7 σ s l k N n d (idxP_of hl) (l.length + 30) (Nat.le_refl _)⟩
    · cases h
  · cases h
theorem ok8 : PrimOk Try.prog 8 pCheck := primOk_pure plainC_good fun args σ v σ' h => by
  unfold pCheck at h
  split at h
  · rename_i k N s d n
    split at h
    · rename_i l hl
      cases h
      exact ⟨rfl, rfl, _, run8 σ s l k N n d (idxP_of hl) (l.length + 30) (Nat.le_refl _)⟩
    · cases h
  · cases h
noncomputable def E1 : Ctx := ((plainC.lay 7 pCheck).lay 8 pCheck).lay 9 (pBool true)
theorem E1_good : E1.Good Try.prog := Ctx.lay_good (Ctx.lay_good (Ctx.lay_good plainC_good ok7) ok8) ok9
theorem E1_code (f : Nat) : E1.code f = codeOf f := by kernel_rfl
theorem E1_7 (n : Nat) (args : List AV) (σ : AHeap) : evCall E1 (n + 1) 7 args σ = pCheck args σ := evCall_prim (by kernel_rfl) _ _ _
theorem E1_8 (n : Nat) (args : List AV) (σ : AHeap) : evCall E1 (n + 1) 8 args σ = pCheck args σ := evCall_prim (by kernel_rfl) _ _ _
theorem E1_9 (n : Nat) (args : List AV) (σ : AHeap) : evCall E1 (n + 1) 9 args σ = pBool true args σ := evCall_prim (by kernel_rfl) _ _ _
theorem slInts_keeps {σ τ : AHeap} (hk : Keeps σ τ) {s : AV} {l : List Int} (h : slInts σ s = some l) : slInts τ s = some l := by
  unfold slInts at h ⊢
  split at h
  · exact h
  · rename_i id off e len cap
    split at h
    · rename_i l' he hr
      by_cases hid : id < σ.size
      · rw [hk.2 id hid, he, hr]
        exact h
      · have : σ.get id = none := AHeap.get_ge (by omega)
        rw [this] at hr
        cases len with
        | zero =>
          simp only [rdList, Option.some.injEq] at hr
          subst hr
          rw [he]
          simp only [rdList]
          exact h
        | succ n => simp [rdList, rd] at hr
    · cases h
  · cases h
theorem run3 (σ : AHeap) (s : SV) (l : List Int) (k N n : Int) (d : Bool) (hl : slInts σ (.one s) = some l) :
    OptP (evCall E1 9 3 [.agg [.int .i64 k, .int .i64 N, s, .bool d], .one (.int .i64 n)] σ) (fun _ v _ => v = .one (.bool true)) := by
  refine evCall_code (by kernel_rfl) ((E1_code 3).trans code3) ?_
  have hl2 := slInts_keeps (Keeps.alloc (o := ⟨[.int .i64 k, .int .i64 N, s, .bool d], .own⟩) (Keeps.refl σ)) hl
  have hp : pCheck [.agg [.int .i64 k, .int .i64 N, s, .bool d], .one (.int .i64 n)] (σ.alloc ⟨[.int .i64 k, .int .i64 N, s, .bool d], .own⟩) = some (.one (.int .i64 (errV k N l d n)), σ.alloc ⟨[.int .i64 k, .int .i64 N, s, .bool d], .own⟩) := by
    unfold pCheck
    simp only [hl2]
  generalize errV k N l d n = e at hp
  have hsame : SV.same s s = true := by
    rcases slInts_spec hl with ⟨h, _⟩ | ⟨id, off, cap, h, _⟩
    · cases h; rfl
    · cases h; simp [SV.same]
  simp (maxDischargeDepth := 99) [c3]
  refine ends_draw ?_
  simp (maxDischargeDepth := 99) [-SV.same, E1_7, E1_8, E1_9, hp, pBool, sameCells, hsame]
  simp [SV.same]
end Go.Proofs.Ythjijjkoeoemgaa.Ab
namespace Go.Proofs.Ythjijjkoeoemgaa.ContentChecks
open Go.ChangeShapes Go.WideShapes Go.ChangeAt Go.RowKit Go.Proofs.Ythjijjkoeoemgaa.Ab

theorem params : Try.f3.params = #[24, 3] := by kernel_rfl
theorem underI : Try.prog.underlying 3 = some (.int .i64) := by kernel_rfl
theorem underB : Try.prog.underlying 4 = some .bool := by kernel_rfl
theorem underL : Try.prog.underlying 22 = some (.slice 3) := by kernel_rfl
theorem cellsI : Try.prog.cellsOf 3 = 1 := by kernel_rfl
theorem fieldsV : ∃ fs : Array Field, Try.prog.underlying 24 = some (.struct fs) ∧ fs.toList.map (·.type) = [3, 3, 22, 4] := by
  refine ⟨match Try.prog.underlying 24 with | some (.struct fs) => fs | _ => #[], by kernel_rfl, by kernel_rfl⟩

theorem run (σ : AHeap) (avs : List AV) (b : Nat) (h : RdA Try.prog σ.get Try.f3.params.toList avs b) (hb : b ≤ 1048576) : ∃ n σ', evCall E1 n 3 avs σ = some (.one (.bool true), σ') := by
  rw [params] at h
  obtain ⟨ss, l, b1, b2, rfl, rfl, h1, h⟩ := rdA_agg (by kernel_rfl) h
  obtain ⟨s2, l2, b3, b4, rfl, rfl, h2, h⟩ := rdA_one (by kernel_rfl) h
  obtain rfl := rdA_nil h
  obtain ⟨fs, hf1, hf2⟩ := fieldsV
  obtain ⟨c, rfl, h3⟩ := rd_struct hf1 h1
  rw [hf2] at h3
  obtain ⟨x1, r1, c1, d1, rfl, rfl, k1, h3⟩ := rdF_cons h3
  obtain ⟨x2, r2, c2, d2, rfl, rfl, k2, h3⟩ := rdF_cons h3
  obtain ⟨x3, r3, c3, d3, rfl, rfl, k3, h3⟩ := rdF_cons h3
  obtain ⟨x4, r4, c4, d4, rfl, rfl, k4, h3⟩ := rdF_cons h3
  obtain ⟨rfl, rfl⟩ := rdF_nil h3
  obtain ⟨k, rfl, _⟩ := rd_int underI k1
  obtain ⟨N, rfl, _⟩ := rd_int underI k2
  obtain ⟨d, rfl⟩ := rd_bool underB k4
  obtain ⟨n, hn, _⟩ := rd_int underI h2
  cases hn
  have hs : ∃ s, x3 = [s] := by
    rcases rd_slice underL k3 with e | ⟨id, len, c, cap, cells, e, _⟩
    · exact ⟨_, e⟩
    · exact ⟨_, e⟩
  obtain ⟨s, rfl⟩ := hs
  obtain ⟨l, hl, _⟩ := rd_slInts underL underI cellsI k3 (by omega)
  obtain ⟨v, σ', he, rfl⟩ := run3 σ s l k N n d hl
  exact ⟨_, σ', he⟩

set_option maxRecDepth 100000 in
theorem lifted (os : Os) (started : os.Started) (H : Type) (enc : TypeId × Value → H) (F : Stop.Interp) :
    ReturnsInHanded {} Try.checked os 3 .any ((Rows.OpenSpec.upto Rows.contentChecksSpec).pre6 enc Try.prog Try.f3 Rows.contentChecksUptoRow.domain false) (((Rows.OpenSpec.upto Rows.contentChecksSpec).at F).post enc Try.prog Try.f3 false true false false) := by
  refine returnsInHanded_of_cond (C := Try.checked) (s := Rows.OpenSpec.upto Rows.contentChecksSpec) (k := Rows.uptoSmall) rfl ownKn started (by kernel_rfl) Try.func3
    (OpenSpec.witness (enc := enc) (C := Try.checked) (s := Rows.OpenSpec.upto Rows.contentChecksSpec) (k := Rows.uptoSmall) rfl false ⟨#[], #[.agg #[.int .i64 0, .int .i64 0, .slice none 0 0, .bool false], .int .i64 0], []⟩ 8 (by kernel_rfl) (by kernel_rfl) (by kernel_rfl)
      (x := ([.agg [.lit (.int .i64 0), .lit (.int .i64 0), .nil, .lit (.bool false)], .lit (.int .i64 0)], [], [])) (by kernel_rfl) rfl (by kernel_rfl)) ?_
  intro W base args ds gs before hval hW _ hk _
  have hk' : Rows.uptoBulkAll (ds ++ gs) ≤ 1048576 := of_decide_eq_true hk
  exact law_contract E1_good (T := [24, 22, 3, 4]) (tb := 4) (by kernel_rfl) (by kernel_rfl) laidOut (by kernel_rfl) Try.underlying4 rfl
    (fun H ds hds => by
      have hds : ds.length = 2 := hds
      match ds, hds with
      | [d, e], _ => rfl)
    run H enc W base args ds gs before hval hW hk'

theorem proved : Rows.ContentChecksUptoSaid :=
  OpenClaim.holds_of_cond 3 Try.f3 rfl rfl rfl rfl rfl rfl rfl ⟨rfl, rfl, rfl, rfl, rfl⟩ rfl rfl rfl rfl rfl (by kernel_rfl) Try.func3 (by kernel_rfl)
    (of_decide_eq_true (by kernel_rfl)) (by unfold Func.isWrapper; first | (rw [if_pos (by decide +kernel)]; kernel_rfl) | (rw [if_neg (by decide +kernel)]; exact ⟨rfl, rfl⟩))
    (fun os started H enc _ F => lifted os started H enc F)
#print axioms proved
end Go.Proofs.Ythjijjkoeoemgaa.ContentChecks
