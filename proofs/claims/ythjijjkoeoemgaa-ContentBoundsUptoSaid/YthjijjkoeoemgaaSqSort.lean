/- The library's SortFunc at arrivals, by their numbers: laid as one step. -/
import Derived.Test.YthjijjkoeoemgaaSqPlain
import Derived.Test.YthjijjkoeoemgaaPostRow
import Derived.WalkKit
import Derived.Sort.Grow
import Derived.Deep.Draws
import Derived.Shelf.SlSortCmp.WholeK
import Derived.Ground.SlsfProg
namespace Go.Proofs
open Go.Shelf Go.RowKit Go.Lib Go.Sort
def Try.sortA_ren : Go.Shelf.Ren := ⟨fun | 6 => 61 | 15 => 71 | 14 => 70 | 28 => 84 | 29 => 85 | 20 => 72 | 21 => 77 | 22 => 78 | 23 => 79 | 24 => 80 | 25 => 81 | 26 => 82 | 27 => 83 | 46 => 88 | 47 => 89 | 48 => 90 | 49 => 91 | 50 => 92 | 57 => 94 | n => n, fun | 22 => 31 | 24 => 40 | 25 => 79 | 3 => 3 | 39 => 74 | 0 => 0 | 53 => 98 | 55 => 100 | 4 => 4 | 46 => 92 | 45 => 91 | 50 => 41 | 5 => 5 | 9 => 9 | 66 => 101 | 70 => 105 | 76 => 107 | 77 => 108 | n => n, fun | n => n⟩
theorem Try.sortA : Go.Proofs.SlLaysF0.n6 Try.prog Try.sortA_ren := {
  mixed := by kernel_rfl
  f6 := ⟨Try.f61.name, by decide, Try.func61.trans (congrArg some (by kernel_rfl))⟩
  f14 := ⟨Try.f70.name, by decide, Try.func70.trans (congrArg some (by kernel_rfl))⟩
  f15 := Try.func71.trans (congrArg some (by kernel_rfl))
  f20 := ⟨Try.f72.name, by decide, Try.func72.trans (congrArg some (by kernel_rfl))⟩
  f21 := ⟨Try.f77.name, by decide, Try.func77.trans (congrArg some (by kernel_rfl))⟩
  f22 := ⟨Try.f78.name, by decide, Try.func78.trans (congrArg some (by kernel_rfl))⟩
  f23 := ⟨Try.f79.name, by decide, Try.func79.trans (congrArg some (by kernel_rfl))⟩
  f24 := ⟨Try.f80.name, by decide, Try.func80.trans (congrArg some (by kernel_rfl))⟩
  f25 := ⟨Try.f81.name, by decide, Try.func81.trans (congrArg some (by kernel_rfl))⟩
  f26 := ⟨Try.f82.name, by decide, Try.func82.trans (congrArg some (by kernel_rfl))⟩
  f27 := ⟨Try.f83.name, by decide, Try.func83.trans (congrArg some (by kernel_rfl))⟩
  f28 := Try.func84.trans (congrArg some (by kernel_rfl))
  f29 := Try.func85.trans (congrArg some (by kernel_rfl))
  f46 := ⟨Try.f88.name, by decide, Try.func88.trans (congrArg some (by kernel_rfl))⟩
  f47 := Try.func89.trans (congrArg some (by kernel_rfl))
  f48 := Try.func90.trans (congrArg some (by kernel_rfl))
  f49 := ⟨Try.f91.name, by decide, Try.func91.trans (congrArg some (by kernel_rfl))⟩
  f50 := ⟨Try.f92.name, by decide, Try.func92.trans (congrArg some (by kernel_rfl))⟩
  f57 := ⟨Try.f94.name, by decide, Try.func94.trans (congrArg some (by kernel_rfl))⟩
  t0 := Try.underlying0
  a0 := Try.isAgg0
  z0 := Try.sizeOf0
  v0 := Try.zeroValue0
  t3 := Try.underlying3
  a3 := Try.isAgg3
  z3 := Try.sizeOf3
  v3 := Try.zeroValue3
  t4 := Try.underlying4
  a4 := Try.isAgg4
  z4 := Try.sizeOf4
  v4 := Try.zeroValue4
  t5 := Try.underlying5
  a5 := Try.isAgg5
  z5 := Try.sizeOf5
  v5 := Try.zeroValue5
  t9 := Try.underlying9
  a9 := Try.isAgg9
  z9 := Try.sizeOf9
  v9 := Try.zeroValue9
  t22 := Try.underlying31
  a22 := Try.isAgg31
  z22 := Try.sizeOf31
  v22 := Try.zeroValue31
  t25 := Try.underlying79
  a25 := Try.isAgg79
  z25 := Try.sizeOf79
  v25 := Try.zeroValue79
  t39 := Try.underlying74
  a39 := Try.isAgg74
  z39 := Try.sizeOf74
  v39 := Try.zeroValue74
  t45 := Try.underlying91
  a45 := Try.isAgg91
  z45 := Try.sizeOf91
  v45 := Try.zeroValue91
  t46 := Try.underlying92
  a46 := Try.isAgg92
  z46 := Try.sizeOf92
  v46 := Try.zeroValue92
  t50 := Try.underlying41
  a50 := Try.isAgg41
  z50 := Try.sizeOf41
  v50 := Try.zeroValue41
  t53 := Try.underlying98
  a53 := Try.isAgg98
  z53 := Try.sizeOf98
  v53 := Try.zeroValue98
  t55 := Try.underlying100
  a55 := Try.isAgg100
  z55 := Try.sizeOf100
  v55 := Try.zeroValue100
  t66 := Try.underlying101
  a66 := Try.isAgg101
  z66 := Try.sizeOf101
  v66 := Try.zeroValue101
  t70 := Try.underlying105
  a70 := Try.isAgg105
  z70 := Try.sizeOf105
  v70 := Try.zeroValue105
  t76 := Try.underlying107
  a76 := Try.isAgg107
  z76 := Try.sizeOf107
  v76 := Try.zeroValue107
  t77 := Try.underlying108
  a77 := Try.isAgg108
  z77 := Try.sizeOf108
  v77 := Try.zeroValue108 }
end Go.Proofs
namespace Go.Proofs.Ythjijjkoeoemgaa.Ab
open Go Go.RowKit Go.Sort
set_option maxRecDepth 20000
set_option maxHeartbeats 4000000
set_option linter.unusedSimpArgs false
set_option linter.unusedVariables false

/-! ### the model's rows -/
structure E3 where
  a : Arr
  v : Value
  hb : 0 ≤ a.seq ∧ a.seq ≤ 1073741824
  hv : v.oneCell' = true
instance : Inhabited E3 := ⟨⟨a0, .bool true, by decide, rfl⟩⟩
def encE (e : E3) : List Value := [.int .i64 e.a.seq, .int .i64 e.a.time, e.v]
def cfE (x y : E3) : Int := x.a.seq - y.a.seq
theorem closure70 (x y : E3) (W : World) : Calls Try.prog 62 #[.agg #[.int .i64 x.a.seq, .int .i64 x.a.time, x.v], .agg #[.int .i64 y.a.seq, .int .i64 y.a.time, y.v]] W
    fun e w' => e = .returned (.int .i64 (cfE x y)) ∧ ∃ q os', w' = grow (W.drewN q) os' := by
  obtain ⟨x, v, hx, hv⟩ := x
  obtain ⟨y, u, hy, hu⟩ := y
  go_enter Try.func62, Try.ntmps62
  go_wp2
  go_ret
  exact ⟨rfl, 0, _, by rw [alloc_eq_grow, alloc_eq_grow, grow_grow]; rfl⟩

def evals : List E3 → List Value
  | [] => []
  | t :: l => encE t ++ evals l
theorem evals_rel {ρ : Loc} : ∀ (l : List E3), (∀ e ∈ l, SR ρ e.a.row e.v) → SRs ρ (acells (l.map E3.a)) (evals l)
  | [], _ => .nil
  | t :: l, h => .cons (.int _ _) (.cons (.int _ _) (.cons (h t (by simp)) (evals_rel l (fun e he => h e (by simp [he])))))
theorem evals_of {ρ : Loc} : ∀ (l : List Arr) {vs : List Value}, (∀ a ∈ l, 0 ≤ a.seq ∧ a.seq ≤ 1073741824) → SRs ρ (acells l) vs → ∃ es : List E3, es.map E3.a = l ∧ vs = evals es ∧ ∀ e ∈ es, SR ρ e.a.row e.v
  | [], _, _, h => by cases h; exact ⟨[], rfl, rfl, fun e he => by cases he⟩
  | t :: l, _, hb, h => by
    cases h with
    | cons a h => cases h with
      | cons b h => cases h with
        | cons c h =>
          cases a; cases b
          obtain ⟨es, h1, rfl, h3⟩ := evals_of l (fun x hx => hb x (by simp [hx])) h
          refine ⟨⟨t, _, hb t (by simp), c.oneCell⟩ :: es, by simp [h1], rfl, fun e he => ?_⟩
          rcases List.mem_cons.1 he with rfl | he
          · exact c
          · exact h3 e he
theorem evals_length : ∀ l, (evals l).length = l.length * 3
  | [] => rfl
  | t :: l => by simp [evals, encE, evals_length l]; omega
theorem flat_evals : ∀ (l : List E3) (t : Nat), t < l.length * 3 → (evals l)[t]? = some ((encE l[t / 3]!)[t % 3]!)
  | [], t, h => by simp at h
  | x :: l, t, h => by
    by_cases ht : t < 3
    · have : t = 0 ∨ t = 1 ∨ t = 2 := by omega
      rcases this with rfl | rfl | rfl <;> simp [evals, encE]
    · obtain ⟨u, rfl⟩ : ∃ u, t = u + 3 := ⟨t - 3, by omega⟩
      have ih := flat_evals l u (by simp at h; omega)
      have e1 : (u + 3) / 3 = u / 3 + 1 := by omega
      have e2 : (u + 3) % 3 = u % 3 := by omega
      rw [e1, e2]
      simp only [evals, encE]
      simpa [encE] using ih
theorem cfE_lt (x y : E3) : ltOf cfE x y = decide (x.a.seq < y.a.seq) := by
  unfold ltOf cfE
  have : (x.a.seq - y.a.seq < 0) ↔ x.a.seq < y.a.seq := by omega
  simp [this]
theorem cfE_swo : Go.Sort.SWO (ltOf cfE) where
  irrefl x := by rw [cfE_lt]; simp
  trans x y z h1 h2 := by rw [cfE_lt] at *; simp only [decide_eq_true_eq] at *; omega
  ntrans x y z h1 h2 := by rw [cfE_lt] at *; simp only [decide_eq_false_iff_not] at *; omega
theorem sortQ_nil (σ : AHeap) : evCall plainC 60 61 [.one .nilSlice, .one (.func 62 [])] σ = some (.tup [], σ) := by kernel_rfl
theorem split_rel {ρ : Loc} : ∀ (cs ds : List SV) {vs : List Value}, SRs ρ (cs ++ ds) vs → ∃ us ws, vs = us ++ ws ∧ SRs ρ cs us ∧ SRs ρ ds ws
  | [], ds, vs, h => ⟨[], vs, rfl, .nil, h⟩
  | c :: cs, ds, _, h => by
    cases h with
    | cons a h =>
      obtain ⟨us, ws, rfl, h1, h2⟩ := split_rel cs ds h
      exact ⟨_ :: us, ws, rfl, .cons a h1, h2⟩
theorem sortQ_row {ρ : Loc} {σ : AHeap} {w : World} (hr : HR ρ σ.get w) {q n : Nat} {B : Blk} (hB : ρ q = some B) {l : List Arr} {ds : List SV} (hg : σ.get q = some ⟨acells l ++ ds, .own⟩) (hlen : l.length = n + 1) (hmx : n + 1 ≤ maxElems) (hnd : (l.map Arr.seq).Nodup) (hbd : ∀ a ∈ l, 0 ≤ a.seq ∧ a.seq ≤ 1073741824) (c : Nat) :
    Calls Try.prog 61 #[.slice (some ⟨B.b, B.base + 0, none⟩) (n + 1) c, .func (.func 62) #[] #[]] w (CallPost ρ σ w (σ.put q ⟨acells (isortQ l) ++ ds, .own⟩) (.tup [])) := by
  obtain ⟨o, g0, ok0, hlt⟩ := hr.dom q B hB
  rw [hg] at g0
  cases g0
  have hcl : (acells l ++ ds).length = B.clen := ok0.len
  rw [List.length_append, acells_length] at hcl
  have hfit := ok0.fit
  obtain ⟨vs', hv', hcell⟩ := ok0.holds (by intro e; cases e)
  obtain ⟨us, ws, rfl, hu, hws⟩ := split_rel _ _ hv'
  obtain ⟨es, hes, rfl, hrow⟩ := evals_of l hbd hu
  have hel : es.length = n + 1 := by rw [← hlen, ← hes, List.length_map]
  obtain ⟨cur, t, fz, hb, hsz, hfz⟩ := ok0.own rfl
  have hmb : maxElems = 4294967296 := rfl
  have hH : Go.Sort.HoldsK encE 3 w B.b (B.base + 0) es.toArray := by
    intro j hj
    rw [Go.Sort.size_flatK] at hj
    have hj' : j < es.length * 3 := by simpa using hj
    refine ⟨?_, ?_⟩
    · rw [Go.Sort.get_flatK _ _ _ _ hj]
      have := hcell j _ (by rw [List.getElem?_append_left (by rw [evals_length]; exact hj')]; exact flat_evals es j hj')
      simpa using this
    · unfold World.frozen?
      rw [hb]
      have := hfz (B.base + 0 + j) (by omega)
      simp only
      rw [Bool.eq_false_iff]
      intro e
      rw [Bool.and_eq_true, decide_eq_true_eq, decide_eq_true_eq] at e
      exact this e
  have eg : ∀ args w, (callFunc 62 args).run Try.prog w = .ok (.enter 62 args) w := enters_of Try.func62 (by kernel_rfl) rfl
  have hcon := AnyQ.slices_SortFunc Try.sortA 3 Try.isAgg40 Try.sizeOf40 encE (fun _ => rfl) (fun x v hv => by
    simp [encE] at hv
    rcases hv with rfl | rfl | rfl
    · rfl
    · rfl
    · exact x.hv) cfE cfE_swo 62 #[] B.b (B.base + 0) c es.toArray w eg (fun _ _ _ _ x y => closure70 x y _) hH hlt (by simp; omega)
  change Calls Try.prog 61 _ _ _ at hcon
  have hsz' : es.toArray.size = n + 1 := by simpa using hel
  rw [hsz'] at hcon
  refine hcon.mono ?_
  rintro e w' ⟨rfl, d', m, os, hp, hs, rfl⟩
  have hd'sz : d'.size = n + 1 := by rw [hp.1, hsz']
  have hperm : d'.toList.Perm es := by
    have h3 := hp.2.2
    have e1 : d'.extract 0 (n + 1) = d' := by rw [← hd'sz]; simp
    have e2 : es.toArray.extract 0 (n + 1) = es.toArray := by rw [← hsz']; simp
    rw [e1, e2] at h3
    simpa using h3
  have hpl : (d'.toList.map E3.a).Perm l := by rw [← hes]; exact hperm.map _
  have hnd' : ((d'.toList.map E3.a).map Arr.seq).Nodup := ((hpl.map Arr.seq).nodup_iff).2 hnd
  have hsrt : SrtQ (d'.toList.map E3.a) := by
    rw [SrtQ, List.pairwise_map, List.pairwise_iff_getElem]
    intro i j hi hj hij
    have hi' : i < d'.size := by simpa using hi
    have hj' : j < d'.size := by simpa using hj
    have h4 := hs i j (Nat.zero_le _) hij (by omega)
    rw [cfE_lt, getElem!_pos d' i hi', getElem!_pos d' j hj'] at h4
    have hne : (d'.toList[i]).a.seq ≠ (d'.toList[j]).a.seq := by
      have h5 := List.pairwise_iff_getElem.1 hnd' i j (by simpa using hi) (by simpa using hj) hij
      simpa using h5
    simp only [decide_eq_false_iff_not] at h4
    have e1 : d'.toList[i] = d'[i] := by simp
    have e2 : d'.toList[j] = d'[j] := by simp
    rw [e1, e2] at hne ⊢
    omega
  have hd' : d'.toList.map E3.a = isortQ l := srtQ_uniq _ _ hsrt (isortQ_srt l hnd) (hpl.trans (isortQ_perm l).symm)
  have hH' := Go.Proofs.holdsK_sortWorldK_c encE 3 w B.b (B.base + 0) es.toArray d' m os hH hlt (by rw [hd'sz, hsz'])
  have hlen' : (isortQ l).length = n + 1 := by rw [(isortQ_perm l).length_eq, hlen]
  have hdl : d'.toList.length = n + 1 := by simpa using hd'sz
  refine ⟨_, ρ, rfl, ?_, .tup .nil⟩
  have hheap : ∀ b, b < w.heap.size → (sortWorldK encE 3 w B.b (B.base + 0) m d' os).heap[b]? = (w.heap.modify B.b (Go.Sort.onCells (Go.Sort.putCells id (B.base + 0) (Go.Sort.flatK encE 3 d'))))[b]? := by
    intro b hb
    show ((w.heap.modify B.b (Go.Sort.onCells (Go.Sort.putCells id (B.base + 0) (Go.Sort.flatK encE 3 d')))) ++ os)[b]? = _
    rw [Array.getElem?_append_left (by simpa using hb)]
  have hrel : SRs ρ (acells (isortQ l) ++ ds) (evals d'.toList ++ ws) := by
    rw [← hd']
    exact (evals_rel d'.toList (fun e he => hrow e (hperm.mem_iff.1 he))).append hws
  have hblk : (sortWorldK encE 3 w B.b (B.base + 0) m d' os).heap[B.b]? = some (.cells (Go.Sort.putCells id (B.base + 0) (Go.Sort.flatK encE 3 d') cur) t fz) := by
    rw [hheap B.b hlt, Array.getElem?_modify, if_pos rfl, hb]
    rfl
  refine Post.row hr hB hg hrel (by rw [List.length_append, List.length_append, acells_length, acells_length, hlen', hlen]) ?_ ?_ ?_ ?_ rfl rfl rfl
  · intro b hb hne
    rw [hheap b hb, Array.getElem?_modify, if_neg (fun e => hne e.symm)]
  · show w.heap.size ≤ ((w.heap.modify B.b _) ++ os).size
    rw [Array.size_append, Array.size_modify]
    omega
  · intro j v hv
    by_cases hjl : j < d'.toList.length * 3
    · have hjf : j < (Go.Sort.flatK encE 3 d').size := by rw [Go.Sort.size_flatK]; simpa using hjl
      have h6 := (hH' j hjf).1
      rw [Go.Sort.get_flatK _ _ _ _ (by simpa using hjl)] at h6
      rw [List.getElem?_append_left (by rw [evals_length]; exact hjl), flat_evals _ j hjl] at hv
      cases hv
      have hj3 : j / 3 < d'.size := by rw [hd'sz]; omega
      have e7 : (d'.toList)[j / 3]! = d'[j / 3]! := by
        rw [getElem!_pos d'.toList (j / 3) (by simpa using hj3), getElem!_pos d' (j / 3) hj3]
        simp
      rw [e7]
      exact h6
    · have hv2 : ws[j - d'.toList.length * 3]? = some v := by
        rw [List.getElem?_append_right (by rw [evals_length]; omega), evals_length] at hv
        exact hv
      have hold := hcell j v (by rw [List.getElem?_append_right (by rw [evals_length]; omega), evals_length, hel, ← hdl]; exact hv2)
      simp only [World.cell?, hb] at hold
      simp only [World.cell?, hblk]
      have hfs : (Go.Sort.flatK encE 3 d').size = (n + 1) * 3 := by rw [Go.Sort.size_flatK, hd'sz]
      simp only [Option.isSome_none, Bool.false_eq_true, if_false] at hold ⊢
      rw [Go.Sort.putCells, Array.getElem?_mapIdx, hold]
      simp only [Option.map_some]
      rw [if_neg (by rw [hfs]; omega)]
  · refine ⟨Go.Sort.putCells id (B.base + 0) (Go.Sort.flatK encE 3 d') cur, t, fz, hblk, ?_, hfz⟩
    simp [Go.Sort.putCells, hsz]

theorem okSortQ : PrimOk Try.prog 61 pSortQ := by
  intro args σ v σ' h
  unfold pSortQ at h
  split at h
  · cases h; exact sound plainC_good 60 61 _ _ _ _ (sortQ_nil _)
  · rename_i q n cap
    split at h
    · rename_i cs hg
      split at h
      · rename_i l hl
        split at h
        · rename_i hc
          obtain ⟨hlen, hmx, hnd, hbd⟩ := hc
          cases h
          have hcs := toA_spec _ (Nat.le_refl _) hl
          have hcs2 : cs = acells l ++ cs.drop ((n + 1) * 3) := by rw [← hcs, List.take_append_drop]
          rw [hcs2] at hg
          have hbd' : ∀ a ∈ l, 0 ≤ a.seq ∧ a.seq ≤ 1073741824 := fun a ha => by
            have := List.all_eq_true.1 hbd a ha
            simpa using this
          refine ⟨(sound plainC_good 60 61 _ _ _ _ (sortQ_nil emptyH)).1, fun ρ w vs hv hr => ?_⟩
          cases hv with
          | cons h1 h2 =>
            cases h2 with
            | cons h3 h4 =>
              cases h4
              cases h1 with
              | one h1 =>
                cases h3 with
                | one h3 =>
                  cases h3 with
                  | func h3 =>
                    cases h3
                    cases h1 with
                    | slice hB a1 a2 a3 a4 a5 =>
                      rename_i c B
                      exact sortQ_row hr hB hg hlen hmx hnd hbd' c
        · cases h
      · cases h
    · cases h
  · cases h
end Go.Proofs.Ythjijjkoeoemgaa.Ab
