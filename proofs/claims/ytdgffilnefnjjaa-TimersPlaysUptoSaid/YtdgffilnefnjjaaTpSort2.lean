/- slices.SortFunc of timers, laid as one step. -/
import Derived.Test.YtdgffilnefnjjaaTpSort
namespace Go.Proofs
open Go.Shelf Go.RowKit Go.Lib Go.Sort
def Try.sortT_ren : Go.Shelf.Ren := ⟨fun | 6 => 51 | 15 => 68 | 14 => 67 | 28 => 88 | 29 => 89 | 20 => 80 | 21 => 81 | 22 => 82 | 23 => 83 | 24 => 84 | 25 => 85 | 26 => 86 | 27 => 87 | 46 => 93 | 47 => 94 | 48 => 95 | 49 => 96 | 50 => 97 | 57 => 99 | n => n, fun | 22 => 47 | 24 => 53 | 25 => 89 | 3 => 3 | 39 => 110 | 0 => 0 | 53 => 127 | 55 => 94 | 4 => 4 | 46 => 121 | 45 => 120 | 50 => 72 | 5 => 5 | 9 => 9 | 66 => 131 | 70 => 135 | 76 => 137 | 77 => 138 | n => n, fun | n => n⟩
theorem Try.sortT : Go.Proofs.SlLaysF0.n6 Try.prog Try.sortT_ren := {
  mixed := by kernel_rfl
  f6 := ⟨Try.f51.name, by decide, Try.func51.trans (congrArg some (by kernel_rfl))⟩
  f14 := ⟨Try.f67.name, by decide, Try.func67.trans (congrArg some (by kernel_rfl))⟩
  f15 := Try.func68.trans (congrArg some (by kernel_rfl))
  f20 := ⟨Try.f80.name, by decide, Try.func80.trans (congrArg some (by kernel_rfl))⟩
  f21 := ⟨Try.f81.name, by decide, Try.func81.trans (congrArg some (by kernel_rfl))⟩
  f22 := ⟨Try.f82.name, by decide, Try.func82.trans (congrArg some (by kernel_rfl))⟩
  f23 := ⟨Try.f83.name, by decide, Try.func83.trans (congrArg some (by kernel_rfl))⟩
  f24 := ⟨Try.f84.name, by decide, Try.func84.trans (congrArg some (by kernel_rfl))⟩
  f25 := ⟨Try.f85.name, by decide, Try.func85.trans (congrArg some (by kernel_rfl))⟩
  f26 := ⟨Try.f86.name, by decide, Try.func86.trans (congrArg some (by kernel_rfl))⟩
  f27 := ⟨Try.f87.name, by decide, Try.func87.trans (congrArg some (by kernel_rfl))⟩
  f28 := Try.func88.trans (congrArg some (by kernel_rfl))
  f29 := Try.func89.trans (congrArg some (by kernel_rfl))
  f46 := ⟨Try.f93.name, by decide, Try.func93.trans (congrArg some (by kernel_rfl))⟩
  f47 := Try.func94.trans (congrArg some (by kernel_rfl))
  f48 := Try.func95.trans (congrArg some (by kernel_rfl))
  f49 := ⟨Try.f96.name, by decide, Try.func96.trans (congrArg some (by kernel_rfl))⟩
  f50 := ⟨Try.f97.name, by decide, Try.func97.trans (congrArg some (by kernel_rfl))⟩
  f57 := ⟨Try.f99.name, by decide, Try.func99.trans (congrArg some (by kernel_rfl))⟩
  t0 := Try.underlying0
  a0 := Try.isAgg0
  z0 := Try.sizeOf0
  v0 := Try.zeroValue0
  t3 := Try.underlying3
  a3 := Try.isAgg3
  z3 := Try.sizeOf3
  v3 := Try.zeroValue3
  t4 := Try.underlying4
  a4 := Try.isAgg4
  z4 := Try.sizeOf4
  v4 := Try.zeroValue4
  t5 := Try.underlying5
  a5 := Try.isAgg5
  z5 := Try.sizeOf5
  v5 := Try.zeroValue5
  t9 := Try.underlying9
  a9 := Try.isAgg9
  z9 := Try.sizeOf9
  v9 := Try.zeroValue9
  t22 := Try.underlying47
  a22 := Try.isAgg47
  z22 := Try.sizeOf47
  v22 := Try.zeroValue47
  t25 := Try.underlying89
  a25 := Try.isAgg89
  z25 := Try.sizeOf89
  v25 := Try.zeroValue89
  t39 := Try.underlying110
  a39 := Try.isAgg110
  z39 := Try.sizeOf110
  v39 := Try.zeroValue110
  t45 := Try.underlying120
  a45 := Try.isAgg120
  z45 := Try.sizeOf120
  v45 := Try.zeroValue120
  t46 := Try.underlying121
  a46 := Try.isAgg121
  z46 := Try.sizeOf121
  v46 := Try.zeroValue121
  t50 := Try.underlying72
  a50 := Try.isAgg72
  z50 := Try.sizeOf72
  v50 := Try.zeroValue72
  t53 := Try.underlying127
  a53 := Try.isAgg127
  z53 := Try.sizeOf127
  v53 := Try.zeroValue127
  t55 := Try.underlying94
  a55 := Try.isAgg94
  z55 := Try.sizeOf94
  v55 := Try.zeroValue94
  t66 := Try.underlying131
  a66 := Try.isAgg131
  z66 := Try.sizeOf131
  v66 := Try.zeroValue131
  t70 := Try.underlying135
  a70 := Try.isAgg135
  z70 := Try.sizeOf135
  v70 := Try.zeroValue135
  t76 := Try.underlying137
  a76 := Try.isAgg137
  z76 := Try.sizeOf137
  v76 := Try.zeroValue137
  t77 := Try.underlying138
  a77 := Try.isAgg138
  z77 := Try.sizeOf138
  v77 := Try.zeroValue138 }
end Go.Proofs
namespace Go.Proofs.Ytdgffilnefnjjaa.Ab
open Go Go.RowKit
set_option maxRecDepth 20000
set_option maxHeartbeats 4000000
set_option linter.unusedSimpArgs false
instance : Inhabited T := ⟨t0⟩

theorem sort_empty (q cap : Nat) (σ : AHeap) : evCall plainC 60 51 [.one (.slice q 0 3 0 (some cap)), .one (.func 52 [])] σ = some (.tup [], σ) := by kernel_rfl
theorem sort_emptyN (q : Nat) (σ : AHeap) : evCall plainC 60 51 [.one (.slice q 0 3 0 none), .one (.func 52 [])] σ = some (.tup [], σ) := by kernel_rfl
theorem sort_nil (σ : AHeap) : evCall plainC 60 51 [.one .nilSlice, .one (.func 52 [])] σ = some (.tup [], σ) := by kernel_rfl

def toTs : List SV → Option (List T)
  | [] => some []
  | .int .i64 a :: .int .i64 b :: .int .i64 c :: r => match toTs r with
    | some l => some (⟨a, b, c⟩ :: l)
    | none => none
  | _ => none
theorem toTs_tcells : ∀ l, toTs (tcells l) = some l
  | [] => rfl
  | t :: l => by simp [tcells, T.cells, toTs, toTs_tcells l]
theorem toTs_spec : ∀ (n : Nat) {cs : List SV} {l : List T}, cs.length ≤ n → toTs cs = some l → cs = tcells l
  | _, [], l, _, h => by simp [toTs] at h; subst h; rfl
  | 0, _ :: _, _, hn, _ => by simp at hn
  | n + 1, .int .i64 a :: .int .i64 b :: .int .i64 c :: r, l, hn, h => by
    simp only [toTs] at h
    split at h
    · rename_i l' hl
      cases h
      rw [toTs_spec n (by simp at hn; omega) hl]
      rfl
    · cases h
def tvals : List T → List Value
  | [] => []
  | t :: l => encT t ++ tvals l
theorem tvals_rel {ρ : Loc} : ∀ l, SRs ρ (tcells l) (tvals l)
  | [] => .nil
  | t :: l => .cons (.int _ _) (.cons (.int _ _) (.cons (.int _ _) (tvals_rel l)))
theorem tvals_of {ρ : Loc} : ∀ (l : List T) {vs : List Value}, SRs ρ (tcells l) vs → vs = tvals l
  | [], _, h => by cases h; rfl
  | t :: l, _, h => by
    cases h with
    | cons a h => cases h with
      | cons b h => cases h with
        | cons c h => cases a; cases b; cases c; rw [tvals_of l h]; rfl
theorem tvals_length : ∀ l, (tvals l).length = l.length * 3
  | [] => rfl
  | t :: l => by simp [tvals, encT, tvals_length l]; omega
theorem flat_tvals : ∀ (l : List T) (t : Nat), t < l.length * 3 → (tvals l)[t]? = some ((encT l[t / 3]!)[t % 3]!)
  | [], t, h => by simp at h
  | x :: l, t, h => by
    by_cases ht : t < 3
    · have : t = 0 ∨ t = 1 ∨ t = 2 := by omega
      rcases this with rfl | rfl | rfl <;> simp [tvals, encT]
    · obtain ⟨u, rfl⟩ : ∃ u, t = u + 3 := ⟨t - 3, by omega⟩
      have ih := flat_tvals l u (by simp at h; omega)
      have e1 : (u + 3) / 3 = u / 3 + 1 := by omega
      have e2 : (u + 3) % 3 = u % 3 := by omega
      rw [e1, e2]
      simp only [tvals, encT]
      simpa [encT] using ih

def p51 : Prim := fun args σ => match args with
  | [.one .nilSlice, .one (.func 52 [])] => some (.tup [], σ)
  | [.one (.slice _ 0 3 0 none), .one (.func 52 [])] => some (.tup [], σ)
  | [.one (.slice _ 0 3 0 (some _)), .one (.func 52 [])] => some (.tup [], σ)
  | [.one (.slice q 0 3 (n + 1) _), .one (.func 52 [])] => match σ.get q with
    | some ⟨cs, .own⟩ => match toTs cs with
      | some l => if l.length = n + 1 ∧ n + 1 ≤ maxElems ∧ (l.map T.seq).Nodup then some (.tup [], σ.put q ⟨tcells (isortT l), .own⟩) else none
      | none => none
    | _ => none
  | _ => none

theorem ltOf_cfT (x y : T) : ltOf cfT x y = lessT x y := by
  unfold ltOf cfT
  cases h : lessT x y <;> simp
theorem cfT_swo : Go.Sort.SWO (ltOf cfT) where
  irrefl x := by rw [ltOf_cfT, less_irr]
  trans x y z h1 h2 := by rw [ltOf_cfT] at *; exact less_trans h1 h2
  ntrans x y z h1 h2 := by
    rw [ltOf_cfT] at *
    rw [Bool.eq_false_iff, ne_eq, less_iff'] at *
    omega

theorem sort_row {ρ : Loc} {σ : AHeap} {w : World} (hr : HR ρ σ.get w) {q n : Nat} {B : Blk} (hB : ρ q = some B) {l : List T} (hg : σ.get q = some ⟨tcells l, .own⟩) (hlen : l.length = n + 1) (hmx : n + 1 ≤ maxElems) (hnd : (l.map T.seq).Nodup) (c : Nat) :
    Calls Try.prog 51 #[.slice (some ⟨B.b, B.base + 0, none⟩) (n + 1) c, .func (.func 52) #[] #[]] w (CallPost ρ σ w (σ.put q ⟨tcells (isortT l), .own⟩) (.tup [])) := by
  obtain ⟨o, g0, ok0, hlt⟩ := hr.dom q B hB
  rw [hg] at g0
  cases g0
  have hcl : (tcells l).length = B.clen := ok0.len
  rw [tcells_length] at hcl
  have hfit := ok0.fit
  obtain ⟨vs', hv', hcell⟩ := ok0.holds (by intro e; cases e)
  obtain rfl := tvals_of l hv'
  obtain ⟨cur, t, fz, hb, hsz, hfz⟩ := ok0.own rfl
  have hmb : maxElems = 4294967296 := rfl
  have hH : Go.Sort.HoldsK encT 3 w B.b (B.base + 0) l.toArray := by
    intro j hj
    rw [Go.Sort.size_flatK] at hj
    have hj' : j < l.length * 3 := by simpa using hj
    refine ⟨?_, ?_⟩
    · rw [Go.Sort.get_flatK _ _ _ _ hj]
      have := hcell j _ (flat_tvals l j hj')
      simpa using this
    · unfold World.frozen?
      rw [hb]
      have := hfz (B.base + 0 + j) (by omega)
      simp only
      rw [Bool.eq_false_iff]
      intro e
      rw [Bool.and_eq_true, decide_eq_true_eq, decide_eq_true_eq] at e
      exact this e
  have eg : ∀ args w, (callFunc 52 args).run Try.prog w = .ok (.enter 52 args) w := enters_of Try.func52 (by kernel_rfl) rfl
  have hcon := AnyQ.slices_SortFunc Try.sortT 3 Try.isAgg53 Try.sizeOf53 encT (fun _ => rfl) (fun x v hv => by
    simp [encT] at hv
    rcases hv with rfl | rfl | rfl <;> rfl) cfT cfT_swo 52 #[] B.b (B.base + 0) c l.toArray w eg (fun _ _ _ _ x y => closure52 x y _) hH hlt (by simp; omega)
  change Calls Try.prog 51 _ _ _ at hcon
  have hsz' : l.toArray.size = n + 1 := by simpa using hlen
  rw [hsz'] at hcon
  refine hcon.mono ?_
  rintro e w' ⟨rfl, d', m, os, hp, hs, rfl⟩
  have hd'sz : d'.size = n + 1 := by rw [hp.1, hsz']
  have hperm : d'.toList.Perm l := by
    have h3 := hp.2.2
    have e1 : d'.extract 0 (n + 1) = d' := by rw [← hd'sz]; simp
    have e2 : l.toArray.extract 0 (n + 1) = l.toArray := by rw [← hsz']; simp
    rw [e1, e2] at h3
    simpa using h3
  have hnd' : (d'.toList.map T.seq).Nodup := ((hperm.map T.seq).nodup_iff).2 hnd
  have hsrt : Srt d'.toList := by
    rw [Srt, List.pairwise_iff_getElem]
    intro i j hi hj hij
    have hi' : i < d'.size := by simpa using hi
    have hj' : j < d'.size := by simpa using hj
    have h4 := hs i j (Nat.zero_le _) hij (by omega)
    rw [ltOf_cfT, getElem!_pos d' i hi', getElem!_pos d' j hj'] at h4
    have hne : d'.toList[i].seq ≠ d'.toList[j].seq := by
      have h5 := List.pairwise_iff_getElem.1 hnd' i j (by simpa using hi) (by simpa using hj) hij
      simpa using h5
    have := less_tot (a := d'.toList[j]) (b := d'.toList[i]) (by simp [h4]) (fun e => hne e.symm)
    exact this
  have hd' : d'.toList = isortT l := srt_uniq _ _ hsrt (isort_srt l hnd) (hperm.trans (isort_perm l).symm)
  have hH' := Go.Proofs.holdsK_sortWorldK_c encT 3 w B.b (B.base + 0) l.toArray d' m os hH hlt (by rw [hd'sz, hsz'])
  have hlen' : (isortT l).length = n + 1 := by rw [(isort_perm l).length_eq, hlen]
  refine ⟨_, ρ, rfl, ?_, .tup .nil⟩
  have hheap : ∀ b, b < w.heap.size → (sortWorldK encT 3 w B.b (B.base + 0) m d' os).heap[b]? = (w.heap.modify B.b (Go.Sort.onCells (Go.Sort.putCells id (B.base + 0) (Go.Sort.flatK encT 3 d'))))[b]? := by
    intro b hb
    show ((w.heap.modify B.b (Go.Sort.onCells (Go.Sort.putCells id (B.base + 0) (Go.Sort.flatK encT 3 d')))) ++ os)[b]? = _
    rw [Array.getElem?_append_left (by simpa using hb)]
  refine Post.row hr hB hg (tvals_rel (isortT l)) (by rw [tcells_length, tcells_length, hlen', hlen]) ?_ ?_ ?_ ?_ rfl rfl rfl
  · intro b hb hne
    rw [hheap b hb, Array.getElem?_modify, if_neg (fun e => hne e.symm)]
  · show w.heap.size ≤ ((w.heap.modify B.b _) ++ os).size
    rw [Array.size_append, Array.size_modify]
    omega
  · intro j v hv
    have hjl : j < (isortT l).length * 3 := by
      have := (List.getElem?_eq_some_iff.1 hv).1
      rwa [tvals_length] at this
    have hjf : j < (Go.Sort.flatK encT 3 d').size := by rw [Go.Sort.size_flatK, hd'sz, ← hlen']; exact hjl
    have h6 := (hH' j hjf).1
    rw [Go.Sort.get_flatK _ _ _ _ (by rw [hd'sz, ← hlen']; exact hjl)] at h6
    rw [flat_tvals _ j hjl] at hv
    cases hv
    have hj3 : j / 3 < d'.size := by rw [hd'sz, ← hlen']; omega
    have e7 : (isortT l)[j / 3]! = d'[j / 3]! := by
      have hj4 : j / 3 < (isortT l).length := by omega
      rw [getElem!_pos (isortT l) (j / 3) hj4, getElem!_pos d' (j / 3) hj3]
      have : (isortT l)[j / 3] = d'.toList[j / 3]'(by simpa using hj3) := by simp only [hd']
      rw [this]
      simp
    rw [e7]
    exact h6
  · refine ⟨Go.Sort.putCells id (B.base + 0) (Go.Sort.flatK encT 3 d') cur, t, fz, ?_, ?_, hfz⟩
    · rw [hheap B.b hlt, Array.getElem?_modify, if_pos rfl, hb]
      rfl
    · simp [Go.Sort.putCells, hsz]

theorem ok51 : PrimOk Try.prog 51 p51 := by
  intro args σ v σ' h
  unfold p51 at h
  split at h
  · cases h; exact sound plainC_good 60 51 _ _ _ _ (sort_nil _)
  · cases h; exact sound plainC_good 60 51 _ _ _ _ (sort_emptyN _ _)
  · cases h; exact sound plainC_good 60 51 _ _ _ _ (sort_empty _ _ _)
  · rename_i q n cap
    split at h
    · rename_i cs hg
      split at h
      · rename_i l hl
        split at h
        · rename_i hc
          obtain ⟨hlen, hmx, hnd⟩ := hc
          cases h
          have hcs := toTs_spec _ (Nat.le_refl _) hl
          subst hcs
          refine ⟨(sound plainC_good 60 51 _ _ _ _ (sort_nil emptyH)).1, fun ρ w vs hv hr => ?_⟩
          cases hv with
          | cons h1 h2 =>
            cases h2 with
            | cons h3 h4 =>
              cases h4
              cases h1 with
              | one h1 =>
                cases h3 with
                | one h3 =>
                  cases h3 with
                  | func h3 =>
                    cases h3
                    cases h1 with
                    | slice hB a1 a2 a3 a4 a5 =>
                      rename_i c B
                      exact sort_row hr hB hg hlen hmx hnd c
        · cases h
      · cases h
    · cases h
  · cases h
end Go.Proofs.Ytdgffilnefnjjaa.Ab
