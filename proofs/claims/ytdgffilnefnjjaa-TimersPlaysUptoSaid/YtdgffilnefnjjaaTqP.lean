/- Timers: the heap and the document's sorted list, side by side, in plain lists. -/
import Derived.Test.YtdgffilnefnjjaaTq5
namespace Go.Proofs.Ytdgffilnefnjjaa.Ab
open Go
set_option maxRecDepth 20000
set_option linter.unusedSimpArgs false

structure Rel (L M : List T) (n : Int) : Prop where
  heap : Heap L
  nd : (L.map T.seq).Nodup
  srt : Srt M
  perm : M.Perm L
  pos : ∀ t ∈ L, 0 < t.seq
  le : ∀ t ∈ L, t.seq ≤ n

theorem Rel.nil : Rel [] [] 0 := ⟨(fun j _ h => absurd h (Nat.not_lt_zero _)), (by simp), List.Pairwise.nil, .refl _, (fun t h => by cases h), (fun t h => by cases h)⟩
theorem Rel.len {L M : List T} {n : Int} (h : Rel L M n) : M.length = L.length := h.perm.length_eq
theorem Rel.sorted {L M : List T} {n : Int} (h : Rel L M n) : isortT L = M :=
  srt_uniq _ _ (isort_srt L h.nd) h.srt ((isort_perm L).trans h.perm.symm)
theorem Rel.head {L M : List T} {n : Int} (h : Rel L M n) : (L = [] ∧ M = []) ∨ ∃ M', M = tAt L 0 :: M' ∧ 0 < L.length := by
  cases M with
  | nil =>
    have := h.len
    exact .inl ⟨List.length_eq_zero_iff.1 this.symm, rfl⟩
  | cons t M' =>
    have hl := h.len
    have hpos : 0 < L.length := by rw [← hl]; simp
    refine .inr ⟨M', ?_, hpos⟩
    have hs := h.srt
    rw [Srt, List.pairwise_cons] at hs
    have hmin := heap_mem h.heap (t := t) (h.perm.mem_iff.1 (by simp))
    have hmem : tAt L 0 ∈ t :: M' := h.perm.mem_iff.2 (tAt_mem' hpos)
    rcases List.mem_cons.1 hmem with e | e
    · rw [e]
    · have := hs.1 _ e
      unfold leT at hmin
      rw [hmin] at this
      cases this
where
  tAt_mem' {l : List T} {i : Nat} (h : i < l.length) : tAt l i ∈ l := by
    have : tAt l i = l[i] := by simp [tAt, List.getD, h]
    rw [this]
    exact List.getElem_mem h
theorem Rel.next {L M : List T} {n : Int} (h : Rel L M n) : nextT M = nextT L := by
  rcases h.head with ⟨rfl, rfl⟩ | ⟨M', rfl, hpos⟩
  · rfl
  · cases L with
    | nil => simp at hpos
    | cons x L => rfl

theorem nodup_sub {l m : List T} (h : l.Sublist m) (k : (m.map T.seq).Nodup) : (l.map T.seq).Nodup := List.Nodup.sublist (h.map _) k
/-- Some are dropped. -/
theorem Rel.drop {L M : List T} {n : Int} (h : Rel L M n) (pr kp : T → Bool) (hk : ∀ t ∈ L, kp t = !pr t) : Rel (dropL pr L) (M.filter kp) n ∧ (M.filter kp).length = (L.filter fun t => !pr t).length := by
  have e : M.filter kp = M.filter fun t => !pr t := List.filter_congr (fun t ht => hk t (h.perm.mem_iff.1 ht))
  rw [e]
  have hp := dropL_perm pr L
  have hpf : (M.filter fun t => !pr t).Perm (L.filter fun t => !pr t) := h.perm.filter _
  have hmem : ∀ t, t ∈ dropL pr L → t ∈ L := fun t ht => (List.mem_filter.1 (hp.mem_iff.1 ht)).1
  refine ⟨⟨dropL_heap pr L, ((hp.map T.seq).nodup_iff).2 (nodup_sub List.filter_sublist h.nd), List.Pairwise.filter _ h.srt, hpf.trans hp.symm, fun t ht => h.pos t (hmem t ht), fun t ht => h.le t (hmem t ht)⟩, hpf.length_eq⟩
/-- One is set. -/
theorem Rel.set {L M : List T} {n : Int} (h : Rel L M n) (a b : Int) (hn : 0 ≤ n) {i : Nat} (hi : i ≤ M.length) (h1 : ∀ j, j < i → lessT (tAt M j) ⟨a, b, n + 1⟩ = true) (h2 : i < M.length → lessT (tAt M i) ⟨a, b, n + 1⟩ = false) :
    Rel (pushL L ⟨a, b, n + 1⟩) (M.take i ++ ⟨a, b, n + 1⟩ :: M.drop i) (n + 1) := by
  have hp := push_perm L ⟨a, b, n + 1⟩
  have hp2 : (M.take i ++ ⟨a, b, n + 1⟩ :: M.drop i).Perm (⟨a, b, n + 1⟩ :: M) := by
    have := List.perm_middle (a := (⟨a, b, n + 1⟩ : T)) (l₁ := M.take i) (l₂ := M.drop i)
    rwa [List.take_append_drop] at this
  have hp3 : (L ++ [(⟨a, b, n + 1⟩ : T)]).Perm (⟨a, b, n + 1⟩ :: L) := by simp
  have hmem : ∀ t, t ∈ pushL L ⟨a, b, n + 1⟩ → t = ⟨a, b, n + 1⟩ ∨ t ∈ L := fun t ht => by
    have := (hp.trans hp3).mem_iff.1 ht
    rcases List.mem_cons.1 this with e | e
    · exact .inl e
    · exact .inr e
  refine ⟨push_heap _ h.heap, ?_, ?_, hp2.trans ((h.perm.cons _).trans (hp3.symm.trans hp.symm)), ?_, ?_⟩
  · refine (((hp.trans hp3).map T.seq).nodup_iff).2 ?_
    rw [List.map_cons, List.nodup_cons]
    refine ⟨fun e => ?_, h.nd⟩
    obtain ⟨t, ht, e⟩ := List.mem_map.1 e
    have := h.le t ht
    simp only at e
    omega
  · rw [Srt, List.pairwise_append, List.pairwise_cons]
    have hs := h.srt
    have hst : Srt (M.take i ++ M.drop i) := by rw [List.take_append_drop]; exact hs
    rw [Srt, List.pairwise_append] at hst
    have hneq : ∀ y ∈ M, y.seq ≠ n + 1 := fun y hy e => by
      have := h.le y (h.perm.mem_iff.1 hy)
      omega
    have hlow : ∀ x ∈ M.take i, lessT x ⟨a, b, n + 1⟩ = true := by
      intro x hx
      obtain ⟨j, hj, rfl⟩ := List.mem_iff_getElem.1 hx
      rw [List.length_take] at hj
      have := h1 j (by omega)
      have hjM : j < M.length := by omega
      simpa [tAt, List.getD, hjM] using this
    have hhigh : ∀ y ∈ M.drop i, lessT ⟨a, b, n + 1⟩ y = true := by
      by_cases hlt : i < M.length
      · have hd : M.drop i = tAt M i :: M.drop (i + 1) := by rw [List.drop_eq_getElem_cons hlt]; simp [tAt, List.getD, hlt]
        have hmi : tAt M i ∈ M := by
          have : tAt M i = M[i] := by simp [tAt, List.getD, hlt]
          rw [this]; exact List.getElem_mem hlt
        have hfirst : lessT ⟨a, b, n + 1⟩ (tAt M i) = true := less_tot (by rw [h2 hlt]; simp) (hneq _ hmi)
        have hsd := hst.2.1
        rw [hd, List.pairwise_cons] at hsd
        intro y hy
        rw [hd] at hy
        rcases List.mem_cons.1 hy with e | e
        · rw [e]; exact hfirst
        · exact less_trans hfirst (hsd.1 y e)
      · intro y hy
        rw [List.drop_of_length_le (by omega)] at hy
        cases hy
    refine ⟨hst.1, ⟨hhigh, hst.2.1⟩, fun x hx y hy => ?_⟩
    rcases List.mem_cons.1 hy with e | e
    · rw [e]; exact hlow x hx
    · exact hst.2.2 x hx y e
  · intro t ht
    rcases hmem t ht with e | e
    · rw [e]; show 0 < n + 1; omega
    · exact h.pos t e
  · intro t ht
    rcases hmem t ht with e | e
    · rw [e]; exact Int.le_refl _
    · have := h.le t e; omega
/-- The first is taken. -/
theorem Rel.pop {L M' : List T} {n : Int} {t : T} (h : Rel L (t :: M') n) (ht : t = tAt L 0) (hpos : 0 < L.length) : Rel (popL L) ((t :: M').filter (keepT t.seq 0)) n := by
  have hp := pop_perm hpos
  rw [← ht] at hp
  have hperm : M'.Perm (popL L) := (List.perm_cons t).1 (h.perm.trans hp.symm)
  have hmem : ∀ y, y ∈ popL L → y ∈ L := fun y hy => hp.mem_iff.1 (List.mem_cons_of_mem _ hy)
  have hnd := ((hp.map T.seq).nodup_iff).2 h.nd
  rw [List.map_cons, List.nodup_cons] at hnd
  have htpos : 0 < t.seq := h.pos t (h.perm.mem_iff.1 (by simp))
  have hF : (t :: M').filter (keepT t.seq 0) = M' := by
    rw [List.filter_cons_of_neg (by simp [keepT]), List.filter_eq_self]
    intro y hy
    have hne : y.seq ≠ t.seq := fun e => hnd.1 (List.mem_map.2 ⟨y, hperm.mem_iff.1 hy, e⟩)
    simp [keepT, hne, htpos]
  rw [hF]
  have hs := h.srt
  rw [Srt, List.pairwise_cons] at hs
  exact ⟨pop_heap h.heap, hnd.2, hs.2, hperm, fun y hy => h.pos y (hmem y hy), fun y hy => h.le y (hmem y hy)⟩
theorem Rel.seqDrop {L M : List T} {n : Int} (h : Rel L M n) (a : Int) (ha : 0 < a) : Rel (dropL (fun t => decide (t.seq = a)) L) (M.filter (keepT a 0)) n ∧ (M.filter (keepT a 0)).length = (L.filter fun t => !decide (t.seq = a)).length :=
  h.drop _ _ (fun t _ => by simp [keepT, ha])
theorem Rel.seqNone {L M : List T} {n : Int} (h : Rel L M n) (a : Int) (ha : a ≤ 0) : Rel (dropL (fun t => decide (t.seq = a)) L) M n ∧ (L.filter fun t => !decide (t.seq = a)).length = L.length := by
  have hk : ∀ t ∈ L, (fun _ => true) t = !decide (t.seq = a) := fun t ht => by
    have := h.pos t ht
    have hne : ¬ t.seq = a := by omega
    simp [hne]
  obtain ⟨h1, h2⟩ := h.drop (fun t => decide (t.seq = a)) (fun _ => true) hk
  have e : M.filter (fun _ => true) = M := by simp
  rw [e] at h1 h2
  exact ⟨h1, by rw [← h2, h.len]⟩
theorem Rel.stmtDrop {L M : List T} {n : Int} (h : Rel L M n) (a : Int) : Rel (dropL (fun t => decide (t.stmt = a)) L) (M.filter (keepT 0 a)) n ∧ (M.filter (keepT 0 a)).length = (L.filter fun t => !decide (t.stmt = a)).length :=
  h.drop _ _ (fun t ht => by
    have := h.pos t ht
    have hne : ¬ t.seq = 0 := by omega
    simp [keepT, hne])
end Go.Proofs.Ytdgffilnefnjjaa.Ab
