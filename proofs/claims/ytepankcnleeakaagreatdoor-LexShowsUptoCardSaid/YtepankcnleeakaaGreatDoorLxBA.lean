/- Several of my texts in one: LxB0, LxB1, LxB2, LxB3, LxB4, LxB5, LxBW, LxBB, LxBS, LxBd. -/
import Derived.Test.YtepankcnleeakaaGreatDoorLxJ
import Derived.Lib.AppendStr
import Derived.Shelf.Strings.BuilderK
import Derived.Test.YtepankcnleeakaaGreatDoorAbD
namespace Go.Proofs.YtepankcnleeakaaGreatDoor.Ab
open Go Go.RowKit
set_option maxRecDepth 20000
set_option maxHeartbeats 4000000
set_option linter.unusedVariables false
def BufAt (w : World) (e : TypeId) (v : Value) (n : Nat) (xs : List Value) : Prop :=
 xs.length = n ∧ ((v = .slice none 0 0 ∧ n = 0) ∨ ∃ g c cur, v = .slice (some ⟨g, 0, none⟩) n c ∧ w.heap[g]? = some (.cells cur e (0, 0)) ∧ n ≤ c ∧ c ≤ cur.size ∧ cur.toList.take n = xs)
structure Appd (w w' : World) (e : TypeId) (v v' : Value) (n : Nat) (ys : List Value) : Prop where
 os : w'.os = w.os
 tape : w'.tape = w.tape
 output : w'.output = w.output
 size : w.heap.size ≤ w'.heap.size
 block : ∀ k, k < w.heap.size → some k ≠ v.ownBlock → w'.heap[k]? = w.heap[k]?
 buf : BufAt w' e v' n ys
 was : v'.ownBlock = none ∨ v'.ownBlock = v.ownBlock ∨ v'.ownBlock = some w.heap.size
 pos : v = .slice none 0 0 → v' = .slice none 0 0 ∨ 0 < n
section
variable {P : Program} (w : World)
theorem buf_cells {w : World} {e : TypeId} {g n : Nat} {cur : Array Value} {xs : List Value} (hg : w.heap[g]? = some (.cells cur e (0, 0))) (htake : cur.toList.take n = xs) : ∀ j u, xs[j]? = some u → w.cell? ((⟨g, 0, none⟩ : Addr).add j) = some u := by
 intro j u hj
 subst htake
 rw [Addr.add_lit]
 rw [List.getElem?_take] at hj
 split at hj
 ·simp only [World.cell?, hg, Nat.zero_add, Option.isSome_none, Bool.false_eq_true, if_false]
  simpa using hj
 ·cases hj
theorem appd_new {w : World} {e : TypeId} {v : Value} {n c : Nat} {ys : List Value} {arr : Array Value} (hn : 0 < n) (hl : ys.length = n) (hc : n ≤ c) (hs : c ≤ arr.size) (ht : arr.toList.take n = ys) :
  Appd w (w.drew.alloc (.cells arr e)) e v (.slice (some ⟨w.heap.size, 0, none⟩) n c) n ys where
 os := rfl
 tape := rfl
 output := rfl
 size := by simp
 block := fun k hk _ => heap_alloc_old w.drew _ hk
 buf := ⟨hl, .inr ⟨_, _, _, rfl, heap_alloc_new w.drew _, hc, hs, ht⟩⟩
 was := .inr (.inr rfl)
 pos := fun _ => .inr hn
theorem appd_room {w : World} {e : TypeId} {g c m : Nat} {v : Value} {ys : List Value} {cur arr : Array Value} (hv : v.ownBlock = some g) (hg : w.heap[g]? = some (.cells cur e (0, 0))) (hl : ys.length = m) (hc : m ≤ c) (hs : c ≤ arr.size) (ht : arr.toList.take m = ys) :
  Appd w (w.setRow g arr) e v (.slice (some ⟨g, 0, none⟩) m c) m ys where
 os := rfl
 tape := rfl
 output := rfl
 size := by simp
 block := fun k _ hk => setRow_other w g k _ (fun e => hk (by rw [hv, e]))
 buf := ⟨hl, .inr ⟨_, _, _, rfl, setRow_heap w g cur _ e _ hg, hc, hs, ht⟩⟩
 was := .inr (.inl (by rw [hv]; rfl))
 pos := fun e => by rw [e] at hv; cases hv
theorem appd_same {w : World} {e : TypeId} {v : Value} {n : Nat} {xs : List Value} (h : BufAt w e v n xs) : Appd w w e v v n xs where
 os := rfl
 tape := rfl
 output := rfl
 size := Nat.le_refl _
 block := fun _ _ _ => rfl
 buf := h
 was := .inr (.inl rfl)
 pos := fun e => .inl e
theorem run_append_str (t u ty e : TypeId) (i : TypeInfo) (ht : P.underlying t = some (.slice e)) (hu : P.underlying u = some .string) (hi : P.info? e = some i) (hz : i.zero = some (.int .u8 0))
  (hsize : i.size = 1) (hby : i.bytes = 1) (v : Value) (n : Nat) (xs : List Value) (hbuf : BufAt w e v n xs) (s : ByteArray) (hlen : n + s.size ≤ 140737488355328) :
  ∃ v' w', (Builtin.append_ #[t, u] ty #[v, .string s]).run P w = .ok v' w' ∧ Appd w w' e v v' (n + s.size) (xs ++ Lib.strCells s) := by
 obtain ⟨hxl, hbuf⟩ := hbuf
 have hyl : (xs ++ Lib.strCells s).length = n + s.size := by rw [List.length_append, hxl, Lib.strCells_length]
 have hzc : (Value.int IntKind.u8 0).cells.size = 1 := rfl
 rcases hbuf with ⟨rfl, rfl⟩ | ⟨g, c, cur, rfl, hg, hnc, hcs, htake⟩
 ·have hx0 : xs = [] := List.eq_nil_of_length_eq_zero hxl
  subst hx0
  by_cases hm : s.size = 0
  ·have hn : Lib.strCells s = [] := List.eq_nil_of_length_eq_zero (by rw [Lib.strCells_length]; exact hm)
   have hf := Lib.run_firstCells_string (P := P) w 1 s
   rw [hm] at hf
   refine ⟨.slice none 0 0, w, ?_, ?_⟩
   ·simp [Builtin.append_, run_underlying ht, run_underlying hu, sizeOf, typeInfo, hi, hsize, Builtin.lenOf, hm, hf]
   ·rw [hm, hn]
    exact appd_same ⟨rfl, .inl ⟨rfl, rfl⟩⟩
  ·have hr := run_append_nil_string (P := P) w t u ty e i (.int .u8 0) ht hu hi hz s (by omega) (by omega) (by rw [hby]; omega)
   have e1 : (s.data.map fun b => Value.int .u8 b.toNat) = (Lib.strCells s).toArray := by
    apply Array.ext'
    simp [Lib.strCells]
   rw [e1] at hr
   have hge := grownCap_ge w s.size 0 e
   simp only [Nat.zero_add, List.nil_append] at hyl ⊢
   refine ⟨_, _, hr, appd_new (by omega) hyl hge ?_ ?_⟩
   ·simp only [Array.size_append, List.size_toArray, size_zeroCells, hzc, hyl]
    omega
   ·simp only [Array.toList_append, ← hyl]
    exact List.take_left
 ·by_cases hroom : n + s.size ≤ c
  ·have hr := Lib.run_append_room_string (P := P) w t u ty e i ht hu hi hsize g n c cur hg s hroom (by omega)
   refine ⟨_, _, hr, appd_room rfl hg hyl hroom ?_ ?_⟩
   ·simp only [List.size_toArray, List.length_append, List.length_take, List.length_drop, Array.length_toList, Lib.strCells_length]
    omega
   ·rw [htake, ← hyl]
    exact List.take_left
  ·have hr := Lib.run_append_grow_string (P := P) w t u ty e i (.int .u8 0) ht hu hi hz ⟨g, 0, none⟩ n c xs (by rw [hsize]; omega) (buf_cells hg htake) s (by omega) (by omega) (by rw [hby]; exact growslice_fits (by omega) (by omega))
   have hge := grownCap_ge w (n + s.size) c e
   refine ⟨_, _, hr, appd_new (by omega) hyl hge ?_ ?_⟩
   ·simp only [Array.size_append, List.size_toArray, size_zeroCells, hzc, hxl, Lib.strCells_length]
    omega
   ·simp only [Array.toList_append, List.append_assoc]
    rw [← List.append_assoc, ← hyl]
    exact List.take_left
theorem run_append_byte (t ty e : TypeId) (i : TypeInfo) (ht : P.underlying t = some (.slice e)) (hi : P.info? e = some i) (hz : i.zero = some (.int .u8 0))
  (hsize : i.size = 1) (hby : i.bytes = 1) (v : Value) (n : Nat) (xs : List Value) (hbuf : BufAt w e v n xs) (a : Addr) (k : Nat) (x : Value) (hx : w.cell? (a.add 0) = some x) (hx1 : x.oneCell' = true) (hlen : n + 1 ≤ 140737488355328) :
  ∃ v' w', (Builtin.append_ #[t, t] ty #[v, .slice (some a) 1 k]).run P w = .ok v' w' ∧ Appd w w' e v v' (n + 1) (xs ++ [x]) := by
 obtain ⟨hxl, hbuf⟩ := hbuf
 have hyl : (xs ++ [x]).length = n + 1 := by rw [List.length_append, hxl]; rfl
 have hzc : (Value.int IntKind.u8 0).cells.size = 1 := rfl
 have hnews : ∀ j u, [x][j]? = some u → w.cell? (a.add j) = some u := by
  intro j u hj
  match j, hj with
  | 0, hj => simp at hj; subst hj; exact hx
 have h1 : ∀ u ∈ [x], u.oneCell' = true := by
  intro u hu
  simp at hu
  subst hu
  exact hx1
 rcases hbuf with ⟨rfl, rfl⟩ | ⟨g, c, cur, rfl, hg, hnc, hcs, htake⟩
 ·have hx0 : xs = [] := List.eq_nil_of_length_eq_zero hxl
  subst hx0
  have hr := run_append_nil (P := P) w t ty e i (.int .u8 0) ht hi hz a 1 k [x] (by rw [hsize]; rfl) hnews (by omega) (by omega) (by rw [hby]; omega)
  have hge := grownCap_ge w 1 0 e
  refine ⟨_, _, hr, appd_new (by omega) hyl hge ?_ ?_⟩
  ·simp only [Array.size_append, List.size_toArray, size_zeroCells, hzc, List.length_cons, List.length_nil]
   omega
  ·simp only [Array.toList_append]
   exact List.take_left' rfl
 ·by_cases hroom : n + 1 ≤ c
  ·have hr := run_append_room (P := P) w t ty e i ht hi g n c cur hg a 1 k [x] (by rw [hsize]; rfl) hnews h1 hroom (by rw [hsize]; show n * 1 + 1 ≤ _; omega)
   rw [hsize] at hr
   refine ⟨_, _, hr, appd_room rfl hg hyl hroom ?_ ?_⟩
   ·simp only [List.size_toArray, List.length_append, List.length_take, List.length_drop, Array.length_toList, List.length_cons, List.length_nil]
    omega
   ·rw [Nat.mul_one, htake, ← hyl]
    exact List.take_left
  ·have hr := run_append_grow (P := P) w t ty e i (.int .u8 0) ht hi hz ⟨g, 0, none⟩ n c xs (by rw [hsize]; omega) (buf_cells hg htake) a 1 k [x] (by rw [hsize]; rfl) hnews (by omega) (by omega) (by rw [hby]; exact growslice_fits (by omega) (by omega))
   have hge := grownCap_ge w (n + 1) c e
   refine ⟨_, _, hr, appd_new (by omega) hyl hge ?_ ?_⟩
   ·simp only [Array.size_append, List.size_toArray, size_zeroCells, hzc, hxl, List.length_cons, List.length_nil]
    omega
   ·simp only [Array.toList_append]
    rw [← hyl]
    exact List.take_left' rfl
end
end Go.Proofs.YtepankcnleeakaaGreatDoor.Ab
namespace Go.Proofs.YtepankcnleeakaaGreatDoor.Ab
open Go Go.RowKit
set_option maxRecDepth 20000
set_option maxHeartbeats 4000000
set_option linter.unusedVariables false
theorem Post.bld {ρ : Loc} {σ σ' : AHeap} {w w' : World} (hr : HR ρ σ.get w) {id : Nat} {B B2 : Blk} {o o1 o2 : AObj} (dead : Nat → Prop)
  (hB : ρ id = some B) (ho : σ.get id = some o) (hmo : o.md.owns = true)
  (hdead : ∀ i, dead i → i ≠ id ∧ ∃ Bi oi, ρ i = some Bi ∧ σ.get i = some oi ∧ oi.md.owns = true)
  (hsz : σ'.size = σ.size + 1) (hnew : σ'.get σ.size = some o2) (hid : σ'.get id = some o1)
  (hkill : ∀ i oi, dead i → σ.get i = some oi → σ'.get i = some ⟨oi.cells, .dead⟩)
  (hkeep : ∀ i, i < σ.size → i ≠ id → ¬ dead i → σ'.get i = σ.get i)
  (hok1 : ObjOk (ρ.upd σ.size B2) w' B o1) (hok2 : ObjOk (ρ.upd σ.size B2) w' B2 o2) (hB2 : B2.b < w'.heap.size)
  (hown2 : w.heap.size ≤ B2.b ∨ Owned ρ σ.get B2.b)
  (hex2 : o2.md = .dead ∨ w.heap.size ≤ B2.b ∨ ∃ i Bi, dead i ∧ ρ i = some Bi ∧ Bi.b = B2.b)
  (hwsz : w.heap.size ≤ w'.heap.size)
  (hfr : ∀ k, k < w.heap.size → k ≠ B.b → (∀ i Bi, dead i → ρ i = some Bi → Bi.b ≠ k) → w'.heap[k]? = w.heap[k]?)
  (hos : w'.os = w.os) (htape : w'.tape = w.tape) (hout : w'.output = w.output) : Post ρ σ w (ρ.upd σ.size B2) σ' w' := by
 classical
 have hnone : ρ σ.size = none := hr.none_size (Nat.le_refl _)
 have hle := Loc.le_upd hnone (B := B2)
 have hidl := AHeap.get_lt ho
 have hlt : ∀ i B', (ρ.upd σ.size B2) i = some B' → i ≠ σ.size → ρ i = some B' ∧ i < σ.size := by
  intro i B' hB' hi
  rw [Loc.upd_at, if_neg hi] at hB'
  exact ⟨hB', hr.lt hB'⟩
 have hself : ∀ B', (ρ.upd σ.size B2) σ.size = some B' → B' = B2 := by
  intro B' hB'
  rw [Loc.upd_at, if_pos rfl] at hB'
  cases hB'
  rfl
 have hnd : o.md ≠ .dead := by intro e; rw [e] at hmo; cases hmo
 have kind : ∀ i, i < σ.size → i = id ∨ (i ≠ id ∧ dead i) ∨ (i ≠ id ∧ ¬ dead i ∧ σ'.get i = σ.get i) := by
  intro i hi
  by_cases e : i = id
  ·exact .inl e
  ·by_cases d : dead i
   ·exact .inr (.inl ⟨e, d⟩)
   ·exact .inr (.inr ⟨e, d, hkeep i hi e d⟩)
 have deadGet : ∀ i o', dead i → σ'.get i = some o' → o'.md = .dead := by
  intro i o' hd hg
  obtain ⟨_, Bi, oi, _, h2, _⟩ := hdead i hd
  rw [hkill i oi hd h2] at hg
  cases hg
  rfl
 have howned : ∀ b, b < w.heap.size → Owned (ρ.upd σ.size B2) σ'.get b → Owned ρ σ.get b := by
  rintro b hb ⟨i, B', o', k1, k2, k3, k4⟩
  by_cases e : i = σ.size
  ·subst e
   have := hself B' k1
   subst this
   rcases hown2 with h | h
   ·omega
   ·rw [← k4]; exact h
  ·obtain ⟨q1, q2⟩ := hlt i B' k1 e
   rcases kind i q2 with rfl | ⟨_, hd⟩ | ⟨_, _, hg⟩
   ·exact ⟨i, B', o, q1, ho, hmo, k4⟩
   ·rw [deadGet i o' hd k2] at k3; cases k3
   ·rw [hg] at k2; exact ⟨i, B', o', q1, k2, k3, k4⟩
 have hframe : ∀ b, b < w.heap.size → ¬ Owned ρ σ.get b → w'.heap[b]? = w.heap[b]? := fun b hb hno => hfr b hb (fun e => hno ⟨id, B, o, hB, ho, hmo, e.symm⟩) (fun i Bi hd hBi e => by
  obtain ⟨_, Bi', oi, h1, h2, h3⟩ := hdead i hd
  rw [hBi] at h1; cases h1
  exact hno ⟨i, Bi, oi, hBi, h2, h3, e⟩)
 exact {
  le := hle
  size := by omega
  new := fun i h1 h2 => by
   have : i = σ.size := by omega
   subst this
   exact ⟨B2, by rw [Loc.upd_at, if_pos rfl]⟩
  old := fun i hi => by rw [Loc.upd_at, if_neg (by omega)]
  dom := fun i B' hB' => by
   by_cases e : i = σ.size
   ·omega
   ·have := (hlt i B' hB' e).2; omega
  same := fun i h1 h2 => by
   refine hkeep i h1 (fun e => ?_) (fun d => ?_)
   ·subst e; rw [hB] at h2; cases h2
   ·obtain ⟨_, Bi, oi, q1, _⟩ := hdead i d
    rw [h2] at q1; cases q1
  md := fun i B' o' h1 h2 h3 => by
   rcases kind i (hr.lt h1) with rfl | ⟨_, hd⟩ | ⟨_, _, hg⟩
   ·exact ⟨o, ho, hmo⟩
   ·rw [deadGet i o' hd h2] at h3; cases h3
   ·rw [hg] at h2; exact ⟨o', h2, h3⟩
  md' := fun i B' oi h1 h2 h3 => by
   rcases kind i (hr.lt h1) with rfl | ⟨_, hd⟩ | ⟨_, _, hg⟩
   ·rw [ho] at h2; cases h2; exact absurd h3 hnd
   ·exact ⟨_, hkill i oi hd h2, rfl⟩
   ·exact ⟨oi, by rw [hg]; exact h2, h3⟩
  hr := {
   dom := fun i B' hB' => by
    by_cases e : i = σ.size
    ·subst e
     have := hself B' hB'
     subst this
     exact ⟨o2, hnew, hok2, hB2⟩
    ·obtain ⟨q1, q2⟩ := hlt i B' hB' e
     obtain ⟨oi, k1, k2, k3⟩ := hr.dom i B' q1
     rcases kind i q2 with rfl | ⟨_, hd⟩ | ⟨hne, hnd', hg⟩
     ·rw [hB] at q1; cases q1
      exact ⟨o1, hid, hok1, Nat.lt_of_lt_of_le k3 hwsz⟩
     ·exact ⟨_, hkill i oi hd k1, .dead rfl k2.len k2.fit, Nat.lt_of_lt_of_le k3 hwsz⟩
     ·refine ⟨oi, by rw [hg]; exact k1, ?_, Nat.lt_of_lt_of_le k3 hwsz⟩
      by_cases hdd : oi.md = .dead
      ·exact .dead hdd k2.len k2.fit
      ·refine k2.of_heap hle (hfr _ k3 (fun e' => ?_) (fun j Bj hj hBj e' => ?_))
       ·exact hr.excl id i B B' o oi hB q1 ho k1 (fun x => hne x.symm) hmo hdd e'.symm
       ·obtain ⟨_, Bj', oj, r1, r2, r3⟩ := hdead j hj
        rw [hBj] at r1; cases r1
        exact hr.excl j i Bj B' oj oi hBj q1 r2 k1 (fun x => hnd' (x ▸ hj)) r3 hdd e'
   excl := fun i j B1 B1' p p' h1 h2 h3 h4 hne h5 h6 => by
    have live2 : ∀ k Bk ok, ρ k = some Bk → σ.get k = some ok → ok.md ≠ .dead → ¬ dead k → o2.md ≠ .dead → Bk.b ≠ B2.b := by
     intro k Bk ok q1 q2 q3 q4 q5
     rcases hex2 with h | h | ⟨i0, B0, r1, r2, r3⟩
     ·exact absurd h q5
     ·obtain ⟨_, _, _, s3⟩ := hr.dom k Bk q1; omega
     ·obtain ⟨_, B0', o0, s1, s2, s3⟩ := hdead i0 r1
      rw [r2] at s1; cases s1
      have := hr.excl i0 k B0 Bk o0 ok r2 q1 s2 q2 (fun x => q4 (x ▸ r1)) s3 q3
      rw [r3] at this
      exact fun e => this e.symm
    by_cases e : i = σ.size
    ·subst e
     have e1 := hself B1 h1
     subst e1
     rw [hnew] at h3; cases h3
     obtain ⟨q1, q2⟩ := hlt j B1' h2 (fun x => hne x.symm)
     have h5' : o2.md ≠ .dead := by intro x; rw [x] at h5; cases h5
     rcases kind j q2 with rfl | ⟨_, hd⟩ | ⟨_, hnd', hg⟩
     ·rw [hB] at q1; cases q1
      exact fun x => live2 j B o hB ho hnd (fun d => (hdead j d).1 rfl) h5' x.symm
     ·exact absurd (deadGet j p' hd h4) h6
     ·rw [hg] at h4
      exact fun x => live2 j B1' p' q1 h4 h6 hnd' h5' x.symm
    ·obtain ⟨q1, q2⟩ := hlt i B1 h1 e
     by_cases e' : j = σ.size
     ·subst e'
      have e1 := hself B1' h2
      subst e1
      rw [hnew] at h4; cases h4
      rcases kind i q2 with rfl | ⟨_, hd⟩ | ⟨_, hnd', hg⟩
      ·rw [hB] at q1; cases q1
       exact live2 i B o hB ho hnd (fun d => (hdead i d).1 rfl) h6
      ·rw [deadGet i p hd h3] at h5; cases h5
      ·rw [hg] at h3
       exact live2 i B1 p q1 h3 (fun x => by rw [x] at h5; cases h5) hnd' h6
     ·obtain ⟨r1, r2⟩ := hlt j B1' h2 e'
      rcases kind i q2 with rfl | ⟨_, hd⟩ | ⟨hi1, hi2, hg⟩
      ·rw [hB] at q1; cases q1
       rcases kind j r2 with rfl | ⟨_, hd⟩ | ⟨_, _, hg⟩
       ·exact absurd rfl hne
       ·exact absurd (deadGet j p' hd h4) h6
       ·rw [hg] at h4
        exact hr.excl i j B B1' o p' hB r1 ho h4 hne hmo h6
      ·rw [deadGet i p hd h3] at h5; cases h5
      ·rw [hg] at h3
       rcases kind j r2 with rfl | ⟨_, hd⟩ | ⟨_, _, hg'⟩
       ·rw [hB] at r1; cases r1
        exact hr.excl i j B1 B p o q1 hB h3 ho hne h5 hnd
       ·exact absurd (deadGet j p' hd h4) h6
       ·rw [hg'] at h4
        exact hr.excl i j B1 B1' p p' q1 r1 h3 h4 hne h5 h6
   frz := frz_stays hr (fun _ _ _ h => h) hframe howned
   gl := hr.gl
   rows := rows_stays hr hframe }
  hsize := hwsz
  frame := hframe
  fresh := fun i B' h1 h2 => by
   by_cases e : i = σ.size
   ·subst e
    have := hself B' h2
    subst this
    exact hown2
   ·have := (hlt i B' h2 e).2; omega
  fz := fun _ _ _ h => .inl h
  os := hos
  tape := htape
  output := hout }
end Go.Proofs.YtepankcnleeakaaGreatDoor.Ab
namespace Go.Proofs.YtepankcnleeakaaGreatDoor.Ab
open Go Go.RowKit Go.Shelf Go.Proofs
set_option maxRecDepth 100000
set_option maxHeartbeats 4000000
set_option linter.unusedVariables false
structure BldR (w w' : World) (T e : TypeId) (b : Nat) (v v' : Value) (m : Nat) (ys : List Value) : Prop where
 os : w'.os = w.os
 tape : w'.tape = w.tape
 output : w'.output = w.output
 size : w.heap.size ≤ w'.heap.size
 block : ∀ k, k < w.heap.size → k ≠ b → some k ≠ v.ownBlock → w'.heap[k]? = w.heap[k]?
 own : w'.heap[b]? = some (.cells #[.pointer (some ⟨b, 0, none⟩), v'] T (0, 0))
 buf : BufAt w' e v' m ys
 was : v'.ownBlock = none ∨ v'.ownBlock = v.ownBlock ∨ ∃ g, v'.ownBlock = some g ∧ w.heap.size ≤ g
 pos : v = .slice none 0 0 → v' = .slice none 0 0 ∨ 0 < m
section
variable {P : Program} {ρ : Ren}
structure Used (w w' : World) (T : TypeId) (b : Nat) (v : Value) : Prop where
 os : w'.os = w.os
 tape : w'.tape = w.tape
 output : w'.output = w.output
 size : w'.heap.size = w.heap.size
 block : ∀ k, k ≠ b → w'.heap[k]? = w.heap[k]?
 own : w'.heap[b]? = some (.cells #[.pointer (some ⟨b, 0, none⟩), v] T (0, 0))
theorem used_walk (L : Lays.n240 P ρ) (X : Builder.X72 P ρ) (b : Nat) (p v : Value) (w : World) (hbk : w.heap[b]? = some (.cells #[p, v] (ρ.t 72) (0, 0))) (hp : p = .pointer none ∨ p = .pointer (some ⟨b, 0, none⟩)) :
  Calls P (ρ.f 240) #[.pointer (some ⟨b, 0, none⟩)] w fun e w' => e = .returned (.tuple #[]) ∧ Used w w' (ρ.t 72) b v := by
 have hc : w.cell? ⟨b, 0, none⟩ = some p := by rw [Lib.cell_of_heap hbk]; rfl
 rcases hp with rfl | rfl
 ·refine (Any.Builder_copyCheck_fresh L X b w hc (by simp [World.shape?, hbk]) (Lib.frozen_of_heap hbk 0)).mono ?_
  rintro e w' ⟨rfl, rfl⟩
  refine ⟨rfl, rfl, rfl, rfl, by simp [World.setCell], fun k hk => Below.heap_setCell _ _ _ _ (fun e => hk e), ?_⟩
  simp [World.setCell, Array.getElem?_modify, hbk]
 ·refine (Any.Builder_copyCheck_used L X b w hc).mono ?_
  rintro e w' ⟨rfl, rfl⟩
  exact ⟨rfl, rfl, rfl, rfl, rfl, fun _ _ => rfl, hbk⟩
theorem Used.buf {w w' : World} {T e : TypeId} {b : Nat} {v u : Value} {n : Nat} {xs : List Value} (h : Used w w' T b v) (hne : T ≠ e) {p : Value} (hbk : w.heap[b]? = some (.cells #[p, v] T (0, 0))) (k : BufAt w e u n xs) : BufAt w' e u n xs := by
 obtain ⟨h1, h2⟩ := k
 refine ⟨h1, ?_⟩
 rcases h2 with h2 | ⟨g, c, cur, q1, q2, q3⟩
 ·exact .inl h2
 ·refine .inr ⟨g, c, cur, q1, ?_, q3⟩
  rw [h.block g (fun e => ?_)]
  ·exact q2
  ·subst e
   rw [hbk] at q2
   cases q2
   exact hne rfl
theorem wpList_append_str {w : World} {ops : Array Oper} {rest : List Oper} {o : Oper} {a : Act} {Q : Exit → Act → World → Prop} (hgd : o.guard = none) (sl x : Operand) (t u : TypeId)
  (ho : o.op = .call { callee := .builtin .append, args := #[sl, x], argTypes := #[t, u] }) (e : TypeId) (i : TypeInfo) (ht : P.underlying t = some (.slice e)) (hu : P.underlying u = some .string) (hi : P.info? e = some i) (hz : i.zero = some (.int .u8 0))
  (hsize : i.size = 1) (hby : i.bytes = 1) (v : Value) (n : Nat) (xs : List Value) (hs : a.eval sl = v) (hbuf : BufAt w e v n xs) (s : ByteArray) (hx : a.eval x = .string s) (hlen : n + s.size ≤ 140737488355328)
  (h : ∀ v' w', Appd w w' e v v' (n + s.size) (xs ++ Lib.strCells s) → wpList P ops Q rest (a.put o.dst v') w') : wpList P ops Q (o :: rest) a w := by
 refine wpList_plain hgd fun K hK => ?_
 obtain ⟨v', w', hr, h2⟩ := run_append_str (P := P) w t u o.type e i ht hu hi hz hsize hby v n xs hbuf s hlen
 unfold Oper.wp execOp
 simp only [ho, resolve, invoke, builtin, Sem.run_bind, Sem.run_pure, Result.andThen_ok, List.map_toArray, List.map_cons, List.map_nil, hs, hx, hr]
 exact hK _ _ (h v' w' h2)
theorem wpList_append_byte {w : World} {ops : Array Oper} {rest : List Oper} {o : Oper} {a : Act} {Q : Exit → Act → World → Prop} (hgd : o.guard = none) (sl x : Operand) (t : TypeId)
  (ho : o.op = .call { callee := .builtin .append, args := #[sl, x], argTypes := #[t, t] }) (e : TypeId) (i : TypeInfo) (ht : P.underlying t = some (.slice e)) (hi : P.info? e = some i) (hz : i.zero = some (.int .u8 0))
  (hsize : i.size = 1) (hby : i.bytes = 1) (v : Value) (n : Nat) (xs : List Value) (hs : a.eval sl = v) (hbuf : BufAt w e v n xs) (ad : Addr) (k : Nat) (y : Value) (hx : a.eval x = .slice (some ad) 1 k) (hy : w.cell? (ad.add 0) = some y) (hy1 : y.oneCell' = true) (hlen : n + 1 ≤ 140737488355328)
  (h : ∀ v' w', Appd w w' e v v' (n + 1) (xs ++ [y]) → wpList P ops Q rest (a.put o.dst v') w') : wpList P ops Q (o :: rest) a w := by
 refine wpList_plain hgd fun K hK => ?_
 obtain ⟨v', w', hr, h2⟩ := run_append_byte (P := P) w t o.type e i ht hi hz hsize hby v n xs hbuf ad k y hy hy1 hlen
 unfold Oper.wp execOp
 simp only [ho, resolve, invoke, builtin, Sem.run_bind, Sem.run_pure, Result.andThen_ok, List.map_toArray, List.map_cons, List.map_nil, hs, hx, hr]
 exact hK _ _ (h v' w' h2)
theorem bldR_put {w w1 w2 : World} {T e : TypeId} {b n : Nat} {v v' : Value} {ys : List Value} (hne : T ≠ e) (h1 : Used w w1 T b v) (hb : b < w.heap.size) (hv : v.ownBlock ≠ some b)
  (hos : w2.os = w1.os) (htape : w2.tape = w1.tape) (hout : w2.output = w1.output) (hsize : w1.heap.size ≤ w2.heap.size) (hblock : ∀ k, k < w1.heap.size → some k ≠ v.ownBlock → w2.heap[k]? = w1.heap[k]?)
  (hbuf : BufAt w2 e v' n ys) (hwas : v'.ownBlock = none ∨ v'.ownBlock = v.ownBlock ∨ ∃ g, v'.ownBlock = some g ∧ w1.heap.size ≤ g) (hpos : v = .slice none 0 0 → v' = .slice none 0 0 ∨ 0 < n) : BldR w (w2.setCell ⟨b, 1, none⟩ v') T e b v v' n ys := by
 have hb2 : w2.heap[b]? = some (.cells #[.pointer (some ⟨b, 0, none⟩), v] T (0, 0)) := by
  rw [hblock b (by rw [h1.size]; exact hb) (fun e => hv e.symm)]
  exact h1.own
 refine ⟨hos.trans h1.os, htape.trans h1.tape, hout.trans h1.output, by simp [World.setCell]; rw [← h1.size]; exact hsize, fun k hk hkb hko => ?_, ?_, ?_, ?_, hpos⟩
 ·rw [Below.heap_setCell _ _ _ _ (fun e => hkb e), hblock k (by rw [h1.size]; exact hk) hko, h1.block k hkb]
 ·simp [World.setCell, Array.getElem?_modify, hb2]
 ·obtain ⟨q1, q2⟩ := hbuf
  refine ⟨q1, ?_⟩
  rcases q2 with q2 | ⟨g, c, cur, r1, r2, r3⟩
  ·exact .inl q2
  ·refine .inr ⟨g, c, cur, r1, ?_, r3⟩
   rw [Below.heap_setCell _ _ _ _ (fun e => ?_)]
   ·exact r2
   ·have e : g = b := e
    subst e
    rw [hb2] at r2
    cases r2
    exact hne rfl
 ·rw [← h1.size]; exact hwas
theorem ws_walk (L : Lays.n166 P ρ) (X : Builder.Extra P ρ) (b : Nat) (p v : Value) (n : Nat) (xs : List Value) (s : ByteArray) (w : World) (hbk : w.heap[b]? = some (.cells #[p, v] (ρ.t 72) (0, 0))) (hp : p = .pointer none ∨ p = .pointer (some ⟨b, 0, none⟩))
  (hbuf : BufAt w (ρ.t 5) v n xs) (hlen : n + s.size ≤ 140737488355328) :
  Calls P (ρ.f 166) #[.pointer (some ⟨b, 0, none⟩), .string s] w fun e w' => e = .returned (.tuple #[.int .i64 s.size, .nilIface]) ∧ ∃ v', BldR w w' (ρ.t 72) (ρ.t 5) b v v' (n + s.size) (xs ++ Lib.strCells s) := by
 obtain ⟨i0, hi, hz0, hz1, hz2⟩ := info_parts X.infoByte
 have mixed := L.mixed
 have t72 := L.t72; have a72 := L.a72; have z72 := L.z72; have v72 := L.v72; have u72 := run_underlying L.t72
 have t70 := L.t70; have a70 := L.a70; have z70 := L.z70; have v70 := L.v70; have u70 := run_underlying L.t70
 have t37 := L.t37; have a37 := L.a37; have z37 := L.z37; have v37 := L.v37; have u37 := run_underlying L.t37
 have t3 := L.t3; have a3 := L.a3; have z3 := L.z3; have v3 := L.v3; have u3 := run_underlying L.t3
 have t9 := L.t9; have a9 := L.a9; have z9 := L.z9; have v9 := L.v9; have u9 := run_underlying L.t9
 have t4 := L.t4; have a4 := L.a4; have z4 := L.z4; have v4 := L.v4; have u4 := run_underlying L.t4
 have t164 := L.t164; have a164 := L.a164; have z164 := L.z164; have v164 := L.v164; have u164 := run_underlying L.t164
 have t5 := X.t5; have a5 := X.a5; have z5 := X.z5; have v5 := X.v5; have u5 := run_underlying X.t5
 have e240 : ∀ args w, (callFunc (ρ.f 240) args).run P w = .ok (.enter (ρ.f 240) args) w := enters_of L.f240 (by kernel_rfl) rfl
 have hblt : b < w.heap.size := (Array.getElem?_eq_some_iff.1 hbk).1
 have hvb : v.ownBlock ≠ some b := by
  intro e
  rcases hbuf.2 with ⟨rfl, _⟩ | ⟨g, c, cur, rfl, hg, _⟩
  ·cases e
  ·cases e
   rw [hbk] at hg
   simp only [Option.some.injEq, Obj.cells.injEq] at hg
   exact X.neB5 hg.2.1
 go_enter L.f166, Body.n166_ntmps ρ
 go_wp2_with (go_at_fn (ρ.f 240); refine (used_walk { L with } X.toX72 b p v _ hbk hp).mono ?_)
 rintro e w1 ⟨rfl, h1⟩
 have c0 : w1.cell? ⟨b, 0, none⟩ = some (.pointer (some ⟨b, 0, none⟩)) := by rw [Lib.cell_of_heap h1.own]; rfl
 have c1 : w1.cell? ⟨b, 1, none⟩ = some v := by rw [Lib.cell_of_heap h1.own]; rfl
 go_wp2_with (at_builtin; refine wpList_append_str rfl _ _ (ρ.t 37) (ρ.t 9) rfl (ρ.t 5) i0 L.t37 L.t9 hi hz0 hz1 hz2 v n xs rfl (h1.buf X.neB5 hbk hbuf) s rfl hlen ?_)
 intro v' w2 hap
 have hb2 : w2.heap[b]? = some (.cells #[.pointer (some ⟨b, 0, none⟩), v] (ρ.t 72) (0, 0)) := by
  rw [hap.block b (by rw [h1.size]; exact hblt) (fun e => hvb e.symm)]
  exact h1.own
 have d0 : w2.cell? ⟨b, 0, none⟩ = some (.pointer (some ⟨b, 0, none⟩)) := by rw [Lib.cell_of_heap hb2]; rfl
 have d1 : w2.cell? ⟨b, 1, none⟩ = some v := by rw [Lib.cell_of_heap hb2]; rfl
 have f1 : w2.frozen? ⟨b, 1, none⟩ = false := Lib.frozen_of_heap hb2 1
 obtain ⟨ao', n', cap, rfl⟩ : ∃ ao n' cap, v' = .slice ao n' cap := by
  rcases hap.buf.2 with ⟨hv, _⟩ | ⟨g, c, cur, hv, _⟩
  ·exact ⟨_, _, _, hv⟩
  ·exact ⟨_, _, _, hv⟩
 go_wp2
 go_ret2
 refine ⟨rfl, _, bldR_put X.neB5 h1 hblt hvb hap.os hap.tape hap.output hap.size hap.block hap.buf ?_ hap.pos⟩
 rcases hap.was with h | h | h
 ·exact .inl h
 ·exact .inr (.inl h)
 ·exact .inr (.inr ⟨_, h, Nat.le_refl _⟩)
end
end Go.Proofs.YtepankcnleeakaaGreatDoor.Ab
namespace Go.Proofs.YtepankcnleeakaaGreatDoor.Ab
open Go Go.RowKit Go.Shelf Go.Proofs
set_option maxRecDepth 100000
set_option maxHeartbeats 4000000
set_option linter.unusedVariables false
section
variable {P : Program} {ρ : Ren}
theorem BufAt.alloc {w : World} {e : TypeId} {v : Value} {n : Nat} {xs : List Value} (h : BufAt w e v n xs) (ob : Obj) : BufAt (w.alloc ob) e v n xs := by
 obtain ⟨h1, h2⟩ := h
 refine ⟨h1, ?_⟩
 rcases h2 with h2 | ⟨g, c, cur, q1, q2, q3⟩
 ·exact .inl h2
 ·exact .inr ⟨g, c, cur, q1, by rw [heap_alloc_old w _ (Array.getElem?_eq_some_iff.1 q2).1]; exact q2, q3⟩
theorem buf_ne {w : World} {T e : TypeId} {b n : Nat} {p v : Value} {xs : List Value} (hne : T ≠ e) (hbk : w.heap[b]? = some (.cells #[p, v] T (0, 0))) (h : BufAt w e v n xs) : v.ownBlock ≠ some b := by
 intro e'
 rcases h.2 with ⟨rfl, _⟩ | ⟨g, c, cur, rfl, hg, _⟩
 ·cases e'
 ·cases e'
  rw [hbk] at hg
  simp only [Option.some.injEq, Obj.cells.injEq] at hg
  exact hne hg.2.1
theorem wb_walk (L : Lays.n167 P ρ) (X : Builder.Extra P ρ) (b : Nat) (p v : Value) (n : Nat) (xs : List Value) (c : Int) (w : World) (hbk : w.heap[b]? = some (.cells #[p, v] (ρ.t 72) (0, 0))) (hp : p = .pointer none ∨ p = .pointer (some ⟨b, 0, none⟩))
  (hbuf : BufAt w (ρ.t 5) v n xs) (hlen : n + 1 ≤ 140737488355328) :
  Calls P (ρ.f 167) #[.pointer (some ⟨b, 0, none⟩), .int .u8 c] w fun e w' => e = .returned .nilIface ∧ ∃ v', BldR w w' (ρ.t 72) (ρ.t 5) b v v' (n + 1) (xs ++ [.int .u8 c]) := by
 obtain ⟨i0, hi, hz0, hz1, hz2⟩ := info_parts X.infoByte
 have mixed := L.mixed
 have t72 := L.t72; have a72 := L.a72; have z72 := L.z72; have v72 := L.v72; have u72 := run_underlying L.t72
 have t70 := L.t70; have a70 := L.a70; have z70 := L.z70; have v70 := L.v70; have u70 := run_underlying L.t70
 have t5 := L.t5; have a5 := L.a5; have z5 := L.z5; have v5 := L.v5; have u5 := run_underlying L.t5
 have t37 := L.t37; have a37 := L.a37; have z37 := L.z37; have v37 := L.v37; have u37 := run_underlying L.t37
 have t9 := L.t9; have a9 := L.a9; have z9 := L.z9; have v9 := L.v9; have u9 := run_underlying L.t9
 have t4 := L.t4; have a4 := L.a4; have z4 := L.z4; have v4 := L.v4; have u4 := run_underlying L.t4
 have t164 := L.t164; have a164 := L.a164; have z164 := L.z164; have v164 := L.v164; have u164 := run_underlying L.t164
 have e240 : ∀ args w, (callFunc (ρ.f 240) args).run P w = .ok (.enter (ρ.f 240) args) w := enters_of L.f240 (by kernel_rfl) rfl
 have hblt : b < w.heap.size := (Array.getElem?_eq_some_iff.1 hbk).1
 have hvb := buf_ne X.neB5 hbk hbuf
 go_enter L.f167, Body.n167_ntmps ρ
 go_wp2_with (go_at_fn (ρ.f 240); refine (used_walk { L with } X.toX72 b p v _ hbk hp).mono ?_)
 rintro e w1 ⟨rfl, h1⟩
 have c0 : w1.cell? ⟨b, 0, none⟩ = some (.pointer (some ⟨b, 0, none⟩)) := by rw [Lib.cell_of_heap h1.own]; rfl
 have c1 : w1.cell? ⟨b, 1, none⟩ = some v := by rw [Lib.cell_of_heap h1.own]; rfl
 go_wp2_with (at_builtin; refine wpList_append_byte rfl _ _ (ρ.t 37) rfl (ρ.t 5) i0 L.t37 hi hz0 hz1 hz2 v n xs rfl ((h1.buf X.neB5 hbk hbuf).alloc _) ⟨w1.heap.size, 0, none⟩ 1 (.int .u8 c) rfl ?c1 rfl hlen ?_)
 case c1 => simp [Addr.add]
 intro v' w2 hap
 have hsz : w1.heap.size + 1 ≤ w2.heap.size := by have := hap.size; simpa using this
 have hblk : ∀ k, k < w1.heap.size → some k ≠ v.ownBlock → w2.heap[k]? = w1.heap[k]? := fun k hk hv => by
  rw [hap.block k (by simp; omega) hv]
  exact heap_alloc_old w1 _ hk
 have hb2 : w2.heap[b]? = some (.cells #[.pointer (some ⟨b, 0, none⟩), v] (ρ.t 72) (0, 0)) := by
  rw [hblk b (by rw [h1.size]; exact hblt) (fun e => hvb e.symm)]
  exact h1.own
 have d0 : w2.cell? ⟨b, 0, none⟩ = some (.pointer (some ⟨b, 0, none⟩)) := by rw [Lib.cell_of_heap hb2]; rfl
 have d1 : w2.cell? ⟨b, 1, none⟩ = some v := by rw [Lib.cell_of_heap hb2]; rfl
 have f1 : w2.frozen? ⟨b, 1, none⟩ = false := Lib.frozen_of_heap hb2 1
 obtain ⟨ao', n', cap, rfl⟩ : ∃ ao n' cap, v' = .slice ao n' cap := by
  rcases hap.buf.2 with ⟨hv, _⟩ | ⟨g, c, cur, hv, _⟩
  ·exact ⟨_, _, _, hv⟩
  ·exact ⟨_, _, _, hv⟩
 have hput := bldR_put X.neB5 h1 hblt hvb (hap.os.trans rfl) (hap.tape.trans rfl) (hap.output.trans rfl) (Nat.le_trans (Nat.le_succ _) hsz) hblk hap.buf (by
  rcases hap.was with h | h | h
  ·exact .inl h
  ·exact .inr (.inl h)
  ·exact .inr (.inr ⟨_, h, by simp⟩)) hap.pos
 clear hap
 go_wp2
 go_ret
 exact ⟨rfl, _, hput⟩
structure Frzd (w w' : World) (v : Value) : Prop where
 os : w'.os = w.os
 tape : w'.tape = w.tape
 output : w'.output = w.output
 size : w'.heap.size = w.heap.size
 block : ∀ k, some k ≠ v.ownBlock → w'.heap[k]? = w.heap[k]?
theorem frzd_freeze {w W : World} {g n c m : Nat} (hos : W.os = w.os) (htape : W.tape = w.tape) (hout : W.output = w.output) (hh : W.heap = w.heap) : Frzd w (W.freeze ⟨g, 0, none⟩ m) (.slice (some ⟨g, 0, none⟩) n c) := by
 have h : (W.freeze ⟨g, 0, none⟩ m).os = W.os ∧ (W.freeze ⟨g, 0, none⟩ m).tape = W.tape ∧ (W.freeze ⟨g, 0, none⟩ m).output = W.output ∧ (W.freeze ⟨g, 0, none⟩ m).heap.size = W.heap.size ∧ ∀ k, k ≠ g → (W.freeze ⟨g, 0, none⟩ m).heap[k]? = W.heap[k]? := by
  unfold World.freeze
  split
  ·exact ⟨rfl, rfl, rfl, rfl, fun _ _ => rfl⟩
  ·refine ⟨rfl, rfl, rfl, by simp, fun k hk => ?_⟩
   simp only [Array.getElem?_modify]
   rw [if_neg (fun e => hk e.symm)]
 obtain ⟨h1, h2, h3, h4, h5⟩ := h
 exact ⟨h1.trans hos, h2.trans htape, h3.trans hout, by rw [h4, hh], fun k hk => by rw [h5 k (fun e => hk (by rw [e]; rfl)), hh]⟩
theorem bs_walk (L : Lays.n169 P ρ) (X : Builder.Extra P ρ) (b : Nat) (p : Value) (g c : Nat) (cur : Array Value) (l : List UInt8) (w : World) (hbk : w.heap[b]? = some (.cells #[p, .slice (some ⟨g, 0, none⟩) l.length c] (ρ.t 72) (0, 0)))
  (hbg : w.heap[g]? = some (.cells cur (ρ.t 5) (0, 0))) (hnc : l.length ≤ c) (hcs : c ≤ cur.size) (htake : cur.toList.take l.length = Lib.byteCells l) (h0 : l ≠ []) (hlen : l.length ≤ 140737488355328) :
  Calls P (ρ.f 169) #[.pointer (some ⟨b, 0, none⟩)] w fun e w' => e = .returned (.string ⟨l.toArray⟩) ∧ Frzd w w' (.slice (some ⟨g, 0, none⟩) l.length c) := by
 have hl0 : l.length ≠ 0 := by simpa using h0
 have c1 : w.drew.cell? ⟨b, 1, none⟩ = some (.slice (some ⟨g, 0, none⟩) l.length c) := by
  have : w.drew.heap[b]? = some (.cells #[p, .slice (some ⟨g, 0, none⟩) l.length c] (ρ.t 72) (0, 0)) := hbk
  rw [Lib.cell_of_heap this]; rfl
 have hSD : (Builtin.unsafeSliceData_ #[(ρ.t 37)] (ρ.t 127) #[.slice (some ⟨g, 0, none⟩) l.length c]).run P w.drew = .ok (.pointer (some ⟨g, 0, none⟩)) w.drew :=
  Lib.run_unsafeSliceData_row _ _ _ _ _ _ (by omega)
 have hUS : (Builtin.unsafeString_ #[(ρ.t 127), (ρ.t 3)] (ρ.t 9) #[.pointer (some ⟨g, 0, none⟩), .int .i64 l.length]).run P w.drew = .ok (.string ⟨l.toArray⟩) (w.drew.freeze ⟨g, 0, none⟩ l.length) := by
  refine Lib.run_unsafeString_row w.drew (ρ.t 127) (ρ.t 3) (ρ.t 9) (ρ.t 5) L.t127 X.cellsByte g cur.size (by have hg' : w.drew.heap[g]? = some (.cells cur (ρ.t 5) (0, 0)) := hbg; simp [World.shape?, hg']) l h0 (by omega) (by omega) ?_
  intro j x hx
  have := buf_cells hbg htake j (.int .u8 x.toNat) (by simp [Lib.byteCells, hx])
  exact this
 have mixed := L.mixed
 have t72 := L.t72; have a72 := L.a72; have z72 := L.z72; have v72 := L.v72; have u72 := run_underlying L.t72
 have t70 := L.t70; have a70 := L.a70; have z70 := L.z70; have v70 := L.v70; have u70 := run_underlying L.t70
 have t37 := L.t37; have a37 := L.a37; have z37 := L.z37; have v37 := L.v37; have u37 := run_underlying L.t37
 have t127 := L.t127; have a127 := L.a127; have z127 := L.z127; have v127 := L.v127; have u127 := run_underlying L.t127
 have t3 := L.t3; have a3 := L.a3; have z3 := L.z3; have v3 := L.v3; have u3 := run_underlying L.t3
 have t9 := L.t9; have a9 := L.a9; have z9 := L.z9; have v9 := L.v9; have u9 := run_underlying L.t9
 have t5 := X.t5; have a5 := X.a5; have z5 := X.z5; have v5 := X.v5; have u5 := run_underlying X.t5
 go_enter L.f169, Body.n169_ntmps ρ
 go_wp2
 go_region_o
 all_goals (go_wp2; go_ret; exact ⟨rfl, frzd_freeze rfl rfl rfl rfl⟩)
end
end Go.Proofs.YtepankcnleeakaaGreatDoor.Ab
namespace Go.Proofs.YtepankcnleeakaaGreatDoor.Ab
open Go Go.RowKit
set_option maxRecDepth 20000
set_option maxHeartbeats 4000000
set_option linter.unusedVariables false
def bldT : Nat := 59
def u8T : Nat := 5
def bytesOf : List SV → Option (List UInt8)
 | [] => some []
 | .int .u8 (.ofNat n) :: l => match Nat.ble n 255, bytesOf l with
  | true, some r => some (UInt8.ofNat n :: r)
  | _, _ => none
 | _ => none
theorem bytesOf_up : ∀ l : List UInt8, bytesOf (l.map byteCell) = some l
 | [] => rfl
 | b :: l => by
  have h := bytesOf_up l
  have hb : Nat.ble b.toNat 255 = true := Nat.ble_eq_true_of_le (by have := b.toNat_lt; omega)
  show bytesOf (.int .u8 (.ofNat b.toNat) :: l.map byteCell) = _
  unfold bytesOf
  rw [h, hb]
  simp
theorem bytesOf_spec : ∀ {cs : List SV} {l : List UInt8}, bytesOf cs = some l → cs = l.map byteCell := by
 intro cs
 induction cs with
 | nil => intro l h; cases h; rfl
 | cons c cs ih =>
  intro l h
  unfold bytesOf at h
  split at h
  ·rename_i heq; cases heq
  ·rename_i n l' heq
   cases heq
   split at h
   ·rename_i hb hr
    cases h
    rw [Nat.ble_eq] at hb
    rw [List.map_cons, ← ih hr]
    unfold byteCell
    have : (UInt8.ofNat n).toNat = n := by
     rw [UInt8.toNat_ofNat']
     omega
    rw [this]
    rfl
   ·cases h
  ·cases h
def selfB : SV → Nat → Bool
 | .nilPtr, _ => true
 | .ptr i 0, id => Nat.beq i id
 | _, _ => false
def bldAt (σ : AHeap) (id : Nat) : Option (Option Nat × List UInt8) := match σ.get id with
 | some ⟨[a, sl], .tag t true⟩ => match Nat.beq t bldT && selfB a id with
  | true => match sl with
   | .nilSlice => some (none, [])
   | .slice j 0 1 (n + 1) none => match σ.get j with
    | some ⟨cs, .tag u false⟩ => match bytesOf cs with
     | some l => match Nat.beq u u8T && (Nat.beq l.length (n + 1) && !Nat.beq j id) with
      | true => some (some j, l)
      | false => none
     | none => none
    | _ => none
   | _ => none
  | false => none
 | _ => none
def killT (σ : AHeap) (j : Nat) : AHeap := match σ.get j with
 | some ⟨cs, _⟩ => σ.put j ⟨cs, .dead⟩
 | none => σ
def killO (σ : AHeap) : Option Nat → AHeap
 | none => σ
 | some j => killT σ j
def bldCell (n : Nat) : List UInt8 → SV
 | [] => .nilSlice
 | c :: l => .slice n 0 1 (l.length + 1) none
def bldNew : List UInt8 → AObj
 | [] => ⟨[], .dead⟩
 | c :: l => ⟨(c :: l).map byteCell, .tag u8T false⟩
def bldPut (σ : AHeap) (id : Nat) (j : Option Nat) (l : List UInt8) : AHeap := ((killO σ j).alloc (bldNew l)).put id ⟨[.ptr id 0, bldCell σ.size l], .tag bldT true⟩
structure BldIs (σ : AHeap) (id : Nat) (j : Option Nat) (l : List UInt8) (a sl : SV) : Prop where
 obj : σ.get id = some ⟨[a, sl], .tag bldT true⟩
 self : a = .nilPtr ∨ a = .ptr id 0
 buf : (j = none ∧ l = [] ∧ sl = .nilSlice) ∨ ∃ i, j = some i ∧ i ≠ id ∧ l ≠ [] ∧ sl = .slice i 0 1 l.length none ∧ σ.get i = some ⟨l.map byteCell, .tag u8T false⟩
theorem bldAt_is {σ : AHeap} {id : Nat} {j : Option Nat} {l : List UInt8} (h : bldAt σ id = some (j, l)) : ∃ a sl, BldIs σ id j l a sl := by
 unfold bldAt at h
 split at h
 ·rename_i a sl t hg
  split at h
  ·rename_i hb
   rw [Bool.and_eq_true] at hb
   have ht := Nat.eq_of_beq_eq_true hb.1
   subst ht
   have hself : a = .nilPtr ∨ a = .ptr id 0 := by
    have h2 := hb.2
    unfold selfB at h2
    split at h2
    ·exact .inl rfl
    ·rw [Nat.eq_of_beq_eq_true h2]; exact .inr rfl
    ·cases h2
   split at h
   ·cases h
    exact ⟨_, _, hg, hself, .inl ⟨rfl, rfl, rfl⟩⟩
   ·rename_i i n
    split at h
    ·rename_i cs u hi
     split at h
     ·rename_i l' hl
      split at h
      ·rename_i hc
       cases h
       simp only [Bool.and_eq_true, Bool.not_eq_true'] at hc
       obtain ⟨h1, h2, h3⟩ := hc
       have h1 := Nat.eq_of_beq_eq_true h1
       have h2 := Nat.eq_of_beq_eq_true h2
       subst h1
       have h3 : i ≠ id := by
        intro e
        rw [e, Nat.beq_refl] at h3
        cases h3
       have hne : l ≠ [] := by
        intro e
        rw [e] at h2
        cases h2
       rw [bytesOf_spec hl] at hi
       exact ⟨_, _, hg, hself, .inr ⟨i, rfl, h3, hne, by rw [h2], hi⟩⟩
      ·cases h
     ·cases h
    ·cases h
   ·cases h
  ·cases h
 ·cases h
theorem bytes_inv {ρ : Loc} : ∀ {l : List UInt8} {vs : List Value}, SRs ρ (l.map byteCell) vs → vs = Lib.byteCells l
 | [], vs, h => by cases h; rfl
 | x :: l, vs, h => by
  cases h with
  | cons h t =>
   cases h
   rw [bytes_inv t]
   rfl
theorem bytes_rel {ρ : Loc} : ∀ l : List UInt8, SRs ρ (l.map byteCell) (Lib.byteCells l)
 | [] => .nil
 | x :: l => .cons (.int _ _) (bytes_rel l)
theorem row_take {w : World} {g n : Nat} {cur : Array Value} {e : TypeId} {xs : List Value} (hg : w.heap[g]? = some (.cells cur e (0, 0))) (hl : xs.length = n) (hn : n ≤ cur.size)
  (h : ∀ j v, xs[j]? = some v → w.cell? ⟨g, 0 + j, none⟩ = some v) : cur.toList.take n = xs := by
 apply List.ext_getElem?
 intro j
 by_cases hj : j < n
 ·have hx : xs[j]? = some (xs[j]'(by omega)) := List.getElem?_eq_getElem _
  have h1 := h j _ hx
  simp only [World.cell?, hg, Nat.zero_add, Option.isSome_none, Bool.false_eq_true, if_false] at h1
  rw [hx, List.getElem?_take, if_pos hj]
  simpa using h1
 ·rw [List.getElem?_eq_none (by simp; omega), List.getElem?_eq_none (by omega)]
theorem bld_rel {ρ : Loc} {σ : AHeap} {w : World} (hr : HR ρ σ.get w) {id : Nat} {B : Blk} {j : Option Nat} {l : List UInt8} {a sl : SV} (h : BldIs σ id j l a sl) (hB : ρ id = some B) :
  B.base = 0 ∧ B.clen = 2 ∧ B.n = 2 ∧ ∃ p v, w.heap[B.b]? = some (.cells #[p, v] bldT (0, 0)) ∧ (p = .pointer none ∨ p = .pointer (some ⟨B.b, 0, none⟩)) ∧ BufAt w u8T v l.length (Lib.byteCells l) ∧
   ((j = none ∧ l = [] ∧ v = .slice none 0 0) ∨ ∃ i Bi c cur, j = some i ∧ i ≠ id ∧ l ≠ [] ∧ ρ i = some Bi ∧ σ.get i = some ⟨l.map byteCell, .tag u8T false⟩ ∧ v = .slice (some ⟨Bi.b, 0, none⟩) l.length c ∧
    w.heap[Bi.b]? = some (.cells cur u8T (0, 0)) ∧ l.length ≤ c ∧ c ≤ cur.size ∧ cur.toList.take l.length = Lib.byteCells l) := by
 obtain ⟨o, h1, h2, h3⟩ := hr.dom id B hB
 rw [h.obj] at h1
 cases h1
 obtain ⟨⟨hb, hfull⟩, cur, hcur, hn⟩ := h2.tg _ _ rfl
 have hclen : 2 = B.clen := h2.len
 have hBn : B.clen = B.n := hfull rfl
 obtain ⟨vs, hv, hcell⟩ := h2.holds (by simp)
 cases hv with
 | cons hp hv =>
  cases hv with
  | cons hv hnil =>
   cases hnil
   rename_i p v
   have hc0 := hcell 0 p rfl
   have hc1 := hcell 1 v rfl
   rw [hb] at hc0 hc1
   have hcurE : cur = #[p, v] := by
    simp only [World.cell?, hcur, Option.isSome_none, Bool.false_eq_true, if_false] at hc0 hc1
    apply Array.ext'
    have hlen : cur.toList.length = 2 := by simp; omega
    match hm : cur.toList, hlen with
    | [x, y], _ =>
     rw [← Array.getElem?_toList, hm] at hc0 hc1
     simp at hc0 hc1
     rw [hc0, hc1]
   subst hcurE
   refine ⟨hb, hclen.symm, by omega, p, v, hcur, ?_, ?_⟩
   ·rcases h.self with rfl | rfl
    ·cases hp; exact .inl rfl
    ·cases hp with
     | ptr hp =>
      rw [hB] at hp
      cases hp
      rw [hb]
      exact .inr rfl
   ·rcases h.buf with ⟨rfl, rfl, rfl⟩ | ⟨i, rfl, hne, hl, rfl, hi⟩
    ·cases hv
     exact ⟨⟨rfl, .inl ⟨rfl, rfl⟩⟩, .inl ⟨rfl, rfl, rfl⟩⟩
    ·have hll : l.length ≠ 0 := by simpa using hl
     generalize hL : l.length = L at hv
     cases hv with
     | slice hBi e1 e2 e3 e4 e5 =>
      rename_i c Bi
      obtain ⟨oi, q1, q2, q3⟩ := hr.dom i Bi hBi
      rw [hi] at q1
      cases q1
      obtain ⟨⟨hbi, _⟩, curi, hcuri, hni⟩ := q2.tg _ _ rfl
      obtain ⟨us, hus, hcells⟩ := q2.holds (by simp)
      have hus := bytes_inv hus
      subst hus
      have hclen : l.length = Bi.clen := by have := q2.len; simpa using this
      have hfit := q2.fit
      rw [hbi] at hcells e3 ⊢
      have htake := row_take (n := l.length) hcuri (by simp [Lib.byteCells]) (by omega) hcells
      have hce : c ≤ curi.size := by omega
      subst hL
      exact ⟨⟨by simp [Lib.byteCells], .inr ⟨Bi.b, c, curi, rfl, hcuri, e1, hce, htake⟩⟩, .inr ⟨i, Bi, c, curi, rfl, hne, hl, hBi, hi, rfl, hcuri, e1, hce, htake⟩⟩
     | slice0 => exact absurd hL hll
end Go.Proofs.YtepankcnleeakaaGreatDoor.Ab
namespace Go.Proofs.YtepankcnleeakaaGreatDoor.Ab
open Go Go.RowKit
set_option maxRecDepth 20000
set_option maxHeartbeats 4000000
set_option linter.unusedVariables false
theorem killT_size (σ : AHeap) (j : Nat) : (killT σ j).size = σ.size := by
 unfold killT
 split
 ·rw [AHeap.size_put]
 ·rfl
theorem killO_size (σ : AHeap) (j : Option Nat) : (killO σ j).size = σ.size := by
 cases j with
 | none => rfl
 | some j => exact killT_size σ j
theorem killO_keep {σ : AHeap} {j : Option Nat} {i : Nat} (h : j ≠ some i) : (killO σ j).get i = σ.get i := by
 cases j with
 | none => rfl
 | some j =>
  show (killT σ j).get i = _
  unfold killT
  split
  ·rw [AHeap.get_put', if_neg (fun e => h (by rw [e.1]))]
  ·rfl
theorem killO_kill {σ : AHeap} {i : Nat} {o : AObj} (h : σ.get i = some o) : (killO σ (some i)).get i = some ⟨o.cells, .dead⟩ := by
 show (killT σ i).get i = _
 unfold killT
 rw [h]
 simp only
 rw [AHeap.get_put', if_pos ⟨rfl, AHeap.get_lt h⟩]
theorem bldPut_size (σ : AHeap) (id : Nat) (j : Option Nat) (l : List UInt8) : (bldPut σ id j l).size = σ.size + 1 := by
 unfold bldPut
 rw [AHeap.size_put, AHeap.size_alloc, killO_size]
theorem bldPut_id {σ : AHeap} {id : Nat} (hid : id < σ.size) (j : Option Nat) (l : List UInt8) : (bldPut σ id j l).get id = some ⟨[.ptr id 0, bldCell σ.size l], .tag bldT true⟩ := by
 unfold bldPut
 rw [AHeap.get_put', if_pos ⟨rfl, by rw [AHeap.size_alloc, killO_size]; omega⟩]
theorem bldPut_new {σ : AHeap} {id : Nat} (hid : id < σ.size) (j : Option Nat) (l : List UInt8) : (bldPut σ id j l).get σ.size = some (bldNew l) := by
 unfold bldPut
 rw [AHeap.get_put', if_neg (by omega), AHeap.get_alloc, killO_size, if_pos rfl]
theorem bldPut_old {σ : AHeap} {id : Nat} {j : Option Nat} {l : List UInt8} {i : Nat} (h1 : i < σ.size) (h2 : i ≠ id) : (bldPut σ id j l).get i = (killO σ j).get i := by
 unfold bldPut
 rw [AHeap.get_put', if_neg (by omega), AHeap.get_alloc, killO_size, if_neg (by omega)]
theorem bldPut_post {ρ : Loc} {σ : AHeap} {w w' : World} (hr : HR ρ σ.get w) {id : Nat} {B : Blk} {j : Option Nat} {l m : List UInt8} {a sl : SV} {p v v' : Value} (h : BldIs σ id j l a sl) (hB : ρ id = some B)
  (hk : BldR w w' bldT u8T B.b v v' m.length (Lib.byteCells m)) (hbk : w.heap[B.b]? = some (.cells #[p, v] bldT (0, 0)))
  (hml : m = [] → l = [])
  (hv : (j = none ∧ v = .slice none 0 0) ∨ ∃ i Bi c, j = some i ∧ i ≠ id ∧ l ≠ [] ∧ ρ i = some Bi ∧ σ.get i = some ⟨l.map byteCell, .tag u8T false⟩ ∧ v = .slice (some ⟨Bi.b, 0, none⟩) l.length c) :
  ∃ ρ', Post ρ σ w ρ' (bldPut σ id j m) w' := by
 have hidl := AHeap.get_lt h.obj
 obtain ⟨hb0, hc2, hn2, _⟩ := bld_rel hr h hB
 have hbl : B.b < w.heap.size := (Array.getElem?_eq_some_iff.1 hbk).1
 have hvob : ∀ b, v.ownBlock = some b ↔ ∃ i Bi, j = some i ∧ ρ i = some Bi ∧ Bi.b = b := by
  intro b
  rcases hv with ⟨rfl, rfl⟩ | ⟨i, Bi, c, rfl, _, _, hBi, _, rfl⟩
  ·constructor
   ·intro e; cases e
   ·rintro ⟨i, Bi, e, _⟩; cases e
  ·constructor
   ·intro e; cases e; exact ⟨i, Bi, rfl, hBi, rfl⟩
   ·rintro ⟨i', Bi', e, e2, e3⟩
    cases e
    rw [hBi] at e2
    cases e2
    subst e3
    rfl
 have hown : Owned ρ σ.get B.b := ⟨id, B, _, hB, h.obj, rfl, rfl⟩
 have key : ∃ B2 : Blk, B2.b < w'.heap.size ∧ ObjOk (ρ.upd σ.size B2) w' B2 (bldNew m) ∧ (w.heap.size ≤ B2.b ∨ Owned ρ σ.get B2.b) ∧
   ((bldNew m).md = .dead ∨ w.heap.size ≤ B2.b ∨ ∃ i Bi, j = some i ∧ ρ i = some Bi ∧ Bi.b = B2.b) ∧ SR (ρ.upd σ.size B2) (bldCell σ.size m) v' := by
  obtain ⟨hbl', hbuf⟩ := hk.buf
  cases m with
  | nil =>
   have hl := hml rfl
   have hv0 : v = .slice none 0 0 := by
    rcases hv with ⟨_, e⟩ | ⟨_, _, _, _, _, hne, _⟩
    ·exact e
    ·exact absurd hl hne
   have hv' : v' = .slice none 0 0 := by
    rcases hk.pos hv0 with e | e
    ·exact e
    ·exact absurd e (by simp)
   subst hv'
   exact ⟨⟨B.b, 0, 0, 0⟩, Nat.lt_of_lt_of_le hbl hk.size, .dead rfl rfl (by simp), .inr hown, .inl rfl, .nilSlice⟩
  | cons x r =>
   rcases hbuf with ⟨_, e⟩ | ⟨g, c, cur, hv', hg, hnc, hcs, htake⟩
   ·simp at e
   ·have hglt : g < w'.heap.size := (Array.getElem?_eq_some_iff.1 hg).1
    have hplace : w.heap.size ≤ g ∨ ∃ i Bi, j = some i ∧ ρ i = some Bi ∧ Bi.b = g := by
     rcases hk.was with e | e | ⟨g', e, hle⟩
     ·rw [hv'] at e; cases e
     ·rw [hv'] at e
      exact .inr ((hvob g).1 e.symm)
     ·rw [hv'] at e; cases e; exact .inl hle
    subst hv'
    refine ⟨⟨g, 0, cur.size, r.length + 1⟩, hglt, ?_, ?_, .inr hplace, ?_⟩
    ·refine ⟨by simp [bldNew], by simp; simp at hnc; omega, fun _ => ⟨_, bytes_rel (x :: r), fun k u hku => ?_⟩, fun e => (by cases e), fun c es e => (by cases e), fun t f e => ?_⟩
     ·have := buf_cells hg htake k u hku
      rwa [Addr.add_lit] at this
     ·cases e
      exact ⟨⟨rfl, fun e => by cases e⟩, cur, hg, rfl⟩
    ·rcases hplace with e | ⟨i, Bi, e1, e2, e3⟩
     ·exact .inl e
     ·rcases hv with ⟨e, _⟩ | ⟨i', Bi', _, e4, _, _, e5, e6, _⟩
      ·rw [e] at e1; cases e1
      ·rw [e4] at e1; cases e1
       rw [e5] at e2; cases e2
       exact .inr ⟨_, _, _, e5, e6, rfl, e3⟩
    ·have hcl : (x :: r).length = r.length + 1 := rfl
     rw [hcl] at hnc htake ⊢
     exact .slice (B := ⟨g, 0, cur.size, r.length + 1⟩) (off := 0) (by rw [Loc.upd_at, if_pos rfl]) hnc (by simp) (by simp; omega) (by omega) (.inr ⟨rfl, by simp; omega⟩)
 obtain ⟨B2, hB2, hok2, hown2, hex2, hsr⟩ := key
 have hle := Loc.le_upd (hr.none_size (Nat.le_refl σ.size)) (B := B2)
 refine ⟨ρ.upd σ.size B2, Post.bld hr (fun i => j = some i) hB h.obj rfl ?_ (bldPut_size σ id j m) (bldPut_new hidl j m) (bldPut_id hidl j m) ?_ ?_ ?_ hok2 hB2 hown2 hex2 hk.size ?_ hk.os hk.tape hk.output⟩
 ·intro i hi
  rcases hv with ⟨e, _⟩ | ⟨i', Bi', _, e4, e7, _, e5, e6, _⟩
  ·rw [e] at hi; cases hi
  ·rw [e4] at hi; cases hi
   exact ⟨e7, Bi', _, e5, e6, rfl⟩
 ·intro i oi hi hg
  rcases hv with ⟨e, _⟩ | ⟨i', Bi', _, e4, e7, _, e5, e6, _⟩
  ·rw [e] at hi; cases hi
  ·rw [bldPut_old (AHeap.get_lt hg) (by rw [e4] at hi; cases hi; exact e7), hi]
   exact killO_kill hg
 ·intro i hi hne hnd
  rw [bldPut_old hi hne]
  exact killO_keep hnd
 ·refine ⟨hc2.symm, by rw [hb0, hc2, hn2]; decide, fun _ => ⟨[.pointer (some ⟨B.b, 0, none⟩), v'], .cons ?_ (.cons hsr .nil), fun k u hku => ?_⟩, fun e => (by cases e), fun c es e => (by cases e), fun t f e => ?_⟩
  ·have := SR.ptr (ρ := ρ.upd σ.size B2) (off := 0) (hle.at_ id B hB)
   rw [hb0] at this
   exact this
  ·rw [hb0, Nat.zero_add]
   match k, hku with
   | 0, hku => cases hku; simp [World.cell?, hk.own]
   | 1, hku => cases hku; simp [World.cell?, hk.own]
  ·cases e
   exact ⟨⟨hb0, fun _ => by rw [hc2, hn2]⟩, _, hk.own, by rw [hn2]; rfl⟩
 ·intro k hkl hkb hkd
  refine hk.block k hkl hkb (fun e => ?_)
  obtain ⟨i, Bi, e1, e2, e3⟩ := (hvob k).1 e.symm
  exact hkd i Bi e1 e2 e3
end Go.Proofs.YtepankcnleeakaaGreatDoor.Ab
namespace Go.Proofs
open Go.Shelf Go.RowKit Go.Lib
theorem Tryz.laysWS : Lays.n166 Tryz.prog Tryz.laysJoin_ren := { Tryz.laysJoin with }
end Go.Proofs
namespace Go.Proofs.YtepankcnleeakaaGreatDoor.Ab
open Go Go.RowKit
set_option maxRecDepth 20000
set_option maxHeartbeats 4000000
set_option linter.unusedVariables false
def pWS : Prim := fun args σ => match args with
 | [.one (.ptr id 0), .one (.str s)] => match bldAt σ id with
  | some (j, l) => match Nat.ble (l.length + s.length) 1099511627776 with
   | true => some (.tup [.one (.int .i64 s.length), .one .nilIface], bldPut σ id j (l ++ s))
   | false => none
  | none => none
 | _ => none
theorem ptr_self {ρ : Loc} {id : Nat} {v : Value} (h : VR ρ (.one (.ptr id 0)) v) : ∃ B, ρ id = some B ∧ v = .pointer (some ⟨B.b, B.base, none⟩) := by
 cases h with
 | one h =>
  cases h with
  | ptr h => exact ⟨_, h, rfl⟩
theorem byteCells_append (l s : List UInt8) : Lib.byteCells l ++ Lib.byteCells s = Lib.byteCells (l ++ s) := by simp [Lib.byteCells]
theorem primOk_ws : PrimOk Tryz.prog 27 pWS := by
 intro args σ v σ' hp
 unfold pWS at hp
 split at hp
 ·rename_i id s
  split at hp
  ·rename_i j l hat
   split at hp
   ·rename_i hb
    cases hp
    rw [Nat.ble_eq] at hb
    obtain ⟨a, sl, his⟩ := bldAt_is hat
    refine ⟨⟨_, Tryz.func27, by decide, rfl⟩, fun ρ w vs hv hr => ?_⟩
    cases hv with
    | cons h1 h2 =>
     cases h2 with
     | cons h2 h3 =>
      cases h3
      obtain ⟨B, hB, rfl⟩ := ptr_self h1
      cases h2 with
      | one h2 =>
       cases h2
       obtain ⟨hb0, _, _, p, v, hbk, hself, hbuf, hcase⟩ := bld_rel hr his hB
       rw [hb0]
       have hsz : (⟨s.toArray⟩ : ByteArray).size = s.length := by
        show s.toArray.size = _
        rw [List.size_toArray]
       refine Calls.mono (ws_walk Tryz.laysWS Tryz.extraJoin B.b p v l.length (Lib.byteCells l) ⟨s.toArray⟩ w hbk hself hbuf (by rw [hsz]; omega)) ?_
       rintro e w1 ⟨rfl, v', hk⟩
       rw [hsz, show Lib.strCells ⟨s.toArray⟩ = Lib.byteCells s from rfl, byteCells_append, ← List.length_append] at hk
       obtain ⟨ρ', hpost⟩ := bldPut_post hr his hB hk hbk (fun e => (List.append_eq_nil_iff.1 e).1) (by
        rcases hcase with ⟨h1, _, h3⟩ | ⟨i, Bi, c, cur, q1, q2, q3, q4, q5, q6, _⟩
        ·exact .inl ⟨h1, h3⟩
        ·exact .inr ⟨i, Bi, c, q1, q2, q3, q4, q5, q6⟩)
       refine ⟨_, ρ', rfl, hpost, .tup (.cons ?_ (.cons (.one .nilIface) .nil))⟩
       rw [hsz]
       exact .one (.int _ _)
   ·cases hp
  ·cases hp
 ·cases hp
end Go.Proofs.YtepankcnleeakaaGreatDoor.Ab
namespace Go.Proofs
open Go.Shelf Go.RowKit Go.Lib
theorem Tryz.laysWB : Lays.n167 Tryz.prog Tryz.laysLower_ren := { Tryz.laysLower with }
end Go.Proofs
namespace Go.Proofs.YtepankcnleeakaaGreatDoor.Ab
open Go Go.RowKit
set_option maxRecDepth 20000
set_option maxHeartbeats 4000000
set_option linter.unusedVariables false
def pWB : Prim := fun args σ => match args with
 | [.one (.ptr id 0), .one (.int .u8 (.ofNat c))] => match bldAt σ id with
  | some (j, l) => match Nat.ble (l.length + 1) 1099511627776 && Nat.ble c 255 with
   | true => some (.one .nilIface, bldPut σ id j (l ++ [UInt8.ofNat c]))
   | false => none
  | none => none
 | _ => none
theorem primOk_wb : PrimOk Tryz.prog 65 pWB := by
 intro args σ v σ' hp
 unfold pWB at hp
 split at hp
 ·rename_i id c
  split at hp
  ·rename_i j l hat
   split at hp
   ·rename_i hb
    cases hp
    rw [Bool.and_eq_true, Nat.ble_eq, Nat.ble_eq] at hb
    obtain ⟨a, sl, his⟩ := bldAt_is hat
    refine ⟨⟨_, Tryz.func65, by decide, rfl⟩, fun ρ w vs hv hr => ?_⟩
    cases hv with
    | cons h1 h2 =>
     cases h2 with
     | cons h2 h3 =>
      cases h3
      obtain ⟨B, hB, rfl⟩ := ptr_self h1
      cases h2 with
      | one h2 =>
       cases h2
       obtain ⟨hb0, _, _, p, v, hbk, hself, hbuf, hcase⟩ := bld_rel hr his hB
       rw [hb0]
       refine Calls.mono (wb_walk Tryz.laysWB Tryz.extraLower B.b p v l.length (Lib.byteCells l) (.ofNat c) w hbk hself hbuf (by omega)) ?_
       rintro e w1 ⟨rfl, v', hk⟩
       have hbc : Lib.byteCells l ++ [Value.int .u8 (.ofNat c)] = Lib.byteCells (l ++ [UInt8.ofNat c]) := by
        rw [← byteCells_append]
        have : (UInt8.ofNat c).toNat = c := by
         rw [UInt8.toNat_ofNat']
         omega
        simp [Lib.byteCells, this]
       rw [hbc, show l.length + 1 = (l ++ [UInt8.ofNat c]).length by simp] at hk
       obtain ⟨ρ', hpost⟩ := bldPut_post hr his hB hk hbk (fun e => (List.append_eq_nil_iff.1 e).1) (by
        rcases hcase with ⟨h1, _, h3⟩ | ⟨i, Bi, c, cur, q1, q2, q3, q4, q5, q6, _⟩
        ·exact .inl ⟨h1, h3⟩
        ·exact .inr ⟨i, Bi, c, q1, q2, q3, q4, q5, q6⟩)
       exact ⟨_, ρ', rfl, hpost, .one .nilIface⟩
   ·cases hp
  ·cases hp
 ·cases hp
end Go.Proofs.YtepankcnleeakaaGreatDoor.Ab
namespace Go.Proofs
open Go.Shelf Go.RowKit Go.Lib
theorem Tryz.laysBS : Lays.n169 Tryz.prog Tryz.laysJoin_ren := { Tryz.laysJoin with }
end Go.Proofs
namespace Go.Proofs.YtepankcnleeakaaGreatDoor.Ab
open Go Go.RowKit
set_option maxRecDepth 20000
set_option maxHeartbeats 4000000
set_option linter.unusedVariables false
def pBS : Prim := fun args σ => match args with
 | [.one (.ptr id 0)] => match bldAt σ id with
  | some (j, l) => match Nat.ble l.length 1099511627776 with
   | true => some (.one (.str l), killO σ j)
   | false => none
  | none => none
 | _ => none
theorem primOk_bs : PrimOk Tryz.prog 28 pBS := by
 intro args σ v σ' hp
 unfold pBS at hp
 split at hp
 ·rename_i id
  split at hp
  ·rename_i j l hat
   split at hp
   ·rename_i hb
    cases hp
    rw [Nat.ble_eq] at hb
    obtain ⟨a, sl, his⟩ := bldAt_is hat
    refine ⟨⟨_, Tryz.func28, by decide, rfl⟩, fun ρ w vs hv hr => ?_⟩
    cases hv with
    | cons h1 h2 =>
     cases h2
     obtain ⟨B, hB, rfl⟩ := ptr_self h1
     obtain ⟨hb0, _, _, p, v, hbk, hself, hbuf, hcase⟩ := bld_rel hr his hB
     rw [hb0]
     rcases hcase with ⟨rfl, rfl, rfl⟩ | ⟨i, Bi, c, cur, rfl, q2, q3, q4, q5, rfl, q6, q7, q8, q9⟩
     ·refine Calls.mono (Any.Builder_String_nil Tryz.laysBS Tryz.extraJoin w.heap.size B.b p w hbk) ?_
      rintro e w1 ⟨rfl, hw⟩
      exact ⟨_, ρ, rfl, Post.ofBelow hr hw, .one (.str _)⟩
     ·refine Calls.mono (bs_walk Tryz.laysBS Tryz.extraJoin B.b p Bi.b c cur l w hbk q6 q7 q8 q9 q3 (by omega)) ?_
      rintro e w1 ⟨rfl, hk⟩
      obtain ⟨oi, r1, r2, r3⟩ := hr.dom i Bi q4
      rw [q5] at r1
      cases r1
      refine ⟨_, ρ, rfl, ?_, .one (.str _)⟩
      show Post ρ σ w ρ (killT σ i) w1
      unfold killT
      rw [q5]
      exact Post.putG hr q4 q5 rfl (.dead rfl r2.len r2.fit) (fun k hkb => hk.block k (fun e => hkb (by injection e))) hk.size hk.os hk.tape hk.output
   ·cases hp
  ·cases hp
 ·cases hp
end Go.Proofs.YtepankcnleeakaaGreatDoor.Ab
namespace Go.Proofs.YtepankcnleeakaaGreatDoor.Ab
open Go
set_option maxRecDepth 20000
set_option maxHeartbeats 4000000
set_option linter.unusedSimpArgs false
theorem bldAt_of {τ : AHeap} {b : Nat} {j : Option Nat} {l : List UInt8} {a sl : SV} (h : BldIs τ b j l a sl) : bldAt τ b = some (j, l) := by
 unfold bldAt
 rw [h.obj]
 have hs : selfB a b = true := by
  rcases h.self with rfl | rfl
  ·rfl
  ·unfold selfB; exact Nat.beq_refl b
 have hb : (Nat.beq bldT bldT && selfB a b) = true := by rw [hs, Nat.beq_refl]; rfl
 simp only [hb]
 rcases h.buf with ⟨rfl, rfl, rfl⟩ | ⟨i, rfl, hne, hl, rfl, hi⟩
 ·rfl
 ·have hl0 : l.length ≠ 0 := by simpa using hl
  obtain ⟨n, hn⟩ : ∃ n, l.length = n + 1 := ⟨l.length - 1, by omega⟩
  rw [hn]
  simp only [hi, bytesOf_up]
  have : (Nat.beq u8T u8T && (Nat.beq l.length (n + 1) && !Nat.beq i b)) = true := by
   have : Nat.beq i b = false := by
    cases h : Nat.beq i b with
    | false => rfl
    | true => exact absurd (Nat.eq_of_beq_eq_true h) hne
   rw [this, hn, Nat.beq_refl, Nat.beq_refl]
   rfl
  rw [this]
def Bld (lo b : Nat) (τ : AHeap) (l : List UInt8) : Prop := ∃ j a sl, BldIs τ b j l a sl ∧ ∀ i, j = some i → lo ≤ i
theorem Bld.new (τ : AHeap) (lo : Nat) : Bld lo τ.size (τ.alloc ⟨[.nilPtr, .nilSlice], .tag bldT true⟩) [] :=
 ⟨none, .nilPtr, .nilSlice, ⟨by simp, .inl rfl, .inl ⟨rfl, rfl, rfl⟩⟩, fun i e => by cases e⟩
theorem Bld.lt {lo b : Nat} {τ : AHeap} {l : List UInt8} (h : Bld lo b τ l) : b < τ.size := by
 obtain ⟨j, a, sl, h, _⟩ := h
 exact AHeap.get_lt h.obj
theorem Bld.stay {lo b : Nat} {τ τ' : AHeap} {l : List UInt8} (h : Bld lo b τ l) (h1 : τ'.get b = τ.get b) (h2 : ∀ i, lo ≤ i → i < τ.size → τ'.get i = τ.get i) : Bld lo b τ' l := by
 obtain ⟨j, a, sl, h, hj⟩ := h
 refine ⟨j, a, sl, ⟨by rw [h1]; exact h.obj, h.self, ?_⟩, hj⟩
 rcases h.buf with h | ⟨i, e, q1, q2, q3, q4⟩
 ·exact .inl h
 ·exact .inr ⟨i, e, q1, q2, q3, by rw [h2 i (hj i e) (AHeap.get_lt q4)]; exact q4⟩
theorem bld_put {lo b : Nat} {τ : AHeap} {j : Option Nat} {l m : List UInt8} {a sl : SV} (h : BldIs τ b j l a sl) (hj : ∀ i, j = some i → lo ≤ i) (hlo : lo ≤ τ.size) :
  Bld lo b (bldPut τ b j m) m ∧ τ.size ≤ (bldPut τ b j m).size ∧ ∀ i, i < lo → i ≠ b → i < τ.size → (bldPut τ b j m).get i = τ.get i := by
 have hb := AHeap.get_lt h.obj
 refine ⟨⟨match m with | [] => none | _ => some τ.size, .ptr b 0, bldCell τ.size m, ⟨bldPut_id hb j m, .inr rfl, ?_⟩, ?_⟩, by rw [bldPut_size]; omega, fun i h1 h2 h3 => ?_⟩
 ·cases m with
  | nil => exact .inl ⟨rfl, rfl, rfl⟩
  | cons x r => exact .inr ⟨τ.size, rfl, by omega, by simp, rfl, bldPut_new hb j (x :: r)⟩
 ·intro i e
  cases m with
  | nil => cases e
  | cons x r => cases e; exact hlo
 ·rw [bldPut_old h3 h2]
  exact killO_keep (fun e => by have := hj i e; omega)
section
variable {C : Ctx}
theorem run_ws (hC : C.prim 27 = some pWS) {lo b : Nat} {τ : AHeap} {l : List UInt8} (s : List UInt8) (h : Bld lo b τ l) (hlo : lo ≤ τ.size) (hl : l.length + s.length ≤ 1099511627776) :
  ∃ τ', lim C 27 [.one (.ptr b 0), .one (.str s)] τ = some (.tup [.one (.int .i64 s.length), .one .nilIface], τ') ∧ Bld lo b τ' (l ++ s) ∧ τ.size ≤ τ'.size ∧ ∀ i, i < lo → i ≠ b → i < τ.size → τ'.get i = τ.get i := by
 obtain ⟨j, a, sl, h, hj⟩ := h
 refine ⟨bldPut τ b j (l ++ s), (lim_prim hC).trans ?_, bld_put h hj hlo⟩
 have hb : Nat.ble (l.length + s.length) 1099511627776 = true := Nat.ble_eq_true_of_le hl
 simp only [pWS, bldAt_of h, hb]
theorem run_wb (hC : C.prim 65 = some pWB) {lo b : Nat} {τ : AHeap} {l : List UInt8} (c : UInt8) (h : Bld lo b τ l) (hlo : lo ≤ τ.size) (hl : l.length + 1 ≤ 1099511627776) :
  ∃ τ', lim C 65 [.one (.ptr b 0), .one (.int .u8 c.toNat)] τ = some (.one .nilIface, τ') ∧ Bld lo b τ' (l ++ [c]) ∧ τ.size ≤ τ'.size ∧ ∀ i, i < lo → i ≠ b → i < τ.size → τ'.get i = τ.get i := by
 obtain ⟨j, a, sl, h, hj⟩ := h
 refine ⟨bldPut τ b j (l ++ [c]), (lim_prim hC).trans ?_, bld_put h hj hlo⟩
 have hb : (Nat.ble (l.length + 1) 1099511627776 && Nat.ble c.toNat 255) = true := by
  rw [Nat.ble_eq_true_of_le hl, Nat.ble_eq_true_of_le (by have := c.toNat_lt; omega)]
  rfl
 show pWB [.one (.ptr b 0), .one (.int .u8 (.ofNat c.toNat))] τ = _
 simp only [pWB, bldAt_of h, hb]
 simp
theorem run_bs (hC : C.prim 28 = some pBS) {lo b : Nat} {τ : AHeap} {l : List UInt8} (h : Bld lo b τ l) (hl : l.length ≤ 1099511627776) :
  ∃ τ', lim C 28 [.one (.ptr b 0)] τ = some (.one (.str l), τ') ∧ τ.size ≤ τ'.size ∧ ∀ i, i < lo → τ'.get i = τ.get i := by
 obtain ⟨j, a, sl, h, hj⟩ := h
 refine ⟨killO τ j, (lim_prim hC).trans ?_, by rw [killO_size]; exact Nat.le_refl _, fun i hi => killO_keep (fun e => by have := hj i e; omega)⟩
 have hb : Nat.ble l.length 1099511627776 = true := Nat.ble_eq_true_of_le hl
 simp only [pBS, bldAt_of h, hb]
end
end Go.Proofs.YtepankcnleeakaaGreatDoor.Ab
