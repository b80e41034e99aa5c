/- The comparison that All hands to the library's sort: what it answers, and that it lays blocks alone. -/
import Derived.Test.YtdgffilnefnjjaaTim1
import Derived.WalkKit
import Derived.Sort.Grow
import Derived.Deep.Draws
namespace Go.Proofs.Ytdgffilnefnjjaa.Ab
open Go Go.RowKit Go.Sort
set_option maxRecDepth 20000
set_option maxHeartbeats 4000000

def encT (t : T) : List Value := [.int .i64 t.at', .int .i64 t.stmt, .int .i64 t.seq]
theorem less41 (x y : T) (W : World) : Calls Try.prog 41 #[.agg #[.int .i64 x.at', .int .i64 x.stmt, .int .i64 x.seq], .agg #[.int .i64 y.at', .int .i64 y.stmt, .int .i64 y.seq]] W
    fun e w' => e = .returned (.bool (lessT x y)) ∧ ∃ q os', w' = grow (W.drewN q) os' := by
  obtain ⟨a, b, c⟩ := x
  obtain ⟨d, e, f⟩ := y
  unfold lessT
  simp only
  by_cases h1 : a = d
  · by_cases h2 : b = e
    · simp only [h1, h2, if_true]
      go_enter Try.func41, Try.ntmps41
      go_wp2
      go_ret
      exact ⟨rfl, 0, _, by rw [alloc_eq_grow, alloc_eq_grow, grow_grow]; rfl⟩
    · simp only [h1, h2, if_true, if_false]
      go_enter Try.func41, Try.ntmps41
      go_wp2
      go_ret
      exact ⟨rfl, 0, _, by rw [alloc_eq_grow, alloc_eq_grow, grow_grow]; rfl⟩
  · simp only [h1, if_false]
    go_enter Try.func41, Try.ntmps41
    go_wp2
    go_ret
    exact ⟨rfl, 0, _, by rw [alloc_eq_grow, alloc_eq_grow, grow_grow]; rfl⟩

theorem grow_drewN (W : World) (os : Array Obj) (q : Nat) : (grow W os).drewN q = grow (W.drewN q) os := rfl
def cfT (x y : T) : Int := if lessT x y = true then -1 else 1
theorem closure52 (x y : T) (W : World) : Calls Try.prog 52 #[.agg #[.int .i64 x.at', .int .i64 x.stmt, .int .i64 x.seq], .agg #[.int .i64 y.at', .int .i64 y.stmt, .int .i64 y.seq]] W
    fun e w' => e = .returned (.int .i64 (cfT x y)) ∧ ∃ q os', w' = grow (W.drewN q) os' := by
  have hcon := fun W' => less41 x y W'
  unfold cfT
  by_cases h : lessT x y = true
  · simp only [h, if_true] at hcon ⊢
    go_enter Try.func52, Try.ntmps52
    go_wp2_with (go_at_call 41; refine (hcon _).mono ?_; rintro e w' ⟨rfl, q, os', rfl⟩)
    go_ret
    exact ⟨rfl, q, _, by rw [alloc_eq_grow, alloc_eq_grow, grow_grow, grow_drewN, grow_grow]⟩
  · have h' : lessT x y = false := by simpa using h
    simp only [h', if_false] at hcon ⊢
    go_enter Try.func52, Try.ntmps52
    go_wp2_with (go_at_call 41; refine (hcon _).mono ?_; rintro e w' ⟨rfl, q, os', rfl⟩)
    go_ret
    exact ⟨rfl, q, _, by rw [alloc_eq_grow, alloc_eq_grow, grow_grow, grow_drewN, grow_grow]⟩
end Go.Proofs.Ytdgffilnefnjjaa.Ab
