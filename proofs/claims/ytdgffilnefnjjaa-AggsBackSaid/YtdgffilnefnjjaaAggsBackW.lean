/- The law AggsBack, run: true at every number. -/
import Derived.Test.YtdgffilnefnjjaaAggs13
import Derived.Test.YtdgffilnefnjjaaLitAggsL
namespace Go.Proofs.Ytdgffilnefnjjaa.Ab
open Go
set_option maxRecDepth 20000
set_option maxHeartbeats 4000000
set_option linter.unusedSimpArgs false
def outH : Option (AV × AHeap) → AHeap
  | some (_, σ) => σ
  | none => emptyH
abbrev big : Int := 9223372036854775807
abbrev numA (n : Int) : AV := .agg [.int .i64 2, .int .i64 n, .str []]
noncomputable def K1 : AHeap := outH (evCall C26 39 13 [.agg [.str sSum, .bool false, .bool false]] emptyH)
theorem f1 : evCall C26 39 13 [.agg [.str sSum, .bool false, .bool false]] emptyH = some (.one (.ptr 1 0), K1) := by kernel_rfl
noncomputable def K2 : AHeap := outH (evCall C26 39 14 [.one (.ptr 1 0), .one (.int .i64 1), numA big] K1)
theorem f2 : evCall C26 39 14 [.one (.ptr 1 0), .one (.int .i64 1), numA big] K1 = some (.tup [], K2) := by kernel_rfl
noncomputable def K3 (m : Int) : AHeap := outH (evCall C26 39 14 [.one (.ptr 1 0), .one (.int .i64 2), numA m] K2)
theorem f3 (m : Int) : evCall C26 39 14 [.one (.ptr 1 0), .one (.int .i64 2), numA m] K2 = some (.tup [], K3 m) := by kernel_rfl
def cellAt : Option AObj → Nat → SV
  | some ⟨cs, _⟩, i => match cs[i]? with
    | some s => s
    | none => .nilPtr
  | none, _ => .nilPtr
theorem g3 (m : Int) : (K3 m).get 1 = some ⟨[.str sSum, .bool false, .bool false, cellAt ((K3 m).get 1) 3], .own⟩ := by kernel_rfl
theorem s3 (m : Int) : slKept (K3 m) (cellAt ((K3 m).get 1) 3) = some [⟨2, big, []⟩, ⟨2, m, []⟩] := by kernel_rfl
noncomputable def K4 (m : Int) : AHeap := ((K3 m).alloc ⟨[.int .i64 0, .int .i64 0, .str []], .own⟩).put (K3 m).size ⟨[.int .i64 0, .int .i64 0, .str []], .own⟩
noncomputable def K5 (m : Int) : AHeap := outH (evCall C26 39 16 [.one (.ptr 1 0), .one (.int .i64 2)] (K4 m))
theorem f5 (m : Int) : evCall C26 39 16 [.one (.ptr 1 0), .one (.int .i64 2)] (K4 m) = some (.one (.bool true), K5 m) := by kernel_rfl
theorem g5 (m : Int) : (K5 m).get 1 = some ⟨[.str sSum, .bool false, .bool false, cellAt ((K5 m).get 1) 3], .own⟩ := by kernel_rfl
theorem s5 (m : Int) : slKept (K5 m) (cellAt ((K5 m).get 1) 3) = some [⟨2, big, []⟩] := by kernel_rfl
theorem nil14 (n : Int) (k1 k2 : Int) (s : List UInt8) (σ : AHeap) : evCall C26 39 14 [.one .nilPtr, .one (.int .i64 n), .agg [.int .i64 k1, .int .i64 k2, .str s]] σ = some (.tup [], σ.alloc ⟨[.int .i64 k1, .int .i64 k2, .str s], .own⟩) := by kernel_rfl
theorem nil16 (n : Int) (σ : AHeap) : evCall C26 39 16 [.one .nilPtr, .one (.int .i64 n)] σ = some (.one (.bool false), σ) := by kernel_rfl
theorem nil17 (σ : AHeap) : evCall C26 39 17 [.one .nilPtr] σ = some (.one (.int .i64 0), σ) := by kernel_rfl
theorem C26_15 (n : Nat) (args : List AV) (σ : AHeap) : evCall C26 (n + 1) 15 args σ = p15 args σ := evCall_prim (by kernel_rfl) _ _ _
theorem C26_11 (n : Nat) (args : List AV) (σ : AHeap) : evCall C26 (n + 1) 11 args σ = p11 args σ := evCall_prim (by kernel_rfl) _ _ _
theorem C26_10 (n : Nat) (args : List AV) (σ : AHeap) : evCall C26 (n + 1) 10 args σ = pBool true args σ := evCall_prim (by kernel_rfl) _ _ _

theorem tell3 (m : Int) (h1 : 1 ≤ m) (h2 : m ≤ 9223372036854775807) : p15 [.one (.ptr 1 0)] (K3 m) = some (.tup [.agg [.int .i64 0, .int .i64 0, .str []], .one (.int .i64 20)], K3 m) := by
  have hin : (([⟨2, big, []⟩, ⟨2, m, []⟩] : List V).all fun v => inI v.n) = true := by
    simp [inI]
    omega
  have hof : ofV sSum false false [⟨2, big, []⟩, ⟨2, m, []⟩] = (zeroV, 20) := by
    have e1 : checkB sSum false false = true := by decide +kernel
    have e2 : takeV false false [⟨2, big, []⟩, ⟨2, m, []⟩] [] = [⟨2, big, []⟩, ⟨2, m, []⟩] := by simp [takeV]
    have e3 : ¬ sSum = sCount := by decide +kernel
    have e4 : decide (sSum = sAvg) = false := by decide +kernel
    unfold ofV
    rw [if_pos e1, e2]
    unfold ofT
    rw [if_neg e3]
    simp only [true_or, if_true, e4]
    unfold sumV
    rw [if_pos (by simp [sameK])]
    have hb : inI (sumZ [⟨2, big, []⟩, ⟨2, m, []⟩]) = false := by
      simp [inI, sumZ, big]
      omega
    rw [hb]
    rfl
  unfold p15
  simp only
  rw [g3 m]
  simp only
  rw [s3 m]
  simp only
  rw [if_pos hin, hof]
  rfl
theorem tell5 (m : Int) : p15 [.one (.ptr 1 0)] (K5 m) = some (.tup [.agg [.int .i64 2, .int .i64 big, .str []], .one (.int .i64 0)], K5 m) := by
  have hof : ofV sSum false false [⟨2, big, []⟩] = (⟨2, big, []⟩, 0) := by
    have e1 : checkB sSum false false = true := by decide +kernel
    have e2 : takeV false false [⟨2, big, []⟩] [] = [⟨2, big, []⟩] := by simp [takeV]
    have e3 : ¬ sSum = sCount := by decide +kernel
    have e4 : decide (sSum = sAvg) = false := by decide +kernel
    unfold ofV
    rw [if_pos e1, e2]
    unfold ofT
    rw [if_neg e3]
    simp only [true_or, if_true, e4]
    unfold sumV
    rw [if_pos (by simp [sameK])]
    rfl
  unfold p15
  simp only
  rw [g5 m]
  simp only
  rw [s5 m]
  simp only
  rw [if_pos (by decide), hof]
  rfl

theorem nil15 (σ : AHeap) : p15 [.one .nilPtr] σ = some (.tup [.agg [.int .i64 0, .int .i64 0, .str []], .one (.int .i64 170)], σ) := rfl
theorem law5 (n : Int) (hn : n ≤ 9223372036854775807) : OptP (evCall C26 40 5 [.one (.int .i64 n)] emptyH) (fun _ v _ => v = .one (.bool true)) := by
  refine evCall_code (by kernel_rfl) code5 ?_
  obtain ⟨m, hm⟩ : ∃ m, m = mm true 1 n := ⟨_, rfl⟩
  have h1 : 1 ≤ m := by rw [hm]; simp only [mm]; split <;> omega
  have h2 : m ≤ 9223372036854775807 := by rw [hm]; simp only [mm]; split <;> omega
  have t3 := tell3 m h1 h2
  have t5 := tell5 m
  have a1 := f1
  have a2 := f2
  have a3 := f3 m
  have a5 := f5 m
  have es : bytes [115, 117, 109] = sSum := rfl
  unfold K4 at a5
  simp (maxDischargeDepth := 99) [c5, es, a1, C26_11, p11, a2, mms, ← hm, a3, C26_15, t3, a5, t5, nil14, nil15]
  refine ends_draw ?_
  have ne2 : ∀ k : Nat, (k = k + 1 + 1) = False := fun k => eq_false (by omega)
  have eb : beqL ([] : List UInt8) [] = true := rfl
  simp (maxDischargeDepth := 99) [C26_11, p11, nil16, nil17, C26_10, pBool, ne2, eb]
end Go.Proofs.Ytdgffilnefnjjaa.Ab
