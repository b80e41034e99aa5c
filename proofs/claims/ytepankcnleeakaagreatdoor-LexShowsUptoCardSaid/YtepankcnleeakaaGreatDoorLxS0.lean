/- What the lexer reads of the chapter's own examples, run by the kernel. -/
import Derived.Test.YtepankcnleeakaaGreatDoorLxD
namespace Go.Proofs.YtepankcnleeakaaGreatDoor.Ab
open Go
set_option maxRecDepth 100000
set_option maxHeartbeats 40000000
theorem lxeSel (σ : AHeap) : evCall LxC 300 13 [.one (.str [83, 69, 76, 69, 67, 84, 32, 97, 49, 32, 62, 61, 32, 49, 48, 115])] σ = some (.tup [.one (.lst [tokC 2 [115, 101, 108, 101, 99, 116] 0 0, tokC 1 [97, 49] 0 7, tokC 6 [62, 61] 0 10, tokC 7 [] 10000 13]), .one (.int .i64 0), .one (.int .i64 0)], σ) := by kernel_rfl
theorem lxeQ (σ : AHeap) : evCall LxC 300 13 [.one (.str [39, 97])] σ = some (.tup [.one (.lst []), .one (.int .i64 0), .one (.int .i64 52)], σ) := by kernel_rfl
theorem lxeW (σ : AHeap) : evCall LxC 300 13 [.one (.str [115, 101, 108, 101, 99, 116])] σ = some (.tup [.one (.lst [tokC 2 [115, 101, 108, 101, 99, 116] 0 0]), .one (.int .i64 0), .one (.int .i64 0)], σ) := by kernel_rfl
theorem lxeN (σ : AHeap) : evCall LxC 300 13 [.one (.str [97, 49])] σ = some (.tup [.one (.lst [tokC 1 [97, 49] 0 0]), .one (.int .i64 0), .one (.int .i64 0)], σ) := by kernel_rfl
theorem lxeG (σ : AHeap) : evCall LxC 300 13 [.one (.str [62, 61])] σ = some (.tup [.one (.lst [tokC 6 [62, 61] 0 0]), .one (.int .i64 0), .one (.int .i64 0)], σ) := by kernel_rfl
theorem lxeP (σ : AHeap) : evCall LxC 300 13 [.one (.str [49, 48, 48, 48, 48, 109, 115])] σ = some (.tup [.one (.lst [tokC 7 [] 10000 0]), .one (.int .i64 0), .one (.int .i64 0)], σ) := by kernel_rfl
end Go.Proofs.YtepankcnleeakaaGreatDoor.Ab
