/- The library's IndexByte, laid as one step. -/
import Derived.Test.YtepankcnleeakaaGreatDoorTyA
import Derived.Shelf.Strings.Search1
namespace Go.Proofs
open Go.Shelf Go.RowKit Go.Lib
def Tryz.laysIdxB_ren : Go.Shelf.Ren := ⟨fun | 217 => 85 | 266 => 109 | n => n, fun | 9 => 9 | 5 => 5 | 3 => 3 | n => n, fun | n => n⟩
theorem Tryz.laysIdxB : Go.Proofs.Lays.n217 Tryz.prog Tryz.laysIdxB_ren := {
  mixed := by kernel_rfl
  f217 := Tryz.func85.trans (congrArg some (by kernel_rfl))
  f266 := Tryz.func109.trans (congrArg some (by kernel_rfl))
  t3 := Tryz.underlying3
  a3 := Tryz.isAgg3
  z3 := Tryz.sizeOf3
  v3 := Tryz.zeroValue3
  t5 := Tryz.underlying5
  a5 := Tryz.isAgg5
  z5 := Tryz.sizeOf5
  v5 := Tryz.zeroValue5
  t9 := Tryz.underlying9
  a9 := Tryz.isAgg9
  z9 := Tryz.sizeOf9
  v9 := Tryz.zeroValue9 }
end Go.Proofs
namespace Go.Proofs.YtepankcnleeakaaGreatDoor.Ab
open Go Go.RowKit
set_option maxRecDepth 20000
set_option maxHeartbeats 4000000
def pIdxB : Prim := fun args σ => match args with
  | [.one (.str s), .one (.int .u8 c)] => some (.one (.int .i64 (Lib.indexByte s c.toNat.toUInt8)), σ)
  | _ => none
theorem primOk_idxB : PrimOk Tryz.prog 85 pIdxB := by
  intro args σ v σ' hp
  unfold pIdxB at hp
  split at hp
  · rename_i s c
    cases hp
    refine ⟨⟨_, Tryz.func85, by decide, rfl⟩, fun ρ w vs hv hr => ?_⟩
    cases hv with
    | cons h1 h2 =>
      cases h2 with
      | cons h2 h3 =>
        cases h3
        cases h1 with
        | one h1 =>
          cases h1
          cases h2 with
          | one h2 =>
            cases h2
            refine Calls.mono (Any.stringslite_IndexByte Tryz.laysIdxB ⟨s.toArray⟩ c w) ?_
            rintro e w1 ⟨rfl, rfl⟩
            exact ⟨_, ρ, rfl, Post.refl hr, .one (.int _ _)⟩
  · cases hp
end Go.Proofs.YtepankcnleeakaaGreatDoor.Ab
