/- The library's Index, laid as one step. -/
import Derived.Test.YtepankcnleeakaaGreatDoorLxP
import Derived.Shelf.Strings.Search3
namespace Go.Proofs
open Go.Shelf Go.RowKit Go.Lib
def Tryz.laysIndex_ren : Go.Shelf.Ren := ⟨fun | 143 => 35 | 219 => 57 | 217 => 85 | 225 => 86 | 224 => 87 | 267 => 88 | 266 => 109 | 314 => 110 | n => n, fun | 9 => 9 | 3 => 3 | 4 => 4 | 5 => 5 | 46 => 117 | 146 => 148 | 51 => 77 | n => n, fun | 1 => 2 | n => n⟩
theorem Tryz.laysIndex : Go.Proofs.Lays.n143 Tryz.prog Tryz.laysIndex_ren := {
  mixed := by kernel_rfl
  f143 := Tryz.func35.trans (congrArg some (by kernel_rfl))
  f217 := Tryz.func85.trans (congrArg some (by kernel_rfl))
  f219 := Tryz.func57.trans (congrArg some (by kernel_rfl))
  f224 := Tryz.func87.trans (congrArg some (by kernel_rfl))
  f225 := Tryz.func86.trans (congrArg some (by kernel_rfl))
  f266 := Tryz.func109.trans (congrArg some (by kernel_rfl))
  f267 := Tryz.func88.trans (congrArg some (by kernel_rfl))
  f314 := Tryz.func110.trans (congrArg some (by kernel_rfl))
  t3 := Tryz.underlying3
  a3 := Tryz.isAgg3
  z3 := Tryz.sizeOf3
  v3 := Tryz.zeroValue3
  t4 := Tryz.underlying4
  a4 := Tryz.isAgg4
  z4 := Tryz.sizeOf4
  v4 := Tryz.zeroValue4
  t5 := Tryz.underlying5
  a5 := Tryz.isAgg5
  z5 := Tryz.sizeOf5
  v5 := Tryz.zeroValue5
  t9 := Tryz.underlying9
  a9 := Tryz.isAgg9
  z9 := Tryz.sizeOf9
  v9 := Tryz.zeroValue9
  t46 := Tryz.underlying117
  a46 := Tryz.isAgg117
  z46 := Tryz.sizeOf117
  v46 := Tryz.zeroValue117
  t51 := Tryz.underlying77
  a51 := Tryz.isAgg77
  z51 := Tryz.sizeOf77
  v51 := Tryz.zeroValue77
  t146 := Tryz.underlying148
  a146 := Tryz.isAgg148
  z146 := Tryz.sizeOf148
  v146 := Tryz.zeroValue148
  g1 := by kernel_rfl }
end Go.Proofs
namespace Go.Proofs.YtepankcnleeakaaGreatDoor.Ab
open Go Go.RowKit
set_option maxRecDepth 20000
set_option maxHeartbeats 4000000
def pIndex : Prim := fun args σ => match args with
  | [.one (.str s), .one (.str x)] => match Nat.ble s.length 4294967280 with
    | true => some (.one (.int .i64 (Lib.index s x)), σ)
    | false => none
  | _ => none
theorem anyMax : globAny (Tryz.laysIndex_ren.g 1) = some (some .i64) := by kernel_rfl
theorem primOk_index : PrimOk Tryz.prog 35 pIndex := by
  intro args σ v σ' hp
  unfold pIndex at hp
  split at hp
  · rename_i s x
    split at hp
    · rename_i hb
      cases hp
      rw [Nat.ble_eq] at hb
      refine ⟨⟨_, Tryz.func35, by decide, rfl⟩, fun ρ w vs hv hr => ?_⟩
      cases hv with
      | cons h1 h2 =>
        cases h2 with
        | cons h2 h3 =>
          cases h3
          cases h1 with
          | one h1 =>
            cases h1
            cases h2 with
            | one h2 =>
              cases h2
              obtain ⟨ev, ⟨m, rfl⟩, hfz⟩ := hr.gl.any _ _ anyMax
              refine Calls.mono (Any.strings_Index Tryz.laysIndex ⟨s.toArray⟩ ⟨x.toArray⟩ m w (by show s.toArray.size < _; rw [List.size_toArray]; omega) (hr.frz _ _ _ hfz).1) ?_
              rintro e w1 ⟨rfl, rfl⟩
              exact ⟨_, ρ, rfl, Post.refl hr, .one (.int _ _)⟩
    · cases hp
  · cases hp
end Go.Proofs.YtepankcnleeakaaGreatDoor.Ab
