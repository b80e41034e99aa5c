/- The library's Repeat, laid as one step. -/
import Derived.Test.YtepankcnleeakaaGreatDoorLxJ
import Derived.Shelf.Strings.Repeat
namespace Go.Proofs
open Go.Shelf Go.RowKit Go.Lib
def Tryz.laysRepeat_ren : Go.Shelf.Ren := ⟨fun | 105 => 63 | 212 => 93 | 99 => 32 | 165 => 26 | 166 => 27 | 170 => 94 | 169 => 28 | 263 => 120 | 264 => 121 | 206 => 56 | 240 => 49 | 241 => 50 | 276 => 74 | 277 => 75 | n => n, fun | 9 => 9 | 3 => 3 | 4 => 4 | 20 => 20 | 0 => 0 | 46 => 117 | 109 => 123 | 5 => 5 | 72 => 59 | 76 => 63 | 51 => 77 | 146 => 148 | 53 => 85 | 148 => 160 | 70 => 57 | 37 => 37 | 75 => 62 | 127 => 83 | 164 => 113 | 80 => 65 | n => n, fun | n => n⟩
theorem Tryz.laysRepeat : Go.Proofs.Lays.n105 Tryz.prog Tryz.laysRepeat_ren := {
 mixed := by kernel_rfl
 f99 := Tryz.func32.trans (congrArg some (by kernel_rfl))
 f105 := Tryz.func63.trans (congrArg some (by kernel_rfl))
 f165 := Tryz.func26.trans (congrArg some (by kernel_rfl))
 f166 := Tryz.func27.trans (congrArg some (by kernel_rfl))
 f169 := Tryz.func28.trans (congrArg some (by kernel_rfl))
 f170 := Tryz.func94.trans (congrArg some (by kernel_rfl))
 f206 := Tryz.func56.trans (congrArg some (by kernel_rfl))
 f212 := Tryz.func93.trans (congrArg some (by kernel_rfl))
 f240 := Tryz.func49.trans (congrArg some (by kernel_rfl))
 f241 := Tryz.func50.trans (congrArg some (by kernel_rfl))
 f263 := Tryz.func120.trans (congrArg some (by kernel_rfl))
 f264 := Tryz.func121.trans (congrArg some (by kernel_rfl))
 f276 := Tryz.func74.trans (congrArg some (by kernel_rfl))
 f277 := Tryz.func75.trans (congrArg some (by kernel_rfl))
 t0 := Tryz.underlying0
 a0 := Tryz.isAgg0
 z0 := Tryz.sizeOf0
 v0 := Tryz.zeroValue0
 t3 := Tryz.underlying3
 a3 := Tryz.isAgg3
 z3 := Tryz.sizeOf3
 v3 := Tryz.zeroValue3
 t4 := Tryz.underlying4
 a4 := Tryz.isAgg4
 z4 := Tryz.sizeOf4
 v4 := Tryz.zeroValue4
 t5 := Tryz.underlying5
 a5 := Tryz.isAgg5
 z5 := Tryz.sizeOf5
 v5 := Tryz.zeroValue5
 t9 := Tryz.underlying9
 a9 := Tryz.isAgg9
 z9 := Tryz.sizeOf9
 v9 := Tryz.zeroValue9
 t20 := Tryz.underlying20
 a20 := Tryz.isAgg20
 z20 := Tryz.sizeOf20
 v20 := Tryz.zeroValue20
 t37 := Tryz.underlying37
 a37 := Tryz.isAgg37
 z37 := Tryz.sizeOf37
 v37 := Tryz.zeroValue37
 t46 := Tryz.underlying117
 a46 := Tryz.isAgg117
 z46 := Tryz.sizeOf117
 v46 := Tryz.zeroValue117
 t51 := Tryz.underlying77
 a51 := Tryz.isAgg77
 z51 := Tryz.sizeOf77
 v51 := Tryz.zeroValue77
 t53 := Tryz.underlying85
 a53 := Tryz.isAgg85
 z53 := Tryz.sizeOf85
 v53 := Tryz.zeroValue85
 t70 := Tryz.underlying57
 a70 := Tryz.isAgg57
 z70 := Tryz.sizeOf57
 v70 := Tryz.zeroValue57
 t72 := Tryz.underlying59
 a72 := Tryz.isAgg59
 z72 := Tryz.sizeOf59
 v72 := Tryz.zeroValue59
 t75 := Tryz.underlying62
 a75 := Tryz.isAgg62
 z75 := Tryz.sizeOf62
 v75 := Tryz.zeroValue62
 t76 := Tryz.underlying63
 a76 := Tryz.isAgg63
 z76 := Tryz.sizeOf63
 v76 := Tryz.zeroValue63
 t109 := Tryz.underlying123
 a109 := Tryz.isAgg123
 z109 := Tryz.sizeOf123
 v109 := Tryz.zeroValue123
 t127 := Tryz.underlying83
 a127 := Tryz.isAgg83
 z127 := Tryz.sizeOf83
 v127 := Tryz.zeroValue83
 t146 := Tryz.underlying148
 a146 := Tryz.isAgg148
 z146 := Tryz.sizeOf148
 v146 := Tryz.zeroValue148
 t148 := Tryz.underlying160
 a148 := Tryz.isAgg160
 z148 := Tryz.sizeOf160
 v148 := Tryz.zeroValue160
 t164 := Tryz.underlying113
 a164 := Tryz.isAgg113
 z164 := Tryz.sizeOf113
 v164 := Tryz.zeroValue113 }
theorem Tryz.extraRepeat : Builder.Extra Tryz.prog Tryz.laysRepeat_ren where
 sizeBuilder := by kernel_rfl
 liesBuilder := by kernel_rfl
 t5 := Tryz.underlying5
 a5 := Tryz.isAgg5
 z5 := Tryz.sizeOf5
 v5 := Tryz.zeroValue5
 infoByte := by kernel_rfl
 cellsByte := by kernel_rfl
 sizeByte := by kernel_rfl
 neB5 := by decide
end Go.Proofs
namespace Go.Proofs.YtepankcnleeakaaGreatDoor.Ab
open Go Go.RowKit
set_option maxRecDepth 20000
set_option maxHeartbeats 4000000
def pRepeat : Prim := fun args σ => match args with
 | [.one (.str [c]), .one (.int .i64 (.ofNat n))] => match Nat.ble n 1000000 with
  | true => some (.one (.str (List.replicate n c)), σ)
  | false => none
 | _ => none
theorem repeat_one (c : UInt8) : ∀ n, Lib.repeatL [c] n = List.replicate n c := by
 intro n
 induction n with
 | zero => rfl
 | succ n ih => simp_all [Lib.repeatL, List.replicate_succ]
theorem primOk_repeat : PrimOk Tryz.prog 63 pRepeat := by
 intro args σ v σ' hp
 unfold pRepeat at hp
 split at hp
 ·rename_i c n
  split at hp
  ·rename_i hb
   cases hp
   rw [Nat.ble_eq] at hb
   refine ⟨⟨_, Tryz.func63, by decide, rfl⟩, fun ρ w vs hv hr => ?_⟩
   cases hv with
   | cons h1 h2 =>
    cases h2 with
    | cons h2 h3 =>
     cases h3
     cases h1 with
     | one h1 =>
      cases h1
      cases h2 with
      | one h2 =>
       cases h2
       refine Calls.mono (Any.strings_Repeat Tryz.laysRepeat Tryz.extraRepeat ⟨#[c]⟩ n w (by omega) (by show 1 * n ≤ _; omega)) ?_
       rintro e w1 ⟨rfl, hw⟩
       refine ⟨_, ρ, rfl, Post.ofBelow hr hw, ?_⟩
       show VR ρ _ (.string ⟨(Lib.repeatL [c] n).toArray⟩)
       rw [repeat_one]
       exact .one (.str _)
  ·cases hp
 ·cases hp
end Go.Proofs.YtepankcnleeakaaGreatDoor.Ab
