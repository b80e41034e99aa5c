/- Several of my texts in one: LxN1, LxN2, LxN3, LxN4, LxN5, LxN6. -/
import Derived.Test.YtepankcnleeakaaGreatDoorLxJ
import Derived.Shelf.Strconv.Itoa3
import Derived.Shelf.Strings.Trim
import Derived.Test.YtepankcnleeakaaGreatDoorLxIx
import Derived.Shelf.Strings.Replace
import Derived.Shelf.Strconv.Itoa1
import Derived.Test.YtepankcnleeakaaGreatDoorLxBA
import Derived.Shelf.Strconv.Itoa2
import Derived.Lib.ItoaMem
import Derived.Test.YtepankcnleeakaaGreatDoorLxD
import Derived.Test.YtepankcnleeakaaGreatDoorLitLx4
namespace Go.Proofs
open Go.Shelf Go.RowKit Go.Lib
def Tryz.laysItoa_ren : Go.Shelf.Ren := ⟨fun | 171 => 25 | 243 => 48 | 246 => 73 | 283 => 103 | 284 => 104 | 285 => 105 | 286 => 106 | 129 => 129 | 317 => 128 | 318 => 130 | 319 => 131 | 320 => 132 | 337 => 140 | 338 => 141 | n => n, fun | 3 => 3 | 9 => 9 | 2 => 2 | 4 => 4 | 171 => 141 | 0 => 0 | 53 => 85 | 37 => 37 | 5 => 5 | 173 => 144 | 212 => 165 | 51 => 77 | 20 => 20 | 213 => 166 | 46 => 117 | 232 => 187 | 233 => 188 | n => n, fun | 17 => 5 | 18 => 9 | 19 => 10 | n => n⟩
theorem Tryz.laysItoa : Go.Proofs.LaysM.n171 Tryz.prog Tryz.laysItoa_ren := {
  mixed := by kernel_rfl
  f129 := Tryz.func129.trans (congrArg some (by kernel_rfl))
  f171 := Tryz.func25.trans (congrArg some (by kernel_rfl))
  f243 := Tryz.func48.trans (congrArg some (by kernel_rfl))
  f246 := Tryz.func73.trans (congrArg some (by kernel_rfl))
  f283 := Tryz.func103.trans (congrArg some (by kernel_rfl))
  f284 := Tryz.func104.trans (congrArg some (by kernel_rfl))
  f285 := Tryz.func105.trans (congrArg some (by kernel_rfl))
  f286 := Tryz.func106.trans (congrArg some (by kernel_rfl))
  f317 := Tryz.func128.trans (congrArg some (by kernel_rfl))
  f318 := Tryz.func130.trans (congrArg some (by kernel_rfl))
  f319 := Tryz.func131.trans (congrArg some (by kernel_rfl))
  f320 := Tryz.func132.trans (congrArg some (by kernel_rfl))
  f337 := Tryz.func140.trans (congrArg some (by kernel_rfl))
  f338 := Tryz.func141.trans (congrArg some (by kernel_rfl))
  t0 := Tryz.underlying0
  a0 := Tryz.isAgg0
  z0 := Tryz.sizeOf0
  v0 := Tryz.zeroValue0
  t2 := Tryz.underlying2
  a2 := Tryz.isAgg2
  z2 := Tryz.sizeOf2
  v2 := Tryz.zeroValue2
  t3 := Tryz.underlying3
  a3 := Tryz.isAgg3
  z3 := Tryz.sizeOf3
  v3 := Tryz.zeroValue3
  t4 := Tryz.underlying4
  a4 := Tryz.isAgg4
  z4 := Tryz.sizeOf4
  v4 := Tryz.zeroValue4
  t5 := Tryz.underlying5
  a5 := Tryz.isAgg5
  z5 := Tryz.sizeOf5
  v5 := Tryz.zeroValue5
  t9 := Tryz.underlying9
  a9 := Tryz.isAgg9
  z9 := Tryz.sizeOf9
  v9 := Tryz.zeroValue9
  t20 := Tryz.underlying20
  a20 := Tryz.isAgg20
  z20 := Tryz.sizeOf20
  v20 := Tryz.zeroValue20
  t37 := Tryz.underlying37
  a37 := Tryz.isAgg37
  z37 := Tryz.sizeOf37
  v37 := Tryz.zeroValue37
  t46 := Tryz.underlying117
  a46 := Tryz.isAgg117
  z46 := Tryz.sizeOf117
  v46 := Tryz.zeroValue117
  t51 := Tryz.underlying77
  a51 := Tryz.isAgg77
  z51 := Tryz.sizeOf77
  v51 := Tryz.zeroValue77
  t53 := Tryz.underlying85
  a53 := Tryz.isAgg85
  z53 := Tryz.sizeOf85
  v53 := Tryz.zeroValue85
  t171 := Tryz.underlying141
  a171 := Tryz.isAgg141
  z171 := Tryz.sizeOf141
  v171 := Tryz.zeroValue141
  t173 := Tryz.underlying144
  a173 := Tryz.isAgg144
  z173 := Tryz.sizeOf144
  v173 := Tryz.zeroValue144
  t212 := Tryz.underlying165
  a212 := Tryz.isAgg165
  z212 := Tryz.sizeOf165
  v212 := Tryz.zeroValue165
  t213 := Tryz.underlying166
  a213 := Tryz.isAgg166
  z213 := Tryz.sizeOf166
  t232 := Tryz.underlying187
  a232 := Tryz.isAgg187
  z232 := Tryz.sizeOf187
  v232 := Tryz.zeroValue187
  t233 := Tryz.underlying188
  a233 := Tryz.isAgg188
  z233 := Tryz.sizeOf188
  v233 := Tryz.zeroValue188
  g17 := by kernel_rfl
  g18 := by kernel_rfl
  g19 := by kernel_rfl
  i0 := by kernel_rfl
  i2 := by kernel_rfl
  i3 := by kernel_rfl
  i4 := by kernel_rfl
  i5 := by kernel_rfl
  i9 := by kernel_rfl
  i20 := by kernel_rfl
  i37 := by kernel_rfl
  i46 := by kernel_rfl
  i51 := by kernel_rfl
  i53 := by kernel_rfl
  i171 := by kernel_rfl
  i173 := by kernel_rfl
  i212 := by kernel_rfl
  i232 := by kernel_rfl
  i233 := by kernel_rfl
  m17 := by kernel_rfl
  m18 := by kernel_rfl
  m19 := by kernel_rfl }
end Go.Proofs
namespace Go.Proofs.YtepankcnleeakaaGreatDoor.Ab
open Go Go.RowKit
set_option maxRecDepth 20000
set_option maxHeartbeats 4000000
set_option linter.unusedVariables false
theorem lits_nums (k : IntKind) : ∀ l : List Int, litVals (l.map fun n => SV.int k n) = some (l.map fun n => Value.int k n)
  | [] => rfl
  | n :: l => by simp [litVals, litVal, lits_nums k l]
theorem tab_is {ρ : Loc} {σ : AHeap} {w : World} (hr : HR ρ σ.get w) {name : String} {g : Nat} {k : IntKind} {zs : List Int} (hg : Tryz.prog.globalNamed name = some g) (ht : globTab g = some (zs.map fun n => SV.int k n)) (hne : zs ≠ []) :
    Lib.TabIs Tryz.prog w name k zs := by
  obtain ⟨vs, e, hv⟩ := hr.gl.tab g _ ht
  rw [lits_nums] at e
  cases e
  obtain ⟨z, zr, rfl⟩ : ∃ z zr, zs = z :: zr := by
    cases zs with
    | nil => exact absurd rfl hne
    | cons z zr => exact ⟨z, zr, rfl⟩
  obtain ⟨cur, t, fz, h1, h2⟩ := hr.rows g _ _ ht
  rw [List.length_map] at h2
  have hc : cur = ((z :: zr).map fun n => Value.int k n).toArray := by
    apply Array.ext'
    apply List.ext_getElem?
    intro j
    by_cases hj : j < zr.length + 1
    · have hx : ((z :: zr).map fun n => Value.int k n)[j]? = some (((z :: zr).map fun n => Value.int k n)[j]'(by simpa using hj)) := List.getElem?_eq_getElem _
      have h3 := (hr.frz _ _ _ (hv j _ hx)).1
      simp only [World.cell?, h1, Option.isSome_none, Bool.false_eq_true, if_false] at h3
      rw [hx, ← h3]
      simp
    · rw [List.getElem?_eq_none (by simp; omega), List.getElem?_eq_none (by simp; omega)]
  unfold Lib.TabIs World.var?
  rw [hg]
  simp only [Option.bind_some, h1, hc]
theorem powG : Tryz.prog.globalNamed "internal/strconv.uint64pow10" = some 5 := by kernel_rfl
theorem powT : globTab 5 = some (Lib.pow10Tab.map fun n => SV.int .u64 n) := by kernel_rfl
theorem pow_is {ρ : Loc} {σ : AHeap} {w : World} (hr : HR ρ σ.get w) : Lib.TabIs Tryz.prog w "internal/strconv.uint64pow10" .u64 Lib.pow10Tab := tab_is hr powG powT (by decide)
def pItoa : Prim := fun args σ => match args with
  | [.one (.int .i64 n)] => match decide (-9223372036854775808 ≤ n) && decide (n ≤ 9223372036854775807) with
    | true => some (.one (.str (Lib.itoa n)), σ)
    | false => none
  | _ => none
theorem primOk_itoa : PrimOk Tryz.prog 25 pItoa := by
  intro args σ v σ' hp
  unfold pItoa at hp
  split at hp
  · rename_i n
    split at hp
    · rename_i hb
      cases hp
      simp only [Bool.and_eq_true, decide_eq_true_eq] at hb
      refine ⟨⟨_, Tryz.func25, by decide, rfl⟩, fun ρ w vs hv hr => ?_⟩
      cases hv with
      | cons h1 h2 =>
        cases h2
        cases h1 with
        | one h1 =>
          cases h1
          refine Calls.mono (Any.strconv_Itoa Tryz.laysItoa n hb.1 hb.2 w (pow_is hr)) ?_
          rintro e w1 ⟨rfl, k, os, rfl⟩
          refine ⟨_, ρ, rfl, Post.ofBelow hr ?_, .one (.str _)⟩
          exact ⟨rfl, rfl, rfl, by simp [Sort.grow], fun b hb => by
            show (w.heap ++ os)[b]? = w.heap[b]?
            rw [Array.getElem?_append_left hb]⟩
    · cases hp
  · cases hp
end Go.Proofs.YtepankcnleeakaaGreatDoor.Ab
namespace Go.Proofs
open Go.Shelf Go.RowKit Go.Lib
def Tryz.laysTrimR_ren : Go.Shelf.Ren := ⟨fun | 162 => 71 | 232 => 97 | 227 => 98 | 234 => 99 | 236 => 100 | 228 => 122 | 271 => 123 | 151 => 124 | 120 => 138 | 197 => 102 | 152 => 139 | 260 => 127 | 137 => 64 | 119 => 147 | 224 => 87 | 225 => 86 | 217 => 85 | 266 => 109 | n => n, fun | 9 => 9 | 4 => 4 | 3 => 3 | 5 => 5 | 117 => 135 | 116 => 134 | 0 => 0 | 124 => 138 | 21 => 21 | 105 => 139 | 46 => 117 | 119 => 50 | 139 => 129 | 138 => 128 | n => n, fun | 3 => 3 | 4 => 4 | n => n⟩
theorem Tryz.laysTrimR : Go.Proofs.Lays.n162 Tryz.prog Tryz.laysTrimR_ren := {
  mixed := by kernel_rfl
  f119 := Tryz.func147.trans (congrArg some (by kernel_rfl))
  f120 := Tryz.func138.trans (congrArg some (by kernel_rfl))
  f137 := Tryz.func64.trans (congrArg some (by kernel_rfl))
  f151 := Tryz.func124.trans (congrArg some (by kernel_rfl))
  f152 := Tryz.func139.trans (congrArg some (by kernel_rfl))
  f162 := Tryz.func71.trans (congrArg some (by kernel_rfl))
  f197 := Tryz.func102.trans (congrArg some (by kernel_rfl))
  f217 := Tryz.func85.trans (congrArg some (by kernel_rfl))
  f224 := Tryz.func87.trans (congrArg some (by kernel_rfl))
  f225 := Tryz.func86.trans (congrArg some (by kernel_rfl))
  f227 := Tryz.func98.trans (congrArg some (by kernel_rfl))
  f228 := Tryz.func122.trans (congrArg some (by kernel_rfl))
  f232 := Tryz.func97.trans (congrArg some (by kernel_rfl))
  f234 := Tryz.func99.trans (congrArg some (by kernel_rfl))
  f236 := Tryz.func100.trans (congrArg some (by kernel_rfl))
  f260 := Tryz.func127.trans (congrArg some (by kernel_rfl))
  f266 := Tryz.func109.trans (congrArg some (by kernel_rfl))
  f271 := Tryz.func123.trans (congrArg some (by kernel_rfl))
  t0 := Tryz.underlying0
  a0 := Tryz.isAgg0
  z0 := Tryz.sizeOf0
  v0 := Tryz.zeroValue0
  t3 := Tryz.underlying3
  a3 := Tryz.isAgg3
  z3 := Tryz.sizeOf3
  v3 := Tryz.zeroValue3
  t4 := Tryz.underlying4
  a4 := Tryz.isAgg4
  z4 := Tryz.sizeOf4
  v4 := Tryz.zeroValue4
  t5 := Tryz.underlying5
  a5 := Tryz.isAgg5
  z5 := Tryz.sizeOf5
  v5 := Tryz.zeroValue5
  t9 := Tryz.underlying9
  a9 := Tryz.isAgg9
  z9 := Tryz.sizeOf9
  v9 := Tryz.zeroValue9
  t21 := Tryz.underlying21
  a21 := Tryz.isAgg21
  z21 := Tryz.sizeOf21
  v21 := Tryz.zeroValue21
  t46 := Tryz.underlying117
  a46 := Tryz.isAgg117
  z46 := Tryz.sizeOf117
  v46 := Tryz.zeroValue117
  t105 := Tryz.underlying139
  a105 := Tryz.isAgg139
  z105 := Tryz.sizeOf139
  v105 := Tryz.zeroValue139
  t116 := Tryz.underlying134
  a116 := Tryz.isAgg134
  z116 := Tryz.sizeOf134
  t117 := Tryz.underlying135
  a117 := Tryz.isAgg135
  z117 := Tryz.sizeOf135
  v117 := Tryz.zeroValue135
  t119 := Tryz.underlying50
  a119 := Tryz.isAgg50
  z119 := Tryz.sizeOf50
  t124 := Tryz.underlying138
  a124 := Tryz.isAgg138
  z124 := Tryz.sizeOf138
  v124 := Tryz.zeroValue138
  t138 := Tryz.underlying128
  a138 := Tryz.isAgg128
  z138 := Tryz.sizeOf128
  v138 := Tryz.zeroValue128
  t139 := Tryz.underlying129
  a139 := Tryz.isAgg129
  z139 := Tryz.sizeOf129
  v139 := Tryz.zeroValue129
  g3 := by kernel_rfl
  g4 := by kernel_rfl }
end Go.Proofs
namespace Go.Proofs.YtepankcnleeakaaGreatDoor.Ab
open Go Go.RowKit
set_option maxRecDepth 20000
set_option maxHeartbeats 4000000
def pTrimR : Prim := fun args σ => match args with
  | [.one (.str s), .one (.str [c])] => match Nat.blt c.toNat 128 && Nat.ble s.length 1099511627776 with
    | true => some (.one (.str (Lib.trimRightB s c)), σ)
    | false => none
  | _ => none
theorem primOk_trimR : PrimOk Tryz.prog 71 pTrimR := by
  intro args σ v σ' hp
  unfold pTrimR at hp
  split at hp
  · rename_i s c
    split at hp
    · rename_i hb
      cases hp
      rw [Bool.and_eq_true, Nat.blt_eq, Nat.ble_eq] at hb
      refine ⟨⟨_, Tryz.func71, by decide, rfl⟩, fun ρ w vs hv hr => ?_⟩
      cases hv with
      | cons h1 h2 =>
        cases h2 with
        | cons h2 h3 =>
          cases h3
          cases h1 with
          | one h1 =>
            cases h1
            cases h2 with
            | one h2 =>
              cases h2
              refine Calls.mono (Any.strings_TrimRight_one Tryz.laysTrimR ⟨s.toArray⟩ c hb.1 w (by show s.toArray.size ≤ _; rw [List.size_toArray]; omega)) ?_
              rintro e w1 ⟨rfl, rfl⟩
              exact ⟨_, ρ, rfl, Post.refl hr, .one (.str _)⟩
    · cases hp
  · cases hp
end Go.Proofs.YtepankcnleeakaaGreatDoor.Ab
namespace Go.Proofs
open Go.Shelf Go.RowKit Go.Lib
def Tryz.laysReplace_ren : Go.Shelf.Ren := ⟨fun | 155 => 47 | 154 => 72 | 138 => 101 | 165 => 26 | 143 => 35 | 166 => 27 | 197 => 102 | 169 => 28 | 195 => 125 | 218 => 126 | 240 => 49 | 241 => 50 | 219 => 57 | 260 => 127 | 276 => 74 | 277 => 75 | 217 => 85 | 225 => 86 | 224 => 87 | 267 => 88 | 266 => 109 | 314 => 110 | n => n, fun | 9 => 9 | 3 => 3 | 4 => 4 | 72 => 59 | 0 => 0 | 76 => 63 | 105 => 139 | 21 => 21 | 5 => 5 | 70 => 57 | 20 => 20 | 37 => 37 | 75 => 62 | 127 => 83 | 164 => 113 | 46 => 117 | 119 => 50 | 139 => 129 | 138 => 128 | 146 => 148 | 51 => 77 | 80 => 65 | n => n, fun | 1 => 2 | 3 => 3 | 4 => 4 | n => n⟩
theorem Tryz.laysReplace : Go.Proofs.Lays.n155 Tryz.prog Tryz.laysReplace_ren := {
  mixed := by kernel_rfl
  f138 := Tryz.func101.trans (congrArg some (by kernel_rfl))
  f143 := Tryz.func35.trans (congrArg some (by kernel_rfl))
  f154 := Tryz.func72.trans (congrArg some (by kernel_rfl))
  f155 := Tryz.func47.trans (congrArg some (by kernel_rfl))
  f165 := Tryz.func26.trans (congrArg some (by kernel_rfl))
  f166 := Tryz.func27.trans (congrArg some (by kernel_rfl))
  f169 := Tryz.func28.trans (congrArg some (by kernel_rfl))
  f195 := Tryz.func125.trans (congrArg some (by kernel_rfl))
  f197 := Tryz.func102.trans (congrArg some (by kernel_rfl))
  f217 := Tryz.func85.trans (congrArg some (by kernel_rfl))
  f218 := Tryz.func126.trans (congrArg some (by kernel_rfl))
  f219 := Tryz.func57.trans (congrArg some (by kernel_rfl))
  f224 := Tryz.func87.trans (congrArg some (by kernel_rfl))
  f225 := Tryz.func86.trans (congrArg some (by kernel_rfl))
  f240 := Tryz.func49.trans (congrArg some (by kernel_rfl))
  f241 := Tryz.func50.trans (congrArg some (by kernel_rfl))
  f260 := Tryz.func127.trans (congrArg some (by kernel_rfl))
  f266 := Tryz.func109.trans (congrArg some (by kernel_rfl))
  f267 := Tryz.func88.trans (congrArg some (by kernel_rfl))
  f276 := Tryz.func74.trans (congrArg some (by kernel_rfl))
  f277 := Tryz.func75.trans (congrArg some (by kernel_rfl))
  f314 := Tryz.func110.trans (congrArg some (by kernel_rfl))
  t0 := Tryz.underlying0
  a0 := Tryz.isAgg0
  z0 := Tryz.sizeOf0
  v0 := Tryz.zeroValue0
  t3 := Tryz.underlying3
  a3 := Tryz.isAgg3
  z3 := Tryz.sizeOf3
  v3 := Tryz.zeroValue3
  t4 := Tryz.underlying4
  a4 := Tryz.isAgg4
  z4 := Tryz.sizeOf4
  v4 := Tryz.zeroValue4
  t5 := Tryz.underlying5
  a5 := Tryz.isAgg5
  z5 := Tryz.sizeOf5
  v5 := Tryz.zeroValue5
  t9 := Tryz.underlying9
  a9 := Tryz.isAgg9
  z9 := Tryz.sizeOf9
  v9 := Tryz.zeroValue9
  t20 := Tryz.underlying20
  a20 := Tryz.isAgg20
  z20 := Tryz.sizeOf20
  v20 := Tryz.zeroValue20
  t21 := Tryz.underlying21
  a21 := Tryz.isAgg21
  z21 := Tryz.sizeOf21
  v21 := Tryz.zeroValue21
  t37 := Tryz.underlying37
  a37 := Tryz.isAgg37
  z37 := Tryz.sizeOf37
  v37 := Tryz.zeroValue37
  t46 := Tryz.underlying117
  a46 := Tryz.isAgg117
  z46 := Tryz.sizeOf117
  v46 := Tryz.zeroValue117
  t51 := Tryz.underlying77
  a51 := Tryz.isAgg77
  z51 := Tryz.sizeOf77
  v51 := Tryz.zeroValue77
  t70 := Tryz.underlying57
  a70 := Tryz.isAgg57
  z70 := Tryz.sizeOf57
  v70 := Tryz.zeroValue57
  t72 := Tryz.underlying59
  a72 := Tryz.isAgg59
  z72 := Tryz.sizeOf59
  v72 := Tryz.zeroValue59
  t75 := Tryz.underlying62
  a75 := Tryz.isAgg62
  z75 := Tryz.sizeOf62
  v75 := Tryz.zeroValue62
  t76 := Tryz.underlying63
  a76 := Tryz.isAgg63
  z76 := Tryz.sizeOf63
  v76 := Tryz.zeroValue63
  t105 := Tryz.underlying139
  a105 := Tryz.isAgg139
  z105 := Tryz.sizeOf139
  v105 := Tryz.zeroValue139
  t119 := Tryz.underlying50
  a119 := Tryz.isAgg50
  z119 := Tryz.sizeOf50
  t127 := Tryz.underlying83
  a127 := Tryz.isAgg83
  z127 := Tryz.sizeOf83
  v127 := Tryz.zeroValue83
  t138 := Tryz.underlying128
  a138 := Tryz.isAgg128
  z138 := Tryz.sizeOf128
  v138 := Tryz.zeroValue128
  t139 := Tryz.underlying129
  a139 := Tryz.isAgg129
  z139 := Tryz.sizeOf129
  v139 := Tryz.zeroValue129
  t146 := Tryz.underlying148
  a146 := Tryz.isAgg148
  z146 := Tryz.sizeOf148
  v146 := Tryz.zeroValue148
  t164 := Tryz.underlying113
  a164 := Tryz.isAgg113
  z164 := Tryz.sizeOf113
  v164 := Tryz.zeroValue113
  g1 := by kernel_rfl
  g3 := by kernel_rfl
  g4 := by kernel_rfl }
theorem Tryz.extraReplace : Builder.Extra Tryz.prog Tryz.laysReplace_ren where
  sizeBuilder := by kernel_rfl
  liesBuilder := by kernel_rfl
  t5 := Tryz.underlying5
  a5 := Tryz.isAgg5
  z5 := Tryz.sizeOf5
  v5 := Tryz.zeroValue5
  infoByte := by kernel_rfl
  cellsByte := by kernel_rfl
  sizeByte := by kernel_rfl
  neB5 := by decide
end Go.Proofs
namespace Go.Proofs.YtepankcnleeakaaGreatDoor.Ab
open Go Go.RowKit
set_option maxRecDepth 20000
set_option maxHeartbeats 4000000
def pReplace : Prim := fun args σ => match args with
  | [.one (.str s), .one (.str o), .one (.str n)] => match Nat.ble s.length 4294967280 && Nat.ble 1 o.length && Nat.ble (s.length + Lib.countB ⟨s.toArray⟩ ⟨o.toArray⟩ * n.length) 140737488355328 with
    | true => some (.one (.str (Lib.replaceAll s o n)), σ)
    | false => none
  | _ => none
theorem anyMaxR : globAny (Tryz.laysReplace_ren.g 1) = some (some .i64) := by kernel_rfl
theorem primOk_replace : PrimOk Tryz.prog 47 pReplace := by
  intro args σ v σ' hp
  unfold pReplace at hp
  split at hp
  · rename_i s o n
    split at hp
    · rename_i hb
      cases hp
      rw [Bool.and_eq_true, Bool.and_eq_true, Nat.ble_eq, Nat.ble_eq, Nat.ble_eq] at hb
      refine ⟨⟨_, Tryz.func47, by decide, rfl⟩, fun ρ w vs hv hr => ?_⟩
      cases hv with
      | cons h1 h2 =>
        cases h2 with
        | cons h2 h3 =>
          cases h3 with
          | cons h3 h4 =>
            cases h4
            cases h1 with
            | one h1 =>
              cases h1
              cases h2 with
              | one h2 =>
                cases h2
                cases h3 with
                | one h3 =>
                  cases h3
                  obtain ⟨ev, ⟨m, rfl⟩, hfz⟩ := hr.gl.any _ _ anyMaxR
                  have hz : ∀ l : List UInt8, (⟨l.toArray⟩ : ByteArray).size = l.length := fun l => by show l.toArray.size = _; rw [List.size_toArray]
                  refine Calls.mono (Any.strings_ReplaceAll Tryz.laysReplace Tryz.extraReplace ⟨s.toArray⟩ ⟨o.toArray⟩ ⟨n.toArray⟩ m w (by rw [hz]; omega) (hr.frz _ _ _ hfz).1 (by rw [hz]; omega) (by rw [hz, hz]; omega)) ?_
                  rintro e w1 ⟨rfl, hw⟩
                  exact ⟨_, ρ, rfl, Post.ofBelow hr hw, .one (.str _)⟩
    · cases hp
  · cases hp
end Go.Proofs.YtepankcnleeakaaGreatDoor.Ab
namespace Go.Proofs
open Go.Shelf Go.RowKit Go.Lib
def Tryz.laysDigits_ren : Go.Shelf.Ren := ⟨fun | 284 => 104 | 129 => 129 | 317 => 128 | 318 => 130 | n => n, fun | 53 => 85 | 3 => 3 | 212 => 165 | 0 => 0 | 4 => 4 | 46 => 117 | 5 => 5 | 9 => 9 | n => n, fun | 17 => 5 | n => n⟩
theorem Tryz.laysDigits : Go.Proofs.LaysM.n284 Tryz.prog Tryz.laysDigits_ren := {
  mixed := by kernel_rfl
  f129 := Tryz.func129.trans (congrArg some (by kernel_rfl))
  f284 := Tryz.func104.trans (congrArg some (by kernel_rfl))
  f317 := Tryz.func128.trans (congrArg some (by kernel_rfl))
  f318 := Tryz.func130.trans (congrArg some (by kernel_rfl))
  t0 := Tryz.underlying0
  a0 := Tryz.isAgg0
  z0 := Tryz.sizeOf0
  v0 := Tryz.zeroValue0
  t3 := Tryz.underlying3
  a3 := Tryz.isAgg3
  z3 := Tryz.sizeOf3
  v3 := Tryz.zeroValue3
  t4 := Tryz.underlying4
  a4 := Tryz.isAgg4
  z4 := Tryz.sizeOf4
  v4 := Tryz.zeroValue4
  t5 := Tryz.underlying5
  a5 := Tryz.isAgg5
  z5 := Tryz.sizeOf5
  v5 := Tryz.zeroValue5
  t9 := Tryz.underlying9
  a9 := Tryz.isAgg9
  z9 := Tryz.sizeOf9
  v9 := Tryz.zeroValue9
  t46 := Tryz.underlying117
  a46 := Tryz.isAgg117
  z46 := Tryz.sizeOf117
  v46 := Tryz.zeroValue117
  t53 := Tryz.underlying85
  a53 := Tryz.isAgg85
  z53 := Tryz.sizeOf85
  v53 := Tryz.zeroValue85
  t212 := Tryz.underlying165
  a212 := Tryz.isAgg165
  z212 := Tryz.sizeOf165
  v212 := Tryz.zeroValue165
  g17 := by kernel_rfl
  i0 := by kernel_rfl
  i3 := by kernel_rfl
  i4 := by kernel_rfl
  i5 := by kernel_rfl
  i9 := by kernel_rfl
  i46 := by kernel_rfl
  i53 := by kernel_rfl
  i212 := by kernel_rfl
  m17 := by kernel_rfl }
end Go.Proofs
namespace Go.Proofs.YtepankcnleeakaaGreatDoor.Ab
open Go Go.RowKit
set_option maxRecDepth 20000
set_option maxHeartbeats 4000000
def pDigits : Prim := fun args σ => match args with
  | [.one (.int .u64 (.ofNat u))] => match Nat.ble 1 u && Nat.blt u 18446744073709551616 with
    | true => some (.one (.int .i64 (Lib.nDigits u)), σ)
    | false => none
  | _ => none
theorem primOk_digits : PrimOk Tryz.prog 104 pDigits := by
  intro args σ v σ' hp
  unfold pDigits at hp
  split at hp
  · rename_i u
    split at hp
    · rename_i hb
      cases hp
      rw [Bool.and_eq_true, Nat.ble_eq, Nat.blt_eq] at hb
      refine ⟨⟨_, Tryz.func104, by decide, rfl⟩, fun ρ w vs hv hr => ?_⟩
      cases hv with
      | cons h1 h2 =>
        cases h2
        cases h1 with
        | one h1 =>
          cases h1
          refine Calls.mono (Any.internal_strconv_numDigits Tryz.laysDigits u hb.1 hb.2 w (pow_is hr)) ?_
          rintro e w1 ⟨rfl, rfl⟩
          exact ⟨_, ρ, rfl, Post.refl hr, .one (.int _ _)⟩
    · cases hp
  · cases hp
end Go.Proofs.YtepankcnleeakaaGreatDoor.Ab
namespace Go.Proofs
open Go.Shelf Go.RowKit Go.Lib
def Tryz.laysBase10_ren : Go.Shelf.Ren := ⟨fun | 285 => 105 | n => n, fun | 37 => 37 | 53 => 85 | 3 => 3 | 4 => 4 | 51 => 77 | 9 => 9 | 5 => 5 | 0 => 0 | n => n, fun | n => n⟩
theorem Tryz.laysBase10 : Go.Proofs.Lays.n285 Tryz.prog Tryz.laysBase10_ren := {
  mixed := by kernel_rfl
  f285 := Tryz.func105.trans (congrArg some (by kernel_rfl))
  t0 := Tryz.underlying0
  a0 := Tryz.isAgg0
  z0 := Tryz.sizeOf0
  v0 := Tryz.zeroValue0
  t3 := Tryz.underlying3
  a3 := Tryz.isAgg3
  z3 := Tryz.sizeOf3
  v3 := Tryz.zeroValue3
  t4 := Tryz.underlying4
  a4 := Tryz.isAgg4
  z4 := Tryz.sizeOf4
  v4 := Tryz.zeroValue4
  t5 := Tryz.underlying5
  a5 := Tryz.isAgg5
  z5 := Tryz.sizeOf5
  v5 := Tryz.zeroValue5
  t9 := Tryz.underlying9
  a9 := Tryz.isAgg9
  z9 := Tryz.sizeOf9
  v9 := Tryz.zeroValue9
  t37 := Tryz.underlying37
  a37 := Tryz.isAgg37
  z37 := Tryz.sizeOf37
  v37 := Tryz.zeroValue37
  t51 := Tryz.underlying77
  a51 := Tryz.isAgg77
  z51 := Tryz.sizeOf77
  v51 := Tryz.zeroValue77
  t53 := Tryz.underlying85
  a53 := Tryz.isAgg85
  z53 := Tryz.sizeOf85
  v53 := Tryz.zeroValue85 }
end Go.Proofs
namespace Go.Proofs.YtepankcnleeakaaGreatDoor.Ab
open Go Go.RowKit
set_option maxRecDepth 20000
set_option maxHeartbeats 4000000
set_option linter.unusedVariables false
def fmtF (n u : Nat) : List UInt8 := (List.range n).map fun t => Lib.dg u (n - 1 - t)
def pBase10 : Prim := fun args σ => match args with
  | [.one (.slice id off 1 n cap), .one (.int .u64 (.ofNat u))] => match σ.get id with
    | some ⟨cs, .own⟩ => match bytesOf ((cs.drop off).take n) with
      | some d => match Nat.beq d.length n && Nat.ble (off + n) cs.length && Nat.blt u (10 ^ n) && Nat.blt u 18446744073709551616 && Nat.ble n 24 && Nat.ble 1 n with
        | true => some (.tup [], σ.put id ⟨splice cs off ((fmtF n u).map byteCell), .own⟩)
        | false => none
      | none => none
    | _ => none
  | _ => none
theorem fmt_is {n u v : Nat} {dk : Array UInt8} (h : Lib.FmtInv n u 0 v dk) : dk.toList = fmtF n u := by
  apply List.ext_getElem?
  intro j
  unfold fmtF
  by_cases hj : j < n
  · have hs : j < dk.size := by rw [h.size]; exact hj
    have := h.done j (Nat.zero_le _) hj
    rw [getElem!_pos dk j hs] at this
    rw [List.getElem?_map, List.getElem?_range hj]
    simp [hs, this]
  · have := h.size
    rw [List.getElem?_eq_none (by simp; omega), List.getElem?_eq_none (by simp; omega)]
theorem primOk_base10 : PrimOk Tryz.prog 105 pBase10 := by
  intro args σ v σ' hp
  unfold pBase10 at hp
  split at hp
  · rename_i id off n cap u
    split at hp
    · rename_i cs hg
      split at hp
      · rename_i d hd
        split at hp
        · rename_i hb
          cases hp
          simp only [Bool.and_eq_true, Nat.ble_eq, Nat.blt_eq] at hb
          obtain ⟨⟨⟨⟨⟨b1, b2⟩, b3⟩, b4⟩, b5⟩, b6⟩ := hb
          have b1 := Nat.eq_of_beq_eq_true b1
          have hd := bytesOf_spec hd
          refine ⟨⟨_, Tryz.func105, by decide, rfl⟩, fun ρ w vs hv hr => ?_⟩
          cases hv with
          | cons h1 h2 =>
            cases h2 with
            | cons h2 h3 =>
              cases h3
              cases h1 with
              | one h1 =>
                cases h2 with
                | one h2 =>
                  cases h2
                  cases h1 with
                  | slice0 => omega
                  | slice hB e1 e2 e3 e4 e5 =>
                    rename_i c B
                    obtain ⟨o', k1, k2, k3⟩ := hr.dom id B hB
                    rw [hg] at k1
                    cases k1
                    obtain ⟨cur, t, fz, g1, g2, g3⟩ := k2.own rfl
                    obtain ⟨us, u1, u2⟩ := k2.holds (by simp)
                    have hlen : cs.length = B.clen := k2.len
                    have hfit := k2.fit
                    have q3 := (u1.drop off).take n
                    rw [hd] at q3
                    have q4 := bytes_inv q3
                    have hcell : ∀ j, j < n → w.cell? ⟨B.b, B.base + off + j, none⟩ = some (.int .u8 (d.toArray[j]!).toNat) := by
                      intro j hj
                      have h5 : ((us.drop off).take n)[j]? = some (.int .u8 (d[j]'(by omega)).toNat) := by
                        rw [q4]
                        simp [Lib.byteCells, show j < d.length by omega]
                      rw [List.getElem?_take, if_pos hj, List.getElem?_drop] at h5
                      have := u2 _ _ h5
                      rw [← Nat.add_assoc] at this
                      rw [this, getElem!_pos d.toArray j (by simp; omega)]
                      simp
                    have hH : Sort.Holds (fun b : UInt8 => Value.int .u8 (b.toNat : Int)) w B.b (B.base + off) d.toArray := by
                      intro j hj
                      have hj : j < n := by simpa [b1] using hj
                      refine ⟨hcell j hj, ?_⟩
                      have := g3 (B.base + off + j) (by omega)
                      obtain ⟨lo, hi⟩ := fz
                      simp only [World.frozen?, g1, Bool.and_eq_false_iff, decide_eq_false_iff_not]
                      simp only at this
                      omega
                    have hsz : d.toArray.size = n := by simp [b1]
                    have hcall := Any.internal_strconv_formatBase10 Tryz.laysBase10 B.b (B.base + off) c u d.toArray w hH (by rw [hsz]; exact b3) b4 (by rw [hsz]; omega)
                    rw [hsz] at hcall
                    refine Calls.mono hcall ?_
                    rintro e w1 ⟨rfl, q, v', dk, rfl, hfmt⟩
                    have hdk := hfmt.size
                    have hdkl := fmt_is hfmt
                    refine ⟨_, ρ, rfl, ?_, .tup .nil⟩
                    have hheap : ((Sort.putRow (fun b : UInt8 => Value.int .u8 (b.toNat : Int)) w B.b (B.base + off) dk).drewN q).heap[B.b]? = some (.cells (Sort.putCells (fun b : UInt8 => Value.int .u8 (b.toNat : Int)) (B.base + off) dk cur) t fz) := by
                      show (w.heap.modify B.b _)[B.b]? = _
                      rw [Array.getElem?_modify, if_pos rfl, g1]
                      rfl
                    have hoth : ∀ k, k ≠ B.b → ((Sort.putRow (fun b : UInt8 => Value.int .u8 (b.toNat : Int)) w B.b (B.base + off) dk).drewN q).heap[k]? = w.heap[k]? := by
                      intro k hk
                      show (w.heap.modify B.b _)[k]? = _
                      rw [Array.getElem?_modify, if_neg (fun e => hk e.symm)]
                    have hfl : (fmtF n u).length = n := by simp [fmtF]
                    have hsl : off + ((fmtF n u).map byteCell).length ≤ cs.length := by rw [List.length_map, hfl]; exact b2
                    refine Post.putG hr hB hg rfl ⟨?_, hfit, fun _ => ⟨_, u1.splice (bytes_rel (fmtF n u)) off, fun j x hj => ?_⟩, fun _ => ⟨_, t, fz, hheap, ?_, g3⟩, fun c es e => (by cases e), fun t f e => (by cases e)⟩ hoth ?_ rfl rfl rfl
                    · rw [splice_length hsl]; exact hlen
                    · have hbl : (Lib.byteCells (fmtF n u)).length = n := by simp [Lib.byteCells, hfl]
                      have hul : off + (Lib.byteCells (fmtF n u)).length ≤ us.length := by rw [hbl, ← u1.length]; exact b2
                      rw [get_splice us _ off hul j, hbl] at hj
                      simp only [World.cell?, hheap, Option.isSome_none, Bool.false_eq_true, if_false]
                      unfold Sort.putCells
                      rw [Array.getElem?_mapIdx]
                      by_cases hc : off ≤ j ∧ j < off + n
                      · rw [if_pos hc] at hj
                        have hin : B.base + j < cur.size := by omega
                        rw [Array.getElem?_eq_getElem hin, Option.map_some, if_pos (by omega)]
                        have hjn : j - off < n := by omega
                        have hds : j - off < dk.size := by omega
                        rw [show B.base + j - (B.base + off) = j - off by omega, getElem!_pos dk (j - off) hds]
                        have h7 : (fmtF n u)[j - off]? = some dk[j - off] := by rw [← hdkl]; simp [hds]
                        simp only [Lib.byteCells, List.getElem?_map, h7, Option.map_some] at hj
                        exact hj
                      · rw [if_neg hc] at hj
                        have := u2 j x hj
                        simp only [World.cell?, g1, Option.isSome_none, Bool.false_eq_true, if_false] at this
                        rw [this, Option.map_some, if_neg (by omega)]
                    · unfold Sort.putCells
                      rw [Array.size_mapIdx]
                      exact g2
                    · show (w.heap.modify B.b _).size = _
                      simp
        · cases hp
      · cases hp
    · cases hp
  · cases hp
end Go.Proofs.YtepankcnleeakaaGreatDoor.Ab
namespace Go.Proofs.YtepankcnleeakaaGreatDoor.Ab
open Go
set_option maxRecDepth 20000
set_option maxHeartbeats 8000000
set_option linter.unusedSimpArgs false
set_option linter.unusedVariables false
def luPrims : List (Nat × Prim) := [(104, pDigits), (105, pBase10)]
def luHint (f : Nat) : Hint := match Nat.beq f 70 with
  | true => .rd
  | false => .no
noncomputable def LxU : Ctx := ⟨codeOf, primAt luPrims, luHint⟩
theorem LxU_good : LxU.Good Tryz.prog where
  code := fun f F h => codeOf_good h
  prim := fun f p h => primAt_ok (l := luPrims) (fun g p hm => by
    simp only [luPrims, List.mem_cons, Prod.mk.injEq, List.not_mem_nil, or_false] at hm
    rcases hm with ⟨rfl, rfl⟩ | ⟨rfl, rfl⟩
    · exact primOk_digits
    · exact primOk_base10) f p h
theorem LxU_code (f : Nat) : LxU.code f = codeOf f := by kernel_rfl
theorem fmt_dec (u : Nat) : fmtF (Lib.nDigits u) u = Lib.decDigits u := by rw [Lib.decDigits_eq]; rfl
theorem eqU {C : Ctx} {f : Nat} {args : List AV} {σ : AHeap} {v : AV} (h : OptP (lim C f args σ) (fun _ u τ => u = v ∧ τ = σ)) : lim C f args σ = some (v, σ) := by
  obtain ⟨u, τ, h1, rfl, rfl⟩ := h
  exact h1
theorem nd20 {u : Nat} (h1 : 1 ≤ u) (h2 : u < 18446744073709551616) : Lib.nDigits u ≤ 20 := by
  have := Lib.numDigits_eq u h1 h2
  split at this <;> omega
theorem unbytes_map : ∀ l : List UInt8, unbytes (l.map byteCell) = some l
  | [] => rfl
  | b :: l => by
    have h := unbytes_map l
    rw [List.map_cons]
    show unbytes (SV.int .u8 b.toNat :: l.map byteCell) = _
    unfold unbytes
    rw [h]
    simp
theorem eq_small (σ : AHeap) (i : Nat) (hi : i < 100) : lim LxU 103 [.one (.int .i64 i)] σ = some (.one (.str (Lib.decDigits i)), σ) := by
  refine eqU (lim_code rfl ((LxU_code _).trans codeLFsm) rfl ?_)
  unfold BodyP
  by_cases h : i < 10
  · have hI : (i : Int) < 10 := by omega
    have hw : wr .i64 ((i : Int) + 1) = ((i + 1 : Nat) : Int) := by rw [wr64 (by omega) (by omega)]; omega
    have hp := Lib.digits36_piece h
    rw [show i + 1 - i = 1 by omega] at hp
    have hd : bytes [48, 49, 50, 51, 52, 53, 54, 55, 56, 57, 97, 98, 99, 100, 101, 102, 103, 104, 105, 106, 107, 108, 109, 110, 111, 112, 113, 114, 115, 116, 117, 118, 119, 120, 121, 122] = Lib.digits36.data.toList := by decide +kernel
    have hl : Lib.digits36.data.toList.length = 36 := by decide +kernel
    obtain ⟨D, hD⟩ : ∃ D, Lib.digits36.data.toList = D := ⟨_, rfl⟩
    rw [hD] at hd hp hl
    have h1 : i + 1 ≤ 36 := by omega
    have h2 : i ≤ i + 1 := by omega
    simp (maxDischargeDepth := 99) [-Int.natCast_add, cLFsm, hI, hw, hd, hp, hl, h1, h2]
  · have hI : ¬ (i : Int) < 10 := by omega
    have hw1 : wr .i64 ((i : Int) * 2) = ((i * 2 : Nat) : Int) := by rw [wr64 (by omega) (by omega)]; omega
    have hw2 : wr .i64 (((i * 2 : Nat) : Int) + 2) = ((i * 2 + 2 : Nat) : Int) := by rw [wr64 (by omega) (by omega)]; omega
    have hp := Lib.smalls_piece h hi
    rw [show i * 2 + 2 - i * 2 = 2 by omega] at hp
    have hd : bytes [48, 48, 48, 49, 48, 50, 48, 51, 48, 52, 48, 53, 48, 54, 48, 55, 48, 56, 48, 57, 49, 48, 49, 49, 49, 50, 49, 51, 49, 52, 49, 53, 49, 54, 49, 55, 49, 56, 49, 57, 50, 48, 50, 49, 50, 50, 50, 51, 50, 52, 50, 53, 50, 54, 50, 55, 50, 56, 50, 57, 51, 48, 51, 49, 51, 50, 51, 51, 51, 52, 51, 53, 51, 54, 51, 55, 51, 56, 51, 57, 52, 48, 52, 49, 52, 50, 52, 51, 52, 52, 52, 53, 52, 54, 52, 55, 52, 56, 52, 57, 53, 48, 53, 49, 53, 50, 53, 51, 53, 52, 53, 53, 53, 54, 53, 55, 53, 56, 53, 57, 54, 48, 54, 49, 54, 50, 54, 51, 54, 52, 54, 53, 54, 54, 54, 55, 54, 56, 54, 57, 55, 48, 55, 49, 55, 50, 55, 51, 55, 52, 55, 53, 55, 54, 55, 55, 55, 56, 55, 57, 56, 48, 56, 49, 56, 50, 56, 51, 56, 52, 56, 53, 56, 54, 56, 55, 56, 56, 56, 57, 57, 48, 57, 49, 57, 50, 57, 51, 57, 52, 57, 53, 57, 54, 57, 55, 57, 56, 57, 57] = Lib.smalls.data.toList := by decide +kernel
    have hl : Lib.smalls.data.toList.length = 200 := by decide +kernel
    obtain ⟨D, hD⟩ : ∃ D, Lib.smalls.data.toList = D := ⟨_, rfl⟩
    rw [hD] at hp hl
    have h1 : i * 2 + 2 ≤ 200 := by omega
    have h2 : i * 2 ≤ i * 2 + 2 := by omega
    rw [hD] at hd
    simp (maxDischargeDepth := 99) [-Int.natCast_add, -Int.natCast_mul, cLFsm, hI, hw1, hw2, hd, hp, hl, h1, h2]
def z24 : List SV := List.replicate 24 (.int .u8 0)
theorem z24_take (n : Nat) (h : n ≤ 24) : bytesOf (z24.take n) = some (List.replicate n 0) := by
  have : z24.take n = (List.replicate n (0 : UInt8)).map byteCell := by
    unfold z24
    rw [List.take_replicate, List.map_replicate, Nat.min_eq_left h]
    rfl
  rw [this, bytesOf_up]
theorem eq_digits (σ : AHeap) (u : Nat) (h1 : 1 ≤ u) (h2 : u < 18446744073709551616) : lim LxU 104 [.one (.int .u64 u)] σ = some (.one (.int .i64 (Lib.nDigits u)), σ) := by
  refine (lim_prim (p := pDigits) rfl).trans ?_
  have hb : (Nat.ble 1 u && Nat.blt u 18446744073709551616) = true := by rw [Nat.ble_eq_true_of_le h1, (show Nat.blt u 18446744073709551616 = true by rw [Nat.blt_eq]; exact h2)]; rfl
  show pDigits [.one (.int .u64 (.ofNat u))] σ = _
  simp only [pDigits, hb]
theorem eq_base10 (σ : AHeap) (id n u : Nat) (cap : Option Nat) (hg : σ.get id = some ⟨z24, .own⟩) (h1 : 1 ≤ n) (h2 : n ≤ 20) (h3 : u < 10 ^ n) (h4 : u < 18446744073709551616) :
    lim LxU 105 [.one (.slice id 0 1 n cap), .one (.int .u64 u)] σ = some (.tup [], σ.put id ⟨splice z24 0 ((fmtF n u).map byteCell), .own⟩) := by
  refine (lim_prim (p := pBase10) rfl).trans ?_
  show pBase10 [.one (.slice id 0 1 n cap), .one (.int .u64 (.ofNat u))] σ = _
  have hz : z24.length = 24 := rfl
  have hb : (Nat.beq (List.replicate n (0 : UInt8)).length n && Nat.ble (0 + n) z24.length && Nat.blt u (10 ^ n) && Nat.blt u 18446744073709551616 && Nat.ble n 24 && Nat.ble 1 n) = true := by
    rw [List.length_replicate, Nat.beq_refl, hz, Nat.ble_eq_true_of_le (by omega), (show Nat.blt u (10 ^ n) = true by rw [Nat.blt_eq]; exact h3), (show Nat.blt u 18446744073709551616 = true by rw [Nat.blt_eq]; exact h4), Nat.ble_eq_true_of_le (by omega), Nat.ble_eq_true_of_le h1]
    rfl
  simp only [pBase10, hg, List.drop_zero, z24_take n (by omega), hb]
theorem run_fu2 (τ : AHeap) (u : Nat) (hu : u < 18446744073709551616) : OptP (lim LxU 96 [.one (.int .u64 u), .one (.int .i64 10)] τ) (fun _ v _ => v = .one (.str (Lib.decDigits u))) := by
  refine lim_code rfl ((LxU_code _).trans codeLFu2) rfl ?_
  unfold BodyP
  by_cases h : u < 100
  · have hI : (u : Int) < 100 := by omega
    have hs := fun σ => eq_small σ u h
    have hc : wr .i64 (u : Int) = u := wr64 (by omega) (by omega)
    simp (maxDischargeDepth := 99) [cLFu2, hI, hc, hs]
  · have hI : ¬ (u : Int) < 100 := by omega
    have hd := fun σ => eq_digits σ u (by omega) hu
    have h20 := nd20 (by omega) hu
    have h1 := Lib.nDigits_pos u
    have hp := Lib.lt_pow_nDigits u
    have hf := fmt_dec u
    have hdl := Lib.decDigits_length u
    obtain ⟨n, hn⟩ : ∃ n, Lib.nDigits u = n := ⟨_, rfl⟩
    rw [hn] at hd h20 h1 hp hf hdl
    obtain ⟨τ1, hτ1⟩ : ∃ τ1, τ1 = τ.alloc ⟨z24, .own⟩ := ⟨_, rfl⟩
    have hg1 : τ1.get τ.size = some ⟨z24, .own⟩ := by rw [hτ1]; simp
    have hb := fun cap => eq_base10 τ1 τ.size n u cap hg1 h1 h20 hp hu
    rw [hf] at hb
    have hl1 := AHeap.get_lt hg1
    have hlen : (splice z24 0 ((Lib.decDigits u).map byteCell)).length = 24 := by
      rw [splice_length (by rw [List.length_map, hdl]; show 0 + n ≤ 24; omega)]
      rfl
    have htake : (splice z24 0 ((Lib.decDigits u).map byteCell)).take n = (Lib.decDigits u).map byteCell := by
      unfold splice
      rw [List.take_zero, List.nil_append, List.take_append_of_le_length (by rw [List.length_map, hdl]; exact Nat.le_refl _)]
      exact List.take_of_length_le (by rw [List.length_map, hdl]; exact Nat.le_refl _)
    have hub : unbytes ((Lib.decDigits u).map byteCell) = some (Lib.decDigits u) := unbytes_map _
    generalize splice z24 0 ((Lib.decDigits u).map byteCell) = cs at hb hlen htake
    generalize (Lib.decDigits u).map byteCell = ds at htake hub
    generalize Lib.decDigits u = D at *
    have hg2 : (τ1.put τ.size ⟨cs, .own⟩).get τ.size = some ⟨cs, .own⟩ := by simp [hl1]
    generalize τ1.put τ.size ⟨cs, .own⟩ = τ2 at hb hg2
    have h24 : n ≤ 24 := by omega
    have hz : z24 = [.int .u8 0, .int .u8 0, .int .u8 0, .int .u8 0, .int .u8 0, .int .u8 0, .int .u8 0, .int .u8 0, .int .u8 0, .int .u8 0, .int .u8 0, .int .u8 0, .int .u8 0, .int .u8 0, .int .u8 0, .int .u8 0, .int .u8 0, .int .u8 0, .int .u8 0, .int .u8 0, .int .u8 0, .int .u8 0, .int .u8 0, .int .u8 0] := rfl
    have hzl : z24.length = 24 := rfl
    have hcut : atCut 24 0 0 1 = 0 := rfl
    rw [hz] at hτ1
    simp (maxDischargeDepth := 99) [cLFu2, hI, ← hτ1, hd, hg1, h24, hzl, hcut, hb, hg2, hlen, isStr, srcLen, srcCells, htake, hub]
theorem eq_fu (σ : AHeap) (u : Nat) (hu : u < 18446744073709551616) : lim LxU 70 [.one (.int .u64 u), .one (.int .i64 10)] σ = some (.one (.str (Lib.decDigits u)), σ) := by
  refine lim_rd (args' := [.one (.int .u64 u), .one (.int .i64 10)]) (ids := [] ++ ([] ++ [])) rfl ((LxU_code _).trans codeLFu) rfl rfl ?_ rfl
  unfold BodyP
  have h := run_fu2 emptyH u hu
  simp (maxDischargeDepth := 99) [cLFu]
  refine h.mono ?_
  rintro v τ rfl
  simp (maxDischargeDepth := 99)
end Go.Proofs.YtepankcnleeakaaGreatDoor.Ab
