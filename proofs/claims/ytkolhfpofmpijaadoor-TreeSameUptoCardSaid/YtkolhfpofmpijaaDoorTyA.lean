/- Several of my texts in one: TyD, TyLow, TyFld, TyUtf, TyE. -/
import Derived.Test.YtkolhfpofmpijaaDoorAbD
import Derived.Below
import Derived.Shelf.Strings.OnBuilder
import Derived.Ground.NamesProg
import Derived.Shelf.Strings.Fields
import Derived.Shelf.Unicode.ValidAny
/- The context of the trees' and types' functions: what is laid, what keeps no memory. -/
namespace Go.Proofs.YtkolhfpofmpijaaDoor.Ab
open Go
set_option maxRecDepth 100000

def lowB (b : UInt8) : UInt8 := if 65 ≤ b.toNat ∧ b.toNat ≤ 90 then b + 32 else b
def low (s : List UInt8) : List UInt8 := s.map lowB
def asciiB (s : List UInt8) : Bool := s.all fun b => Nat.blt b.toNat 128

def pLower : Prim := fun args σ => match args with
  | [.one (.str s)] => match asciiB s && Nat.ble s.length 1099511627776 with
    | true => some (.one (.str (low s)), σ)
    | false => none
  | _ => none

end Go.Proofs.YtkolhfpofmpijaaDoor.Ab

/- The library's ToLower, of letters of one byte, laid as one step. -/
namespace Go.Proofs
open Go.Shelf Go.RowKit Go.Lib
def Tryd.laysLower_ren : Go.Shelf.Ren := ⟨fun | 159 => 48 | 165 => 67 | 166 => 68 | 167 => 69 | 169 => 70 | 230 => 71 | 204 => 72 | 240 => 79 | 241 => 80 | 197 => 81 | 118 => 82 | 168 => 83 | 270 => 84 | 262 => 85 | 276 => 87 | 277 => 88 | 260 => 89 | 242 => 90 | 313 => 91 | 278 => 94 | 274 => 95 | 275 => 96 | n => n, fun | 9 => 9 | 4 => 4 | 3 => 3 | 5 => 5 | 72 => 63 | 0 => 0 | 76 => 67 | 75 => 66 | 107 => 72 | 70 => 61 | 20 => 20 | 37 => 59 | 127 => 81 | 21 => 21 | 105 => 82 | 164 => 95 | 162 => 101 | 203 => 99 | 119 => 74 | 46 => 78 | 139 => 77 | 138 => 76 | 51 => 92 | 160 => 113 | 208 => 121 | 206 => 119 | 80 => 70 | n => n, fun | 13 => 4 | 3 => 0 | 4 => 1 | n => n⟩
theorem Tryd.laysLower : Go.Proofs.Lays.n159 Tryd.prog Tryd.laysLower_ren := {
  mixed := by kernel_rfl
  f118 := Tryd.func82.trans (congrArg some (by kernel_rfl))
  f159 := Tryd.func48.trans (congrArg some (by kernel_rfl))
  f165 := Tryd.func67.trans (congrArg some (by kernel_rfl))
  f166 := Tryd.func68.trans (congrArg some (by kernel_rfl))
  f167 := Tryd.func69.trans (congrArg some (by kernel_rfl))
  f168 := Tryd.func83.trans (congrArg some (by kernel_rfl))
  f169 := Tryd.func70.trans (congrArg some (by kernel_rfl))
  f197 := Tryd.func81.trans (congrArg some (by kernel_rfl))
  f204 := Tryd.func72.trans (congrArg some (by kernel_rfl))
  f230 := Tryd.func71.trans (congrArg some (by kernel_rfl))
  f240 := Tryd.func79.trans (congrArg some (by kernel_rfl))
  f241 := Tryd.func80.trans (congrArg some (by kernel_rfl))
  f242 := Tryd.func90.trans (congrArg some (by kernel_rfl))
  f260 := Tryd.func89.trans (congrArg some (by kernel_rfl))
  f262 := Tryd.func85.trans (congrArg some (by kernel_rfl))
  f270 := Tryd.func84.trans (congrArg some (by kernel_rfl))
  f274 := Tryd.func95.trans (congrArg some (by kernel_rfl))
  f275 := Tryd.func96.trans (congrArg some (by kernel_rfl))
  f276 := Tryd.func87.trans (congrArg some (by kernel_rfl))
  f277 := Tryd.func88.trans (congrArg some (by kernel_rfl))
  f278 := Tryd.func94.trans (congrArg some (by kernel_rfl))
  f313 := Tryd.func91.trans (congrArg some (by kernel_rfl))
  t0 := Tryd.underlying0
  a0 := Tryd.isAgg0
  z0 := Tryd.sizeOf0
  v0 := Tryd.zeroValue0
  t3 := Tryd.underlying3
  a3 := Tryd.isAgg3
  z3 := Tryd.sizeOf3
  v3 := Tryd.zeroValue3
  t4 := Tryd.underlying4
  a4 := Tryd.isAgg4
  z4 := Tryd.sizeOf4
  v4 := Tryd.zeroValue4
  t5 := Tryd.underlying5
  a5 := Tryd.isAgg5
  z5 := Tryd.sizeOf5
  v5 := Tryd.zeroValue5
  t9 := Tryd.underlying9
  a9 := Tryd.isAgg9
  z9 := Tryd.sizeOf9
  v9 := Tryd.zeroValue9
  t20 := Tryd.underlying20
  a20 := Tryd.isAgg20
  z20 := Tryd.sizeOf20
  v20 := Tryd.zeroValue20
  t21 := Tryd.underlying21
  a21 := Tryd.isAgg21
  z21 := Tryd.sizeOf21
  v21 := Tryd.zeroValue21
  t37 := Tryd.underlying59
  a37 := Tryd.isAgg59
  z37 := Tryd.sizeOf59
  v37 := Tryd.zeroValue59
  t46 := Tryd.underlying78
  a46 := Tryd.isAgg78
  z46 := Tryd.sizeOf78
  v46 := Tryd.zeroValue78
  t51 := Tryd.underlying92
  a51 := Tryd.isAgg92
  z51 := Tryd.sizeOf92
  v51 := Tryd.zeroValue92
  t70 := Tryd.underlying61
  a70 := Tryd.isAgg61
  z70 := Tryd.sizeOf61
  v70 := Tryd.zeroValue61
  t72 := Tryd.underlying63
  a72 := Tryd.isAgg63
  z72 := Tryd.sizeOf63
  v72 := Tryd.zeroValue63
  t75 := Tryd.underlying66
  a75 := Tryd.isAgg66
  z75 := Tryd.sizeOf66
  v75 := Tryd.zeroValue66
  t76 := Tryd.underlying67
  a76 := Tryd.isAgg67
  z76 := Tryd.sizeOf67
  v76 := Tryd.zeroValue67
  t105 := Tryd.underlying82
  a105 := Tryd.isAgg82
  z105 := Tryd.sizeOf82
  v105 := Tryd.zeroValue82
  t107 := Tryd.underlying72
  a107 := Tryd.isAgg72
  z107 := Tryd.sizeOf72
  v107 := Tryd.zeroValue72
  t119 := Tryd.underlying74
  a119 := Tryd.isAgg74
  z119 := Tryd.sizeOf74
  t127 := Tryd.underlying81
  a127 := Tryd.isAgg81
  z127 := Tryd.sizeOf81
  v127 := Tryd.zeroValue81
  t138 := Tryd.underlying76
  a138 := Tryd.isAgg76
  z138 := Tryd.sizeOf76
  v138 := Tryd.zeroValue76
  t139 := Tryd.underlying77
  a139 := Tryd.isAgg77
  z139 := Tryd.sizeOf77
  v139 := Tryd.zeroValue77
  t160 := Tryd.underlying113
  a160 := Tryd.isAgg113
  z160 := Tryd.sizeOf113
  v160 := Tryd.zeroValue113
  t162 := Tryd.underlying101
  a162 := Tryd.isAgg101
  z162 := Tryd.sizeOf101
  v162 := Tryd.zeroValue101
  t164 := Tryd.underlying95
  a164 := Tryd.isAgg95
  z164 := Tryd.sizeOf95
  v164 := Tryd.zeroValue95
  t203 := Tryd.underlying99
  a203 := Tryd.isAgg99
  z203 := Tryd.sizeOf99
  v203 := Tryd.zeroValue99
  t206 := Tryd.underlying119
  a206 := Tryd.isAgg119
  z206 := Tryd.sizeOf119
  v206 := Tryd.zeroValue119
  t208 := Tryd.underlying121
  a208 := Tryd.isAgg121
  z208 := Tryd.sizeOf121
  v208 := Tryd.zeroValue121
  g3 := by kernel_rfl
  g4 := by kernel_rfl
  g13 := by kernel_rfl }
theorem Tryd.extraLower : Builder.Extra Tryd.prog Tryd.laysLower_ren where
  sizeBuilder := by kernel_rfl
  liesBuilder := by kernel_rfl
  t5 := Tryd.laysLower.t5
  a5 := Tryd.laysLower.a5
  z5 := Tryd.laysLower.z5
  v5 := Tryd.laysLower.v5
  infoByte := by kernel_rfl
  cellsByte := by kernel_rfl
  sizeByte := by kernel_rfl
  neB5 := by decide
end Go.Proofs
namespace Go.Proofs.YtkolhfpofmpijaaDoor.Ab
open Go Go.RowKit
set_option maxRecDepth 20000
set_option maxHeartbeats 4000000

/-- What leaves all older memory as it was. -/
theorem Post.ofBelow {ρ : Loc} {σ : AHeap} {w w1 : World} (hr : HR ρ σ.get w) (h : Below w.heap.size w w1) : Post ρ σ w ρ σ w1 :=
  have fr : ∀ b, b < w.heap.size → w1.heap[b]? = w.heap[b]? := fun b hb => h.block b hb
  { le := .refl ρ
    size := Nat.le_refl _
    new := fun id h1 h2 => by omega
    old := fun _ _ => rfl
    dom := fun id B hB => hr.lt hB
    same := fun _ _ _ => rfl
    md := fun id B o' h1 h2 h3 => ⟨o', h2, h3⟩
    md' := fun id B o h1 h2 h3 => ⟨o, h2, h3⟩
    hr := {
      dom := fun id B hB => by
        obtain ⟨o, h1, h2, h3⟩ := hr.dom id B hB
        exact ⟨o, h1, h2.of_heap (.refl ρ) (fr _ h3), Nat.lt_of_lt_of_le h3 h.size⟩
      excl := hr.excl
      frz := frz_stays hr (fun _ _ _ h => h) (fun b hb _ => fr b hb) (fun _ _ h => h)
      gl := hr.gl
      rows := rows_stays hr (fun b hb _ => fr b hb) }
    hsize := h.size
    frame := fun b hb _ => fr b hb
    fresh := fun id B h1 h2 => absurd (hr.lt h2) (by omega)
    fz := fun _ _ _ h => .inl h
    os := h.os
    tape := h.tape
    output := h.output }

theorem lowB_eq (b : UInt8) : Lib.lowerB b = lowB b := by
  have h : ∀ n : Fin 256, Lib.lowerB (UInt8.ofNat n.val) = lowB (UInt8.ofNat n.val) := by decide +kernel
  have := h ⟨b.toNat, b.toNat_lt⟩
  simpa using this
theorem low_eq (s : List UInt8) : Lib.toLowerA s = low s := List.map_congr_left fun b _ => lowB_eq b

theorem primOk_lower : PrimOk Tryd.prog 48 pLower := by
  intro args σ v σ' hp
  unfold pLower at hp
  split at hp
  · rename_i s
    split at hp
    · rename_i hb
      cases hp
      simp only [Bool.and_eq_true, Nat.ble_eq, asciiB, List.all_eq_true] at hb
      refine ⟨⟨_, Tryd.func48, by decide, rfl⟩, fun ρ w vs hv hr => ?_⟩
      cases hv with
      | cons h1 h2 =>
        cases h2
        cases h1 with
        | one h1 =>
          cases h1
          refine Calls.mono (Any.strings_ToLower_ascii Tryd.laysLower Tryd.extraLower ⟨s.toArray⟩ w ?_ ?_) ?_
          · have h2 := hb.2
            show s.toArray.size ≤ _
            rw [List.size_toArray]
            omega
          · intro j b hj
            have := hb.1 b (List.mem_of_getElem? hj)
            simpa using this
          · rintro e w1 ⟨rfl, hw⟩
            refine ⟨_, ρ, rfl, Post.ofBelow hr hw, ?_⟩
            show VR ρ (.one (.str (low s))) (.string ⟨(Lib.toLowerA s).toArray⟩)
            rw [low_eq]
            exact .one (.str _)
    · cases hp
  · cases hp
end Go.Proofs.YtkolhfpofmpijaaDoor.Ab

/- The library's Fields, of bytes below 128, laid as one step. -/
namespace Go.Proofs
open Go.Shelf Go.RowKit Go.Lib
def Tryd.laysFields_ren : Go.Shelf.Ren := ⟨fun | 157 => 66 | 229 => 77 | 199 => 78 | 261 => 86 | 311 => 92 | 312 => 93 | n => n, fun | 9 => 9 | 31 => 46 | 3 => 3 | 5 => 5 | 4 => 4 | 119 => 74 | 0 => 0 | 40 => 80 | 152 => 89 | 21 => 21 | 154 => 91 | 51 => 92 | 141 => 94 | 196 => 105 | 193 => 102 | 198 => 108 | 49 => 106 | 194 => 103 | 201 => 111 | 226 => 116 | 46 => 78 | 227 => 117 | n => n, fun | 0 => 2 | 6 => 3 | n => n⟩
theorem Tryd.laysFields : Go.Proofs.Lays.n157 Tryd.prog Tryd.laysFields_ren := {
  mixed := by kernel_rfl
  f157 := Tryd.func66.trans (congrArg some (by kernel_rfl))
  f199 := Tryd.func78.trans (congrArg some (by kernel_rfl))
  f229 := Tryd.func77.trans (congrArg some (by kernel_rfl))
  f261 := Tryd.func86.trans (congrArg some (by kernel_rfl))
  f311 := Tryd.func92.trans (congrArg some (by kernel_rfl))
  f312 := Tryd.func93.trans (congrArg some (by kernel_rfl))
  t0 := Tryd.underlying0
  a0 := Tryd.isAgg0
  z0 := Tryd.sizeOf0
  v0 := Tryd.zeroValue0
  t3 := Tryd.underlying3
  a3 := Tryd.isAgg3
  z3 := Tryd.sizeOf3
  v3 := Tryd.zeroValue3
  t4 := Tryd.underlying4
  a4 := Tryd.isAgg4
  z4 := Tryd.sizeOf4
  v4 := Tryd.zeroValue4
  t5 := Tryd.underlying5
  a5 := Tryd.isAgg5
  z5 := Tryd.sizeOf5
  v5 := Tryd.zeroValue5
  t9 := Tryd.underlying9
  a9 := Tryd.isAgg9
  z9 := Tryd.sizeOf9
  v9 := Tryd.zeroValue9
  t21 := Tryd.underlying21
  a21 := Tryd.isAgg21
  z21 := Tryd.sizeOf21
  v21 := Tryd.zeroValue21
  t31 := Tryd.underlying46
  a31 := Tryd.isAgg46
  z31 := Tryd.sizeOf46
  v31 := Tryd.zeroValue46
  t40 := Tryd.underlying80
  a40 := Tryd.isAgg80
  z40 := Tryd.sizeOf80
  v40 := Tryd.zeroValue80
  t46 := Tryd.underlying78
  a46 := Tryd.isAgg78
  z46 := Tryd.sizeOf78
  v46 := Tryd.zeroValue78
  t49 := Tryd.underlying106
  a49 := Tryd.isAgg106
  z49 := Tryd.sizeOf106
  v49 := Tryd.zeroValue106
  t51 := Tryd.underlying92
  a51 := Tryd.isAgg92
  z51 := Tryd.sizeOf92
  v51 := Tryd.zeroValue92
  t119 := Tryd.underlying74
  a119 := Tryd.isAgg74
  z119 := Tryd.sizeOf74
  t141 := Tryd.underlying94
  a141 := Tryd.isAgg94
  z141 := Tryd.sizeOf94
  v141 := Tryd.zeroValue94
  t152 := Tryd.underlying89
  a152 := Tryd.isAgg89
  z152 := Tryd.sizeOf89
  v152 := Tryd.zeroValue89
  t154 := Tryd.underlying91
  a154 := Tryd.isAgg91
  z154 := Tryd.sizeOf91
  v154 := Tryd.zeroValue91
  t193 := Tryd.underlying102
  a193 := Tryd.isAgg102
  z193 := Tryd.sizeOf102
  v193 := Tryd.zeroValue102
  t194 := Tryd.underlying103
  a194 := Tryd.isAgg103
  z194 := Tryd.sizeOf103
  v194 := Tryd.zeroValue103
  t196 := Tryd.underlying105
  a196 := Tryd.isAgg105
  z196 := Tryd.sizeOf105
  v196 := Tryd.zeroValue105
  t198 := Tryd.underlying108
  a198 := Tryd.isAgg108
  z198 := Tryd.sizeOf108
  v198 := Tryd.zeroValue108
  t201 := Tryd.underlying111
  a201 := Tryd.isAgg111
  z201 := Tryd.sizeOf111
  v201 := Tryd.zeroValue111
  t226 := Tryd.underlying116
  a226 := Tryd.isAgg116
  z226 := Tryd.sizeOf116
  v226 := Tryd.zeroValue116
  t227 := Tryd.underlying117
  a227 := Tryd.isAgg117
  z227 := Tryd.sizeOf117
  v227 := Tryd.zeroValue117
  g0 := by kernel_rfl
  g6 := by kernel_rfl }
end Go.Proofs
namespace Go.Proofs.YtkolhfpofmpijaaDoor.Ab
open Go Go.RowKit
set_option maxRecDepth 20000
set_option maxHeartbeats 4000000

def pFields : Prim := fun args σ => match args with
  | [.one (.str s)] => match asciiB s && Nat.ble s.length 1000000000 with
    | true => some (.one (.slice σ.size 0 1 (Lib.fields s).length none), σ.alloc ⟨(Lib.fields s).map SV.str, .own⟩)
    | false => none
  | _ => none

theorem ascTab : globTab (Tryd.laysFields_ren.g 0) = some ((List.range 256).map fun c => SV.int .u8 (if Lib.isSp (UInt8.ofNat c) then 1 else 0)) := by kernel_rfl
theorem litVals_ints (k : IntKind) (f : Nat → Int) : ∀ l : List Nat, litVals (l.map fun c => SV.int k (f c)) = some (l.map fun c => Value.int k (f c))
  | [] => rfl
  | c :: l => by simp [litVals, litVal, litVals_ints k f l]
theorem strs_rel (ρ : Loc) : ∀ l : List (List UInt8), SRs ρ (l.map SV.str) (l.map fun x => Value.string ⟨x.toArray⟩)
  | [] => .nil
  | x :: l => .cons (.str x) (strs_rel ρ l)

theorem primOk_fields : PrimOk Tryd.prog 66 pFields := by
  intro args σ v σ' hp
  unfold pFields at hp
  split at hp
  · rename_i s
    split at hp
    · rename_i hb
      cases hp
      simp only [Bool.and_eq_true, Nat.ble_eq, asciiB, List.all_eq_true] at hb
      refine ⟨⟨_, Tryd.func66, by decide, rfl⟩, fun ρ w vs hv hr => ?_⟩
      cases hv with
      | cons h1 h2 =>
        cases h2
        cases h1 with
        | one h1 =>
          cases h1
          refine Calls.mono (Any.strings_Fields_core Tryd.laysFields (by kernel_rfl) ⟨s.toArray⟩ w ?_ ?_ ?_) ?_
          · have h2 := hb.2
            show s.toArray.size < _
            rw [List.size_toArray]
            omega
          · intro j b hj
            have := hb.1 b (List.mem_of_getElem? hj)
            simpa using this
          · intro c hc
            obtain ⟨vs, h1, h2⟩ := hr.gl.tab _ _ ascTab
            rw [litVals_ints] at h1
            cases h1
            exact (hr.frz _ _ _ (h2 c _ (by rw [List.getElem?_map, List.getElem?_range hc]; rfl))).1
          · rintro e w1 ⟨rfl, rfl⟩
            show CallPost ρ σ w _ _ _ _
            have hl : (⟨s.toArray⟩ : ByteArray).data.toList = s := rfl
            rw [hl]
            refine ⟨_, _, rfl, Post.alloc hr (extra := []) (strs_rel ρ (Lib.fields s)) (by rw [List.append_nil]) (fun o h1 h2 => by omega), ?_⟩
            refine .one (.slice (B := ⟨w.heap.size, 0, ((Lib.fields s).map fun l => Value.string ⟨l.toArray⟩).toArray.size, ((Lib.fields s).map SV.str).length⟩) ?_ (Nat.le_refl _) ?_ ?_ (by decide) (.inr ⟨rfl, ?_⟩))
            · rw [Loc.upd_at, if_pos rfl]
            · simp
            · simp
            · simp
    · cases hp
  · cases hp
end Go.Proofs.YtkolhfpofmpijaaDoor.Ab

/- The library's ValidString, laid as one step. -/
namespace Go.Proofs
open Go.Shelf Go.RowKit Go.Lib
def Tryd.laysValid_ren : Go.Shelf.Ren := ⟨fun | 196 => 65 | 259 => 76 | n => n, fun | 9 => 9 | 4 => 4 | 3 => 3 | 5 => 5 | 12 => 12 | 119 => 74 | 0 => 0 | 46 => 78 | 139 => 77 | 138 => 76 | 53 => 88 | n => n, fun | 3 => 0 | 4 => 1 | n => n⟩
theorem Tryd.laysValid : Go.Proofs.Lays.n196 Tryd.prog Tryd.laysValid_ren := {
  mixed := by kernel_rfl
  f196 := Tryd.func65.trans (congrArg some (by kernel_rfl))
  f259 := Tryd.func76.trans (congrArg some (by kernel_rfl))
  t0 := Tryd.underlying0
  a0 := Tryd.isAgg0
  z0 := Tryd.sizeOf0
  v0 := Tryd.zeroValue0
  t3 := Tryd.underlying3
  a3 := Tryd.isAgg3
  z3 := Tryd.sizeOf3
  v3 := Tryd.zeroValue3
  t4 := Tryd.underlying4
  a4 := Tryd.isAgg4
  z4 := Tryd.sizeOf4
  v4 := Tryd.zeroValue4
  t5 := Tryd.underlying5
  a5 := Tryd.isAgg5
  z5 := Tryd.sizeOf5
  v5 := Tryd.zeroValue5
  t9 := Tryd.underlying9
  a9 := Tryd.isAgg9
  z9 := Tryd.sizeOf9
  v9 := Tryd.zeroValue9
  t12 := Tryd.underlying12
  a12 := Tryd.isAgg12
  z12 := Tryd.sizeOf12
  v12 := Tryd.zeroValue12
  t46 := Tryd.underlying78
  a46 := Tryd.isAgg78
  z46 := Tryd.sizeOf78
  v46 := Tryd.zeroValue78
  t53 := Tryd.underlying88
  a53 := Tryd.isAgg88
  z53 := Tryd.sizeOf88
  v53 := Tryd.zeroValue88
  t119 := Tryd.underlying74
  a119 := Tryd.isAgg74
  z119 := Tryd.sizeOf74
  t138 := Tryd.underlying76
  a138 := Tryd.isAgg76
  z138 := Tryd.sizeOf76
  v138 := Tryd.zeroValue76
  t139 := Tryd.underlying77
  a139 := Tryd.isAgg77
  z139 := Tryd.sizeOf77
  v139 := Tryd.zeroValue77
  g3 := by kernel_rfl
  g4 := by kernel_rfl }
end Go.Proofs
namespace Go.Proofs.YtkolhfpofmpijaaDoor.Ab
open Go Go.RowKit
set_option maxRecDepth 20000
set_option maxHeartbeats 4000000

def pValid : Prim := fun args σ => match args with
  | [.one (.str s)] => match Nat.ble s.length 1099511627776 with
    | true => some (.one (.bool (Lib.validD s)), σ)
    | false => none
  | _ => none

theorem firstTab : globTab (Tryd.laysValid_ren.g 3) = some ((List.range 256).map fun c => SV.int .u8 (Lib.firstT c)) := by kernel_rfl
theorem acceptTab : globTab (Tryd.laysValid_ren.g 4) = some ((List.range 32).map fun j => SV.int .u8 (if j % 2 = 0 then Lib.accLo (j / 2) else Lib.accHi (j / 2))) := by kernel_rfl

theorem utf8_tabs {ρ : Loc} {σ : AHeap} {w : World} (hr : HR ρ σ.get w) : Lib.Utf8Tabs (Tryd.laysValid_ren.g 3) (Tryd.laysValid_ren.g 4) w := by
  refine ⟨fun c hc => ?_, fun i hi => ?_⟩
  · obtain ⟨vs, h1, h2⟩ := hr.gl.tab _ _ firstTab
    rw [litVals_ints] at h1
    cases h1
    exact (hr.frz _ _ _ (h2 c _ (by rw [List.getElem?_map, List.getElem?_range hc]; rfl))).1
  · obtain ⟨vs, h1, h2⟩ := hr.gl.tab _ _ acceptTab
    rw [litVals_ints] at h1
    cases h1
    constructor
    · refine (hr.frz _ _ _ (h2 (2 * i) _ ?_)).1
      rw [List.getElem?_map, List.getElem?_range (by omega)]
      show some (Value.int .u8 (if 2 * i % 2 = 0 then Lib.accLo (2 * i / 2) else Lib.accHi (2 * i / 2))) = _
      rw [if_pos (by omega), show 2 * i / 2 = i by omega]
    · refine (hr.frz _ _ _ (h2 (2 * i + 1) _ ?_)).1
      rw [List.getElem?_map, List.getElem?_range (by omega)]
      show some (Value.int .u8 (if (2 * i + 1) % 2 = 0 then Lib.accLo ((2 * i + 1) / 2) else Lib.accHi ((2 * i + 1) / 2))) = _
      rw [if_neg (by omega), show (2 * i + 1) / 2 = i by omega]

theorem primOk_valid : PrimOk Tryd.prog 65 pValid := by
  intro args σ v σ' hp
  unfold pValid at hp
  split at hp
  · rename_i s
    split at hp
    · rename_i hb
      cases hp
      rw [Nat.ble_eq] at hb
      refine ⟨⟨_, Tryd.func65, by decide, rfl⟩, fun ρ w vs hv hr => ?_⟩
      cases hv with
      | cons h1 h2 =>
        cases h2
        cases h1 with
        | one h1 =>
          cases h1
          refine Calls.mono (Any.utf8_ValidString Tryd.laysValid ⟨s.toArray⟩ w ?_ (utf8_tabs hr)) ?_
          · show s.toArray.size ≤ _
            rw [List.size_toArray]
            omega
          · rintro e w1 ⟨rfl, hw⟩
            exact ⟨_, ρ, rfl, Post.ofBelow hr hw, .one (.bool _)⟩
    · cases hp
  · cases hp
end Go.Proofs.YtkolhfpofmpijaaDoor.Ab

/- The context of the trees' and types' functions: what is laid, what keeps no memory. -/
namespace Go.Proofs.YtkolhfpofmpijaaDoor.Ab
open Go
set_option maxRecDepth 100000
def tyPure : List Nat := [
  32,
  33,
  34,
  35,
  36,
  59,
  49,
  37,
  73,
  30,
  23,
  38,
  24,
  51,
  50,
  52,
  40,
  74,
  62,
  63,
  56,
  55,
  57,
  75,
  61,
  58,
  42,
  60,
  39,
  41,
  53,
  54,
  64,
  43,
  25,
  14,
  5,
  46,
  44,
  31,
  45,
  47,
  29,
  6,
  1000000]
def tyGc : List Nat := [
  1000000]
def tyRd : List Nat := [
  1000000]
def tyMv : List Nat := [
  1000000]
def memN (f : Nat) : List Nat → Bool
  | [] => false
  | g :: l => match Nat.beq f g with
    | true => true
    | false => memN f l
def tyHint (f : Nat) : Hint := match memN f tyPure with
  | true => .pure
  | false => match memN f tyGc with
    | true => .gc
    | false => match memN f tyRd with
      | true => .rd
      | false => match memN f tyMv with
        | true => .mv
        | false => .no
def primAt : List (Nat × Prim) → Nat → Option Prim
  | [], _ => none
  | (g, p) :: l, f => match Nat.beq f g with
    | true => some p
    | false => primAt l f
theorem primAt_ok {P : Program} : ∀ {l : List (Nat × Prim)}, (∀ g p, (g, p) ∈ l → PrimOk P g p) → ∀ f p, primAt l f = some p → PrimOk P f p
  | [], _, f, p, h => by cases h
  | (g, q) :: l, hl, f, p, h => by
    unfold primAt at h
    cases h1 : Nat.beq f g with
    | true =>
      rw [h1] at h
      cases h
      rw [Nat.eq_of_beq_eq_true h1]
      exact hl g q (by simp)
    | false =>
      rw [h1] at h
      exact primAt_ok (fun g p hm => hl g p (by simp [hm])) f p h
def tyPrims : List (Nat × Prim) := [(66, pFields), (48, pLower), (65, pValid)]
noncomputable def TyD : Ctx := ⟨codeOf, primAt tyPrims, tyHint⟩
theorem TyD_good : TyD.Good Tryd.prog where
  code := fun f F h => codeOf_good h
  prim := fun f p h => primAt_ok (l := tyPrims) (fun g p hm => by
    simp only [tyPrims, List.mem_cons, Prod.mk.injEq, List.not_mem_nil, or_false] at hm
    rcases hm with ⟨rfl, rfl⟩ | ⟨rfl, rfl⟩ | ⟨rfl, rfl⟩
    · exact primOk_fields
    · exact primOk_lower
    · exact primOk_valid) f p h
theorem TyD_code (f : Nat) : TyD.code f = codeOf f := by kernel_rfl
def tyFree (f : Nat) : Bool := match Nat.beq f 66, Nat.beq f 48, Nat.beq f 65 with
  | false, false, false => true
  | _, _, _ => false
theorem TyD_prim {f : Nat} (h : tyFree f = true) : TyD.prim f = none := by
  unfold tyFree at h
  show primAt tyPrims f = none
  unfold tyPrims
  split at h
  · rename_i h1 h2 h3
    simp only [primAt, h1, h2, h3]
  · cases h
theorem lim_lower (σ : AHeap) (s : List UInt8) (h1 : asciiB s = true) (h2 : s.length ≤ 1099511627776) : lim TyD 48 [.one (.str s)] σ = some (.one (.str (low s)), σ) := by
  refine (lim_prim (p := pLower) (by kernel_rfl)).trans ?_
  simp [pLower, h1, h2]
theorem lim_fields (σ : AHeap) (s : List UInt8) (h1 : asciiB s = true) (h2 : s.length ≤ 1000000000) : lim TyD 66 [.one (.str s)] σ = some (.one (.slice σ.size 0 1 (Lib.fields s).length none), σ.alloc ⟨(Lib.fields s).map SV.str, .own⟩) := by
  refine (lim_prim (p := pFields) (by kernel_rfl)).trans ?_
  simp [pFields, h1, h2]
theorem lim_valid (σ : AHeap) (s : List UInt8) (h2 : s.length ≤ 1099511627776) : lim TyD 65 [.one (.str s)] σ = some (.one (.bool (Lib.validD s)), σ) := by
  refine (lim_prim (p := pValid) (by kernel_rfl)).trans ?_
  simp [pValid, h2]
end Go.Proofs.YtkolhfpofmpijaaDoor.Ab
