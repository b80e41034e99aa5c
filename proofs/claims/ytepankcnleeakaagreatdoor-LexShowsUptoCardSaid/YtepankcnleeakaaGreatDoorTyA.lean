/- Several of my texts in one: TyD, TyLow, TyFld, TyUtf. -/
import Derived.Test.YtepankcnleeakaaGreatDoorAbD
import Derived.Below
import Derived.Shelf.Strings.OnBuilder
import Derived.Ground.NamesProg
import Derived.Shelf.Strings.Fields
import Derived.Shelf.Unicode.ValidAny
namespace Go.Proofs.YtepankcnleeakaaGreatDoor.Ab
open Go
set_option maxRecDepth 100000
def lowB (b : UInt8) : UInt8 := if 65 ≤ b.toNat ∧ b.toNat ≤ 90 then b + 32 else b
def low (s : List UInt8) : List UInt8 := s.map lowB
def asciiB (s : List UInt8) : Bool := s.all fun b => Nat.blt b.toNat 128
def pLower : Prim := fun args σ => match args with
  | [.one (.str s)] => match asciiB s && Nat.ble s.length 1099511627776 with
    | true => some (.one (.str (low s)), σ)
    | false => none
  | _ => none
end Go.Proofs.YtepankcnleeakaaGreatDoor.Ab
namespace Go.Proofs
open Go.Shelf Go.RowKit Go.Lib
def Tryz.laysLower_ren : Go.Shelf.Ren := ⟨fun | 159 => 59 | 165 => 26 | 166 => 27 | 167 => 65 | 169 => 28 | 230 => 89 | 204 => 90 | 240 => 49 | 241 => 50 | 197 => 102 | 118 => 111 | 168 => 112 | 270 => 113 | 262 => 114 | 276 => 74 | 277 => 75 | 260 => 127 | 242 => 133 | 313 => 134 | 278 => 142 | 274 => 143 | 275 => 144 | n => n, fun | 9 => 9 | 4 => 4 | 3 => 3 | 5 => 5 | 72 => 59 | 0 => 0 | 76 => 63 | 75 => 62 | 107 => 119 | 70 => 57 | 20 => 20 | 37 => 37 | 127 => 83 | 21 => 21 | 105 => 139 | 164 => 113 | 162 => 172 | 203 => 170 | 119 => 50 | 46 => 117 | 139 => 129 | 138 => 128 | 51 => 77 | 160 => 180 | 208 => 192 | 206 => 190 | 80 => 65 | n => n, fun | 13 => 6 | 3 => 3 | 4 => 4 | n => n⟩
theorem Tryz.laysLower : Go.Proofs.Lays.n159 Tryz.prog Tryz.laysLower_ren := {
  mixed := by kernel_rfl
  f118 := Tryz.func111.trans (congrArg some (by kernel_rfl))
  f159 := Tryz.func59.trans (congrArg some (by kernel_rfl))
  f165 := Tryz.func26.trans (congrArg some (by kernel_rfl))
  f166 := Tryz.func27.trans (congrArg some (by kernel_rfl))
  f167 := Tryz.func65.trans (congrArg some (by kernel_rfl))
  f168 := Tryz.func112.trans (congrArg some (by kernel_rfl))
  f169 := Tryz.func28.trans (congrArg some (by kernel_rfl))
  f197 := Tryz.func102.trans (congrArg some (by kernel_rfl))
  f204 := Tryz.func90.trans (congrArg some (by kernel_rfl))
  f230 := Tryz.func89.trans (congrArg some (by kernel_rfl))
  f240 := Tryz.func49.trans (congrArg some (by kernel_rfl))
  f241 := Tryz.func50.trans (congrArg some (by kernel_rfl))
  f242 := Tryz.func133.trans (congrArg some (by kernel_rfl))
  f260 := Tryz.func127.trans (congrArg some (by kernel_rfl))
  f262 := Tryz.func114.trans (congrArg some (by kernel_rfl))
  f270 := Tryz.func113.trans (congrArg some (by kernel_rfl))
  f274 := Tryz.func143.trans (congrArg some (by kernel_rfl))
  f275 := Tryz.func144.trans (congrArg some (by kernel_rfl))
  f276 := Tryz.func74.trans (congrArg some (by kernel_rfl))
  f277 := Tryz.func75.trans (congrArg some (by kernel_rfl))
  f278 := Tryz.func142.trans (congrArg some (by kernel_rfl))
  f313 := Tryz.func134.trans (congrArg some (by kernel_rfl))
  t0 := Tryz.underlying0
  a0 := Tryz.isAgg0
  z0 := Tryz.sizeOf0
  v0 := Tryz.zeroValue0
  t3 := Tryz.underlying3
  a3 := Tryz.isAgg3
  z3 := Tryz.sizeOf3
  v3 := Tryz.zeroValue3
  t4 := Tryz.underlying4
  a4 := Tryz.isAgg4
  z4 := Tryz.sizeOf4
  v4 := Tryz.zeroValue4
  t5 := Tryz.underlying5
  a5 := Tryz.isAgg5
  z5 := Tryz.sizeOf5
  v5 := Tryz.zeroValue5
  t9 := Tryz.underlying9
  a9 := Tryz.isAgg9
  z9 := Tryz.sizeOf9
  v9 := Tryz.zeroValue9
  t20 := Tryz.underlying20
  a20 := Tryz.isAgg20
  z20 := Tryz.sizeOf20
  v20 := Tryz.zeroValue20
  t21 := Tryz.underlying21
  a21 := Tryz.isAgg21
  z21 := Tryz.sizeOf21
  v21 := Tryz.zeroValue21
  t37 := Tryz.underlying37
  a37 := Tryz.isAgg37
  z37 := Tryz.sizeOf37
  v37 := Tryz.zeroValue37
  t46 := Tryz.underlying117
  a46 := Tryz.isAgg117
  z46 := Tryz.sizeOf117
  v46 := Tryz.zeroValue117
  t51 := Tryz.underlying77
  a51 := Tryz.isAgg77
  z51 := Tryz.sizeOf77
  v51 := Tryz.zeroValue77
  t70 := Tryz.underlying57
  a70 := Tryz.isAgg57
  z70 := Tryz.sizeOf57
  v70 := Tryz.zeroValue57
  t72 := Tryz.underlying59
  a72 := Tryz.isAgg59
  z72 := Tryz.sizeOf59
  v72 := Tryz.zeroValue59
  t75 := Tryz.underlying62
  a75 := Tryz.isAgg62
  z75 := Tryz.sizeOf62
  v75 := Tryz.zeroValue62
  t76 := Tryz.underlying63
  a76 := Tryz.isAgg63
  z76 := Tryz.sizeOf63
  v76 := Tryz.zeroValue63
  t105 := Tryz.underlying139
  a105 := Tryz.isAgg139
  z105 := Tryz.sizeOf139
  v105 := Tryz.zeroValue139
  t107 := Tryz.underlying119
  a107 := Tryz.isAgg119
  z107 := Tryz.sizeOf119
  v107 := Tryz.zeroValue119
  t119 := Tryz.underlying50
  a119 := Tryz.isAgg50
  z119 := Tryz.sizeOf50
  t127 := Tryz.underlying83
  a127 := Tryz.isAgg83
  z127 := Tryz.sizeOf83
  v127 := Tryz.zeroValue83
  t138 := Tryz.underlying128
  a138 := Tryz.isAgg128
  z138 := Tryz.sizeOf128
  v138 := Tryz.zeroValue128
  t139 := Tryz.underlying129
  a139 := Tryz.isAgg129
  z139 := Tryz.sizeOf129
  v139 := Tryz.zeroValue129
  t160 := Tryz.underlying180
  a160 := Tryz.isAgg180
  z160 := Tryz.sizeOf180
  v160 := Tryz.zeroValue180
  t162 := Tryz.underlying172
  a162 := Tryz.isAgg172
  z162 := Tryz.sizeOf172
  v162 := Tryz.zeroValue172
  t164 := Tryz.underlying113
  a164 := Tryz.isAgg113
  z164 := Tryz.sizeOf113
  v164 := Tryz.zeroValue113
  t203 := Tryz.underlying170
  a203 := Tryz.isAgg170
  z203 := Tryz.sizeOf170
  v203 := Tryz.zeroValue170
  t206 := Tryz.underlying190
  a206 := Tryz.isAgg190
  z206 := Tryz.sizeOf190
  v206 := Tryz.zeroValue190
  t208 := Tryz.underlying192
  a208 := Tryz.isAgg192
  z208 := Tryz.sizeOf192
  v208 := Tryz.zeroValue192
  g3 := by kernel_rfl
  g4 := by kernel_rfl
  g13 := by kernel_rfl }
theorem Tryz.extraLower : Builder.Extra Tryz.prog Tryz.laysLower_ren where
  sizeBuilder := by kernel_rfl
  liesBuilder := by kernel_rfl
  t5 := Tryz.laysLower.t5
  a5 := Tryz.laysLower.a5
  z5 := Tryz.laysLower.z5
  v5 := Tryz.laysLower.v5
  infoByte := by kernel_rfl
  cellsByte := by kernel_rfl
  sizeByte := by kernel_rfl
  neB5 := by decide
end Go.Proofs
namespace Go.Proofs.YtepankcnleeakaaGreatDoor.Ab
open Go Go.RowKit
set_option maxRecDepth 20000
set_option maxHeartbeats 4000000
theorem Post.ofBelow {ρ : Loc} {σ : AHeap} {w w1 : World} (hr : HR ρ σ.get w) (h : Below w.heap.size w w1) : Post ρ σ w ρ σ w1 :=
  have fr : ∀ b, b < w.heap.size → w1.heap[b]? = w.heap[b]? := fun b hb => h.block b hb
  { le := .refl ρ
    size := Nat.le_refl _
    new := fun id h1 h2 => by omega
    old := fun _ _ => rfl
    dom := fun id B hB => hr.lt hB
    same := fun _ _ _ => rfl
    md := fun id B o' h1 h2 h3 => ⟨o', h2, h3⟩
    md' := fun id B o h1 h2 h3 => ⟨o, h2, h3⟩
    hr := {
      dom := fun id B hB => by
        obtain ⟨o, h1, h2, h3⟩ := hr.dom id B hB
        exact ⟨o, h1, h2.of_heap (.refl ρ) (fr _ h3), Nat.lt_of_lt_of_le h3 h.size⟩
      excl := hr.excl
      frz := frz_stays hr (fun _ _ _ h => h) (fun b hb _ => fr b hb) (fun _ _ h => h)
      gl := hr.gl
      rows := rows_stays hr (fun b hb _ => fr b hb) }
    hsize := h.size
    frame := fun b hb _ => fr b hb
    fresh := fun id B h1 h2 => absurd (hr.lt h2) (by omega)
    fz := fun _ _ _ h => .inl h
    os := h.os
    tape := h.tape
    output := h.output }
theorem lowB_eq (b : UInt8) : Lib.lowerB b = lowB b := by
  have h : ∀ n : Fin 256, Lib.lowerB (UInt8.ofNat n.val) = lowB (UInt8.ofNat n.val) := by decide +kernel
  have := h ⟨b.toNat, b.toNat_lt⟩
  simpa using this
theorem low_eq (s : List UInt8) : Lib.toLowerA s = low s := List.map_congr_left fun b _ => lowB_eq b
theorem primOk_lower : PrimOk Tryz.prog 59 pLower := by
  intro args σ v σ' hp
  unfold pLower at hp
  split at hp
  · rename_i s
    split at hp
    · rename_i hb
      cases hp
      simp only [Bool.and_eq_true, Nat.ble_eq, asciiB, List.all_eq_true] at hb
      refine ⟨⟨_, Tryz.func59, by decide, rfl⟩, fun ρ w vs hv hr => ?_⟩
      cases hv with
      | cons h1 h2 =>
        cases h2
        cases h1 with
        | one h1 =>
          cases h1
          refine Calls.mono (Any.strings_ToLower_ascii Tryz.laysLower Tryz.extraLower ⟨s.toArray⟩ w ?_ ?_) ?_
          · have h2 := hb.2
            show s.toArray.size ≤ _
            rw [List.size_toArray]
            omega
          · intro j b hj
            have := hb.1 b (List.mem_of_getElem? hj)
            simpa using this
          · rintro e w1 ⟨rfl, hw⟩
            refine ⟨_, ρ, rfl, Post.ofBelow hr hw, ?_⟩
            show VR ρ (.one (.str (low s))) (.string ⟨(Lib.toLowerA s).toArray⟩)
            rw [low_eq]
            exact .one (.str _)
    · cases hp
  · cases hp
end Go.Proofs.YtepankcnleeakaaGreatDoor.Ab
namespace Go.Proofs
open Go.Shelf Go.RowKit Go.Lib
def Tryz.laysFields_ren : Go.Shelf.Ren := ⟨fun | 157 => 16 | 229 => 22 | 199 => 23 | 261 => 43 | 311 => 67 | 312 => 68 | n => n, fun | 9 => 9 | 31 => 23 | 3 => 3 | 5 => 5 | 4 => 4 | 119 => 50 | 0 => 0 | 40 => 52 | 152 => 74 | 21 => 21 | 154 => 76 | 51 => 77 | 141 => 79 | 196 => 101 | 193 => 98 | 198 => 104 | 49 => 102 | 194 => 99 | 201 => 107 | 226 => 130 | 46 => 117 | 227 => 131 | n => n, fun | 0 => 0 | 6 => 1 | n => n⟩
theorem Tryz.laysFields : Go.Proofs.Lays.n157 Tryz.prog Tryz.laysFields_ren := {
  mixed := by kernel_rfl
  f157 := Tryz.func16.trans (congrArg some (by kernel_rfl))
  f199 := Tryz.func23.trans (congrArg some (by kernel_rfl))
  f229 := Tryz.func22.trans (congrArg some (by kernel_rfl))
  f261 := Tryz.func43.trans (congrArg some (by kernel_rfl))
  f311 := Tryz.func67.trans (congrArg some (by kernel_rfl))
  f312 := Tryz.func68.trans (congrArg some (by kernel_rfl))
  t0 := Tryz.underlying0
  a0 := Tryz.isAgg0
  z0 := Tryz.sizeOf0
  v0 := Tryz.zeroValue0
  t3 := Tryz.underlying3
  a3 := Tryz.isAgg3
  z3 := Tryz.sizeOf3
  v3 := Tryz.zeroValue3
  t4 := Tryz.underlying4
  a4 := Tryz.isAgg4
  z4 := Tryz.sizeOf4
  v4 := Tryz.zeroValue4
  t5 := Tryz.underlying5
  a5 := Tryz.isAgg5
  z5 := Tryz.sizeOf5
  v5 := Tryz.zeroValue5
  t9 := Tryz.underlying9
  a9 := Tryz.isAgg9
  z9 := Tryz.sizeOf9
  v9 := Tryz.zeroValue9
  t21 := Tryz.underlying21
  a21 := Tryz.isAgg21
  z21 := Tryz.sizeOf21
  v21 := Tryz.zeroValue21
  t31 := Tryz.underlying23
  a31 := Tryz.isAgg23
  z31 := Tryz.sizeOf23
  v31 := Tryz.zeroValue23
  t40 := Tryz.underlying52
  a40 := Tryz.isAgg52
  z40 := Tryz.sizeOf52
  v40 := Tryz.zeroValue52
  t46 := Tryz.underlying117
  a46 := Tryz.isAgg117
  z46 := Tryz.sizeOf117
  v46 := Tryz.zeroValue117
  t49 := Tryz.underlying102
  a49 := Tryz.isAgg102
  z49 := Tryz.sizeOf102
  v49 := Tryz.zeroValue102
  t51 := Tryz.underlying77
  a51 := Tryz.isAgg77
  z51 := Tryz.sizeOf77
  v51 := Tryz.zeroValue77
  t119 := Tryz.underlying50
  a119 := Tryz.isAgg50
  z119 := Tryz.sizeOf50
  t141 := Tryz.underlying79
  a141 := Tryz.isAgg79
  z141 := Tryz.sizeOf79
  v141 := Tryz.zeroValue79
  t152 := Tryz.underlying74
  a152 := Tryz.isAgg74
  z152 := Tryz.sizeOf74
  v152 := Tryz.zeroValue74
  t154 := Tryz.underlying76
  a154 := Tryz.isAgg76
  z154 := Tryz.sizeOf76
  v154 := Tryz.zeroValue76
  t193 := Tryz.underlying98
  a193 := Tryz.isAgg98
  z193 := Tryz.sizeOf98
  v193 := Tryz.zeroValue98
  t194 := Tryz.underlying99
  a194 := Tryz.isAgg99
  z194 := Tryz.sizeOf99
  v194 := Tryz.zeroValue99
  t196 := Tryz.underlying101
  a196 := Tryz.isAgg101
  z196 := Tryz.sizeOf101
  v196 := Tryz.zeroValue101
  t198 := Tryz.underlying104
  a198 := Tryz.isAgg104
  z198 := Tryz.sizeOf104
  v198 := Tryz.zeroValue104
  t201 := Tryz.underlying107
  a201 := Tryz.isAgg107
  z201 := Tryz.sizeOf107
  v201 := Tryz.zeroValue107
  t226 := Tryz.underlying130
  a226 := Tryz.isAgg130
  z226 := Tryz.sizeOf130
  v226 := Tryz.zeroValue130
  t227 := Tryz.underlying131
  a227 := Tryz.isAgg131
  z227 := Tryz.sizeOf131
  v227 := Tryz.zeroValue131
  g0 := by kernel_rfl
  g6 := by kernel_rfl }
end Go.Proofs
namespace Go.Proofs.YtepankcnleeakaaGreatDoor.Ab
open Go Go.RowKit
set_option maxRecDepth 20000
set_option maxHeartbeats 4000000
def pFields : Prim := fun args σ => match args with
  | [.one (.str s)] => match asciiB s && Nat.ble s.length 1000000000 with
    | true => some (.one (.slice σ.size 0 1 (Lib.fields s).length none), σ.alloc ⟨(Lib.fields s).map SV.str, .own⟩)
    | false => none
  | _ => none
theorem ascTab : globTab (Tryz.laysFields_ren.g 0) = some ((List.range 256).map fun c => SV.int .u8 (if Lib.isSp (UInt8.ofNat c) then 1 else 0)) := by kernel_rfl
theorem litVals_ints (k : IntKind) (f : Nat → Int) : ∀ l : List Nat, litVals (l.map fun c => SV.int k (f c)) = some (l.map fun c => Value.int k (f c))
  | [] => rfl
  | c :: l => by simp [litVals, litVal, litVals_ints k f l]
theorem strs_rel (ρ : Loc) : ∀ l : List (List UInt8), SRs ρ (l.map SV.str) (l.map fun x => Value.string ⟨x.toArray⟩)
  | [] => .nil
  | x :: l => .cons (.str x) (strs_rel ρ l)
theorem primOk_fields : PrimOk Tryz.prog 16 pFields := by
  intro args σ v σ' hp
  unfold pFields at hp
  split at hp
  · rename_i s
    split at hp
    · rename_i hb
      cases hp
      simp only [Bool.and_eq_true, Nat.ble_eq, asciiB, List.all_eq_true] at hb
      refine ⟨⟨_, Tryz.func16, by decide, rfl⟩, fun ρ w vs hv hr => ?_⟩
      cases hv with
      | cons h1 h2 =>
        cases h2
        cases h1 with
        | one h1 =>
          cases h1
          refine Calls.mono (Any.strings_Fields_core Tryz.laysFields (by kernel_rfl) ⟨s.toArray⟩ w ?_ ?_ ?_) ?_
          · have h2 := hb.2
            show s.toArray.size < _
            rw [List.size_toArray]
            omega
          · intro j b hj
            have := hb.1 b (List.mem_of_getElem? hj)
            simpa using this
          · intro c hc
            obtain ⟨vs, h1, h2⟩ := hr.gl.tab _ _ ascTab
            rw [litVals_ints] at h1
            cases h1
            exact (hr.frz _ _ _ (h2 c _ (by rw [List.getElem?_map, List.getElem?_range hc]; rfl))).1
          · rintro e w1 ⟨rfl, rfl⟩
            show CallPost ρ σ w _ _ _ _
            have hl : (⟨s.toArray⟩ : ByteArray).data.toList = s := rfl
            rw [hl]
            refine ⟨_, _, rfl, Post.alloc hr (extra := []) (strs_rel ρ (Lib.fields s)) (by rw [List.append_nil]) (fun o h1 h2 => by omega), ?_⟩
            refine .one (.slice (B := ⟨w.heap.size, 0, ((Lib.fields s).map fun l => Value.string ⟨l.toArray⟩).toArray.size, ((Lib.fields s).map SV.str).length⟩) ?_ (Nat.le_refl _) ?_ ?_ (by decide) (.inr ⟨rfl, ?_⟩))
            · rw [Loc.upd_at, if_pos rfl]
            · simp
            · simp
            · simp
    · cases hp
  · cases hp
end Go.Proofs.YtepankcnleeakaaGreatDoor.Ab
namespace Go.Proofs
open Go.Shelf Go.RowKit Go.Lib
def Tryz.laysValid_ren : Go.Shelf.Ren := ⟨fun | 196 => 66 | 259 => 95 | n => n, fun | 9 => 9 | 4 => 4 | 3 => 3 | 5 => 5 | 12 => 12 | 119 => 50 | 0 => 0 | 46 => 117 | 139 => 129 | 138 => 128 | 53 => 85 | n => n, fun | 3 => 3 | 4 => 4 | n => n⟩
theorem Tryz.laysValid : Go.Proofs.Lays.n196 Tryz.prog Tryz.laysValid_ren := {
  mixed := by kernel_rfl
  f196 := Tryz.func66.trans (congrArg some (by kernel_rfl))
  f259 := Tryz.func95.trans (congrArg some (by kernel_rfl))
  t0 := Tryz.underlying0
  a0 := Tryz.isAgg0
  z0 := Tryz.sizeOf0
  v0 := Tryz.zeroValue0
  t3 := Tryz.underlying3
  a3 := Tryz.isAgg3
  z3 := Tryz.sizeOf3
  v3 := Tryz.zeroValue3
  t4 := Tryz.underlying4
  a4 := Tryz.isAgg4
  z4 := Tryz.sizeOf4
  v4 := Tryz.zeroValue4
  t5 := Tryz.underlying5
  a5 := Tryz.isAgg5
  z5 := Tryz.sizeOf5
  v5 := Tryz.zeroValue5
  t9 := Tryz.underlying9
  a9 := Tryz.isAgg9
  z9 := Tryz.sizeOf9
  v9 := Tryz.zeroValue9
  t12 := Tryz.underlying12
  a12 := Tryz.isAgg12
  z12 := Tryz.sizeOf12
  v12 := Tryz.zeroValue12
  t46 := Tryz.underlying117
  a46 := Tryz.isAgg117
  z46 := Tryz.sizeOf117
  v46 := Tryz.zeroValue117
  t53 := Tryz.underlying85
  a53 := Tryz.isAgg85
  z53 := Tryz.sizeOf85
  v53 := Tryz.zeroValue85
  t119 := Tryz.underlying50
  a119 := Tryz.isAgg50
  z119 := Tryz.sizeOf50
  t138 := Tryz.underlying128
  a138 := Tryz.isAgg128
  z138 := Tryz.sizeOf128
  v138 := Tryz.zeroValue128
  t139 := Tryz.underlying129
  a139 := Tryz.isAgg129
  z139 := Tryz.sizeOf129
  v139 := Tryz.zeroValue129
  g3 := by kernel_rfl
  g4 := by kernel_rfl }
end Go.Proofs
namespace Go.Proofs.YtepankcnleeakaaGreatDoor.Ab
open Go Go.RowKit
set_option maxRecDepth 20000
set_option maxHeartbeats 4000000
def pValid : Prim := fun args σ => match args with
  | [.one (.str s)] => match Nat.ble s.length 1099511627776 with
    | true => some (.one (.bool (Lib.validD s)), σ)
    | false => none
  | _ => none
theorem firstTab : globTab (Tryz.laysValid_ren.g 3) = some ((List.range 256).map fun c => SV.int .u8 (Lib.firstT c)) := by kernel_rfl
theorem acceptTab : globTab (Tryz.laysValid_ren.g 4) = some ((List.range 32).map fun j => SV.int .u8 (if j % 2 = 0 then Lib.accLo (j / 2) else Lib.accHi (j / 2))) := by kernel_rfl
theorem utf8_tabs {ρ : Loc} {σ : AHeap} {w : World} (hr : HR ρ σ.get w) : Lib.Utf8Tabs (Tryz.laysValid_ren.g 3) (Tryz.laysValid_ren.g 4) w := by
  refine ⟨fun c hc => ?_, fun i hi => ?_⟩
  · obtain ⟨vs, h1, h2⟩ := hr.gl.tab _ _ firstTab
    rw [litVals_ints] at h1
    cases h1
    exact (hr.frz _ _ _ (h2 c _ (by rw [List.getElem?_map, List.getElem?_range hc]; rfl))).1
  · obtain ⟨vs, h1, h2⟩ := hr.gl.tab _ _ acceptTab
    rw [litVals_ints] at h1
    cases h1
    constructor
    · refine (hr.frz _ _ _ (h2 (2 * i) _ ?_)).1
      rw [List.getElem?_map, List.getElem?_range (by omega)]
      show some (Value.int .u8 (if 2 * i % 2 = 0 then Lib.accLo (2 * i / 2) else Lib.accHi (2 * i / 2))) = _
      rw [if_pos (by omega), show 2 * i / 2 = i by omega]
    · refine (hr.frz _ _ _ (h2 (2 * i + 1) _ ?_)).1
      rw [List.getElem?_map, List.getElem?_range (by omega)]
      show some (Value.int .u8 (if (2 * i + 1) % 2 = 0 then Lib.accLo ((2 * i + 1) / 2) else Lib.accHi ((2 * i + 1) / 2))) = _
      rw [if_neg (by omega), show (2 * i + 1) / 2 = i by omega]
theorem primOk_valid : PrimOk Tryz.prog 66 pValid := by
  intro args σ v σ' hp
  unfold pValid at hp
  split at hp
  · rename_i s
    split at hp
    · rename_i hb
      cases hp
      rw [Nat.ble_eq] at hb
      refine ⟨⟨_, Tryz.func66, by decide, rfl⟩, fun ρ w vs hv hr => ?_⟩
      cases hv with
      | cons h1 h2 =>
        cases h2
        cases h1 with
        | one h1 =>
          cases h1
          refine Calls.mono (Any.utf8_ValidString Tryz.laysValid ⟨s.toArray⟩ w ?_ (utf8_tabs hr)) ?_
          · show s.toArray.size ≤ _
            rw [List.size_toArray]
            omega
          · rintro e w1 ⟨rfl, hw⟩
            exact ⟨_, ρ, rfl, Post.ofBelow hr hw, .one (.bool _)⟩
    · cases hp
  · cases hp
end Go.Proofs.YtepankcnleeakaaGreatDoor.Ab
