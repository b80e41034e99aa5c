/- Several of my texts in one: TyD, TyLow, TyFld, TyUtf, TyE. -/
import Derived.Test.YtdpfgdmlmkpmbaaGreatDoorAbD
import Derived.Below
import Derived.Shelf.Strings.OnBuilder
import Derived.Ground.NamesProg
import Derived.Shelf.Strings.Fields
import Derived.Shelf.Unicode.ValidAny
/- The context of the trees' and types' functions: what is laid, what keeps no memory. -/
namespace Go.Proofs.YtdpfgdmlmkpmbaaGreatDoor.Ab
open Go
set_option maxRecDepth 100000

def lowB (b : UInt8) : UInt8 := if 65 ≤ b.toNat ∧ b.toNat ≤ 90 then b + 32 else b
def low (s : List UInt8) : List UInt8 := s.map lowB
def asciiB (s : List UInt8) : Bool := s.all fun b => Nat.blt b.toNat 128

def pLower : Prim := fun args σ => match args with
  | [.one (.str s)] => match asciiB s && Nat.ble s.length 1099511627776 with
    | true => some (.one (.str (low s)), σ)
    | false => none
  | _ => none

end Go.Proofs.YtdpfgdmlmkpmbaaGreatDoor.Ab

/- The library's ToLower, of letters of one byte, laid as one step. -/
namespace Go.Proofs
open Go.Shelf Go.RowKit Go.Lib
def Tryz.laysLower_ren : Go.Shelf.Ren := ⟨fun | 159 => 163 | 165 => 187 | 166 => 188 | 167 => 189 | 169 => 190 | 230 => 191 | 204 => 192 | 240 => 204 | 241 => 205 | 197 => 206 | 118 => 207 | 168 => 208 | 270 => 209 | 262 => 210 | 276 => 214 | 277 => 215 | 260 => 216 | 242 => 217 | 313 => 218 | 278 => 222 | 274 => 223 | 275 => 224 | n => n, fun | 9 => 9 | 4 => 4 | 3 => 3 | 5 => 5 | 72 => 148 | 0 => 0 | 76 => 151 | 75 => 150 | 107 => 156 | 70 => 146 | 20 => 20 | 37 => 125 | 127 => 166 | 21 => 21 | 105 => 167 | 164 => 181 | 162 => 187 | 203 => 185 | 119 => 159 | 46 => 163 | 139 => 162 | 138 => 161 | 51 => 178 | 160 => 199 | 208 => 207 | 206 => 205 | 80 => 154 | n => n, fun | 13 => 4 | 3 => 0 | 4 => 1 | n => n⟩
theorem Tryz.laysLower : Go.Proofs.Lays.n159 Tryz.prog Tryz.laysLower_ren := {
  mixed := by kernel_rfl
  f118 := Tryz.func207.trans (congrArg some (by kernel_rfl))
  f159 := Tryz.func163.trans (congrArg some (by kernel_rfl))
  f165 := Tryz.func187.trans (congrArg some (by kernel_rfl))
  f166 := Tryz.func188.trans (congrArg some (by kernel_rfl))
  f167 := Tryz.func189.trans (congrArg some (by kernel_rfl))
  f168 := Tryz.func208.trans (congrArg some (by kernel_rfl))
  f169 := Tryz.func190.trans (congrArg some (by kernel_rfl))
  f197 := Tryz.func206.trans (congrArg some (by kernel_rfl))
  f204 := Tryz.func192.trans (congrArg some (by kernel_rfl))
  f230 := Tryz.func191.trans (congrArg some (by kernel_rfl))
  f240 := Tryz.func204.trans (congrArg some (by kernel_rfl))
  f241 := Tryz.func205.trans (congrArg some (by kernel_rfl))
  f242 := Tryz.func217.trans (congrArg some (by kernel_rfl))
  f260 := Tryz.func216.trans (congrArg some (by kernel_rfl))
  f262 := Tryz.func210.trans (congrArg some (by kernel_rfl))
  f270 := Tryz.func209.trans (congrArg some (by kernel_rfl))
  f274 := Tryz.func223.trans (congrArg some (by kernel_rfl))
  f275 := Tryz.func224.trans (congrArg some (by kernel_rfl))
  f276 := Tryz.func214.trans (congrArg some (by kernel_rfl))
  f277 := Tryz.func215.trans (congrArg some (by kernel_rfl))
  f278 := Tryz.func222.trans (congrArg some (by kernel_rfl))
  f313 := Tryz.func218.trans (congrArg some (by kernel_rfl))
  t0 := Tryz.underlying0
  a0 := Tryz.isAgg0
  z0 := Tryz.sizeOf0
  v0 := Tryz.zeroValue0
  t3 := Tryz.underlying3
  a3 := Tryz.isAgg3
  z3 := Tryz.sizeOf3
  v3 := Tryz.zeroValue3
  t4 := Tryz.underlying4
  a4 := Tryz.isAgg4
  z4 := Tryz.sizeOf4
  v4 := Tryz.zeroValue4
  t5 := Tryz.underlying5
  a5 := Tryz.isAgg5
  z5 := Tryz.sizeOf5
  v5 := Tryz.zeroValue5
  t9 := Tryz.underlying9
  a9 := Tryz.isAgg9
  z9 := Tryz.sizeOf9
  v9 := Tryz.zeroValue9
  t20 := Tryz.underlying20
  a20 := Tryz.isAgg20
  z20 := Tryz.sizeOf20
  v20 := Tryz.zeroValue20
  t21 := Tryz.underlying21
  a21 := Tryz.isAgg21
  z21 := Tryz.sizeOf21
  v21 := Tryz.zeroValue21
  t37 := Tryz.underlying125
  a37 := Tryz.isAgg125
  z37 := Tryz.sizeOf125
  v37 := Tryz.zeroValue125
  t46 := Tryz.underlying163
  a46 := Tryz.isAgg163
  z46 := Tryz.sizeOf163
  v46 := Tryz.zeroValue163
  t51 := Tryz.underlying178
  a51 := Tryz.isAgg178
  z51 := Tryz.sizeOf178
  v51 := Tryz.zeroValue178
  t70 := Tryz.underlying146
  a70 := Tryz.isAgg146
  z70 := Tryz.sizeOf146
  v70 := Tryz.zeroValue146
  t72 := Tryz.underlying148
  a72 := Tryz.isAgg148
  z72 := Tryz.sizeOf148
  v72 := Tryz.zeroValue148
  t75 := Tryz.underlying150
  a75 := Tryz.isAgg150
  z75 := Tryz.sizeOf150
  v75 := Tryz.zeroValue150
  t76 := Tryz.underlying151
  a76 := Tryz.isAgg151
  z76 := Tryz.sizeOf151
  v76 := Tryz.zeroValue151
  t105 := Tryz.underlying167
  a105 := Tryz.isAgg167
  z105 := Tryz.sizeOf167
  v105 := Tryz.zeroValue167
  t107 := Tryz.underlying156
  a107 := Tryz.isAgg156
  z107 := Tryz.sizeOf156
  v107 := Tryz.zeroValue156
  t119 := Tryz.underlying159
  a119 := Tryz.isAgg159
  z119 := Tryz.sizeOf159
  t127 := Tryz.underlying166
  a127 := Tryz.isAgg166
  z127 := Tryz.sizeOf166
  v127 := Tryz.zeroValue166
  t138 := Tryz.underlying161
  a138 := Tryz.isAgg161
  z138 := Tryz.sizeOf161
  v138 := Tryz.zeroValue161
  t139 := Tryz.underlying162
  a139 := Tryz.isAgg162
  z139 := Tryz.sizeOf162
  v139 := Tryz.zeroValue162
  t160 := Tryz.underlying199
  a160 := Tryz.isAgg199
  z160 := Tryz.sizeOf199
  v160 := Tryz.zeroValue199
  t162 := Tryz.underlying187
  a162 := Tryz.isAgg187
  z162 := Tryz.sizeOf187
  v162 := Tryz.zeroValue187
  t164 := Tryz.underlying181
  a164 := Tryz.isAgg181
  z164 := Tryz.sizeOf181
  v164 := Tryz.zeroValue181
  t203 := Tryz.underlying185
  a203 := Tryz.isAgg185
  z203 := Tryz.sizeOf185
  v203 := Tryz.zeroValue185
  t206 := Tryz.underlying205
  a206 := Tryz.isAgg205
  z206 := Tryz.sizeOf205
  v206 := Tryz.zeroValue205
  t208 := Tryz.underlying207
  a208 := Tryz.isAgg207
  z208 := Tryz.sizeOf207
  v208 := Tryz.zeroValue207
  g3 := by kernel_rfl
  g4 := by kernel_rfl
  g13 := by kernel_rfl }
theorem Tryz.extraLower : Builder.Extra Tryz.prog Tryz.laysLower_ren where
  sizeBuilder := by kernel_rfl
  liesBuilder := by kernel_rfl
  t5 := Tryz.laysLower.t5
  a5 := Tryz.laysLower.a5
  z5 := Tryz.laysLower.z5
  v5 := Tryz.laysLower.v5
  infoByte := by kernel_rfl
  cellsByte := by kernel_rfl
  sizeByte := by kernel_rfl
  neB5 := by decide
end Go.Proofs
namespace Go.Proofs.YtdpfgdmlmkpmbaaGreatDoor.Ab
open Go Go.RowKit
set_option maxRecDepth 20000
set_option maxHeartbeats 4000000

/-- What leaves all older memory as it was. -/
theorem Post.ofBelow {ρ : Loc} {σ : AHeap} {w w1 : World} (hr : HR ρ σ.get w) (h : Below w.heap.size w w1) : Post ρ σ w ρ σ w1 :=
  have fr : ∀ b, b < w.heap.size → w1.heap[b]? = w.heap[b]? := fun b hb => h.block b hb
  { le := .refl ρ
    size := Nat.le_refl _
    new := fun id h1 h2 => by omega
    old := fun _ _ => rfl
    dom := fun id B hB => hr.lt hB
    same := fun _ _ _ => rfl
    md := fun id B o' h1 h2 h3 => ⟨o', h2, h3⟩
    md' := fun id B o h1 h2 h3 => ⟨o, h2, h3⟩
    hr := {
      dom := fun id B hB => by
        obtain ⟨o, h1, h2, h3⟩ := hr.dom id B hB
        exact ⟨o, h1, h2.of_heap (.refl ρ) (fr _ h3), Nat.lt_of_lt_of_le h3 h.size⟩
      excl := hr.excl
      frz := frz_stays hr (fun _ _ _ h => h) (fun b hb _ => fr b hb) (fun _ _ h => h)
      gl := hr.gl }
    hsize := h.size
    frame := fun b hb _ => fr b hb
    fresh := fun id B h1 h2 => absurd (hr.lt h2) (by omega)
    fz := fun _ _ _ h => .inl h
    os := h.os
    tape := h.tape
    output := h.output }

theorem lowB_eq (b : UInt8) : Lib.lowerB b = lowB b := by
  have h : ∀ n : Fin 256, Lib.lowerB (UInt8.ofNat n.val) = lowB (UInt8.ofNat n.val) := by decide +kernel
  have := h ⟨b.toNat, b.toNat_lt⟩
  simpa using this
theorem low_eq (s : List UInt8) : Lib.toLowerA s = low s := List.map_congr_left fun b _ => lowB_eq b

theorem primOk_lower : PrimOk Tryz.prog 163 pLower := by
  intro args σ v σ' hp
  unfold pLower at hp
  split at hp
  · rename_i s
    split at hp
    · rename_i hb
      cases hp
      simp only [Bool.and_eq_true, Nat.ble_eq, asciiB, List.all_eq_true] at hb
      refine ⟨⟨_, Tryz.func163, by decide, rfl⟩, fun ρ w vs hv hr => ?_⟩
      cases hv with
      | cons h1 h2 =>
        cases h2
        cases h1 with
        | one h1 =>
          cases h1
          refine Calls.mono (Any.strings_ToLower_ascii Tryz.laysLower Tryz.extraLower ⟨s.toArray⟩ w ?_ ?_) ?_
          · have h2 := hb.2
            show s.toArray.size ≤ _
            rw [List.size_toArray]
            omega
          · intro j b hj
            have := hb.1 b (List.mem_of_getElem? hj)
            simpa using this
          · rintro e w1 ⟨rfl, hw⟩
            refine ⟨_, ρ, rfl, Post.ofBelow hr hw, ?_⟩
            show VR ρ (.one (.str (low s))) (.string ⟨(Lib.toLowerA s).toArray⟩)
            rw [low_eq]
            exact .one (.str _)
    · cases hp
  · cases hp
end Go.Proofs.YtdpfgdmlmkpmbaaGreatDoor.Ab

/- The library's Fields, of bytes below 128, laid as one step. -/
namespace Go.Proofs
open Go.Shelf Go.RowKit Go.Lib
def Tryz.laysFields_ren : Go.Shelf.Ren := ⟨fun | 157 => 186 | 229 => 202 | 199 => 203 | 261 => 213 | 311 => 220 | 312 => 221 | n => n, fun | 9 => 9 | 31 => 22 | 3 => 3 | 5 => 5 | 4 => 4 | 119 => 159 | 0 => 0 | 40 => 165 | 152 => 175 | 21 => 21 | 154 => 177 | 51 => 178 | 141 => 180 | 196 => 191 | 193 => 188 | 198 => 194 | 49 => 192 | 194 => 189 | 201 => 197 | 226 => 202 | 46 => 163 | 227 => 203 | n => n, fun | 0 => 2 | 6 => 3 | n => n⟩
theorem Tryz.laysFields : Go.Proofs.Lays.n157 Tryz.prog Tryz.laysFields_ren := {
  mixed := by kernel_rfl
  f157 := Tryz.func186.trans (congrArg some (by kernel_rfl))
  f199 := Tryz.func203.trans (congrArg some (by kernel_rfl))
  f229 := Tryz.func202.trans (congrArg some (by kernel_rfl))
  f261 := Tryz.func213.trans (congrArg some (by kernel_rfl))
  f311 := Tryz.func220.trans (congrArg some (by kernel_rfl))
  f312 := Tryz.func221.trans (congrArg some (by kernel_rfl))
  t0 := Tryz.underlying0
  a0 := Tryz.isAgg0
  z0 := Tryz.sizeOf0
  v0 := Tryz.zeroValue0
  t3 := Tryz.underlying3
  a3 := Tryz.isAgg3
  z3 := Tryz.sizeOf3
  v3 := Tryz.zeroValue3
  t4 := Tryz.underlying4
  a4 := Tryz.isAgg4
  z4 := Tryz.sizeOf4
  v4 := Tryz.zeroValue4
  t5 := Tryz.underlying5
  a5 := Tryz.isAgg5
  z5 := Tryz.sizeOf5
  v5 := Tryz.zeroValue5
  t9 := Tryz.underlying9
  a9 := Tryz.isAgg9
  z9 := Tryz.sizeOf9
  v9 := Tryz.zeroValue9
  t21 := Tryz.underlying21
  a21 := Tryz.isAgg21
  z21 := Tryz.sizeOf21
  v21 := Tryz.zeroValue21
  t31 := Tryz.underlying22
  a31 := Tryz.isAgg22
  z31 := Tryz.sizeOf22
  v31 := Tryz.zeroValue22
  t40 := Tryz.underlying165
  a40 := Tryz.isAgg165
  z40 := Tryz.sizeOf165
  v40 := Tryz.zeroValue165
  t46 := Tryz.underlying163
  a46 := Tryz.isAgg163
  z46 := Tryz.sizeOf163
  v46 := Tryz.zeroValue163
  t49 := Tryz.underlying192
  a49 := Tryz.isAgg192
  z49 := Tryz.sizeOf192
  v49 := Tryz.zeroValue192
  t51 := Tryz.underlying178
  a51 := Tryz.isAgg178
  z51 := Tryz.sizeOf178
  v51 := Tryz.zeroValue178
  t119 := Tryz.underlying159
  a119 := Tryz.isAgg159
  z119 := Tryz.sizeOf159
  t141 := Tryz.underlying180
  a141 := Tryz.isAgg180
  z141 := Tryz.sizeOf180
  v141 := Tryz.zeroValue180
  t152 := Tryz.underlying175
  a152 := Tryz.isAgg175
  z152 := Tryz.sizeOf175
  v152 := Tryz.zeroValue175
  t154 := Tryz.underlying177
  a154 := Tryz.isAgg177
  z154 := Tryz.sizeOf177
  v154 := Tryz.zeroValue177
  t193 := Tryz.underlying188
  a193 := Tryz.isAgg188
  z193 := Tryz.sizeOf188
  v193 := Tryz.zeroValue188
  t194 := Tryz.underlying189
  a194 := Tryz.isAgg189
  z194 := Tryz.sizeOf189
  v194 := Tryz.zeroValue189
  t196 := Tryz.underlying191
  a196 := Tryz.isAgg191
  z196 := Tryz.sizeOf191
  v196 := Tryz.zeroValue191
  t198 := Tryz.underlying194
  a198 := Tryz.isAgg194
  z198 := Tryz.sizeOf194
  v198 := Tryz.zeroValue194
  t201 := Tryz.underlying197
  a201 := Tryz.isAgg197
  z201 := Tryz.sizeOf197
  v201 := Tryz.zeroValue197
  t226 := Tryz.underlying202
  a226 := Tryz.isAgg202
  z226 := Tryz.sizeOf202
  v226 := Tryz.zeroValue202
  t227 := Tryz.underlying203
  a227 := Tryz.isAgg203
  z227 := Tryz.sizeOf203
  v227 := Tryz.zeroValue203
  g0 := by kernel_rfl
  g6 := by kernel_rfl }
end Go.Proofs
namespace Go.Proofs.YtdpfgdmlmkpmbaaGreatDoor.Ab
open Go Go.RowKit
set_option maxRecDepth 20000
set_option maxHeartbeats 4000000

def pFields : Prim := fun args σ => match args with
  | [.one (.str s)] => match asciiB s && Nat.ble s.length 1000000000 with
    | true => some (.one (.slice σ.size 0 1 (Lib.fields s).length none), σ.alloc ⟨(Lib.fields s).map SV.str, .own⟩)
    | false => none
  | _ => none

theorem ascTab : globTab (Tryz.laysFields_ren.g 0) = some ((List.range 256).map fun c => SV.int .u8 (if Lib.isSp (UInt8.ofNat c) then 1 else 0)) := by kernel_rfl
theorem litVals_ints (k : IntKind) (f : Nat → Int) : ∀ l : List Nat, litVals (l.map fun c => SV.int k (f c)) = some (l.map fun c => Value.int k (f c))
  | [] => rfl
  | c :: l => by simp [litVals, litVal, litVals_ints k f l]
theorem strs_rel (ρ : Loc) : ∀ l : List (List UInt8), SRs ρ (l.map SV.str) (l.map fun x => Value.string ⟨x.toArray⟩)
  | [] => .nil
  | x :: l => .cons (.str x) (strs_rel ρ l)

theorem primOk_fields : PrimOk Tryz.prog 186 pFields := by
  intro args σ v σ' hp
  unfold pFields at hp
  split at hp
  · rename_i s
    split at hp
    · rename_i hb
      cases hp
      simp only [Bool.and_eq_true, Nat.ble_eq, asciiB, List.all_eq_true] at hb
      refine ⟨⟨_, Tryz.func186, by decide, rfl⟩, fun ρ w vs hv hr => ?_⟩
      cases hv with
      | cons h1 h2 =>
        cases h2
        cases h1 with
        | one h1 =>
          cases h1
          refine Calls.mono (Any.strings_Fields_core Tryz.laysFields (by kernel_rfl) ⟨s.toArray⟩ w ?_ ?_ ?_) ?_
          · have h2 := hb.2
            show s.toArray.size < _
            rw [List.size_toArray]
            omega
          · intro j b hj
            have := hb.1 b (List.mem_of_getElem? hj)
            simpa using this
          · intro c hc
            obtain ⟨vs, h1, h2⟩ := hr.gl _ _ ascTab
            rw [litVals_ints] at h1
            cases h1
            exact (hr.frz _ _ _ (h2 c _ (by rw [List.getElem?_map, List.getElem?_range hc]; rfl))).1
          · rintro e w1 ⟨rfl, rfl⟩
            show CallPost ρ σ w _ _ _ _
            have hl : (⟨s.toArray⟩ : ByteArray).data.toList = s := rfl
            rw [hl]
            refine ⟨_, _, rfl, Post.alloc hr (extra := []) (strs_rel ρ (Lib.fields s)) (by rw [List.append_nil]) (fun o h1 h2 => by omega), ?_⟩
            refine .one (.slice (B := ⟨w.heap.size, 0, ((Lib.fields s).map fun l => Value.string ⟨l.toArray⟩).toArray.size, ((Lib.fields s).map SV.str).length⟩) ?_ (Nat.le_refl _) ?_ ?_ (by decide) (.inr ⟨rfl, ?_⟩))
            · rw [Loc.upd_at, if_pos rfl]
            · simp
            · simp
            · simp
    · cases hp
  · cases hp
end Go.Proofs.YtdpfgdmlmkpmbaaGreatDoor.Ab

/- The library's ValidString, laid as one step. -/
namespace Go.Proofs
open Go.Shelf Go.RowKit Go.Lib
def Tryz.laysValid_ren : Go.Shelf.Ren := ⟨fun | 196 => 185 | 259 => 201 | n => n, fun | 9 => 9 | 4 => 4 | 3 => 3 | 5 => 5 | 12 => 12 | 119 => 159 | 0 => 0 | 46 => 163 | 139 => 162 | 138 => 161 | 53 => 174 | n => n, fun | 3 => 0 | 4 => 1 | n => n⟩
theorem Tryz.laysValid : Go.Proofs.Lays.n196 Tryz.prog Tryz.laysValid_ren := {
  mixed := by kernel_rfl
  f196 := Tryz.func185.trans (congrArg some (by kernel_rfl))
  f259 := Tryz.func201.trans (congrArg some (by kernel_rfl))
  t0 := Tryz.underlying0
  a0 := Tryz.isAgg0
  z0 := Tryz.sizeOf0
  v0 := Tryz.zeroValue0
  t3 := Tryz.underlying3
  a3 := Tryz.isAgg3
  z3 := Tryz.sizeOf3
  v3 := Tryz.zeroValue3
  t4 := Tryz.underlying4
  a4 := Tryz.isAgg4
  z4 := Tryz.sizeOf4
  v4 := Tryz.zeroValue4
  t5 := Tryz.underlying5
  a5 := Tryz.isAgg5
  z5 := Tryz.sizeOf5
  v5 := Tryz.zeroValue5
  t9 := Tryz.underlying9
  a9 := Tryz.isAgg9
  z9 := Tryz.sizeOf9
  v9 := Tryz.zeroValue9
  t12 := Tryz.underlying12
  a12 := Tryz.isAgg12
  z12 := Tryz.sizeOf12
  v12 := Tryz.zeroValue12
  t46 := Tryz.underlying163
  a46 := Tryz.isAgg163
  z46 := Tryz.sizeOf163
  v46 := Tryz.zeroValue163
  t53 := Tryz.underlying174
  a53 := Tryz.isAgg174
  z53 := Tryz.sizeOf174
  v53 := Tryz.zeroValue174
  t119 := Tryz.underlying159
  a119 := Tryz.isAgg159
  z119 := Tryz.sizeOf159
  t138 := Tryz.underlying161
  a138 := Tryz.isAgg161
  z138 := Tryz.sizeOf161
  v138 := Tryz.zeroValue161
  t139 := Tryz.underlying162
  a139 := Tryz.isAgg162
  z139 := Tryz.sizeOf162
  v139 := Tryz.zeroValue162
  g3 := by kernel_rfl
  g4 := by kernel_rfl }
end Go.Proofs
namespace Go.Proofs.YtdpfgdmlmkpmbaaGreatDoor.Ab
open Go Go.RowKit
set_option maxRecDepth 20000
set_option maxHeartbeats 4000000

def pValid : Prim := fun args σ => match args with
  | [.one (.str s)] => match Nat.ble s.length 1099511627776 with
    | true => some (.one (.bool (Lib.validD s)), σ)
    | false => none
  | _ => none

theorem firstTab : globTab (Tryz.laysValid_ren.g 3) = some ((List.range 256).map fun c => SV.int .u8 (Lib.firstT c)) := by kernel_rfl
theorem acceptTab : globTab (Tryz.laysValid_ren.g 4) = some ((List.range 32).map fun j => SV.int .u8 (if j % 2 = 0 then Lib.accLo (j / 2) else Lib.accHi (j / 2))) := by kernel_rfl

theorem utf8_tabs {ρ : Loc} {σ : AHeap} {w : World} (hr : HR ρ σ.get w) : Lib.Utf8Tabs (Tryz.laysValid_ren.g 3) (Tryz.laysValid_ren.g 4) w := by
  refine ⟨fun c hc => ?_, fun i hi => ?_⟩
  · obtain ⟨vs, h1, h2⟩ := hr.gl _ _ firstTab
    rw [litVals_ints] at h1
    cases h1
    exact (hr.frz _ _ _ (h2 c _ (by rw [List.getElem?_map, List.getElem?_range hc]; rfl))).1
  · obtain ⟨vs, h1, h2⟩ := hr.gl _ _ acceptTab
    rw [litVals_ints] at h1
    cases h1
    constructor
    · refine (hr.frz _ _ _ (h2 (2 * i) _ ?_)).1
      rw [List.getElem?_map, List.getElem?_range (by omega)]
      show some (Value.int .u8 (if 2 * i % 2 = 0 then Lib.accLo (2 * i / 2) else Lib.accHi (2 * i / 2))) = _
      rw [if_pos (by omega), show 2 * i / 2 = i by omega]
    · refine (hr.frz _ _ _ (h2 (2 * i + 1) _ ?_)).1
      rw [List.getElem?_map, List.getElem?_range (by omega)]
      show some (Value.int .u8 (if (2 * i + 1) % 2 = 0 then Lib.accLo ((2 * i + 1) / 2) else Lib.accHi ((2 * i + 1) / 2))) = _
      rw [if_neg (by omega), show (2 * i + 1) / 2 = i by omega]

theorem primOk_valid : PrimOk Tryz.prog 185 pValid := by
  intro args σ v σ' hp
  unfold pValid at hp
  split at hp
  · rename_i s
    split at hp
    · rename_i hb
      cases hp
      rw [Nat.ble_eq] at hb
      refine ⟨⟨_, Tryz.func185, by decide, rfl⟩, fun ρ w vs hv hr => ?_⟩
      cases hv with
      | cons h1 h2 =>
        cases h2
        cases h1 with
        | one h1 =>
          cases h1
          refine Calls.mono (Any.utf8_ValidString Tryz.laysValid ⟨s.toArray⟩ w ?_ (utf8_tabs hr)) ?_
          · show s.toArray.size ≤ _
            rw [List.size_toArray]
            omega
          · rintro e w1 ⟨rfl, hw⟩
            exact ⟨_, ρ, rfl, Post.ofBelow hr hw, .one (.bool _)⟩
    · cases hp
  · cases hp
end Go.Proofs.YtdpfgdmlmkpmbaaGreatDoor.Ab

/- The context of the trees' and types' functions: what is laid, what keeps no memory. -/
namespace Go.Proofs.YtdpfgdmlmkpmbaaGreatDoor.Ab
open Go
set_option maxRecDepth 100000
def tyPure : List Nat := [
  132,
  133,
  134,
  135,
  136,
  174,
  164,
  137,
  193,
  131,
  83,
  138,
  84,
  166,
  165,
  167,
  140,
  194,
  177,
  178,
  171,
  170,
  172,
  195,
  176,
  173,
  142,
  175,
  139,
  141,
  168,
  169,
  179,
  143,
  85,
  33,
  161,
  160,
  98,
  149,
  180,
  196,
  162,
  36,
  95,
  96,
  97,
  87,
  88,
  144,
  145,
  146,
  93,
  147,
  148,
  21,
  52,
  60,
  53,
  1000000]
def tyGc : List Nat := [
  34,
  86,
  89,
  90,
  91,
  92,
  94,
  1000000]
def tyRd : List Nat := [
  78,
  23,
  13,
  15,
  49,
  48,
  26,
  14,
  16,
  11,
  59,
  58,
  99,
  50,
  1000000]
def tyMv : List Nat := [
  7,
  8,
  10,
  1000000]
def memN (f : Nat) : List Nat → Bool
  | [] => false
  | g :: l => match Nat.beq f g with
    | true => true
    | false => memN f l
def tyHint (f : Nat) : Hint := match memN f tyPure with
  | true => .pure
  | false => match memN f tyGc with
    | true => .gc
    | false => match memN f tyRd with
      | true => .rd
      | false => match memN f tyMv with
        | true => .mv
        | false => .no
def primAt : List (Nat × Prim) → Nat → Option Prim
  | [], _ => none
  | (g, p) :: l, f => match Nat.beq f g with
    | true => some p
    | false => primAt l f
theorem primAt_ok {P : Program} : ∀ {l : List (Nat × Prim)}, (∀ g p, (g, p) ∈ l → PrimOk P g p) → ∀ f p, primAt l f = some p → PrimOk P f p
  | [], _, f, p, h => by cases h
  | (g, q) :: l, hl, f, p, h => by
    unfold primAt at h
    cases h1 : Nat.beq f g with
    | true =>
      rw [h1] at h
      cases h
      rw [Nat.eq_of_beq_eq_true h1]
      exact hl g q (by simp)
    | false =>
      rw [h1] at h
      exact primAt_ok (fun g p hm => hl g p (by simp [hm])) f p h
def tyPrims : List (Nat × Prim) := [(186, pFields), (163, pLower), (185, pValid)]
noncomputable def TyD : Ctx := ⟨codeOf, primAt tyPrims, tyHint⟩
theorem TyD_good : TyD.Good Tryz.prog where
  code := fun f F h => codeOf_good h
  prim := fun f p h => primAt_ok (l := tyPrims) (fun g p hm => by
    simp only [tyPrims, List.mem_cons, Prod.mk.injEq, List.not_mem_nil, or_false] at hm
    rcases hm with ⟨rfl, rfl⟩ | ⟨rfl, rfl⟩ | ⟨rfl, rfl⟩
    · exact primOk_fields
    · exact primOk_lower
    · exact primOk_valid) f p h
theorem TyD_code (f : Nat) : TyD.code f = codeOf f := by kernel_rfl
def tyFree (f : Nat) : Bool := match Nat.beq f 186, Nat.beq f 163, Nat.beq f 185 with
  | false, false, false => true
  | _, _, _ => false
theorem TyD_prim {f : Nat} (h : tyFree f = true) : TyD.prim f = none := by
  unfold tyFree at h
  show primAt tyPrims f = none
  unfold tyPrims
  split at h
  · rename_i h1 h2 h3
    simp only [primAt, h1, h2, h3]
  · cases h
theorem lim_lower (σ : AHeap) (s : List UInt8) (h1 : asciiB s = true) (h2 : s.length ≤ 1099511627776) : lim TyD 163 [.one (.str s)] σ = some (.one (.str (low s)), σ) := by
  refine (lim_prim (p := pLower) (by kernel_rfl)).trans ?_
  simp [pLower, h1, h2]
theorem lim_fields (σ : AHeap) (s : List UInt8) (h1 : asciiB s = true) (h2 : s.length ≤ 1000000000) : lim TyD 186 [.one (.str s)] σ = some (.one (.slice σ.size 0 1 (Lib.fields s).length none), σ.alloc ⟨(Lib.fields s).map SV.str, .own⟩) := by
  refine (lim_prim (p := pFields) (by kernel_rfl)).trans ?_
  simp [pFields, h1, h2]
theorem lim_valid (σ : AHeap) (s : List UInt8) (h2 : s.length ≤ 1099511627776) : lim TyD 185 [.one (.str s)] σ = some (.one (.bool (Lib.validD s)), σ) := by
  refine (lim_prim (p := pValid) (by kernel_rfl)).trans ?_
  simp [pValid, h2]
end Go.Proofs.YtdpfgdmlmkpmbaaGreatDoor.Ab
