/- The library's Join, laid as one step. -/
import Derived.Test.YtepankcnleeakaaGreatDoorLxP
import Derived.Shelf.Strings.OnBuilder
namespace Go.Proofs
open Go.Shelf Go.RowKit Go.Lib
def Tryz.laysJoin_ren : Go.Shelf.Ren := ⟨fun | 156 => 19 | 165 => 26 | 166 => 27 | 169 => 28 | 240 => 49 | 241 => 50 | 276 => 74 | 277 => 75 | n => n, fun | 31 => 23 | 9 => 9 | 3 => 3 | 4 => 4 | 0 => 0 | 20 => 20 | 72 => 59 | 76 => 63 | 70 => 57 | 37 => 37 | 75 => 62 | 127 => 83 | 164 => 113 | 5 => 5 | 80 => 65 | n => n, fun | n => n⟩
theorem Tryz.laysJoin : Go.Proofs.Lays.n156 Tryz.prog Tryz.laysJoin_ren := {
  mixed := by kernel_rfl
  f156 := Tryz.func19.trans (congrArg some (by kernel_rfl))
  f165 := Tryz.func26.trans (congrArg some (by kernel_rfl))
  f166 := Tryz.func27.trans (congrArg some (by kernel_rfl))
  f169 := Tryz.func28.trans (congrArg some (by kernel_rfl))
  f240 := Tryz.func49.trans (congrArg some (by kernel_rfl))
  f241 := Tryz.func50.trans (congrArg some (by kernel_rfl))
  f276 := Tryz.func74.trans (congrArg some (by kernel_rfl))
  f277 := Tryz.func75.trans (congrArg some (by kernel_rfl))
  t0 := Tryz.underlying0
  a0 := Tryz.isAgg0
  z0 := Tryz.sizeOf0
  v0 := Tryz.zeroValue0
  t3 := Tryz.underlying3
  a3 := Tryz.isAgg3
  z3 := Tryz.sizeOf3
  v3 := Tryz.zeroValue3
  t4 := Tryz.underlying4
  a4 := Tryz.isAgg4
  z4 := Tryz.sizeOf4
  v4 := Tryz.zeroValue4
  t9 := Tryz.underlying9
  a9 := Tryz.isAgg9
  z9 := Tryz.sizeOf9
  v9 := Tryz.zeroValue9
  t20 := Tryz.underlying20
  a20 := Tryz.isAgg20
  z20 := Tryz.sizeOf20
  v20 := Tryz.zeroValue20
  t31 := Tryz.underlying23
  a31 := Tryz.isAgg23
  z31 := Tryz.sizeOf23
  v31 := Tryz.zeroValue23
  t37 := Tryz.underlying37
  a37 := Tryz.isAgg37
  z37 := Tryz.sizeOf37
  v37 := Tryz.zeroValue37
  t70 := Tryz.underlying57
  a70 := Tryz.isAgg57
  z70 := Tryz.sizeOf57
  v70 := Tryz.zeroValue57
  t72 := Tryz.underlying59
  a72 := Tryz.isAgg59
  z72 := Tryz.sizeOf59
  v72 := Tryz.zeroValue59
  t75 := Tryz.underlying62
  a75 := Tryz.isAgg62
  z75 := Tryz.sizeOf62
  v75 := Tryz.zeroValue62
  t76 := Tryz.underlying63
  a76 := Tryz.isAgg63
  z76 := Tryz.sizeOf63
  v76 := Tryz.zeroValue63
  t127 := Tryz.underlying83
  a127 := Tryz.isAgg83
  z127 := Tryz.sizeOf83
  v127 := Tryz.zeroValue83
  t164 := Tryz.underlying113
  a164 := Tryz.isAgg113
  z164 := Tryz.sizeOf113
  v164 := Tryz.zeroValue113 }
theorem Tryz.extraJoin : Builder.Extra Tryz.prog Tryz.laysJoin_ren where
  sizeBuilder := by kernel_rfl
  liesBuilder := by kernel_rfl
  t5 := Tryz.underlying5
  a5 := Tryz.isAgg5
  z5 := Tryz.sizeOf5
  v5 := Tryz.zeroValue5
  infoByte := by kernel_rfl
  cellsByte := by kernel_rfl
  sizeByte := by kernel_rfl
  neB5 := by decide
end Go.Proofs
namespace Go.Proofs.YtepankcnleeakaaGreatDoor.Ab
open Go Go.RowKit
set_option maxRecDepth 20000
set_option maxHeartbeats 4000000
set_option linter.unusedVariables false
def strsOf : List SV → Option (List (List UInt8))
  | [] => some []
  | .str x :: l => match strsOf l with
    | some r => some (x :: r)
    | none => none
  | _ => none
theorem strsOf_spec : ∀ {l : List SV} {r : List (List UInt8)}, strsOf l = some r → l = r.map SV.str
  | [], r, h => by cases h; rfl
  | .str x :: l, r, h => by
    unfold strsOf at h
    split at h
    · rename_i r' hr
      cases h
      rw [List.map_cons, ← strsOf_spec hr]
    · cases h
  | .bool _ :: _, _, h => by cases h
  | .int _ _ :: _, _, h => by cases h
  | .ptr _ _ :: _, _, h => by cases h
  | .nilPtr :: _, _, h => by cases h
  | .slice .. :: _, _, h => by cases h
  | .nilSlice :: _, _, h => by cases h
  | .func .. :: _, _, h => by cases h
  | .nilFunc :: _, _, h => by cases h
  | .iface .. :: _, _, h => by cases h
  | .nilIface :: _, _, h => by cases h
  | .lst _ :: _, _, h => by cases h
  | .fptr .. :: _, _, h => by cases h
  | .emp :: _, _, h => by cases h
  | .map _ :: _, _, h => by cases h
  | .nilMap :: _, _, h => by cases h
  | .meth .. :: _, _, h => by cases h
theorem strs_inv {ρ : Loc} : ∀ {l : List (List UInt8)} {vs : List Value}, SRs ρ (l.map SV.str) vs → vs = l.map fun x => Value.string ⟨x.toArray⟩
  | [], vs, h => by cases h; rfl
  | x :: l, vs, h => by
    cases h with
    | cons h t =>
      cases h
      rw [strs_inv t]
      rfl
def pJoin : Prim := fun args σ => match args with
  | [.one (.slice id off 1 (n + 1) cap), .one (.str sep)] => match σ.get id with
    | some ⟨cs, .own⟩ => match strsOf ((cs.drop off).take (n + 1)) with
      | some xs => match Nat.beq xs.length (n + 1) && Nat.ble (n + 1) 16777216 && Nat.ble (Lib.join xs sep).length 1000000000 with
        | true => some (.one (.str (Lib.join xs sep)), σ)
        | false => none
      | none => none
    | _ => none
  | [.one .nilSlice, .one (.str _)] => some (.one (.str []), σ)
  | _ => none
theorem primOk_join : PrimOk Tryz.prog 19 pJoin := by
  intro args σ v σ' hp
  unfold pJoin at hp
  split at hp
  · rename_i id off n cap sep
    split at hp
    · rename_i cs hg
      split at hp
      · rename_i xs hxs
        split at hp
        · rename_i hb
          cases hp
          simp only [Bool.and_eq_true, Nat.ble_eq] at hb
          obtain ⟨⟨hb1, hb2⟩, hb3⟩ := hb
          have hb1 := Nat.eq_of_beq_eq_true hb1
          refine ⟨⟨_, Tryz.func19, by decide, rfl⟩, fun ρ w vs hv hr => ?_⟩
          cases hv with
          | cons h1 h2 =>
            cases h2 with
            | cons h2 h3 =>
              cases h3
              cases h1 with
              | one h1 =>
                cases h2 with
                | one h2 =>
                  cases h2
                  cases h1 with
                  | slice hB e1 e2 e3 e4 e5 =>
                    rename_i c B
                    obtain ⟨o', k1, k2, k3⟩ := hr.dom id B hB
                    rw [hg] at k1
                    cases k1
                    obtain ⟨vs', q1, q2⟩ := k2.holds (fun h => by cases h)
                    have q3 := (q1.drop off).take (n + 1)
                    rw [strsOf_spec hxs] at q3
                    have q4 := strs_inv q3
                    have hlen : (xs.map fun x => (⟨x.toArray⟩ : ByteArray)).length = n + 1 := by rw [List.length_map]; exact hb1
                    have hdat : (xs.map fun x => (⟨x.toArray⟩ : ByteArray)).map (·.data.toList) = xs := by
                      rw [List.map_map]
                      conv => rhs; rw [← List.map_id xs]
                      rfl
                    have hcall := Any.strings_Join Tryz.laysJoin Tryz.extraJoin B.b (B.base + off) c (xs.map fun x => (⟨x.toArray⟩ : ByteArray)) ⟨sep.toArray⟩ w ?_ k3 (by rw [hlen]; omega) (by rw [hlen]; exact e1) (by rw [hdat]; show (Lib.join xs sep).length ≤ _; omega)
                    · rw [hlen, hdat] at hcall
                      refine Calls.mono hcall ?_
                      rintro e w1 ⟨rfl, hw⟩
                      exact ⟨_, ρ, rfl, Post.ofBelow hr hw, .one (.str _)⟩
                    · intro j x hx
                      rw [List.getElem?_map] at hx
                      obtain ⟨y, hy, rfl⟩ := Option.map_eq_some_iff.1 hx
                      have hj : j < n + 1 := by rw [← hb1]; exact (List.getElem?_eq_some_iff.1 hy).1
                      have h5 : ((vs'.drop off).take (n + 1))[j]? = some (.string ⟨y.toArray⟩) := by rw [q4, List.getElem?_map, hy]; rfl
                      rw [List.getElem?_take, if_pos hj, List.getElem?_drop] at h5
                      have := q2 _ _ h5
                      rwa [← Nat.add_assoc] at this
        · cases hp
      · cases hp
    · cases hp
  · cases hp
    refine ⟨⟨_, Tryz.func19, by decide, rfl⟩, fun ρ w vs hv hr => ?_⟩
    cases hv with
    | cons h1 h2 =>
      cases h2 with
      | cons h2 h3 =>
        cases h3
        cases h1 with
        | one h1 =>
          cases h1
          cases h2 with
          | one h2 =>
            cases h2
            rename_i sep
            refine Calls.mono (Any.strings_Join_none Tryz.laysJoin Tryz.extraJoin none 0 ⟨sep.toArray⟩ w) ?_
            rintro e w1 ⟨rfl, rfl⟩
            exact ⟨_, ρ, rfl, Post.refl hr, .one (.str _)⟩
  · cases hp
end Go.Proofs.YtepankcnleeakaaGreatDoor.Ab
