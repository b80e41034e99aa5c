/- The library's Atoi at digits, laid as one step: the number, or an error beside the greatest int. -/
import Derived.Test.YtepankcnleeakaaGreatDoorLxF
import Derived.Shelf.Strconv.AtoiAll
namespace Go.Proofs
open Go.Shelf Go.RowKit Go.Lib
def Tryz.laysAtoi_ren : Go.Shelf.Ren := ⟨fun | 172 => 60 | 244 => 91 | 245 => 92 | 247 => 115 | 279 => 116 | 280 => 117 | 281 => 118 | 282 => 119 | 287 => 135 | 316 => 136 | 171 => 25 | 205 => 137 | 321 => 145 | 322 => 146 | 243 => 48 | 246 => 73 | 283 => 103 | 284 => 104 | 285 => 105 | 286 => 106 | 129 => 129 | 317 => 128 | 318 => 130 | 319 => 131 | 320 => 132 | 337 => 140 | 338 => 141 | n => n, fun | 9 => 9 | 3 => 3 | 75 => 62 | 76 => 63 | 4 => 4 | 5 => 5 | 167 => 153 | 37 => 37 | 0 => 0 | 85 => 154 | 2 => 2 | 168 => 156 | 53 => 85 | 175 => 173 | 46 => 117 | 210 => 176 | 127 => 83 | 145 => 186 | 143 => 184 | 21 => 21 | 171 => 141 | 173 => 144 | 212 => 165 | 51 => 77 | 20 => 20 | 213 => 166 | 232 => 187 | 233 => 188 | 80 => 65 | n => n, fun | 15 => 7 | 16 => 8 | 17 => 5 | 18 => 9 | 19 => 10 | n => n⟩
theorem Tryz.laysAtoi : Go.Proofs.LaysC.n172 Tryz.prog Tryz.laysAtoi_ren := {
  mixed := by kernel_rfl
  f129 := Tryz.func129.trans (congrArg some (by kernel_rfl))
  f171 := Tryz.func25.trans (congrArg some (by kernel_rfl))
  f172 := Tryz.func60.trans (congrArg some (by kernel_rfl))
  f205 := Tryz.func137.trans (congrArg some (by kernel_rfl))
  f243 := Tryz.func48.trans (congrArg some (by kernel_rfl))
  f244 := Tryz.func91.trans (congrArg some (by kernel_rfl))
  f245 := Tryz.func92.trans (congrArg some (by kernel_rfl))
  f246 := Tryz.func73.trans (congrArg some (by kernel_rfl))
  f247 := Tryz.func115.trans (congrArg some (by kernel_rfl))
  f279 := Tryz.func116.trans (congrArg some (by kernel_rfl))
  f280 := Tryz.func117.trans (congrArg some (by kernel_rfl))
  f281 := Tryz.func118.trans (congrArg some (by kernel_rfl))
  f282 := Tryz.func119.trans (congrArg some (by kernel_rfl))
  f283 := Tryz.func103.trans (congrArg some (by kernel_rfl))
  f284 := Tryz.func104.trans (congrArg some (by kernel_rfl))
  f285 := Tryz.func105.trans (congrArg some (by kernel_rfl))
  f286 := Tryz.func106.trans (congrArg some (by kernel_rfl))
  f287 := Tryz.func135.trans (congrArg some (by kernel_rfl))
  f316 := Tryz.func136.trans (congrArg some (by kernel_rfl))
  f317 := Tryz.func128.trans (congrArg some (by kernel_rfl))
  f318 := Tryz.func130.trans (congrArg some (by kernel_rfl))
  f319 := Tryz.func131.trans (congrArg some (by kernel_rfl))
  f320 := Tryz.func132.trans (congrArg some (by kernel_rfl))
  f321 := Tryz.func145.trans (congrArg some (by kernel_rfl))
  f322 := Tryz.func146.trans (congrArg some (by kernel_rfl))
  f337 := Tryz.func140.trans (congrArg some (by kernel_rfl))
  f338 := Tryz.func141.trans (congrArg some (by kernel_rfl))
  t0 := Tryz.underlying0
  a0 := Tryz.isAgg0
  z0 := Tryz.sizeOf0
  v0 := Tryz.zeroValue0
  t2 := Tryz.underlying2
  a2 := Tryz.isAgg2
  z2 := Tryz.sizeOf2
  v2 := Tryz.zeroValue2
  t3 := Tryz.underlying3
  a3 := Tryz.isAgg3
  z3 := Tryz.sizeOf3
  v3 := Tryz.zeroValue3
  t4 := Tryz.underlying4
  a4 := Tryz.isAgg4
  z4 := Tryz.sizeOf4
  v4 := Tryz.zeroValue4
  t5 := Tryz.underlying5
  a5 := Tryz.isAgg5
  z5 := Tryz.sizeOf5
  v5 := Tryz.zeroValue5
  t9 := Tryz.underlying9
  a9 := Tryz.isAgg9
  z9 := Tryz.sizeOf9
  v9 := Tryz.zeroValue9
  t20 := Tryz.underlying20
  a20 := Tryz.isAgg20
  z20 := Tryz.sizeOf20
  v20 := Tryz.zeroValue20
  t21 := Tryz.underlying21
  a21 := Tryz.isAgg21
  z21 := Tryz.sizeOf21
  v21 := Tryz.zeroValue21
  t37 := Tryz.underlying37
  a37 := Tryz.isAgg37
  z37 := Tryz.sizeOf37
  v37 := Tryz.zeroValue37
  t46 := Tryz.underlying117
  a46 := Tryz.isAgg117
  z46 := Tryz.sizeOf117
  v46 := Tryz.zeroValue117
  t51 := Tryz.underlying77
  a51 := Tryz.isAgg77
  z51 := Tryz.sizeOf77
  v51 := Tryz.zeroValue77
  t53 := Tryz.underlying85
  a53 := Tryz.isAgg85
  z53 := Tryz.sizeOf85
  v53 := Tryz.zeroValue85
  t75 := Tryz.underlying62
  a75 := Tryz.isAgg62
  z75 := Tryz.sizeOf62
  v75 := Tryz.zeroValue62
  t76 := Tryz.underlying63
  a76 := Tryz.isAgg63
  z76 := Tryz.sizeOf63
  v76 := Tryz.zeroValue63
  t85 := Tryz.underlying154
  a85 := Tryz.isAgg154
  z85 := Tryz.sizeOf154
  v85 := Tryz.zeroValue154
  t127 := Tryz.underlying83
  a127 := Tryz.isAgg83
  z127 := Tryz.sizeOf83
  v127 := Tryz.zeroValue83
  t143 := Tryz.underlying184
  a143 := Tryz.isAgg184
  z143 := Tryz.sizeOf184
  v143 := Tryz.zeroValue184
  t145 := Tryz.underlying186
  a145 := Tryz.isAgg186
  z145 := Tryz.sizeOf186
  v145 := Tryz.zeroValue186
  t167 := Tryz.underlying153
  a167 := Tryz.isAgg153
  z167 := Tryz.sizeOf153
  v167 := Tryz.zeroValue153
  t168 := Tryz.underlying156
  a168 := Tryz.isAgg156
  z168 := Tryz.sizeOf156
  v168 := Tryz.zeroValue156
  t171 := Tryz.underlying141
  a171 := Tryz.isAgg141
  z171 := Tryz.sizeOf141
  v171 := Tryz.zeroValue141
  t173 := Tryz.underlying144
  a173 := Tryz.isAgg144
  z173 := Tryz.sizeOf144
  v173 := Tryz.zeroValue144
  t175 := Tryz.underlying173
  a175 := Tryz.isAgg173
  z175 := Tryz.sizeOf173
  v175 := Tryz.zeroValue173
  t210 := Tryz.underlying176
  a210 := Tryz.isAgg176
  z210 := Tryz.sizeOf176
  v210 := Tryz.zeroValue176
  t212 := Tryz.underlying165
  a212 := Tryz.isAgg165
  z212 := Tryz.sizeOf165
  v212 := Tryz.zeroValue165
  t213 := Tryz.underlying166
  a213 := Tryz.isAgg166
  z213 := Tryz.sizeOf166
  t232 := Tryz.underlying187
  a232 := Tryz.isAgg187
  z232 := Tryz.sizeOf187
  v232 := Tryz.zeroValue187
  t233 := Tryz.underlying188
  a233 := Tryz.isAgg188
  z233 := Tryz.sizeOf188
  v233 := Tryz.zeroValue188
  g15 := by kernel_rfl
  g16 := by kernel_rfl
  g17 := by kernel_rfl
  g18 := by kernel_rfl
  g19 := by kernel_rfl
  t80 := Tryz.underlying65
  a80 := Tryz.isAgg65
  z80 := Tryz.sizeOf65
  v80 := Tryz.zeroValue65
  i0 := by kernel_rfl
  i2 := by kernel_rfl
  i3 := by kernel_rfl
  i4 := by kernel_rfl
  i5 := by kernel_rfl
  i9 := by kernel_rfl
  i20 := by kernel_rfl
  i21 := by kernel_rfl
  i37 := by kernel_rfl
  i46 := by kernel_rfl
  i51 := by kernel_rfl
  i53 := by kernel_rfl
  i75 := by kernel_rfl
  i76 := by kernel_rfl
  i80 := by kernel_rfl
  i85 := by kernel_rfl
  i127 := by kernel_rfl
  i143 := by kernel_rfl
  i145 := by kernel_rfl
  i167 := by kernel_rfl
  i168 := by kernel_rfl
  i171 := by kernel_rfl
  i173 := by kernel_rfl
  i175 := by kernel_rfl
  i210 := by kernel_rfl
  i212 := by kernel_rfl
  i232 := by kernel_rfl
  i233 := by kernel_rfl
  m15 := by kernel_rfl
  m16 := by kernel_rfl
  m17 := by kernel_rfl
  m18 := by kernel_rfl
  m19 := by kernel_rfl
  c0 := by kernel_rfl
  c2 := by kernel_rfl
  c3 := by kernel_rfl
  c4 := by kernel_rfl
  c5 := by kernel_rfl
  c9 := by kernel_rfl
  c20 := by kernel_rfl
  c21 := by kernel_rfl
  c37 := by kernel_rfl
  c46 := by kernel_rfl
  c51 := by kernel_rfl
  c53 := by kernel_rfl
  c75 := by kernel_rfl
  c76 := by kernel_rfl
  c80 := by kernel_rfl
  c85 := by kernel_rfl
  c127 := by kernel_rfl
  c143 := by kernel_rfl
  c145 := by kernel_rfl
  c167 := by kernel_rfl
  c168 := by kernel_rfl
  c171 := by kernel_rfl
  c173 := by kernel_rfl
  c175 := by kernel_rfl
  c210 := by kernel_rfl
  c212 := by kernel_rfl
  c213 := by kernel_rfl
  c232 := by kernel_rfl
  c233 := by kernel_rfl }
end Go.Proofs
namespace Go.Proofs.YtepankcnleeakaaGreatDoor.Ab
open Go Go.RowKit
set_option maxRecDepth 20000
set_option maxHeartbeats 4000000
theorem Post.ofBelowNew {ρ : Loc} {σ : AHeap} {w w1 : World} (hr : HR ρ σ.get w) (h : Below w.heap.size w w1) {N : Nat} (hN : w.heap.size ≤ N) (hN2 : N < w1.heap.size) :
    Post ρ σ w (ρ.upd σ.size ⟨N, 0, 0, 0⟩) (σ.alloc ⟨[], .dead⟩) w1 := by
  have hp := Post.ofBelow hr h
  have hnone : ρ σ.size = none := hr.none_size (Nat.le_refl _)
  have hle := Loc.le_upd hnone (B := ⟨N, 0, 0, 0⟩)
  have hlt : ∀ i B', (ρ.upd σ.size ⟨N, 0, 0, 0⟩) i = some B' → i ≠ σ.size → ρ i = some B' ∧ i < σ.size := by
    intro i B' hB hi
    rw [Loc.upd_at, if_neg hi] at hB
    exact ⟨hB, hr.lt hB⟩
  have hself : ∀ B', (ρ.upd σ.size ⟨N, 0, 0, 0⟩) σ.size = some B' → B' = ⟨N, 0, 0, 0⟩ := by
    intro B' hB
    rw [Loc.upd_at, if_pos rfl] at hB
    cases hB
    rfl
  have howned : ∀ b, Owned (ρ.upd σ.size ⟨N, 0, 0, 0⟩) (σ.alloc ⟨[], .dead⟩).get b → Owned ρ σ.get b := by
    rintro b ⟨id, B', o', k1, k2, k3, k4⟩
    by_cases e : id = σ.size
    · subst e
      rw [AHeap.get_alloc, if_pos rfl] at k2
      cases k2
      cases k3
    · rw [AHeap.get_alloc, if_neg e] at k2
      exact ⟨id, B', o', (hlt id B' k1 e).1, k2, k3, k4⟩
  exact {
    le := hle
    size := by simp [AHeap.size_alloc]
    new := fun id h1 h2 => by
      have : id = σ.size := by rw [AHeap.size_alloc] at h2; omega
      subst this
      exact ⟨_, by rw [Loc.upd_at, if_pos rfl]⟩
    old := fun id hid => by rw [Loc.upd_at, if_neg (by omega)]
    dom := fun id B hB => by
      rw [AHeap.size_alloc]
      by_cases e : id = σ.size
      · omega
      · have := (hlt id _ hB e).2; omega
    same := fun id h1 h2 => by rw [AHeap.get_alloc, if_neg (by omega)]
    md := fun id B o' h1 h2 h3 => by
      have := hr.lt h1
      rw [AHeap.get_alloc, if_neg (by omega)] at h2
      exact ⟨o', h2, h3⟩
    md' := fun id B o h1 h2 h3 => by
      have := hr.lt h1
      exact ⟨o, by rw [AHeap.get_alloc, if_neg (by omega)]; exact h2, h3⟩
    hr := {
      dom := fun id B' hB => by
        by_cases e : id = σ.size
        · subst e
          have := hself B' hB
          subst this
          exact ⟨_, by rw [AHeap.get_alloc, if_pos rfl], .dead rfl rfl (by simp), hN2⟩
        · obtain ⟨k1, k2⟩ := hlt id B' hB e
          obtain ⟨o, h1, h2, h3⟩ := hp.hr.dom id B' k1
          exact ⟨o, by rw [AHeap.get_alloc, if_neg e]; exact h1, h2.of_heap hle rfl, h3⟩
      excl := fun i j B1 B2 o1 o2 h1 h2 h3 h4 hne h5 h6 => by
        by_cases e : i = σ.size
        · subst e
          rw [AHeap.get_alloc, if_pos rfl] at h3
          cases h3
          cases h5
        · by_cases e' : j = σ.size
          · subst e'
            rw [AHeap.get_alloc, if_pos rfl] at h4
            cases h4
            exact absurd rfl h6
          · rw [AHeap.get_alloc, if_neg e] at h3
            rw [AHeap.get_alloc, if_neg e'] at h4
            exact hp.hr.excl i j B1 B2 o1 o2 (hlt i B1 h1 e).1 (hlt j B2 h2 e').1 h3 h4 hne h5 h6
      frz := fun b o v hv => ⟨(hp.hr.frz b o v hv).1, fun ho => (hp.hr.frz b o v hv).2 (howned b ho)⟩
      gl := hr.gl
      rows := hp.hr.rows }
    hsize := h.size
    frame := hp.frame
    fresh := fun id B' h1 h2 => by
      by_cases e : id = σ.size
      · subst e
        have := hself B' h2
        subst this
        exact .inl hN
      · have := (hlt id B' h2 e).2; omega
    fz := fun _ _ _ h => .inl h
    os := h.os
    tape := h.tape
    output := h.output }
def foldV (acc : Nat) (l : List UInt8) : Nat := l.foldl (fun n c => n * 10 + (c.toNat - 48)) acc
theorem foldV_ge : ∀ (l : List UInt8) (acc : Nat), acc ≤ foldV acc l
  | [], acc => Nat.le_refl _
  | c :: l, acc => by
    have := foldV_ge l (acc * 10 + (c.toNat - 48))
    show acc ≤ foldV (acc * 10 + (c.toNat - 48)) l
    omega
theorem parse_val : ∀ (l : List UInt8) (acc : Nat), acc < 18446744073709551616 → (∀ c ∈ l, digB c = true) → Lib.parseUint10 acc l = if foldV acc l < 18446744073709551616 then .ok (foldV acc l) else .range
  | [], acc, h, _ => by simp [Lib.parseUint10, foldV, h]
  | c :: l, acc, h, hl => by
    have hc := hl c (by simp)
    unfold digB at hc
    simp only [Bool.and_eq_true, decide_eq_true_eq] at hc
    have hf : foldV acc (c :: l) = foldV (acc * 10 + (c.toNat - 48)) l := rfl
    have hge := foldV_ge l (acc * 10 + (c.toNat - 48))
    unfold Lib.parseUint10
    rw [if_pos hc, hf]
    by_cases h1 : 1844674407370955162 ≤ acc
    · rw [if_pos h1, if_neg (by omega)]
    · rw [if_neg h1]
      by_cases h2 : 18446744073709551616 ≤ acc * 10 + (c.toNat - 48)
      · rw [if_pos h2, if_neg (by omega)]
      · rw [if_neg h2]
        exact parse_val l _ (by omega) (fun c hc => hl c (by simp [hc]))
theorem atoi_val {l : List UInt8} (h0 : l ≠ []) (hl : ∀ c ∈ l, digB c = true) : Lib.atoiAll l = if valF l ≤ mostN then .ok (valF l : Int) else .range := by
  match l, h0 with
  | c :: r, _ =>
    have hc := hl c (by simp)
    unfold digB at hc
    simp only [Bool.and_eq_true, decide_eq_true_eq] at hc
    have hv : valF (c :: r) = foldV 0 (c :: r) := rfl
    rw [Lib.atoiAll_plain c r (by omega) (by omega)]
    unfold Lib.parseMag
    rw [if_neg (by simp), parse_val _ _ (by omega) hl, ← hv]
    unfold mostN Lib.signless
    by_cases h1 : valF (c :: r) < 18446744073709551616
    · rw [if_pos h1]
      by_cases h2 : valF (c :: r) ≤ 9223372036854775807
      · rw [if_pos h2]
        simp only
        rw [if_neg (by omega)]
      · rw [if_neg h2]
        simp only
        rw [if_pos (by omega)]
    · rw [if_neg h1, if_neg (by omega)]
theorem sat_val {l : List UInt8} (h0 : l ≠ []) (hl : ∀ c ∈ l, digB c = true) : Lib.atoiSat l = 9223372036854775807 := by
  match l, h0 with
  | c :: r, _ =>
    have hc := hl c (by simp)
    unfold digB at hc
    simp only [Bool.and_eq_true, decide_eq_true_eq] at hc
    exact Lib.atoiSat_other c r (by omega)
def digsB (s : List UInt8) : Bool := !s.isEmpty && s.all digB && Nat.ble s.length 1099511627776
def pAtoi : Prim := fun args σ => match args with
  | [.one (.str s)] => match digsB s with
    | true => match Nat.ble (valF s) mostN with
      | true => some (.tup [.one (.int .i64 (valF s)), .one .nilIface], σ)
      | false => some (.tup [.one (.int .i64 9223372036854775807), .one (.iface (Tryz.laysAtoi_ren.t 168) false [.ptr σ.size 0])], σ.alloc ⟨[], .dead⟩)
    | false => none
  | _ => none
theorem anyRange : globAny (Tryz.laysAtoi_ren.g 16) = some none := by kernel_rfl
theorem primOk_atoi : PrimOk Tryz.prog 60 pAtoi := by
  intro args σ v σ' hp
  unfold pAtoi at hp
  split at hp
  · rename_i s
    split at hp
    · rename_i hb
      simp only [digsB, Bool.and_eq_true, Bool.not_eq_true', List.all_eq_true, Nat.ble_eq] at hb
      obtain ⟨⟨h0, hd⟩, hlen⟩ := hb
      have h0 : s ≠ [] := by simpa using h0
      have hav := atoi_val h0 hd
      have hsize : (⟨s.toArray⟩ : ByteArray).size = s.length := by
        show s.toArray.size = _
        rw [List.size_toArray]
      refine ⟨⟨_, Tryz.func60, by decide, rfl⟩, fun ρ w vs hv hr => ?_⟩
      cases hv with
      | cons h1 h2 =>
        cases h2
        cases h1 with
        | one h1 =>
          cases h1
          split at hp
          · rename_i hm
            cases hp
            rw [Nat.ble_eq] at hm
            rw [if_pos hm] at hav
            refine Calls.mono (Any.strconv_Atoi_ok Tryz.laysAtoi ⟨s.toArray⟩ (by rw [hsize]; omega) _ hav w) ?_
            rintro e w1 ⟨rfl, hw⟩
            have hbel : Below w.heap.size w w1 := by
              rcases hw with rfl | ⟨t, rfl⟩
              · exact Below.refl _ _
              · exact Lib.bytesWorld_below _ _ _
            exact ⟨_, ρ, rfl, Post.ofBelow hr hbel, .tup (.cons (.one (.int _ _)) (.cons (.one .nilIface) .nil))⟩
          · rename_i hm
            cases hp
            have hm' : ¬ valF s ≤ mostN := by
              intro h
              rw [Nat.ble_eq_true_of_le h] at hm
              cases hm
            rw [if_neg hm'] at hav
            obtain ⟨ev, hev, hfz⟩ := hr.gl.any _ _ anyRange
            have hcell := (hr.frz _ _ _ hfz).1
            refine Calls.mono (Any.strconv_Atoi_range Tryz.laysAtoi ⟨s.toArray⟩ (by rw [hsize]; omega) hav ev w hcell hev) ?_
            rintro e w1 ⟨N, rfl, hN, hNb, hbel⟩
            have hN2 : N < w1.heap.size := (Array.getElem?_eq_some_iff.1 hNb).1
            refine ⟨_, _, rfl, Post.ofBelowNew hr hbel hN hN2, ?_⟩
            have hs := sat_val h0 hd
            refine .tup (.cons ?_ (.cons ?_ .nil))
            · show VR _ _ (.int .i64 (Lib.atoiSat s))
              rw [hs]
              exact .one (.int _ _)
            · exact .one (.iface1 (.ptr (B := ⟨N, 0, 0, 0⟩) (by rw [Loc.upd_at, if_pos rfl])))
    · cases hp
  · cases hp
end Go.Proofs.YtepankcnleeakaaGreatDoor.Ab
