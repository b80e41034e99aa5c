/- The operations that came later: interface values, maps, methods of interfaces. -/
import Derived.Test.YtcgpkmjimncbmaaAbA
import Derived.MapKept
namespace Go.Proofs.Ytcgpkmjimncbmaa.Ab
open Go
set_option linter.unusedSimpArgs false
set_option linter.unusedVariables false

section
variable {P : Program} {ρ : Loc}

theorem tZeroV_info {t : TypeId} {z : AV} (h : tZeroV P t = some z) : ∃ v, (∀ w, (zeroValue t).run P w = .ok v w) ∧ ∀ ρ, VR ρ z v := by
  unfold tZeroV at h
  split at h
  · rename_i i hi
    split at h
    · rename_i v hv
      split at h
      · cases h
      · rename_i a ha
        cases h
        exact ⟨v, fun w => by simp [zeroValue, typeInfo, hi, hv], fun ρ => absV_rel ha⟩
      · cases h
    · cases h
  · cases h

/-! ### keys -/
def KK.desc : KK → TypeDesc
  | .bool => .bool
  | .int k => .int k
  | .str => .string

theorem mapKV_info {t e : TypeId} {ek : KK} (h : mapKV P t = some (ek, e)) : ∃ k, P.underlying t = some (.map k e) ∧ P.underlying k = some ek.desc := by
  unfold mapKV at h
  split at h
  · rename_i k e' ht
    split at h <;> cases h <;> exact ⟨k, ht, by assumption⟩
  · cases h

theorem keyIs_rel {ek : KK} {s : SV} {v : Value} (h : keyIs ek s = true) (hs : SR ρ s v) : MapKept.IsKey ek.desc v := by
  cases ek <;> cases s <;> simp [keyIs] at h <;> cases hs <;> simp [MapKept.IsKey, KK.desc, h]

theorem bytes_sing (a b : List UInt8) : ((⟨a.toArray⟩ : ByteArray) == ⟨b.toArray⟩) = beqL a b := by
  rw [beqL_eq]
  show (a.toArray == b.toArray) = (a == b)
  simp

theorem keyEq_rel {ek : KK} {s s' : SV} {v v' : Value} {b : Bool} (hk : keyIs ek s = true) (h : keyEq s s' = some b) (hs : SR ρ s v) (hs' : SR ρ s' v') : Instr.sameNow ek.desc v v' = some b ∧ (b = true → v = v') := by
  unfold keyEq at h
  split at h
  · rename_i k a k' a'
    cases ek <;> simp [keyIs] at hk
    subst hk
    split at h
    · rename_i hkk
      cases h
      have hkk : k = k' := by simpa using hkk
      subst hkk
      cases hs; cases hs'
      refine ⟨?_, fun h => ?_⟩
      · simp only [Instr.sameNow, KK.desc, if_true]
        congr 1
      · have : a = a' := by simpa using h
        rw [this]
    · cases h
  · cases h
    rename_i a a'
    cases ek <;> simp [keyIs] at hk
    cases hs; cases hs'
    refine ⟨?_, fun h => ?_⟩
    · simp only [Instr.sameNow, KK.desc]
      congr 1
      exact bytes_sing a a'
    · rw [beqL_eq] at h
      have : a = a' := by simpa using h
      rw [this]
  · cases h
    rename_i a a'
    cases ek <;> simp [keyIs] at hk
    cases hs; cases hs'
    refine ⟨by simp [Instr.sameNow, KK.desc], fun h => ?_⟩
    have : a = a' := by simpa using h
    rw [this]
  · cases h

theorem EntR.get {l : List Ent} {es : List MapEntry} (h : EntR ρ l es) : ∀ {i : Nat} {a : Ent}, l[i]? = some a → ∃ e, es[i]? = some e ∧ e.born = a.born ∧ SR ρ a.key e.key ∧ VR ρ a.val e.val := by
  induction h with
  | nil => intro i a h; cases h
  | cons hb hk hv _ ih =>
    intro i a h
    cases i with
    | zero => simp at h; subst h; exact ⟨_, rfl, hb, hk, hv⟩
    | succ i => simp at h; simpa using ih h

theorem EntR.length {l : List Ent} {es : List MapEntry} (h : EntR ρ l es) : l.length = es.length := by
  induction h with
  | nil => rfl
  | cons _ _ _ _ ih => simp [ih]

theorem EntR.append {l m : List Ent} {es fs : List MapEntry} (h : EntR ρ l es) (k : EntR ρ m fs) : EntR ρ (l ++ m) (es ++ fs) := by
  induction h with
  | nil => exact k
  | cons hb hk hv _ ih => exact .cons hb hk hv ih

theorem EntR.erase {l : List Ent} {es : List MapEntry} (h : EntR ρ l es) : ∀ i, EntR ρ (l.eraseIdx i) (es.eraseIdx i) := by
  induction h with
  | nil => intro i; exact .nil
  | cons hb hk hv t ih =>
    intro i
    cases i with
    | zero => exact t
    | succ i => exact .cons hb hk hv (ih i)

theorem EntR.set {l : List Ent} {es : List MapEntry} (h : EntR ρ l es) : ∀ {i : Nat} {a : Ent} {e : MapEntry}, e.born = a.born → SR ρ a.key e.key → VR ρ a.val e.val → EntR ρ (l.set i a) (es.set i e) := by
  induction h with
  | nil => intro i a e _ _ _; exact .nil
  | cons hb hk hv t ih =>
    intro i a e h1 h2 h3
    cases i with
    | zero => exact .cons h1 h2 h3 t
    | succ i => exact .cons hb hk hv (ih h1 h2 h3)

theorem findE_rel {ek : KK} {s : SV} {v : Value} (hk : keyIs ek s = true) (hs : SR ρ s v) {l : List Ent} {es : List MapEntry} (h : EntR ρ l es) : ∀ {i : Nat} {r : Option (Nat × Ent)}, findE s l i = some r →
    match r with
    | none => Instr.findNow ek.desc v es i = some none
    | some (j, a) => ∃ d e, j = i + d ∧ l[d]? = some a ∧ es[d]? = some e ∧ Instr.findNow ek.desc v es i = some (some (j, e.val)) ∧ e.key = v ∧ e.born = a.born ∧ SR ρ a.key e.key ∧ VR ρ a.val e.val := by
  induction h with
  | nil => intro i r h; cases h; rfl
  | cons hb hk' hv t ih =>
    intro i r h
    rename_i a e l' es'
    simp only [findE] at h
    split at h
    · rename_i heq
      cases h
      obtain ⟨h1, h2⟩ := keyEq_rel hk heq hs hk'
      exact ⟨0, e, rfl, rfl, rfl, by simp [Instr.findNow, h1], (h2 rfl).symm, hb, hk', hv⟩
    · rename_i heq
      obtain ⟨h1, _⟩ := keyEq_rel hk heq hs hk'
      have := ih h
      cases r with
      | none => simp only [Instr.findNow, h1]; exact this
      | some p =>
        obtain ⟨d, e', q1, q2, q3, q4, q5⟩ := this
        exact ⟨d + 1, e', by omega, by simpa using q2, by simpa using q3, by simp only [Instr.findNow, h1]; exact q4, q5⟩
    · cases h

theorem findB_rel {b : Nat} {l : List Ent} {es : List MapEntry} (h : EntR ρ l es) : ∀ {i j : Nat} {a : Ent}, findB b l i = some (j, a) →
    ∃ d e, j = i + d ∧ l[d]? = some a ∧ es[d]? = some e ∧ es.findIdx? (fun e => (e.born : Int) == (b : Int)) = some d ∧ e.born = a.born ∧ SR ρ a.key e.key ∧ VR ρ a.val e.val := by
  induction h with
  | nil => intro i j a h; cases h
  | cons hb hk hv t ih =>
    intro i j a' h
    rename_i a e l' es'
    simp only [findB] at h
    split at h
    · rename_i heq
      cases h
      have : a.born = b := Nat.eq_of_beq_eq_true heq
      exact ⟨0, e, rfl, rfl, rfl, by simp [List.findIdx?_cons, hb, this], hb, hk, hv⟩
    · rename_i heq
      obtain ⟨d, e', q1, q2, q3, q4, q5⟩ := ih h
      have hne : ¬ a.born = b := fun x => by subst x; simp at heq
      have : ((e.born : Int) == (b : Int)) = false := by
        rw [hb]
        simp only [beq_eq_false_iff_ne, ne_eq]
        omega
      exact ⟨d + 1, e', by omega, by simpa using q2, by simpa using q3, by simp [List.findIdx?_cons, this, q4], q5⟩

/-! ### a map's object -/
theorem HR.mapAt {σ : AHeap} {w : World} (hr : HR ρ σ.get w) {id : Nat} {B : Blk} {cs : List SV} {c : Nat} {es : List Ent} (hB : ρ id = some B) (hg : σ.get id = some ⟨cs, .map c es⟩) :
    ∃ ents, w.heap[B.b]? = some (.map ents c) ∧ EntR ρ es ents.toList := by
  obtain ⟨o, h1, h2, h3⟩ := hr.dom id B hB
  rw [hg] at h1; cases h1
  exact h2.mp c es rfl

/-- A map's object is written. -/
theorem Post.mapPut {σ : AHeap} {w : World} (hr : HR ρ σ.get w) {id : Nat} {B : Blk} {cs : List SV} {c c' : Nat} {es es' : List Ent} {en en' : Array MapEntry} (hB : ρ id = some B) (hg : σ.get id = some ⟨cs, .map c es⟩)
    (hh : w.heap[B.b]? = some (.map en c)) (hn : EntR ρ es' en'.toList) : Post ρ σ w ρ (σ.put id ⟨cs, .map c' es'⟩) { w with heap := w.heap.setIfInBounds B.b (.map en' c') } := by
  obtain ⟨o, h1, h2, h3⟩ := hr.dom id B hB
  rw [hg] at h1; cases h1
  obtain ⟨q1, q2⟩ := MapKept.heap_set (o' := .map en' c') hh
  refine Post.putG hr hB hg rfl ⟨h2.len, h2.fit, fun _ => ?_, fun h => (by cases h), fun c es h => ?_⟩ q2 (by simp) rfl rfl rfl
  · obtain ⟨vs, k1, k2⟩ := h2.holds (by simp)
    refine ⟨vs, k1, fun j v hj => ?_⟩
    have := k2 j v hj
    unfold World.cell? at this
    simp only [hh] at this
    cases this
  · cases h
    exact ⟨en', q1, hn⟩

theorem okRes_rel {ok : Bool} {v : AV} {u : Value} {b : Bool} (h : VR ρ v u) : VR ρ (okRes ok v b) (if ok then .tuple #[u, .bool b] else u) := by
  cases ok with
  | false => exact h
  | true =>
    have := VR.tup (ρ := ρ) (.cons h (.cons (.one (.bool b)) .nil))
    simpa [okRes] using this

theorem mkmap_run {o : Oper} {t k e : TypeId} {r : Option Operand} {a : Act} {σ : AHeap} {w : World} (ho : o.op = .makeMap t r) (hc : isConstInt r = true) (ht : P.underlying t = some (.map k e)) (hr : HR ρ σ.get w) :
    OpRes P ρ o a σ w (σ.alloc ⟨[], .map 0 []⟩) (.one (.map σ.size)) := by
  have hok : ObjOk (ρ.upd σ.size ⟨w.heap.size, 0, 0, 0⟩) (w.alloc (.map #[] 0)) ⟨w.heap.size, 0, 0, 0⟩ ⟨[], .map 0 []⟩ := by
    refine ⟨rfl, by simp, fun _ => ⟨[], .nil, fun j v h => by cases h⟩, fun h => (by cases h), fun c es h => ?_⟩
    cases h
    exact ⟨#[], (MapKept.heap_alloc w _).1, .nil⟩
  have hp := Post.allocG hr rfl hok
  have hrun : (Instr.makeMap t (r.map a.eval)).run P w = .ok (.map (some w.heap.size)) (w.alloc (.map #[] 0)) := by
    cases r with
    | none => simp [Instr.makeMap]
    | some r =>
      unfold isConstInt at hc
      split at hc
      · rename_i h; cases h
      · rename_i kk n h
        cases h
        simp [Instr.makeMap, run_underlying ht, Act.eval, asInt, asIntOf]
      · cases hc
  refine ⟨_, .map (some w.heap.size), _, _, by simp [execOp, ho, hrun], .inl rfl, hp, .one ?_⟩
  have hB : (ρ.upd σ.size ⟨w.heap.size, 0, 0, 0⟩) σ.size = some ⟨w.heap.size, 0, 0, 0⟩ := by rw [Loc.upd_at, if_pos rfl]
  exact .map hB

/-- Reading a map, and whether it has a key. -/
theorem lookup_run {t k e : TypeId} {ek : KK} {x kk : Value} {z u : Value} {es : Array MapEntry} {w : World} {ok b : Bool} (ht : P.underlying t = some (.map k e)) (hk : P.underlying k = some ek.desc)
    (hz : (zeroValue e).run P w = .ok z w) (hkey : MapKept.IsKey ek.desc kk)
    (hx : (x = .map none ∧ es = #[]) ∨ ∃ r c, x = .map (some r) ∧ w.heap[r]? = some (.map es c))
    (hf : (Instr.findNow ek.desc kk es.toList 0 = some none ∧ b = false ∧ u = z) ∨ ∃ i, Instr.findNow ek.desc kk es.toList 0 = some (some (i, u)) ∧ b = true) :
    (Instr.lookup t x kk ok).run P w = .ok (if ok then .tuple #[u, .bool b] else u) w := by
  have hck : ∀ e, (Instr.checkKey e 10000 k kk).run P w = .ok () w := fun e => MapKept.run_checkKey hk hkey e 9999
  rcases hf with ⟨h1, rfl, rfl⟩ | ⟨i, h1, rfl⟩
  · rcases hx with ⟨rfl, rfl⟩ | ⟨r, c, rfl, hh⟩
    · have h2 := MapKept.run_findKey (P := P) (w := w) hk h1
      simp only [Instr.lookup, Sem.run_bind, run_underlying ht, Result.andThen_ok, Sem.run_pure, hck, h2, hz]
      try (cases ok <;> rfl)
    · have h2 := MapKept.run_findKey (P := P) (w := w) hk h1
      simp only [Instr.lookup, Sem.run_bind, run_underlying ht, Result.andThen_ok, Sem.run_pure, hck, h2, hz, MapKept.run_getObj_map hh]
      try (cases ok <;> rfl)
  · rcases hx with ⟨rfl, rfl⟩ | ⟨r, c, rfl, hh⟩
    · cases h1
    · have h2 := MapKept.run_findKey (P := P) (w := w) hk h1
      simp only [Instr.lookup, Sem.run_bind, run_underlying ht, Result.andThen_ok, Sem.run_pure, hck, h2, hz, MapKept.run_getObj_map hh]
      try (cases ok <;> rfl)

theorem set_modify (es : Array MapEntry) (i : Nat) (f : MapEntry → MapEntry) {e : MapEntry} (he : es.toList[i]? = some e) : (es.modify i f).toList = es.toList.set i (f e) := by
  have he' : es[i]? = some e := by simpa using he
  apply List.ext_getElem?
  intro j
  rw [Array.getElem?_toList, Array.getElem?_modify, List.getElem?_set]
  by_cases h : i = j
  · subst h
    have hlt : i < es.toList.length := (List.getElem?_eq_some_iff.1 he).1
    have hlt2 : i < es.size := by simpa using hlt
    have he2 : es[i] = e := (Array.getElem?_eq_some_iff.1 he').2
    simp [hlt2, he2]
  · simp [h]

theorem setE_rel {l : List Ent} {en : Array MapEntry} {i : Nat} {a : Ent} {e : MapEntry} {v : AV} {u : Value} (h : EntR ρ l en.toList) (ha : l[i]? = some a) (he : en.toList[i]? = some e) (hv : VR ρ v u) (f : MapEntry → MapEntry)
    (hf1 : (f e).born = e.born) (hf2 : (f e).key = e.key) (hf3 : (f e).val = u) : EntR ρ (setE l i v) (en.modify i f).toList := by
  rw [set_modify en i f he]
  unfold setE
  rw [ha]
  obtain ⟨e', q1, q2, q3, q4⟩ := h.get ha
  rw [he] at q1; cases q1
  exact h.set (by rw [hf1]; exact q2) (by rw [hf2]; exact q3) (by rw [hf3]; exact hv)

theorem same_modify {l : List Ent} {en : Array MapEntry} {i : Nat} {e : MapEntry} (h : EntR ρ l en.toList) (he : en.toList[i]? = some e) (f : MapEntry → MapEntry) (hf : f e = e) : EntR ρ l (en.modify i f).toList := by
  rw [set_modify en i f he, hf]
  have : en.toList.set i e = en.toList := by
    apply List.ext_getElem?
    intro j
    rw [List.getElem?_set]
    split
    · rename_i hij
      subst hij
      split
      · exact he.symm
      · rename_i hlt
        rw [List.getElem?_eq_none (by omega)]
    · rfl
  rw [this]; exact h

theorem ext_mem {o : Oper} {e : XOp} {fr : List AV} {a : Act} {σ σ' : AHeap} {v : AV} {w : World} (hc : compX P o.op = some e) (hnm : (AOp.ext e).memless = false) (hf : FR ρ fr a.tmps) (hr : HR ρ σ.get w)
    (he : evX fr σ e = some (v, σ')) : OpRes P ρ o a σ w σ' v := by
  obtain ⟨dst, op, type, pos, after, guard⟩ := o
  simp only at hc
  cases op with
  | makeInterface t x =>
    simp only [compX] at hc
    split at hc <;> cases hc
    cases hnm
  | typeAssert x xt t ok =>
    simp only [compX] at hc
    split at hc <;> cases hc
    cases hnm
  | makeMap t r =>
    simp only [compX] at hc
    split at hc
    · rename_i h1 h2
      cases hc
      cases he
      exact mkmap_run rfl h1 h2 hr
    · cases hc
  | makeFunc fn first captured =>
    cases fn with
    | method name =>
      simp only [compX] at hc
      split at hc <;> cases hc
      cases hnm
    | _ => simp [compX] at hc
  | lookup t x k ok =>
    simp only [compX] at hc
    split at hc
    · rename_i ek e' x' k' hm hx hk
      split at hc
      · rename_i z hz
        cases hc
        obtain ⟨kt, ht, hkt⟩ := mapKV_info hm
        obtain ⟨z0, hz0, hzr⟩ := tZeroV_info hz
        have k1 := opd_rel hx hf
        have k2 := opd_rel hk hf
        simp only [evX] at he
        split at he
        · rename_i kv e1 e2
          split at he
          · rename_i hki
            cases he
            rw [e1] at k1
            rw [e2] at k2
            generalize hX : a.eval x = X at k1
            generalize hK : a.eval k = K at k2
            cases k1 with
            | one k1 =>
              cases k2 with
              | one k2 =>
                cases k1
                have hrun := lookup_run (ok := ok) (x := .map none) (es := #[]) ht hkt (hz0 w) (keyIs_rel hki k2) (.inl ⟨rfl, rfl⟩) (.inl ⟨rfl, rfl, rfl⟩)
                exact ⟨_, _, w, ρ, by simp [execOp, hX, hK, hrun], .inl rfl, Post.refl hr, okRes_rel (hzr ρ)⟩
          · cases he
        · rename_i id kv e1 e2
          split at he
          · rename_i cs c es hki hg
            rw [e1] at k1
            rw [e2] at k2
            generalize hX : a.eval x = X at k1
            generalize hK : a.eval k = K at k2
            cases k1 with
            | one k1 =>
              cases k2 with
              | one k2 =>
                cases k1 with
                | map hB =>
                  rename_i B
                  obtain ⟨en, hh, hen⟩ := hr.mapAt hB hg
                  split at he
                  · rename_i i ee hfe
                    cases he
                    obtain ⟨d, e0, q1, q2, q3, q4, q5, q6, q7, q8⟩ := findE_rel hki k2 hen hfe
                    have hrun := lookup_run (ok := ok) ht hkt (hz0 w) (keyIs_rel hki k2) (.inr ⟨B.b, c, rfl, hh⟩) (.inr ⟨_, q4, rfl⟩)
                    exact ⟨_, _, w, ρ, by simp [execOp, hX, hK, hrun], .inl rfl, Post.refl hr, okRes_rel q8⟩
                  · rename_i hfe
                    cases he
                    have q4 := findE_rel hki k2 hen hfe
                    have hrun := lookup_run (ok := ok) ht hkt (hz0 w) (keyIs_rel hki k2) (.inr ⟨B.b, c, rfl, hh⟩) (.inl ⟨q4, rfl, rfl⟩)
                    exact ⟨_, _, w, ρ, by simp [execOp, hX, hK, hrun], .inl rfl, Post.refl hr, okRes_rel (hzr ρ)⟩
                  · cases he
          · cases he
        · cases he
      · cases hc
    · cases hc
  | mapUpdate t m k x | insert t m k x =>
    all_goals
      simp only [compX] at hc
      split at hc
      · rename_i ek e' m' k' x' hm hmm hk hx
        cases hc
        obtain ⟨kt, ht, hkt⟩ := mapKV_info hm
        have k1 := opd_rel hmm hf
        have k2 := opd_rel hk hf
        have k3 := opd_rel hx hf
        simp only [evX] at he
        split at he
        · rename_i id kv e1 e2
          split at he
          · rename_i cs c es hki hg
            have hki : keyIs ek kv = true := by
              rw [Bool.and_eq_true] at hki; exact hki.1
            rw [e1] at k1
            rw [e2] at k2
            generalize hX : a.eval m = X at k1
            generalize hK : a.eval k = K at k2
            generalize hV : a.eval x = V at k3
            cases k1 with
            | one k1 =>
              cases k2 with
              | one k2 =>
                cases k1 with
                | map hB =>
                  rename_i B
                  obtain ⟨en, hh, hen⟩ := hr.mapAt hB hg
                  have hkey := keyIs_rel hki k2
                  split at he
                  · rename_i i ee hfe
                    cases he
                    obtain ⟨d, e0, q1, q2, q3, q4, q5, q6, q7, q8⟩ := findE_rel hki k2 hen hfe
                    rw [Nat.zero_add] at q1
                    subst q1
                    have hi : en[i]? = some e0 := by simpa using q3
                    have hn := setE_rel (v := ev fr x') hen q2 q3 k3 (fun e => { e with key := K, val := V }) rfl q5.symm rfl
                    refine ⟨.skip, undef, _, ρ, ?_, .inr ⟨rfl, rfl⟩, Post.mapPut hr hB hg hh hn (c' := c), VR.undef⟩
                    simp [execOp, hX, hK, hV, Instr.mapUpdate, run_underlying ht, MapKept.run_getObj_map hh, MapKept.run_checkKey hkt hkey, MapKept.run_findKey hkt q4, hi, q5, MapKept.run_keyThatStays hkey, MapKept.run_setObj_map _ hh]
                  · rename_i hfe
                    cases he
                    have q4 := findE_rel hki k2 hen hfe
                    have hn : EntR ρ (es ++ [⟨c, kv, ev fr x'⟩]) (en.push { key := K, val := V, born := c }).toList := by
                      rw [Array.toList_push]
                      exact hen.append (.cons rfl k2 k3 .nil)
                    refine ⟨.skip, undef, _, ρ, ?_, .inr ⟨rfl, rfl⟩, Post.mapPut hr hB hg hh hn (c' := c + 1), VR.undef⟩
                    simp [execOp, hX, hK, hV, Instr.mapUpdate, run_underlying ht, MapKept.run_getObj_map hh, MapKept.run_checkKey hkt hkey, MapKept.run_findKey hkt q4, MapKept.run_setObj_map _ hh]
                  · cases he
          · cases he
        · cases he
      · cases hc
  | mapEntry t m k =>
    simp only [compX] at hc
    split at hc
    · rename_i ek e' m' k' hm hmm hk
      split at hc
      · rename_i z hz
        cases hc
        obtain ⟨kt, ht, hkt⟩ := mapKV_info hm
        obtain ⟨z0, hz0, hzr⟩ := tZeroV_info hz
        have k1 := opd_rel hmm hf
        have k2 := opd_rel hk hf
        simp only [evX] at he
        split at he
        · rename_i id kv e1 e2
          split at he
          · rename_i cs c es hki hg
            rw [e1] at k1
            rw [e2] at k2
            generalize hX : a.eval m = X at k1
            generalize hK : a.eval k = K at k2
            cases k1 with
            | one k1 =>
              cases k2 with
              | one k2 =>
                cases k1 with
                | map hB =>
                  rename_i B
                  obtain ⟨en, hh, hen⟩ := hr.mapAt hB hg
                  have hkey := keyIs_rel hki k2
                  have tupR : ∀ (v1 : AV) (u1 : Value) (n : Nat), VR ρ v1 u1 → VR ρ (.tup [v1, .one (.int .i64 n)]) (.tuple #[u1, goInt n]) := by
                    intro v1 u1 n h
                    have := VR.tup (ρ := ρ) (.cons h (.cons (.one (.int .i64 (n : Int))) .nil))
                    simpa [goInt] using this
                  split at he
                  · rename_i i ee hfe
                    cases he
                    obtain ⟨d, e0, q1, q2, q3, q4, q5, q6, q7, q8⟩ := findE_rel hki k2 hen hfe
                    rw [Nat.zero_add] at q1
                    subst q1
                    have hi : en[i]? = some e0 := by simpa using q3
                    have hn := same_modify hen q3 (fun e => { e with key := K }) (by rw [← q5])
                    refine ⟨_, .tuple #[e0.val, goInt ee.born], _, ρ, ?_, .inl rfl, Post.mapPut hr hB hg hh hn (c' := c), tupR _ _ _ q8⟩
                    simp [execOp, hX, hK, Instr.mapEntry, run_underlying ht, MapKept.run_getObj_map hh, MapKept.run_checkKey hkt hkey, MapKept.run_findKey hkt q4, hi, q5, q6, MapKept.run_keyThatStays hkey, MapKept.run_setObj_map _ hh]
                  · rename_i hfe
                    cases he
                    have q4 := findE_rel hki k2 hen hfe
                    have hn : EntR ρ (es ++ [⟨c, kv, z⟩]) (en.push { key := K, val := z0, born := c }).toList := by
                      rw [Array.toList_push]
                      exact hen.append (.cons rfl k2 (hzr ρ) .nil)
                    refine ⟨_, .tuple #[z0, goInt c], _, ρ, ?_, .inl rfl, Post.mapPut hr hB hg hh hn (c' := c + 1), tupR _ _ _ (hzr ρ)⟩
                    simp [execOp, hX, hK, Instr.mapEntry, run_underlying ht, MapKept.run_getObj_map hh, MapKept.run_checkKey hkt hkey, MapKept.run_findKey hkt q4, hz0, MapKept.run_setObj_map _ hh]
                  · cases he
          · cases he
        · cases he
      · cases hc
    · cases hc
  | entryStore t m s x =>
    simp only [compX] at hc
    split at hc
    · rename_i m' s' x' hmm hs hx
      cases hc
      have k1 := opd_rel hmm hf
      have k2 := opd_rel hs hf
      have k3 := opd_rel hx hf
      simp only [evX] at he
      split at he
      · rename_i id b e1 e2 e3
        obtain ⟨ik, hS⟩ := asNat_run e2 k2
        split at he
        · rename_i cs c es hg
          rw [e1] at k1
          generalize hX : a.eval m = X at k1
          generalize hV : a.eval x = V at k3
          cases k1 with
          | one k1 =>
            cases k1 with
            | map hB =>
              rename_i B
              obtain ⟨en, hh, hen⟩ := hr.mapAt hB hg
              split at he
              · rename_i i ee hfe
                cases he
                obtain ⟨d, e0, q1, q2, q3, q4, q5, q6, q7⟩ := findB_rel hen hfe
                rw [Nat.zero_add] at q1
                subst q1
                have hn := setE_rel (v := ev fr x') hen q2 q3 k3 (fun e => { e with val := V }) rfl rfl rfl
                have q4' : en.findIdx? (fun e => (e.born : Int) == (b : Int)) = some i := by
                  obtain ⟨enl⟩ := en
                  simpa using q4
                refine ⟨.skip, undef, _, ρ, ?_, .inr ⟨rfl, rfl⟩, Post.mapPut hr hB hg hh hn (c' := c), VR.undef⟩
                simp [execOp, hX, hS, hV, Instr.entryStore, MapKept.run_getObj_map hh, asInt, asIntOf, q4', MapKept.run_setObj_map _ hh]
              · cases he
        · cases he
      · cases he
    · cases hc
  | call c =>
    obtain ⟨callee, args, argTypes⟩ := c
    simp only [compX] at hc
    cases callee with
    | value f => cases hc
    | invoke r m => cases hc
    | builtin b =>
      cases b
      case delete =>
        try simp only at hc
        split at hc
        · rename_i m' k' t tl hxy htu
          obtain ⟨m, k, hargs, hmm, hk⟩ := compOpds_two hxy
          have hargs' : args = #[m, k] := Array.ext' hargs
          subst hargs'
          have hat : argTypes[0]? = some t := by rw [← Array.getElem?_toList, htu]; rfl
          split at hc
          · rename_i ek e' hm
            cases hc
            obtain ⟨kt, ht, hkt⟩ := mapKV_info hm
            have k1 := opd_rel hmm hf
            have k2 := opd_rel hk hf
            have unitR : VR ρ (.tup []) (.tuple #[]) := VR.undef
            simp only [evX] at he
            split at he
            · rename_i kv e1 e2
              split at he
              · rename_i hki
                cases he
                rw [e1] at k1
                rw [e2] at k2
                generalize hX : a.eval m = X at k1
                generalize hK : a.eval k = K at k2
                cases k1 with
                | one k1 =>
                  cases k2 with
                  | one k2 =>
                    cases k1
                    refine ⟨_, .tuple #[], w, ρ, ?_, .inl rfl, Post.refl hr, unitR⟩
                    simp [execOp, resolve, invoke, builtin, hX, hK, Builtin.delete_, hat, run_underlying ht, MapKept.run_checkKey hkt (keyIs_rel hki k2)]
              · cases he
            · rename_i id kv e1 e2
              split at he
              · rename_i cs c es hki hg
                rw [e1] at k1
                rw [e2] at k2
                generalize hX : a.eval m = X at k1
                generalize hK : a.eval k = K at k2
                cases k1 with
                | one k1 =>
                  cases k2 with
                  | one k2 =>
                    cases k1 with
                    | map hB =>
                      rename_i B
                      obtain ⟨en, hh, hen⟩ := hr.mapAt hB hg
                      have hkey := keyIs_rel hki k2
                      split at he
                      · rename_i i ee hfe
                        cases he
                        obtain ⟨d, e0, q1, q2, q3, q4, q5, q6, q7, q8⟩ := findE_rel hki k2 hen hfe
                        rw [Nat.zero_add] at q1
                        subst q1
                        have hlt : i < en.size := by
                          have := (List.getElem?_eq_some_iff.1 q3).1
                          simpa using this
                        have hn : EntR ρ (es.eraseIdx i) (en.eraseIdxIfInBounds i).toList := by
                          unfold Array.eraseIdxIfInBounds
                          rw [dif_pos hlt, Array.toList_eraseIdx]
                          exact hen.erase i
                        refine ⟨_, .tuple #[], _, ρ, ?_, .inl rfl, Post.mapPut hr hB hg hh hn (c' := c), unitR⟩
                        simp [execOp, resolve, invoke, builtin, hX, hK, Builtin.delete_, hat, run_underlying ht, MapKept.run_getObj_map hh, MapKept.run_checkKey hkt hkey, MapKept.run_findKey hkt q4, MapKept.run_setObj_map _ hh]
                      · rename_i hfe
                        cases he
                        have q4 := findE_rel hki k2 hen hfe
                        refine ⟨_, .tuple #[], _, ρ, ?_, .inl rfl, Post.mapPut hr hB hg hh hen (c' := c), unitR⟩
                        simp [execOp, resolve, invoke, builtin, hX, hK, Builtin.delete_, hat, run_underlying ht, MapKept.run_getObj_map hh, MapKept.run_checkKey hkt hkey, MapKept.run_findKey hkt q4, MapKept.run_setObj_map _ hh]
                      · cases he
              · cases he
            · cases he
          · cases hc
        · cases hc
      case len =>
        try simp only at hc
        split at hc
        · rename_i m' t hxy htu
          obtain ⟨m, hargs, hmm⟩ := compOpds_one hxy
          have hargs' : args = #[m] := Array.ext' hargs
          have hat : argTypes = #[t] := Array.ext' htu
          subst hargs'
          subst hat
          split at hc
          · rename_i kv hm
            cases hc
            obtain ⟨kt, ht, hkt⟩ := mapKV_info hm
            have k1 := opd_rel hmm hf
            simp only [evX] at he
            split at he
            · rename_i e1
              cases he
              rw [e1] at k1
              generalize hX : a.eval m = X at k1
              cases k1 with
              | one k1 =>
                cases k1
                exact ⟨_, _, w, ρ, by simp [execOp, resolve, invoke, builtin, hX, Builtin.len_, run_underlying ht, goInt], .inl rfl, Post.refl hr, .one (.int _ _)⟩
            · rename_i id e1
              split at he
              · rename_i cs c es hg
                cases he
                rw [e1] at k1
                generalize hX : a.eval m = X at k1
                cases k1 with
                | one k1 =>
                  cases k1 with
                  | map hB =>
                    rename_i B
                    obtain ⟨en, hh, hen⟩ := hr.mapAt hB hg
                    have hsz : es.length = en.size := by rw [hen.length]; simp
                    exact ⟨_, .int .i64 es.length, w, ρ, by simp [execOp, resolve, invoke, builtin, hX, Builtin.len_, run_underlying ht, MapKept.run_getObj_map hh, goInt, hsz], .inl rfl, Post.refl hr, .one (.int _ _)⟩
              · cases he
            · cases he
          · cases hc
        · cases hc
      all_goals (simp at hc)
  | _ => simp [compX] at hc

/-! ### methods of interfaces -/
theorem mtab_spec {name : String} : ∀ {l : List TypeInfo} {i t f : Nat} {off : Option Nat}, (t, f, off) ∈ mtab P name i l → ∃ ti, i ≤ t ∧ l[t - i]? = some ti ∧ mrow P name ti = some (f, off)
  | [], _, _, _, _, h => by cases h
  | x :: l, i, t, f, off, h => by
    simp only [mtab] at h
    split at h
    · rename_i f' off' hm
      rcases List.mem_cons.1 h with h | h
      · cases h
        exact ⟨x, Nat.le_refl _, by simp, hm⟩
      · obtain ⟨ti, h1, h2, h3⟩ := mtab_spec h
        refine ⟨ti, by omega, ?_, h3⟩
        rw [show t - i = (t - (i + 1)) + 1 by omega]
        simpa using h2
    · obtain ⟨ti, h1, h2, h3⟩ := mtab_spec h
      refine ⟨ti, by omega, ?_, h3⟩
      rw [show t - i = (t - (i + 1)) + 1 by omega]
      simpa using h2

theorem invokeF_spec {t : Nat} {s : SV} : ∀ {tab : List (Nat × Nat × Option Nat)} {f : Nat} {v : AV}, invokeF tab (.one (.iface t false [s])) = some (f, v) →
    ∃ off, (t, f, off) ∈ tab ∧ ((off = none ∧ v = .one s) ∨ ∃ o id p, off = some o ∧ s = .ptr id p ∧ v = .one (.ptr id (p + o)))
  | [], _, _, h => by simp [invokeF] at h
  | (t', f', off') :: l, f, v, h => by
    simp only [invokeF] at h
    split at h
    · rename_i ht
      have ht : t = t' := Nat.eq_of_beq_eq_true ht
      subst ht
      split at h
      · cases h
        exact ⟨none, by simp, .inl ⟨rfl, rfl⟩⟩
      · rename_i o id p
        cases h
        exact ⟨some o, by simp, .inr ⟨o, id, p, rfl, rfl, rfl⟩⟩
      · cases h
    · obtain ⟨off, h1, h2⟩ := invokeF_spec h
      exact ⟨off, List.mem_cons_of_mem _ h1, h2⟩

theorem info_types {t : Nat} {ti : TypeInfo} (h : P.types.toList[t]? = some ti) : P.info? t = some ti := by
  have h' : P.types[t]? = some ti := by simpa using h
  have hlt : t < P.types.size := (Array.getElem?_eq_some_iff.1 h').1
  have he : P.types[t] = ti := by
    have := Array.getElem?_eq_some_iff.1 h'
    exact this.2
  simp [Tables.info?, hlt, he]

/-- What an interface's method is found to be. -/
theorem method_run {name : String} {t f : Nat} {s : SV} {x : Value} {v : AV} (hv : invokeF (mtab P name 0 P.types.toList) (.one (.iface t false [s])) = some (f, v)) (hs : SR ρ s x) (n : Nat) :
    ∃ y, VR ρ v y ∧ (∀ w, (method (n + 1) t x name).run P w = .ok (f, y) w) ∧ ∀ w, (nilAhead (n + 1) t x name).run P w = .ok (some false) w := by
  obtain ⟨off, h1, h2⟩ := invokeF_spec hv
  obtain ⟨ti, _, h3, h4⟩ := mtab_spec h1
  rw [Nat.sub_zero] at h3
  have hti := info_types h3
  unfold mrow at h4
  split at h4
  · rename_i m hm
    split at h4
    · rename_i f' hfunc hpath
      split at h4
      · rename_i el hdesc
        cases h4
        rcases h2 with ⟨_, rfl⟩ | ⟨o, id, p, h, _⟩
        · refine ⟨x, .one hs, fun w => ?_, fun w => by simp [nilAhead, typeInfo, hti, hm, hfunc, hpath, followBlind]⟩
          have hu : P.underlying t = some (.pointer el) := by
            unfold Program.underlying
            rw [hti]
            split
            · rename_i h
              have h := Option.some.inj h
              rw [h] at hdesc
              cases hdesc
            · rename_i h
              have h := Option.some.inj h
              rw [← h, hdesc]
            · rename_i h; cases h
          simp [method, typeInfo, hti, hm, hfunc, hpath, follow, receiverAt, run_underlying hu, Place.get]
        · cases h
      · cases h4
    · rename_i f' st hfunc hpath
      split at h4
      · rename_i fields hder hst
        split at h4
        · rename_i fl hfl
          split at h4
          · cases h4
          · rename_i d n' hnp hd hsz
            cases h4
            rcases h2 with ⟨h, _⟩ | ⟨o, id, p, h, rfl, rfl⟩
            · cases h
            · cases h
              cases hs with
              | ptr hB =>
                rename_i B
                refine ⟨.pointer (some ⟨B.b, B.base + (p + fl.offset), none⟩), .one (.ptr hB), fun w => ?_, fun w => by simp [nilAhead, typeInfo, hti, hm, hfunc, hpath, followBlind, run_underlying hst, hfl, hder]⟩
                have hfol : (follow m.path.toList t (.val (.pointer (some ⟨B.b, B.base + p, none⟩)))).run P w = .ok (fl.type, .var ⟨B.b, B.base + (p + fl.offset), none⟩) w := by
                  rw [hpath]
                  simp only [follow, Sem.run_bind, run_underlying hst, Result.andThen_ok, hfl, hder, if_true, Place.get, Sem.run_pure, asAddr, fieldPlace, tSize_run hsz]
                  simp [addr_add, Nat.add_assoc]
                simp only [method, Sem.run_bind, typeInfo, run_program, hti, Result.andThen_ok, Sem.run_pure, hm, hfol, hfunc]
                simp only [receiverAt, Sem.run_bind, run_underlying hd, Result.andThen_ok]
                cases d <;> first | exact absurd rfl (hnp _ _) | simp
          · cases h4
        · cases h4
      · cases h4
    · cases h4
  · cases h4

theorem ext_memless [IsProg P] {o : Oper} {e : XOp} {fr : List AV} {a : Act} {σ σ' : AHeap} {v : AV} (hc : compX P o.op = some e) (hm : (AOp.ext e).memless = true) (hf : FR ρ fr a.tmps)
    (he : evX fr σ e = some (v, σ')) : σ' = σ ∧ ∃ u, VR ρ v u ∧ ∀ w, (execOp a.eval o).run P w = .ok (.value u) w := by
  obtain ⟨dst, op, type, pos, after, guard⟩ := o
  simp only at hc
  cases op with
  | makeInterface t x =>
    simp only [compX] at hc
    split at hc
    · cases hc
    · rename_i x' d hni hx ht
      cases hc
      have k1 := opd_rel hx hf
      have hrun : ∀ (w : World) (V : Value), (Instr.makeInterface t V).run P w = .ok (.iface t V) w := by
        intro w V
        simp only [Instr.makeInterface, Sem.run_bind, run_underlying ht, Result.andThen_ok]
        try rfl
      simp only [evX] at he
      split at he
      · rename_i s e1
        cases he
        rw [e1] at k1
        generalize hX : a.eval x = X at k1
        cases k1 with
        | one k1 => exact ⟨rfl, .iface t X, .one (.iface1 k1), fun w => by simp [execOp, hX, hrun]⟩
      · rename_i cs e1
        cases he
        rw [e1] at k1
        generalize hX : a.eval x = X at k1
        cases k1 with
        | agg k1 => exact ⟨rfl, .iface t (.agg _), .one (.ifaceA k1), fun w => by simp [execOp, hX, hrun]⟩
      · cases he
    · cases hc
  | typeAssert x xt t ok =>
    simp only [compX] at hc
    split at hc
    · cases hc
    · rename_i x' d z hni hx ht hz
      cases hc
      have k1 := opd_rel hx hf
      obtain ⟨z0, hz0, hzr⟩ := tZeroV_info hz
      have good : ∀ (w : World) (V : Value), (Instr.typeAssert (.iface t V) xt t ok).run P w = .ok (if ok then .tuple #[V, .bool true] else V) w := by
        intro w V
        simp only [Instr.typeAssert, Sem.run_bind, run_underlying ht, Result.andThen_ok]
        cases d <;> first | exact absurd rfl (hni _) | (cases ok <;> simp)
      have badI : ∀ (w : World) (t' : Nat) (V : Value), t' ≠ t → (Instr.typeAssert (.iface t' V) xt t true).run P w = .ok (.tuple #[z0, .bool false]) w := by
        intro w t' V hne
        simp only [Instr.typeAssert, Sem.run_bind, run_underlying ht, Result.andThen_ok]
        cases d <;> first | exact absurd rfl (hni _) | simp [hne, hz0]
      have badN : ∀ (w : World), (Instr.typeAssert .nilIface xt t true).run P w = .ok (.tuple #[z0, .bool false]) w := by
        intro w
        simp only [Instr.typeAssert, Sem.run_bind, run_underlying ht, Result.andThen_ok]
        cases d <;> first | exact absurd rfl (hni _) | simp [hz0]
      simp only [evX] at he
      split at he
      · rename_i t' g cs e1
        rw [e1] at k1
        generalize hX : a.eval x = X at k1
        split at he
        · rename_i htt
          have htt : t' = t := Nat.eq_of_beq_eq_true htt
          subst htt
          split at he
          · rename_i s
            cases he
            cases k1 with
            | one k1 =>
              cases k1 with
              | iface1 k1 => exact ⟨rfl, _, okRes_rel (.one k1), fun w => by simp [execOp, hX, good]⟩
          · rename_i cs'
            cases he
            cases k1 with
            | one k1 =>
              cases k1 with
              | ifaceA k1 => exact ⟨rfl, _, okRes_rel (.agg k1), fun w => by simp [execOp, hX, good]⟩
          · cases he
        · rename_i htt
          have htt : t' ≠ t := fun e => by subst e; simp at htt
          split at he
          · cases he
            have hV : ∃ V, X = .iface t' V := by
              cases k1 with
              | one k1 => cases k1 <;> exact ⟨_, rfl⟩
            obtain ⟨V, rfl⟩ := hV
            have := okRes_rel (ok := true) (b := false) (hzr ρ)
            exact ⟨rfl, _, this, fun w => by simp [execOp, hX, badI w t' V htt]⟩
          · cases he
      · rename_i e1
        rw [e1] at k1
        generalize hX : a.eval x = X at k1
        split at he
        · cases he
          cases k1 with
          | one k1 =>
            cases k1
            have := okRes_rel (ok := true) (b := false) (hzr ρ)
            exact ⟨rfl, _, this, fun w => by simp [execOp, hX, badN]⟩
        · cases he
      · cases he
    · cases hc
  | makeFunc fn first captured =>
    cases fn with
    | method name =>
      simp only [compX] at hc
      split at hc
      · rename_i x' hfirst hcap
        cases hc
        obtain ⟨x, hx1, hx⟩ := compOpds_one hfirst
        have hx2 : first = #[x] := Array.ext' hx1
        subst hx2
        have hcap' : captured = #[] := Array.eq_empty_of_size_eq_zero hcap
        subst hcap'
        have k1 := opd_rel hx hf
        simp only [evX] at he
        split at he
        · rename_i f rv hi
          cases he
          have hsh : ∃ t s, ev fr x' = .one (.iface t false [s]) := by
            generalize ev fr x' = z at hi
            unfold invokeF at hi
            split at hi
            · exact ⟨_, _, rfl⟩
            · cases hi
          obtain ⟨t, s, e⟩ := hsh
          rw [e] at k1 hi
          generalize hX : a.eval x = X at k1
          cases k1 with
          | one k1 =>
            cases k1 with
            | iface1 k1 =>
              rename_i xv
              obtain ⟨y, h3, h4, h5⟩ := method_run hi k1 (P.types.size + Made.depth - 1)
              rw [show P.types.size + Made.depth - 1 + 1 = P.types.size + Made.depth by unfold Made.depth; omega] at h4 h5
              cases h3 with
              | one h3 =>
                have hm : MethAt theP name t f xv y := by
                  have hP := IsProg.eq (P := P)
                  rw [← hP]
                  exact ⟨h4, h5⟩
                exact ⟨rfl, _, .one (.meth h3 hm), fun w => by simp [execOp, Instr.makeFunc, hX]⟩
        · cases he
      · cases hc
    | _ => simp [compX] at hc
  | _ =>
    exfalso
    revert hc
    simp only [compX]
    intro hc
    repeat' (split at hc)
    all_goals (cases hc)
    all_goals (cases hm)

/-! ### all of them -/
def AOp.isCall : AOp → Bool
  | .call _ _ => true
  | .invoke _ _ _ => true
  | _ => false

theorem compOp_notext {op : Op} {aop : AOp} (h : compOp P op = some aop) : (∀ e, aop ≠ .ext e) ∧ ∀ tb r l, aop ≠ .invoke tb r l := by
  constructor
  · rintro e rfl
    cases op with
    | call c =>
      obtain ⟨callee, cargs, tys⟩ := c
      simp only [compOp, compCall] at h
      cases callee with
      | value fo => simp only at h; split at h <;> cases h
      | invoke r m => cases h
      | builtin b =>
        simp only at h
        repeat' (split at h)
        all_goals (cases h)
    | binOp op t x y yt =>
      simp only [compOp] at h
      split at h
      · unfold compBin at h
        repeat' (split at h)
        all_goals (cases h)
      · cases h
    | makeFunc fn first captured =>
      cases fn with
      | func f => simp only [compOp] at h; split at h <;> cases h
      | _ => simp [compOp] at h
    | _ =>
      exfalso
      revert h
      simp only [compOp]
      intro h
      repeat' (split at h)
      all_goals (cases h)
  · rintro tb r l rfl
    cases op with
    | call c =>
      obtain ⟨callee, cargs, tys⟩ := c
      simp only [compOp, compCall] at h
      cases callee with
      | value fo => simp only at h; split at h <;> cases h
      | invoke r m => cases h
      | builtin b =>
        simp only at h
        repeat' (split at h)
        all_goals (cases h)
    | binOp op t x y yt =>
      simp only [compOp] at h
      split at h
      · unfold compBin at h
        repeat' (split at h)
        all_goals (cases h)
      · cases h
    | makeFunc fn first captured =>
      cases fn with
      | func f => simp only [compOp] at h; split at h <;> cases h
      | _ => simp [compOp] at h
    | _ =>
      exfalso
      revert h
      simp only [compOp]
      intro h
      repeat' (split at h)
      all_goals (cases h)

theorem compOpX_cases {op : Op} {aop : AOp} (h : compOpX P op = some aop) : compOp P op = some aop ∨ (∃ e, aop = .ext e ∧ compX P op = some e) ∨
    ∃ c r name r' l, op = .call c ∧ c.callee = .invoke r name ∧ compOpd r = some r' ∧ compOpds c.args.toList = some l ∧ aop = .invoke (mtab P name 0 P.types.toList) r' l := by
  unfold compOpX at h
  split at h
  · rename_i h1; cases h; exact .inl h1
  · split at h
    · rename_i e h1
      cases h
      exact .inr (.inl ⟨e, rfl, h1⟩)
    · unfold compInv at h
      split at h
      · rename_i c _ _
        split at h
        · rename_i r name hcal
          split at h
          · rename_i r' l h1 h2
            cases h
            exact .inr (.inr ⟨c, r, name, r', l, rfl, hcal, h1, h2, rfl⟩)
          · cases h
        · cases h
      · cases h

theorem op_classX [IsProg P] {o : Oper} {aop : AOp} {fr : List AV} {a : Act} {σ σ' : AHeap} {v : AV} (hc : compOpX P o.op = some aop)
    (hf : FR ρ fr a.tmps) (hl : LenRel ρ σ.get) (he : evOp fr σ aop = some (v, σ')) : OpClass P ρ o a fr σ σ' v aop := by
  rcases compOpX_cases hc with h | ⟨e, rfl, h⟩ | ⟨c, r, name, r', l, _, _, _, _, rfl⟩
  · exact op_class h hf hl he
  · simp only [evOp] at he
    cases hm : (AOp.ext e).memless with
    | true =>
      obtain ⟨h1, u, h2, h3⟩ := ext_memless h hm hf he
      exact .inl ⟨hm, h1, u, h2, h3⟩
    | false =>
      refine .inr (.inr (.inr ⟨?_, fun w hr => ext_mem h hm hf hr he⟩))
      cases e <;> first | rfl | (cases hm)
  · cases he

theorem op_simX [IsProg P] {o : Oper} {aop : AOp} {fr : List AV} {a : Act} {σ σ' : AHeap} {v : AV} {w : World} (hc : compOpX P o.op = some aop)
    (hf : FR ρ fr a.tmps) (hr : HR ρ σ.get w) (he : evOp fr σ aop = some (v, σ')) : OpRes P ρ o a σ w σ' v := by
  rcases compOpX_cases hc with h | ⟨e, rfl, h⟩ | ⟨c, r, name, r', l, _, _, _, _, rfl⟩
  · exact op_sim h hf hr he
  · simp only [evOp] at he
    cases hm : (AOp.ext e).memless with
    | true =>
      obtain ⟨rfl, u, h2, h3⟩ := ext_memless h hm hf he
      exact ⟨_, u, w, ρ, h3 w, .inl rfl, Post.refl hr, h2⟩
    | false => exact ext_mem h hm hf hr he
  · cases he

end
end Go.Proofs.Ytcgpkmjimncbmaa.Ab
