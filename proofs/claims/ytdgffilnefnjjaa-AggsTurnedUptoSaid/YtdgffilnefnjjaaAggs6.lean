/- The values that count. -/
import Derived.Test.YtdgffilnefnjjaaAggs5
namespace Go.Proofs.Ytdgffilnefnjjaa.Ab
open Go
set_option maxRecDepth 20000
set_option maxHeartbeats 4000000
set_option linter.unusedSimpArgs false

theorem C15_54 (n : Nat) (args : List AV) (σ : AHeap) : evCall C15 (n + 1) 54 args σ = p54 args σ := evCall_prim (by kernel_rfl) _ _ _

def V.cells (v : V) : List SV := [.int .i64 v.k, .int .i64 v.n, .str v.s]
def vcells : List V → List SV
  | [] => []
  | v :: l => v.cells ++ vcells l
theorem vcells_append : ∀ (l m : List V), vcells (l ++ m) = vcells l ++ vcells m
  | [], m => rfl
  | v :: l, m => by simp [vcells, vcells_append l m]
theorem vcells_length : ∀ l : List V, (vcells l).length = l.length * 3
  | [] => rfl
  | v :: l => by simp [vcells, V.cells, vcells_length l]; omega
theorem vcells_plain : ∀ l : List V, plainL (vcells l) = true
  | [] => rfl
  | v :: l => by simp [vcells, V.cells, plainL, plainS, vcells_plain l]
theorem rdList_vcells (md : Md) (hmd : md = .own ∨ md = .ro) : ∀ (l : List V) (pre suf : List SV), rdList (some ⟨pre ++ vcells l ++ suf, md⟩) (some 3) 3 pre.length l.length = some (l.map V.av)
  | [], pre, suf => rfl
  | v :: l, pre, suf => by
    have ih := rdList_vcells md hmd l (pre ++ v.cells) suf
    have e : pre ++ v.cells ++ vcells l ++ suf = pre ++ vcells (v :: l) ++ suf := by simp [vcells]
    rw [e] at ih
    simp only [List.length_append] at ih
    have e3 : v.cells.length = 3 := rfl
    rw [e3] at ih
    simp only [List.length_cons, rdList, ih]
    have : rd (some ⟨pre ++ vcells (v :: l) ++ suf, md⟩) (some 3) pre.length = some v.av := by
      rcases hmd with rfl | rfl <;> simp [vcells, V.cells, V.av]
    rw [this]
    rfl
theorem valsOf_map : ∀ l : List V, valsOf (l.map V.av) = some l
  | [] => rfl
  | v :: l => by simp [valsOf, V.av, avV, valsOf_map l]
theorem slVals_at {σ : AHeap} {q : Nat} {cap : Option Nat} {md : Md} {l : List V} (h : σ.get q = some ⟨vcells l, md⟩) (hmd : md = .own ∨ md = .ro) (hm : l.length ≤ maxElems) :
    slVals σ (.one (.slice q 0 3 l.length cap)) = some l := by
  have := rdList_vcells md hmd l [] []
  simp at this
  simp [slVals, hm, h, this, valsOf_map]
theorem slVals_out {b : Nat} {τ : AHeap} {s : AV} {l : List V} (h : OutSl b τ 3 s (vcells l) l.length) (hm : l.length ≤ maxElems) : slVals τ s = some l := by
  rcases h.2 with ⟨rfl, h0⟩ | ⟨q, rfl, _, _, hg⟩
  · have : l = [] := List.length_eq_zero_iff.1 h0
    subst this
    rfl
  · exact slVals_at hg (.inl rfl) hm

/-! ### aggs.taken -/
def takeV (all dist : Bool) : List V → List V → List V
  | [], out => out
  | v :: l, out =>
    if v.k = 0 ∧ all = false then takeV all dist l out
    else if dist = true ∧ (out.any fun x => decide (orderV x v = 0)) = true then takeV all dist l out
    else takeV all dist l (out ++ [v])
def p35 : Prim := fun args σ => match args with
  | [.agg [.str _, .bool dist, .bool all], s] => match slVals σ s with
    | some l => some (outRes σ 3 (vcells (takeV all dist l [])) (takeV all dist l []).length)
    | none => none
  | _ => none

theorem run35 (σ : AHeap) (nm : List UInt8) (dist all : Bool) (s : AV) (l : List V) (hl : slVals σ s = some l) :
    OptP (evCall C15 (l.length + 4) 35 [.agg [.str nm, .bool dist, .bool all], s] σ)
      (fun _ v τ => OutSl (σ.size + 1) τ 3 v (vcells (takeV all dist l [])) (takeV all dist l []).length ∧ Keeps σ τ) := by
  refine evCall_code (by kernel_rfl) code35 ?_
  rcases slVals_spec hl with ⟨rfl, rfl⟩ | ⟨id, off, cap, rfl, hr, hm⟩
  · simp [c35]
    refine ends_loop (I := fun k fr σ1 => k = 0 ∧ Keeps σ σ1 ∧ fr.length = 35 ∧ getSlot fr 9 = .one (.int .i64 0) ∧ getSlot fr 10 = .one (.int .i64 0) ∧ getSlot fr 5 = .one .nilSlice) ?_ (k := 0) ?_ (by omega)
    · rintro k fr σ1 ⟨rfl, hk, hlen, h9, h10, h5⟩
      simp [c35_0, hlen, h9, h10, h5, takeV, vcells]
      exact ⟨OutSl.nil _ _ _, hk⟩
    · simp
  · simp [c35]
    refine ends_loop (I := fun k fr τ => ∃ i out, k = l.length - i ∧ i ≤ l.length ∧ out.length ≤ i ∧ fr.length = 35 ∧ σ.size + 1 ≤ τ.size ∧ Keeps σ τ ∧ τ.get σ.size = some ⟨[.str nm, .bool dist, .bool all], .own⟩ ∧
      getSlot fr 2 = .one (.ptr σ.size 0) ∧ getSlot fr 8 = .one (.slice id off 3 l.length cap) ∧ getSlot fr 9 = .one (.int .i64 l.length) ∧ getSlot fr 10 = .one (.int .i64 i) ∧
      OutSl (σ.size + 1) τ 3 (getSlot fr 5) (vcells out) out.length ∧ takeV all dist (l.drop i) out = takeV all dist l []) ?_ (k := l.length) ?_ (by omega)
    · rintro k fr τ ⟨i, out, rfl, hi, hout, hlen, hsz, hk, h2, f2, f8, f9, f10, hO, ho⟩
      by_cases hlt : i < l.length
      · have hd : l.drop i = l[i] :: l.drop (i + 1) := List.drop_eq_getElem_cons hlt
        have hw := wr_next hlt hm
        have hid : id < σ.size := rd_lt (hr i hlt)
        have hrd := hr i hlt
        rw [← hk.2 id hid] at hrd
        have n1 : id ≠ τ.size := by omega
        have n2 : σ.size ≠ τ.size := by omega
        rw [hd] at ho
        generalize l[i] = v at hrd ho
        obtain ⟨vk, vn, vs⟩ := v
        obtain ⟨τ', hτ'⟩ : ∃ τ', τ' = (τ.alloc ⟨[.int .i64 0, .int .i64 0, .str []], .own⟩).put τ.size ⟨[.int .i64 vk, .int .i64 vn, .str vs], .own⟩ := ⟨_, rfl⟩
        have hsz' : τ'.size = τ.size + 1 := by rw [hτ']; rfl
        have hk' : Keeps σ τ' := by rw [hτ']; exact (hk.alloc).put (by omega)
        have hst : ∀ id, id ≠ τ.size → τ'.get id = τ.get id := by
          intro id hid
          rw [hτ']
          simp [hid]
        have h7 : τ'.get τ.size = some ⟨[.int .i64 vk, .int .i64 vn, .str vs], .own⟩ := by rw [hτ']; simp
        have h2' : τ'.get σ.size = some ⟨[.str nm, .bool dist, .bool all], .own⟩ := by rw [hst _ n2, h2]
        have hO' : OutSl (σ.size + 1) τ' 3 (getSlot fr 5) (vcells out) out.length := hO.stay (fun id h1 h2 => hst id (by omega))
        by_cases hz : vk = 0 ∧ all = false
        · obtain ⟨rfl, rfl⟩ := hz
          simp [c35_0, hlen, f2, f8, f9, f10, hlt, hrd, V.av, ← hτ', h7, h2', hw]
          simp [takeV] at ho
          exact ⟨l.length - (i + 1), by omega, i + 1, rfl, by omega, out, by omega, by omega, hk', by omega, hO', ho⟩
        · have hrV : rdV τ' τ.size 0 = some ⟨vk, vn, vs⟩ := by simp [rdV, h7, avV]
          have hsV : slVals τ' (getSlot fr 5) = some out := slVals_out hO' (by omega)
          have hcase : (vk = 0 ∧ all = true) ∨ vk ≠ 0 := by
            rcases Decidable.em (vk = 0) with h | h
            · cases all
              · exact absurd ⟨h, rfl⟩ hz
              · exact .inl ⟨h, rfl⟩
            · exact .inr h
          by_cases hd : dist = true ∧ (out.any fun x => decide (orderV x ⟨vk, vn, vs⟩ = 0)) = true
          · simp only [takeV, hz, hd, if_false, if_true] at ho
            obtain ⟨rfl, hany⟩ := hd
            rcases hcase with ⟨rfl, rfl⟩ | hvk
            · simp [c35_0, hlen, f2, f8, f9, f10, hlt, hrd, V.av, ← hτ', h7, h2', hw, C15_54, p54, hrV, hsV, hany]
              exact ⟨l.length - (i + 1), by omega, i + 1, rfl, by omega, out, by omega, by omega, hk', by omega, hO', ho⟩
            · simp [c35_0, hlen, f2, f8, f9, f10, hlt, hrd, V.av, ← hτ', h7, h2', hw, C15_54, p54, hrV, hsV, hany, hvk]
              exact ⟨l.length - (i + 1), by omega, i + 1, rfl, by omega, out, by omega, by omega, hk', by omega, hO', ho⟩
          · simp only [takeV, hz, hd, if_false, if_true] at ho
            have hd' : dist = false ∨ (dist = true ∧ (out.any fun x => decide (orderV x ⟨vk, vn, vs⟩ = 0)) = false) := by
              cases dist
              · exact .inl rfl
              · refine .inr ⟨rfl, ?_⟩
                simpa using hd
            have app : OptP (appendA (τ'.alloc ⟨[.int .i64 vk, .int .i64 vn, .str vs], .own⟩) 3 32 (getSlot fr 5) 1 [.int .i64 vk, .int .i64 vn, .str vs]) (fun _ s' τ2 =>
                OutSl (σ.size + 1) τ2 3 s' (vcells (out ++ [⟨vk, vn, vs⟩])) (out.length + 1) ∧ σ.size + 1 ≤ τ2.size ∧ Keeps σ τ2 ∧ τ2.get σ.size = some ⟨[.str nm, .bool dist, .bool all], .own⟩) := by
              have hO2 : OutSl (σ.size + 1) (τ'.alloc ⟨[.int .i64 vk, .int .i64 vn, .str vs], .own⟩) 3 (getSlot fr 5) (vcells out) out.length :=
                hO'.stay (fun id h1 h2 => by rw [AHeap.get_alloc, if_neg (by omega)])
              refine (append_out (bytes := 32) (vs := [.int .i64 vk, .int .i64 vn, .str vs]) hO2 (by rw [AHeap.size_alloc]; omega) (by omega) rfl (by omega) (by decide)).mono ?_
              rintro s' τ2 ⟨k1, k2, k3⟩
              rw [AHeap.size_alloc] at k2
              refine ⟨by simpa [vcells_append, vcells, V.cells] using k1, by omega, ⟨by omega, fun id hid => ?_⟩, ?_⟩
              · rw [k3 id (by omega), AHeap.get_alloc, if_neg (by omega), hk'.2 id hid]
              · rw [k3 _ (by omega), AHeap.get_alloc, if_neg (by omega), h2']
            rcases hcase with ⟨rfl, rfl⟩ | hvk
            · rcases hd' with rfl | ⟨rfl, hany⟩
              · simp [c35_0, hlen, f2, f8, f9, f10, hlt, hrd, V.av, ← hτ', h7, h2', hw, hsz', srcLen, srcCells]
                refine app.mono ?_
                rintro s' τ2 ⟨q1, q2, q3, q4⟩
                simp [hlen, f2, f8, f9, f10, hw, q4]
                exact ⟨l.length - (i + 1), by omega, i + 1, rfl, by omega, out ++ [⟨_, vn, vs⟩], by simp; omega, q2, q3, by omega, by simpa using q1, ho⟩
              · simp [c35_0, hlen, f2, f8, f9, f10, hlt, hrd, V.av, ← hτ', h7, h2', hw, hsz', srcLen, srcCells, C15_54, p54, hrV, hsV, hany]
                refine app.mono ?_
                rintro s' τ2 ⟨q1, q2, q3, q4⟩
                simp [hlen, f2, f8, f9, f10, hw, q4]
                exact ⟨l.length - (i + 1), by omega, i + 1, rfl, by omega, out ++ [⟨_, vn, vs⟩], by simp; omega, q2, q3, by omega, by simpa using q1, ho⟩
            · rcases hd' with rfl | ⟨rfl, hany⟩
              · simp [c35_0, hlen, f2, f8, f9, f10, hlt, hrd, V.av, ← hτ', h7, h2', hw, hsz', srcLen, srcCells, hvk]
                refine app.mono ?_
                rintro s' τ2 ⟨q1, q2, q3, q4⟩
                simp [hlen, f2, f8, f9, f10, hw, q4]
                exact ⟨l.length - (i + 1), by omega, i + 1, rfl, by omega, out ++ [⟨_, vn, vs⟩], by simp; omega, q2, q3, by omega, by simpa using q1, ho⟩
              · simp [c35_0, hlen, f2, f8, f9, f10, hlt, hrd, V.av, ← hτ', h7, h2', hw, hsz', srcLen, srcCells, C15_54, p54, hrV, hsV, hany, hvk]
                refine app.mono ?_
                rintro s' τ2 ⟨q1, q2, q3, q4⟩
                simp [hlen, f2, f8, f9, f10, hw, q4]
                exact ⟨l.length - (i + 1), by omega, i + 1, rfl, by omega, out ++ [⟨_, vn, vs⟩], by simp; omega, q2, q3, by omega, by simpa using q1, ho⟩
      · simp [c35_0, hlen, f9, f10, hlt]
        rw [List.drop_of_length_le (by omega)] at ho
        simp only [takeV] at ho
        subst ho
        exact ⟨hO, hk⟩
    · refine ⟨0, [], ?_⟩
      simp
      exact OutSl.nil _ _ _

theorem ok35 : PrimOk Try.prog 35 p35 := primOk_of_run C15_good fun args σ v σ' h => by
  unfold p35 at h
  split at h
  · rename_i nm dist all s
    split at h
    · rename_i l hl
      obtain ⟨v1, τ, he, hO, hk⟩ := run35 σ nm dist all s l hl
      obtain ⟨π, hi⟩ := iso_out hO (by omega) hk (vcells_plain _)
      simp only [Option.some.injEq] at h
      rw [h] at hi
      exact ⟨_, v1, τ, π, he, hi⟩
    · cases h
  · cases h
noncomputable def C16 : Ctx := C15.lay 35 p35
theorem C16_good : C16.Good Try.prog := Ctx.lay_good C15_good ok35
end Go.Proofs.Ytdgffilnefnjjaa.Ab
