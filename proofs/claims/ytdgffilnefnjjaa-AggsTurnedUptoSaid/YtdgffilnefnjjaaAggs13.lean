/- What an aggregate tells of what is there: Agg.Value. -/
import Derived.Test.YtdgffilnefnjjaaAggs12
namespace Go.Proofs.Ytdgffilnefnjjaa.Ab
open Go
set_option maxRecDepth 20000
set_option maxHeartbeats 4000000
set_option linter.unusedSimpArgs false

theorem C25_9 (n : Nat) (args : List AV) (σ : AHeap) : evCall C25 (n + 1) 9 args σ = p9 args σ := evCall_prim (by kernel_rfl) _ _ _

/-- A value under its number. -/
def avK : AV → Option V
  | .agg [.int .i64 _, .int .i64 k, .int .i64 n, .str s] => some ⟨k, n, s⟩
  | _ => none
theorem avK_spec {a : AV} {v : V} (h : avK a = some v) : ∃ q, a = .agg [.int .i64 q, .int .i64 v.k, .int .i64 v.n, .str v.s] := by
  unfold avK at h
  split at h
  · cases h; exact ⟨_, rfl⟩
  · cases h
def keptOf : List AV → Option (List V)
  | [] => some []
  | a :: l => match avK a, keptOf l with
    | some v, some r => some (v :: r)
    | _, _ => none
theorem keptOf_spec : ∀ {l : List AV} {r : List V}, keptOf l = some r → l.length = r.length ∧ ∀ i (h : i < r.length), ∃ q, l[i]? = some (.agg [.int .i64 q, .int .i64 r[i].k, .int .i64 r[i].n, .str r[i].s])
  | [], r, h => by simp [keptOf] at h; subst h; exact ⟨rfl, fun i h => absurd h (by simp)⟩
  | a :: l, r, h => by
    unfold keptOf at h
    split at h
    · rename_i v r' h1 h2
      cases h
      obtain ⟨k1, k2⟩ := keptOf_spec h2
      refine ⟨by simp [k1], fun i hi => ?_⟩
      cases i with
      | zero =>
        obtain ⟨q, hq⟩ := avK_spec h1
        exact ⟨q, by simp [hq]⟩
      | succ i =>
        obtain ⟨q, hq⟩ := k2 i (by simpa using hi)
        exact ⟨q, by simpa using hq⟩
    · cases h
/-- The values of a slice of such. -/
def slKept (σ : AHeap) : SV → Option (List V)
  | .nilSlice => some []
  | .slice id off e len _ => match Nat.beq e 4 && Nat.ble len maxElems, rdList (σ.get id) (some 4) 4 off len with
    | true, some l => keptOf l
    | _, _ => none
  | _ => none
theorem slKept_spec {σ : AHeap} {s : SV} {l : List V} (h : slKept σ s = some l) : (s = .nilSlice ∧ l = []) ∨
    ∃ id off cap, s = .slice id off 4 l.length cap ∧ (∀ i (h : i < l.length), ∃ q, rd (σ.get id) (some 4) (off + i * 4) = some (.agg [.int .i64 q, .int .i64 l[i].k, .int .i64 l[i].n, .str l[i].s])) ∧ l.length ≤ maxElems := by
  unfold slKept at h
  split at h
  · cases h; exact .inl ⟨rfl, rfl⟩
  · rename_i id off e len cap
    split at h
    · rename_i l' he hr
      obtain ⟨k1, k2⟩ := rdList_spec hr
      obtain ⟨k3, k4⟩ := keptOf_spec h
      simp at he
      obtain ⟨rfl, hm⟩ := he
      rw [k3] at k1
      subst k1
      refine .inr ⟨id, off, cap, rfl, fun i hi => ?_, hm⟩
      obtain ⟨q, hq⟩ := k4 i hi
      refine ⟨q, ?_⟩
      have hi' : i < l'.length := by omega
      rw [k2 i hi']
      rw [List.getElem?_eq_getElem hi'] at hq
      exact hq
    · cases h
  · cases h

def p15 : Prim := fun args σ => match args with
  | [.one (.ptr id 0)] => match σ.get id with
    | some ⟨[.str nm, .bool dist, .bool all, s], .own⟩ => match slKept σ s with
      | some l => if (l.all fun v => inI v.n) = true then some (.tup [(ofV nm dist all l).1.av, .one (.int .i64 (ofV nm dist all l).2)], σ) else none
      | none => none
    | _ => none
  | [.one .nilPtr] => some (.tup [zeroV.av, .one (.int .i64 170)], σ)
  | _ => none

theorem run15 (σ : AHeap) (id : Nat) (nm : List UInt8) (dist all : Bool) (s : SV) (l : List V) (hg : σ.get id = some ⟨[.str nm, .bool dist, .bool all, s], .own⟩) (hl : slKept σ s = some l)
    (hin : (l.all fun v => inI v.n) = true) :
    OptP (evCall C25 (l.length + 5) 15 [.one (.ptr id 0)] σ) (fun _ v τ => v = .tup [(ofV nm dist all l).1.av, .one (.int .i64 (ofV nm dist all l).2)] ∧ Keeps σ τ) := by
  have hid := AHeap.get_lt hg
  have hide : id ≠ σ.size := by omega
  -- what is left behind the loop
  have tail : ∀ fr τ, fr.length = 33 → getSlot fr 0 = .one (.ptr id 0) → getSlot fr 2 = .one (.ptr σ.size 0) → slVals τ (getSlot fr 4) = some l → Keeps σ τ → σ.size < τ.size →
      τ.get σ.size = some ⟨[.int .i64 0, .int .i64 0, .str []], .own⟩ →
      p9 [.agg [.str nm, .bool dist, .bool all], getSlot fr 4] τ = some (.tup [(ofV nm dist all l).1.av, .one (.int .i64 (ofV nm dist all l).2)], τ) := by
    intro fr τ _ _ _ h _ _ _
    simp only [p9, h]
    rw [if_pos hin]
  refine evCall_code (by kernel_rfl) code15 ?_
  generalize ofV nm dist all l = r at tail ⊢
  obtain ⟨⟨r1, r2, r3⟩, r4⟩ := r
  rcases slKept_spec hl with ⟨rfl, rfl⟩ | ⟨sid, off, cap, rfl, hr, hm⟩
  · simp [c15, hide, hg]
    refine ends_loop (I := fun k fr τ => k = 0 ∧ Keeps σ τ ∧ σ.size < τ.size ∧ τ.get σ.size = some ⟨[.int .i64 0, .int .i64 0, .str []], .own⟩ ∧ fr.length = 33 ∧ getSlot fr 0 = .one (.ptr id 0) ∧
      getSlot fr 2 = .one (.ptr σ.size 0) ∧ getSlot fr 4 = .one .nilSlice ∧ getSlot fr 14 = .one (.int .i64 0) ∧ getSlot fr 15 = .one (.int .i64 0)) ?_ (k := 0) ?_ (by omega)
    · rintro k fr τ ⟨rfl, hk, hs, h2, hlen, f0, f2, f4, f14, f15⟩
      have t := tail fr τ hlen f0 f2 (by rw [f4]; rfl) hk hs h2
      rw [f4] at t
      have hg' := hk.2 id hid
      rw [hg] at hg'
      simp (maxDischargeDepth := 99) [c15_0, hlen, f0, f2, f4, f14, f15, hg', C25_9, t, h2, hs, V.av, hk]
    · simp (maxDischargeDepth := 99)
  · simp [c15, hide, hg]
    refine ends_loop (I := fun k fr τ => ∃ i, k = l.length - i ∧ i ≤ l.length ∧ Keeps σ τ ∧ σ.size + 1 ≤ τ.size ∧ τ.get σ.size = some ⟨[.int .i64 0, .int .i64 0, .str []], .own⟩ ∧ fr.length = 33 ∧ getSlot fr 0 = .one (.ptr id 0) ∧
      getSlot fr 2 = .one (.ptr σ.size 0) ∧ OutSl (σ.size + 1) τ 3 (getSlot fr 4) (vcells (l.take i)) (l.take i).length ∧ getSlot fr 13 = .one (.slice sid off 4 l.length cap) ∧ getSlot fr 14 = .one (.int .i64 l.length) ∧
      getSlot fr 15 = .one (.int .i64 i)) ?_ (k := l.length) ?_ (by omega)
    · rintro k fr τ ⟨i, rfl, hi, hk, hs, h2, hlen, f0, f2, hO, f13, f14, f15⟩
      by_cases hlt : i < l.length
      · have hw := wr_next hlt hm
        obtain ⟨q, hrd⟩ := hr i hlt
        have hsid : sid < σ.size := rd_lt hrd
        rw [← hk.2 sid hsid] at hrd
        have htake : l.take (i + 1) = l.take i ++ [l[i]] := by rw [List.take_add_one, List.getElem?_eq_getElem hlt]; rfl
        generalize l[i] = v at hrd htake
        obtain ⟨vk, vn, vs⟩ := v
        simp only at hrd
        have n1 : sid ≠ τ.size := by omega
        have n2 : σ.size ≠ τ.size := by omega
        obtain ⟨τ', hτ'⟩ : ∃ τ', τ' = (τ.alloc ⟨[.int .i64 0, .int .i64 0, .int .i64 0, .str []], .own⟩).put τ.size ⟨[.int .i64 q, .int .i64 vk, .int .i64 vn, .str vs], .own⟩ := ⟨_, rfl⟩
        have hsz' : τ'.size = τ.size + 1 := by rw [hτ']; rfl
        have hk' : Keeps σ τ' := by rw [hτ']; exact (hk.alloc).put (by omega)
        have hst : ∀ id, id ≠ τ.size → τ'.get id = τ.get id := by
          intro id hid
          rw [hτ']
          simp [hid]
        have h6 : τ'.get τ.size = some ⟨[.int .i64 q, .int .i64 vk, .int .i64 vn, .str vs], .own⟩ := by rw [hτ']; simp
        have h2' : τ'.get σ.size = some ⟨[.int .i64 0, .int .i64 0, .str []], .own⟩ := by rw [hst _ n2, h2]
        have hO' : OutSl (σ.size + 1) τ' 3 (getSlot fr 4) (vcells (l.take i)) (l.take i).length := hO.stay (fun id h1 h2 => hst id (by omega))
        have hln : (l.take i).length = i := by simp; omega
        have app : OptP (appendA (τ'.alloc ⟨[.int .i64 vk, .int .i64 vn, .str vs], .own⟩) 3 32 (getSlot fr 4) 1 [.int .i64 vk, .int .i64 vn, .str vs]) (fun _ s' τ2 =>
            OutSl (σ.size + 1) τ2 3 s' (vcells (l.take (i + 1))) (l.take (i + 1)).length ∧ σ.size + 1 ≤ τ2.size ∧ Keeps σ τ2 ∧ τ2.get σ.size = some ⟨[.int .i64 0, .int .i64 0, .str []], .own⟩) := by
          have hO2 : OutSl (σ.size + 1) (τ'.alloc ⟨[.int .i64 vk, .int .i64 vn, .str vs], .own⟩) 3 (getSlot fr 4) (vcells (l.take i)) (l.take i).length :=
            hO'.stay (fun id h1 h2 => by rw [AHeap.get_alloc, if_neg (by omega)])
          refine (append_out (bytes := 32) (vs := [.int .i64 vk, .int .i64 vn, .str vs]) hO2 (by rw [AHeap.size_alloc]; omega) (by omega) rfl (by omega) (by decide)).mono ?_
          rintro s' τ2 ⟨k1, k2, k3⟩
          rw [AHeap.size_alloc] at k2
          refine ⟨by rw [htake]; simpa [vcells_append, vcells, V.cells] using k1, by omega, ⟨by omega, fun id hid => ?_⟩, ?_⟩
          · rw [k3 id (by omega), AHeap.get_alloc, if_neg (by omega), hk'.2 id hid]
          · rw [k3 _ (by omega), AHeap.get_alloc, if_neg (by omega), h2']
        simp (maxDischargeDepth := 99) [c15_0, hlen, f0, f2, f13, f14, f15, hlt, hrd, n1, n2, ← hτ', hsz', h6, h2', srcLen, srcCells]
        refine app.mono ?_
        rintro s' τ2 ⟨q1, q2, q3, q4⟩
        simp [hlen, f0, f2, f13, f14, f15, hw, q4]
        exact ⟨l.length - (i + 1), by omega, i + 1, rfl, by omega, q3, by omega, by simpa using q1, by omega⟩
      · have hi' : i = l.length := by omega
        subst hi'
        rw [List.take_length] at hO
        have t := tail fr τ hlen f0 f2 (slVals_out hO hm) hk (by omega) h2
        have hs' : σ.size < τ.size := by omega
        have hg' := hk.2 id hid
        rw [hg] at hg'
        simp (maxDischargeDepth := 99) [c15_0, hlen, f0, f2, f14, f15, hg', C25_9, t, h2, hs', V.av, hk]
    · refine ⟨0, ?_⟩
      simp (maxDischargeDepth := 99) [vcells]
      exact OutSl.nil _ _ _

theorem ok15 : PrimOk Try.prog 15 p15 := primOk_pure C25_good fun args σ v σ' h => by
  unfold p15 at h
  split at h
  · rename_i id
    split at h
    · rename_i nm dist all s hg
      split at h
      · rename_i l hl
        split at h
        · rename_i hin
          cases h
          exact ⟨rfl, rfl, _, run15 σ id nm dist all s l hg hl hin⟩
        · cases h
      · cases h
    · cases h
  · cases h
    refine ⟨rfl, rfl, 4, evCall_code (by kernel_rfl) code15 ?_⟩
    simp (maxDischargeDepth := 99) [c15, zeroV, V.av]
  · cases h
noncomputable def C26 : Ctx := C25.lay 15 p15
theorem C26_good : C26.Good Try.prog := Ctx.lay_good C25_good ok15

end Go.Proofs.Ytdgffilnefnjjaa.Ab
