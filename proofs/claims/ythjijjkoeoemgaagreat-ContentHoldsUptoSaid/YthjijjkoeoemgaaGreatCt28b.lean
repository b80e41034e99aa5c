/- The law's copied. -/
import Derived.Test.YthjijjkoeoemgaaGreatCt28
namespace Go.Proofs.YthjijjkoeoemgaaGreat.Ab
open Go
set_option maxRecDepth 20000
set_option maxHeartbeats 4000000
set_option linter.unusedSimpArgs false
set_option linter.unusedVariables false

theorem append_nil {b : Nat} {τ : AHeap} {esz bytes k : Nat} {vs : List SV} (hb : b ≤ τ.size) (hk : 0 < k) (hv : vs.length = k * esz) (hn : k ≤ maxElems) (hby : bytes ≤ maxBytes) :
    OptP (appendA τ esz bytes (.one .nilSlice) k vs) (fun _ s' τ' => OutSl b τ' esz s' vs k ∧ s' = .one (.slice τ.size 0 esz k none) ∧ τ' = τ.alloc ⟨vs, .own⟩) := by
  obtain ⟨k, rfl⟩ : ∃ j, k = j + 1 := ⟨k - 1, by omega⟩
  simp [appendA, appendK, hn, hby]
  exact ⟨hv, .inr ⟨τ.size, rfl, by omega, hb, by simp⟩⟩
def ILc (σ : AHeap) (s : AV) (l : List Arr) (k : Nat) (fr : List AV) (τ : AHeap) : Prop :=
  ∃ i out, k = l.length - i ∧ i ≤ l.length ∧ out.length = i ∧ out.map Arr.key = (l.take i).map Arr.key ∧ RowsOk τ out ∧ RowsLt (getSlot fr 3) out ∧ (getSlot fr 3 = .one .nilSlice → out = []) ∧ fr.length = 32 ∧ getSlot fr 0 = s ∧ getSlot fr 4 = .one (.int .i64 (i : Int)) ∧
    OutSl σ.size τ 3 (getSlot fr 3) (acells out) out.length ∧ Keeps σ τ
def OLc (σ : AHeap) (l : List Arr) (fr : List AV) (τ : AHeap) : Prop :=
  ∃ out, out.length = l.length ∧ out.map Arr.key = l.map Arr.key ∧ RowsOk τ out ∧ fr.length = 32 ∧ OutSl σ.size τ 3 (getSlot fr 3) (acells out) out.length ∧ Keeps σ τ
theorem run_lc (σ : AHeap) (s : AV) (l : List Arr) (h : Arrs σ s l) (hne : ∀ a ∈ l, a.vals ≠ []) (f : Nat) (hf : l.length + 12 ≤ f) :
    OptP (evCall D9 f 6 [s] σ) (fun _ v τ => ∃ out, out.map Arr.key = l.map Arr.key ∧ RowsOk τ out ∧ OutSl σ.size τ 3 v (acells out) out.length ∧ Keeps σ τ) := by
  obtain ⟨f, rfl⟩ : ∃ k, f = k + 1 := ⟨f - 1, by omega⟩
  refine evCall_code (D9_prim 6) ((D9_code 6).trans codeb6) ?_
  rcases h.rd with ⟨rfl, rfl⟩ | ⟨id, off, cap, rfl, hm, hr⟩
  · simp (maxDischargeDepth := 99) [cb6]
    refine ends_loop (I := fun k fr τ => k = 0 ∧ τ = σ ∧ fr.length = 32 ∧ getSlot fr 0 = .one .nilSlice ∧ getSlot fr 3 = .one .nilSlice ∧ getSlot fr 4 = .one (.int .i64 0)) ?_ (k := 0) ?_ (by omega)
    · rintro k fr τ ⟨rfl, rfl, hlen, f0, f3, f4⟩
      simp (maxDischargeDepth := 99) [cb6_0, hlen, f0, f3, f4]
      exact ⟨(fun a ha => by cases ha), by simpa [acells] using OutSl.nil _ _ _⟩
    · simp
  · simp (maxDischargeDepth := 99) [cb6]
    refine ends_to 0 (OLc σ l) ?_ ?_
    · refine ends_loop (I := ILc σ (.one (.slice id off 3 l.length cap)) l) ?_ (k := l.length) ?_ (by omega)
      · rintro k fr τ ⟨i, out, rfl, hi, hol, hkey, hro, hrl, hrn, hlen, f0, f4, hO, hk⟩
        by_cases hlt : i < l.length
        · obtain ⟨_, p0, p1, p2⟩ := hr i hlt
          have hidσ := rd_lt p0
          have hid : id < τ.size := Nat.lt_of_lt_of_le hidσ hk.1
          rw [← hk.2 id hidσ] at p0 p1 p2
          have hw := wr_next hlt hm
          have hlt' : (i : Int) < (l.length : Int) := Int.ofNat_lt.2 hlt
          have htk := take_next hlt
          have hrow := slVals_keeps hk (h.2 _ (rAt_mem hlt))
          have hnev := hne _ (rAt_mem hlt)
          generalize rAt l i = a at p0 p1 p2 htk hrow hnev
          obtain ⟨id', off', cap', hrw, hid', hs, hmv⟩ := slVals_src hrow hnev
          have hrw : a.row = .slice id' off' 3 a.vals.length cap' := by injection hrw
          rw [hrw] at hs p2
          have hpos : 0 < a.vals.length := by
            have := hnev
            cases hv : a.vals with
            | nil => exact absurd hv this
            | cons => simp
          have hap0 := append_nil (b := τ.size) (bytes := 32) (esz := 3) (vs := vcells a.vals) (k := a.vals.length) (τ := τ) (Nat.le_refl _) hpos (vcells_length a.vals) hmv (by decide)
          simp (maxDischargeDepth := 99) [cb6_0, hlen, f0, f4, hlt, hlt']
          refine ends_draw ?_
          simp (maxDischargeDepth := 99) [hlen, f0, f4, hlt, hlt', p0, p1, p2, srcLen, hs, -sameObj]
          refine hap0.mono ?_
          rintro v τ3 ⟨hO3, rfl, rfl⟩
          obtain ⟨x, hx⟩ : ∃ x : SV, x = .slice τ.size 0 3 a.vals.length none := ⟨_, rfl⟩
          rw [← hx] at hO3 ⊢
          have hv := slVals_out hO3 hmv
          obtain ⟨τ3, hτ3⟩ : ∃ τ3, τ3 = τ.alloc ⟨vcells a.vals, .own⟩ := ⟨_, rfl⟩
          rw [← hτ3] at hv ⊢
          have k3 : Keeps τ τ3 := by rw [hτ3]; exact (Keeps.refl _).alloc
          have s3 : τ3.size = τ.size + 1 := by rw [hτ3, AHeap.size_alloc]
          have Eid : τ3.get id = τ.get id := k3.2 _ hid
          have hkk := hk.trans k3
          have hO4 : OutSl σ.size (τ3.alloc ⟨[.int .i64 a.seq, .int .i64 a.time, x], .own⟩) 3 (getSlot fr 3) (acells out) out.length :=
            (hO.stay (fun j _ h2 => k3.2 j h2)).stay (fun j h1 h2 => by rw [AHeap.get_alloc, if_neg (by omega)])
          have hap := append_one (b := σ.size) (bytes := 40) (vs := [.int .i64 a.seq, .int .i64 a.time, x]) hO4 (by rw [AHeap.size_alloc]; have := hkk.1; omega) (by omega) rfl (cp1 hol hlt hm) (by decide)
          simp (maxDischargeDepth := 99) [hlen, Eid, p0, p1, p2, srcLen, srcCells, -sameObj]
          refine hap.mono ?_
          rintro s' τ5 ⟨q1, q2, q4, q3⟩
          rw [AHeap.size_alloc] at q2 q4
          have hst : ∀ j, j < τ3.size → (∀ o e k c, getSlot fr 3 ≠ .one (.slice j o e k c)) → τ5.get j = τ3.get j := fun j hj hne => by
            rw [q3 j (by rw [AHeap.size_alloc]; omega) hne, AHeap.get_alloc, if_neg (by omega)]
          have hlow : ∀ j, j < σ.size → ∀ o e k c, getSlot fr 3 ≠ .one (.slice j o e k c) := fun j hj o e k c he => by
            rcases hO.2 with ⟨e2, _⟩ | ⟨q, e2, _, e3, _⟩
            · rw [e2] at he; cases he
            · rw [e2] at he; cases he; omega
          have k5 : Keeps σ τ5 := ⟨by rw [q2]; have := hkk.1; omega, fun j hj => by rw [hst j (by have := hkk.1; omega) (hlow j hj)]; exact hkk.2 j hj⟩
          have hqlt : ∀ q o e n c, getSlot fr 3 = .one (.slice q o e n c) → q < τ.size := fun q o e n c he => by
            rcases hO.2 with ⟨e2, _⟩ | ⟨q, e2, _, _, e3⟩
            · rw [e2] at he; cases he
            · rw [e2] at he; cases he; exact AHeap.get_lt e3
          have hold : ∀ y ∈ out, ∃ id off cap, y.row = .slice id off 3 y.vals.length cap ∧ id < τ.size ∧ ∀ o e k c, getSlot fr 3 ≠ .one (.slice id o e k c) := fun y hy => by
            rcases hO.2 with ⟨e2, _⟩ | ⟨q, e2, _, _, e3⟩
            · rw [hrn e2] at hy; cases hy
            · obtain ⟨id, off, cap, e4, e5⟩ := hrl q _ _ _ _ e2 y hy
              refine ⟨id, off, cap, e4, by have := AHeap.get_lt e3; omega, fun o e k c he => ?_⟩
              rw [e2] at he; cases he; omega
          have hro5 : RowsOk τ5 (out ++ [⟨a.seq, a.time, x, a.vals⟩]) := by
            intro y hy
            rcases List.mem_append.1 hy with hy | hy
            · obtain ⟨id, off, cap, e4, e5, e6⟩ := hold y hy
              have h1 := slVals_keeps k3 (hro y hy)
              rw [e4] at h1 ⊢
              exact slVals_get h1 (hst id (by omega) e6)
            · simp only [List.mem_singleton] at hy
              subst hy
              rw [hx] at hv ⊢
              exact slVals_get hv (hst τ.size (by omega) (fun o e k c he => by have := hqlt _ _ _ _ _ he; omega))
          have hrl5 : RowsLt s' (out ++ [⟨a.seq, a.time, x, a.vals⟩]) := by
            intro q o e n c he y hy
            rw [q4] at he
            cases he
            rcases List.mem_append.1 hy with hy | hy
            · obtain ⟨id, off, cap, e4, e5, e6⟩ := hold y hy
              exact ⟨id, off, cap, e4, by omega⟩
            · simp only [List.mem_singleton] at hy
              subst hy
              exact ⟨τ.size, 0, none, hx, by omega⟩
          simp (maxDischargeDepth := 99) [hlen, f4, hw, Eid, -Int.natCast_add, -sameObj]
          refine ⟨l.length - (i + 1), y1 hlt, i + 1, out ++ [⟨a.seq, a.time, x, a.vals⟩], rfl, hlt, by simp [hol], by rw [htk]; simp [hkey, Arr.key], hro5, by simpa [hlen] using hrl5, by simp [hlen, q4], by simp [hlen], by simp [hlen, f0], by simp [hlen, -Int.natCast_add], ?_, k5⟩
          simp [hlen, acells_append, acells, Arr.cells]
          exact q1
        · obtain rfl : i = l.length := by omega
          rw [List.take_of_length_le (Nat.le_refl _)] at hkey
          simp (maxDischargeDepth := 99) [cb6_0, hlen, f0, f4]
          exact ⟨out, hol, hkey, hro, by simp [hlen], by simpa [hlen] using hO, hk⟩
      · exact ⟨0, [], rfl, Nat.zero_le _, rfl, rfl, (fun a ha => by cases ha), (fun _ _ _ _ _ _ a ha => by cases ha), (fun _ => rfl), by simp, by simp, by simp, by simpa [acells] using OutSl.nil _ _ _, Keeps.refl _⟩
    · rintro fr τ ⟨out, hol, hkey, hro, hlen, hO, hk⟩
      simp (maxDischargeDepth := 99) [hlen]
      exact ⟨out, hkey, hro, hO, hk⟩
end Go.Proofs.YthjijjkoeoemgaaGreat.Ab
