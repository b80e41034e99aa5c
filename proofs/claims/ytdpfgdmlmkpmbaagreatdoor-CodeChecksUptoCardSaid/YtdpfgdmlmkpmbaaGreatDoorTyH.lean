/- Several of my texts in one: Ty16, Ty17, Ty18, Ty19, Ty20, Ty21, Ty22. -/
import Derived.Test.YtdpfgdmlmkpmbaaGreatDoorTyG
/- The checker's aggregates. -/
namespace Go.Proofs.YtdpfgdmlmkpmbaaGreatDoor.Ab
open Go
set_option maxRecDepth 20000
set_option maxHeartbeats 16000000
set_option linter.unusedSimpArgs false

/-- What the checker says of a tree, and how it stands behind it. -/
def Says (s : SV) (F : List Fld) (aggs : Bool) (id : Nat) (u : T) (ins : Bool) (st : CSt) (a : Int) (st1 : CSt) : Prop :=
  ∀ τ, ChkAt τ id s aggs st → FldAt τ id s F → ∃ σ', lim TyD 34 [.one (.ptr id 0), .agg u.cells, .one (.bool ins)] τ = some (.one (.int .i64 a), σ') ∧ Left τ id s aggs st1 σ'

theorem eq_agg (σ : AHeap) (id : Nat) (s : SV) (F : List Fld) (aggs : Bool) (st : CSt) (n : T) (ins : Bool) (kd : Int) (st1 : CSt) (h : ChkAt σ id s aggs st) (hF : FldAt σ id s F)
    (hk : (n.kids = [] ∧ kd = 0 ∧ st1 = st) ∨ ∃ u, n.kids = [u] ∧ Says s F aggs id u true st kd st1) (r : Int × CSt) (hr : r = if (!aggs || ins) = true then (0, failS st 112 n) else aggS n kd st1) :
    ∃ σ', lim TyD 94 [.one (.ptr id 0), .agg n.cells, .one (.bool ins)] σ = some (.one (.int .i64 r.1), σ') ∧ Left σ id s aggs r.2 σ' := by
  have key : OptP (lim TyD 94 [.one (.ptr id 0), .agg n.cells, .one (.bool ins)] σ) (fun _ x σ' => x = .one (.int .i64 r.1) ∧ Left σ id s aggs r.2 σ') := by
    refine lim_gc (TyD_prim rfl) ((TyD_code _).trans codeCkAgg) rfl ?_
    unfold BodyP
    obtain ⟨τ, hτ⟩ : ∃ τ, τ = σ.alloc ⟨n.cells, .own⟩ := ⟨_, rfl⟩
    have hc : ChkAt τ id s aggs st := by rw [hτ]; exact h.alloc _
    have hFτ : FldAt τ id s F := by rw [hτ]; exact hF.alloc _
    have hlt := h.lt
    have g0 : τ.get σ.size = some ⟨n.cells, .own⟩ := by rw [hτ]; simp
    have hcg := hc
    unfold ChkAt chkCells at hcg
    have fin : ∀ {st' : CSt} {σ' : AHeap}, Left τ id s aggs st' σ' → GcOk σ σ' ∧ Left σ id s aggs st' (σ'.cutTo σ.size) := fun hl => Left.fin (o := ⟨n.cells, .own⟩) h hF (by rw [← hτ]; exact hl)
    by_cases hb : (!aggs || ins) = true
    · rw [if_pos hb] at hr
      subst hr
      obtain ⟨τ3, hf, l3⟩ := eq_fail τ id s aggs st 112 n hc hFτ.lo
      have e3 := fin l3
      rw [T.cells_eq] at hf g0 hτ ⊢
      cases aggs with
      | false => simp (maxDischargeDepth := 99) [cCkAgg, ← hτ, hcg, g0, hf, e3]
      | true =>
        cases ins with
        | false => cases hb
        | true => simp (maxDischargeDepth := 99) [cCkAgg, ← hτ, hcg, g0, hf, e3]
    · rw [if_neg hb] at hr
      have ha : aggs = true := by cases aggs <;> simp_all
      have hi : ins = false := by cases ins <;> simp_all
      subst ha hi
      obtain ⟨τ1, l1, hcall⟩ : ∃ τ1, Left τ id s true st1 τ1 ∧ ((n.kids = [] ∧ τ1 = τ ∧ kd = 0) ∨ ∃ u, n.kids = [u] ∧ lim TyD 34 [.one (.ptr id 0), .agg u.cells, .one (.bool true)] τ = some (.one (.int .i64 kd), τ1)) := by
        rcases hk with ⟨h1, h2, h3⟩ | ⟨u, h1, hu⟩
        · subst h3
          exact ⟨τ, Left.refl hc, .inl ⟨h1, rfl, h2⟩⟩
        · obtain ⟨τ1, h2, h3⟩ := hu τ hc hFτ
          exact ⟨τ1, h3, .inr ⟨u, h1, h2⟩⟩
      obtain ⟨τ3, hf, l3⟩ := eq_fail τ1 id s true st1 111 n l1.2.1 (l1.fld hFτ).lo
      have e1 := fin l1
      have e3 := fin (l1.trans l3)
      have g1 : τ1.get σ.size = some ⟨n.cells, .own⟩ := Left.box h (by rw [← hτ]; exact l1)
      clear hk l1 l3 fin hc hFτ hb
      unfold aggS at hr
      rw [T.cells_eq] at hf g0 g1 hτ ⊢
      rcases hcall with ⟨hk, rfl, hkd⟩ | ⟨u, hk, hu⟩
      · subst hkd
        rw [hk, List.map_nil] at hf g0 g1 hτ
        rw [hk, List.map_nil]
        generalize n.text = tx at *
        by_cases t0 : tx = bytes [99, 111, 117, 110, 116]
        · subst t0
          rw [if_pos (by decide)] at hr
          subst hr
          simp (maxDischargeDepth := 99) [cCkAgg, ← hτ, hcg, g0, g1, hf, e1, e3, sbin, beqL_iff]
        by_cases t1 : tx = bytes [115, 117, 109]
        · subst t1
          rw [if_neg (by decide), if_pos (by decide), if_neg (by decide)] at hr
          subst hr
          simp (maxDischargeDepth := 99) [cCkAgg, ← hτ, hcg, g0, g1, hf, e1, e3, sbin, beqL_iff, t0, (show ¬ (bytes [115, 117, 109] = bytes [97, 118, 103]) by decide)]
        by_cases t2 : tx = bytes [97, 118, 103]
        · subst t2
          rw [if_neg (by decide), if_pos (by decide), if_neg (by decide)] at hr
          subst hr
          simp (maxDischargeDepth := 99) [cCkAgg, ← hτ, hcg, g0, g1, hf, e1, e3, sbin, beqL_iff, t0, t1]
        rw [if_neg t0, if_neg (fun h => h.elim t1 t2), if_pos rfl] at hr
        subst hr
        simp (maxDischargeDepth := 99) [cCkAgg, ← hτ, hcg, g0, g1, hf, e1, e3, sbin, beqL_iff, t0, t1, t2]
      · rw [hk, List.map_cons, List.map_nil] at hf g0 g1 hτ
        rw [hk, List.map_cons, List.map_nil]
        rw [T.cells_eq u] at *
        generalize n.text = tx at *
        by_cases t0 : tx = bytes [99, 111, 117, 110, 116]
        · subst t0
          rw [if_pos (by decide)] at hr
          subst hr
          simp (maxDischargeDepth := 99) [cCkAgg, ← hτ, hcg, g0, g1, hf, e1, e3, sbin, beqL_iff, hu]
        by_cases t1 : tx = bytes [115, 117, 109]
        · subst t1
          by_cases k2 : kd = 2
          · subst k2
            rw [if_neg (by decide), if_pos (by decide), if_pos (by decide), if_neg (by decide)] at hr
            subst hr
            simp (maxDischargeDepth := 99) [cCkAgg, ← hτ, hcg, g0, g1, hf, e1, e3, sbin, beqL_iff, hu, t0, (show ¬ (bytes [115, 117, 109] = bytes [97, 118, 103]) by decide)]
          by_cases k3 : kd = 3
          · subst k3
            rw [if_neg (by decide), if_pos (by decide), if_pos (by decide), if_neg (by decide)] at hr
            subst hr
            simp (maxDischargeDepth := 99) [cCkAgg, ← hτ, hcg, g0, g1, hf, e1, e3, sbin, beqL_iff, hu, t0, (show ¬ (bytes [115, 117, 109] = bytes [97, 118, 103]) by decide)]
          rw [if_neg (by decide), if_pos (by decide), if_neg (fun h => h.elim k2 k3)] at hr
          subst hr
          simp (maxDischargeDepth := 99) [cCkAgg, ← hτ, hcg, g0, g1, hf, e1, e3, sbin, beqL_iff, hu, t0, (show ¬ (bytes [115, 117, 109] = bytes [97, 118, 103]) by decide), k2, k3]
        by_cases t2 : tx = bytes [97, 118, 103]
        · subst t2
          by_cases k2 : kd = 2
          · subst k2
            rw [if_neg (by decide), if_pos (by decide), if_pos (by decide), if_pos (by decide)] at hr
            subst hr
            simp (maxDischargeDepth := 99) [cCkAgg, ← hτ, hcg, g0, g1, hf, e1, e3, sbin, beqL_iff, hu, t0, t1]
          by_cases k3 : kd = 3
          · subst k3
            rw [if_neg (by decide), if_pos (by decide), if_pos (by decide), if_pos (by decide)] at hr
            subst hr
            simp (maxDischargeDepth := 99) [cCkAgg, ← hτ, hcg, g0, g1, hf, e1, e3, sbin, beqL_iff, hu, t0, t1]
          rw [if_neg (by decide), if_pos (by decide), if_neg (fun h => h.elim k2 k3)] at hr
          subst hr
          simp (maxDischargeDepth := 99) [cCkAgg, ← hτ, hcg, g0, g1, hf, e1, e3, sbin, beqL_iff, hu, t0, t1, k2, k3]
        by_cases k0 : kd = 0
        · rw [if_neg t0, if_neg (fun h => h.elim t1 t2), if_pos k0] at hr
          subst hr
          simp (maxDischargeDepth := 99) [cCkAgg, ← hτ, hcg, g0, g1, hf, e1, e3, sbin, beqL_iff, hu, t0, t1, t2, k0]
        rw [if_neg t0, if_neg (fun h => h.elim t1 t2), if_neg k0] at hr
        subst hr
        simp (maxDischargeDepth := 99) [cCkAgg, ← hτ, hcg, g0, g1, hf, e1, e3, sbin, beqL_iff, hu, t0, t1, t2, k0]
  obtain ⟨v, σ', h1, rfl, h2⟩ := key
  exact ⟨σ', h1, h2⟩
end Go.Proofs.YtdpfgdmlmkpmbaaGreatDoor.Ab

/- The checker's lists: between and in. -/
namespace Go.Proofs.YtdpfgdmlmkpmbaaGreatDoor.Ab
open Go
set_option maxRecDepth 20000
set_option maxHeartbeats 16000000
set_option linter.unusedSimpArgs false

def kindsS (f : T → CSt → Int × CSt) : List T → CSt → List Int × CSt
  | [], st => ([], st)
  | t :: l, st => ((f t st).1 :: (kindsS f l (f t st).2).1, (kindsS f l (f t st).2).2)
theorem kindsS_len (f : T → CSt → Int × CSt) : ∀ (l : List T) (st : CSt), (kindsS f l st).1.length = l.length
  | [], _ => rfl
  | t :: l, st => by simp [kindsS, kindsS_len f l]
abbrev ints (l : List Int) : List SV := l.map (SV.int .i64)
/-- The kids that the checker goes through one behind the other. -/
def SaysL (s : SV) (F : List Fld) (aggs : Bool) (id : Nat) (f : T → CSt → Int × CSt) (ins : Bool) (l : List T) : Prop := ∀ u ∈ l, ∀ st, Says s F aggs id u ins st (f u st).1 (f u st).2

/-- While a method's loop runs: the checker, the method's box, the kinds so far. -/
structure Run (σ : AHeap) (id : Nat) (s : SV) (aggs : Bool) (n : T) (st : CSt) (τ : AHeap) (k : AV) (ks : List Int) : Prop where
  keep : Keep1 σ id s aggs st τ
  box : τ.get σ.size = some ⟨n.cells, .own⟩
  out : OutSl (σ.size + 1) τ 1 k (ints ks) ks.length

theorem Run.step {σ τ : AHeap} {id : Nat} {s : SV} {aggs : Bool} {n u : T} {st : CSt} {k : AV} {ks : List Int} {F : List Fld} {f : T → CSt → Int × CSt} {ins : Bool} {l : List T} (h : Run σ id s aggs n st τ k ks) (hlt : id < σ.size) (hF : FldAt σ id s F)
    (hu : u ∈ l) (hs : SaysL s F aggs id f ins l) (hm : ks.length < maxElems) (τa : AHeap) (hτa : τa = (τ.alloc ⟨[.int .i64 0, .str [], .int .i64 0, .int .i64 0, .nilSlice], .own⟩).put τ.size ⟨u.cells, .own⟩) :
    ∃ τb τc k', lim TyD 34 [.one (.ptr id 0), .agg u.cells, .one (.bool ins)] τa = some (.one (.int .i64 (f u st).1), τb) ∧ τa.get τ.size = some ⟨u.cells, .own⟩ ∧ τb.get τ.size = some ⟨u.cells, .own⟩ ∧
      appendA (τb.alloc ⟨[.int .i64 (f u st).1], .own⟩) 1 8 k 1 [.int .i64 (f u st).1] = some (k', τc) ∧ Run σ id s aggs n (f u st).2 τb k ks ∧ Run σ id s aggs n (f u st).2 τc k' (ks ++ [(f u st).1]) := by
  obtain ⟨⟨h1, h2, h3⟩, hb, ho⟩ := h
  have hsz : τa.size = τ.size + 1 := by rw [hτa]; simp
  have hga : ∀ j, j < τ.size → τa.get j = τ.get j := fun j hj => by
    have : ¬ j = τ.size := by omega
    rw [hτa]
    simp [this]
  have hgt : τa.get τ.size = some ⟨u.cells, .own⟩ := by rw [hτa]; simp
  have hlq : σ.size < τ.size := AHeap.get_lt hb
  have hca : ChkAt τa id s aggs st := by unfold ChkAt at h2 ⊢; rw [hga id (by omega), h2]
  have hFa : FldAt τa id s F := hF.keep fun j hj hn => by rw [hga j (by omega), h3 j hj hn]
  obtain ⟨τb, hb1, hb2, hb3, hb4⟩ := hs u hu st τa hca hFa
  have hkb : ∀ j, j < τ.size → j ≠ id → τb.get j = τ.get j := fun j hj hn => by rw [hb4 j (by omega) hn, hga j hj]
  have rb : Run σ id s aggs n (f u st).2 τb k ks := ⟨⟨by omega, hb3, fun j hj hn => by rw [hkb j (by omega) hn, h3 j hj hn]⟩, by rw [hkb σ.size hlq (by omega), hb], ho.stay fun j h5 h6 => hkb j h6 (by omega)⟩
  have ho2 : OutSl (σ.size + 1) (τb.alloc ⟨[.int .i64 (f u st).1], .own⟩) 1 k (ints ks) ks.length := rb.out.stay fun j h5 h6 => by rw [AHeap.get_alloc, if_neg (by omega)]
  obtain ⟨k', τc, hap, hoc, hsc, hgc⟩ := append_out (bytes := 8) (vs := [.int .i64 (f u st).1]) ho2 (by simp; omega) (by decide) rfl (by omega) (by decide)
  have hgc' : ∀ j, j < σ.size + 1 → τc.get j = τb.get j := fun j hj => by rw [hgc j hj, AHeap.get_alloc, if_neg (by omega)]
  refine ⟨τb, τc, k', hb1, hgt, by rw [hb4 τ.size (by omega) (by omega), hgt], hap, rb, ⟨by rw [hsc]; simp; omega, ?_, fun j hj hn => by rw [hgc' j (by omega), rb.keep.2.2 j hj hn]⟩, by rw [hgc' _ (by omega), rb.box], ?_⟩
  · unfold ChkAt at hb3 ⊢
    rw [hgc' id (by omega), hb3]
  · have : ints (ks ++ [(f u st).1]) = ints ks ++ [.int .i64 (f u st).1] := by simp
    rw [this, List.length_append]
    exact hoc

theorem eq_among (σ : AHeap) (id : Nat) (s : SV) (F : List Fld) (aggs : Bool) (st : CSt) (n : T) (ins : Bool) (f : T → CSt → Int × CSt) (h : ChkAt σ id s aggs st) (hF : FldAt σ id s F)
    (hS : SaysL s F aggs id f ins n.kids) (hm : n.kids.length ≤ maxElems) (h1 : 1 ≤ n.kids.length) (r : Int × CSt) (hr : r = amongS n (kindsS f n.kids st).1 (kindsS f n.kids st).2) :
    ∃ σ', lim TyD 91 [.one (.ptr id 0), .agg n.cells, .one (.bool ins)] σ = some (.one (.int .i64 r.1), σ') ∧ Left σ id s aggs r.2 σ' := by
  have key : OptP (lim TyD 91 [.one (.ptr id 0), .agg n.cells, .one (.bool ins)] σ) (fun _ x σ' => x = .one (.int .i64 r.1) ∧ Left σ id s aggs r.2 σ') := by
    refine lim_gc (TyD_prim rfl) ((TyD_code _).trans codeCkAmong) rfl ?_
    unfold BodyP
    have hlt := h.lt
    have hlo := hF.lo
    obtain ⟨τ, hτ⟩ : ∃ τ, τ = σ.alloc ⟨n.cells, .own⟩ := ⟨_, rfl⟩
    have hc : ChkAt τ id s aggs st := by rw [hτ]; exact h.alloc _
    have g0 : τ.get σ.size = some ⟨n.cells, .own⟩ := by rw [hτ]; simp
    have hrun : Run σ id s aggs n st τ (.one .nilSlice) [] := ⟨⟨by rw [hτ]; simp, hc, fun j hj hn => by rw [hτ, AHeap.get_alloc, if_neg (by omega)]⟩, g0, OutSl.nil _ _ _⟩
    generalize hL : n.kids = L at *
    generalize hKS : (kindsS f L st).1 = KS at hr
    generalize hSF : (kindsS f L st).2 = stF at hr
    have hp4 : ∀ υ : AHeap, υ.get σ.size = some ⟨n.cells, .own⟩ → rd (υ.get σ.size) none 4 = some (.one (.lst (L.map T.cells))) := fun υ hυ => by rw [hυ, T.cells_eq, hL]; rfl
    have hg4 := g0
    rw [T.cells_eq, hL] at hg4 hτ
    rw [T.cells_eq, hL]
    simp (maxDischargeDepth := 99) [cCkAmong, ← hτ, hg4]
    refine endsi_range L.length (fun i fr τ => fr.length = 44 ∧ getSlot fr 0 = .one (.ptr id 0) ∧ getSlot fr 2 = .one (.bool ins) ∧ getSlot fr 4 = .one (.ptr σ.size 0) ∧ getSlot fr 13 = .one (.lst (L.map T.cells)) ∧ getSlot fr 14 = .one (.int .i64 L.length) ∧ getSlot fr 15 = .one (.int .i64 i) ∧
      ∃ st' ks, Run σ id s aggs n st' τ (getSlot fr 7) ks ∧ ks.length = i ∧ ks ++ (kindsS f (L.drop i) st').1 = KS ∧ (kindsS f (L.drop i) st').2 = stF) ?_ ?_ ?_
    · simp
      exact ⟨st, [], hrun, rfl, hKS, hSF⟩
    · rintro i fr τ hlt2 ⟨hlen, f0, f2, f4, f13, f14, f15, st', ks, hR, rfl, e1, e2⟩
      have hw := wr_next hlt2 hm
      rw [List.drop_eq_getElem_cons hlt2] at e1 e2
      obtain ⟨k, hk7⟩ : ∃ k, k = getSlot fr 7 := ⟨_, rfl⟩
      rw [← hk7] at hR
      obtain ⟨τa, hτa⟩ : ∃ τa, τa = (τ.alloc ⟨[.int .i64 0, .str [], .int .i64 0, .int .i64 0, .nilSlice], .own⟩).put τ.size ⟨L[ks.length].cells, .own⟩ := ⟨_, rfl⟩
      obtain ⟨τb, τc, k', c1, ga, gb, c2, rb, rc⟩ := hR.step hlt hF (List.getElem_mem hlt2) hS (by omega) τa hτa
      generalize hu : L[ks.length] = u at *
      simp only [kindsS] at e1 e2
      have gbc : ∀ x : Int, (τb.alloc ⟨[.int .i64 x], .own⟩).get τb.size = some ⟨[.int .i64 x], .own⟩ := fun x => by simp
      simp (maxDischargeDepth := 99) [cCkAmong_0, hlen, f0, f2, f4, f13, f14, f15, ← hk7, hlt2, hu, ← hτa, ga, c1, srcLen, srcCells, c2, hw]
      exact ⟨_, _, rc, by simp, by rw [List.append_assoc]; exact e1, e2⟩
    · rintro fr τ ⟨hlen, f0, f2, f4, f13, f14, f15, st', ks, hR, e0, e1, e2⟩
      rw [List.drop_length] at e1 e2
      simp only [kindsS, List.append_nil] at e1 e2
      subst e1 e2
      obtain ⟨hkeep, hbox, hout⟩ := hR
      cases ks with
      | nil => simp at e0; omega
      | cons k0 ks =>
        simp only [List.length_cons] at e0
        obtain ⟨q, f7, hq⟩ : ∃ q, getSlot fr 7 = .one (.slice q 0 1 (ks.length + 1) none) ∧ τ.get q = some ⟨ints (k0 :: ks), .own⟩ := by
          rcases hout.2 with ⟨_, h0⟩ | ⟨q, h2, _, _, h3⟩
          · simp at h0
          · exact ⟨q, h2, h3⟩
        have hcτ : ChkAt τ id s aggs st' := hkeep.2.1
        have hFτ : FldAt τ id s F := hF.keep hkeep.2.2
        obtain ⟨τ3, hf, l3⟩ := eq_fail τ id s aggs st' 111 n hcτ hFτ.lo
        have efin := Keep1.gc hkeep hlt hlo
        have e3 : GcOk σ τ3 ∧ Left σ id s aggs (failS st' 111 n) (τ3.cutTo σ.size) := Keep1.gc ⟨by rw [l3.1]; exact hkeep.1, l3.2.1, fun j hj hn => by rw [l3.2.2 j (by have := hkeep.1; omega) hn, hkeep.2.2 j hj hn]⟩ hlt hlo
        have hln : (ks.length : Int) + 1 = (L.length : Int) := by omega
        have hbx := hbox
        rw [T.cells_eq, hL] at hf hbx
        simp (maxDischargeDepth := 99) [cCkAmong_0, hlen, f14, f15, f7, hq]
        have hmk : ks.length ≤ maxElems := by omega
        change r = (if ks.all (comparedB k0) = true then (1, st') else (0, failS st' 111 n)) at hr
        generalize hB : ks.all (comparedB k0) = B at hr
        refine endsi_range ks.length (fun i fr τ' => τ' = τ ∧ fr.length = 44 ∧ getSlot fr 0 = .one (.ptr id 0) ∧ getSlot fr 4 = .one (.ptr σ.size 0) ∧ getSlot fr 7 = .one (.slice q 0 1 (ks.length + 1) none) ∧ getSlot fr 28 = .one (.slice q 1 1 ks.length none) ∧ getSlot fr 29 = .one (.int .i64 ks.length) ∧ getSlot fr 30 = .one (.int .i64 i) ∧ (ks.drop i).all (comparedB k0) = B) ?_ ?_ ?_
        · refine ⟨rfl, by simp [hlen], by simp [f0], by simp [f4], by simp [f7], by simp [hlen], by simp [hlen], by simp [hlen], hB⟩
        · rintro i fr τ' hlt3 ⟨rfl, hlen, f0, f4, f7, f28, f29, f30, hall⟩
          have hw := wr_next hlt3 hmk
          rw [List.drop_eq_getElem_cons hlt3, List.all_cons] at hall
          have hcell : (ints (k0 :: ks))[1 + i]? = some (.int .i64 ks[i]) := by
            rw [Nat.add_comm]
            simp [hlt3]
          have hcell0 : (ints (k0 :: ks))[0]? = some (.int .i64 k0) := rfl
          generalize ks[i] = k at hall hcell
          generalize ints (k0 :: ks) = cs at hcell hcell0 hq
          cases hb : comparedB k0 k with
          | true =>
            rw [hb, Bool.true_and] at hall
            simp (maxDischargeDepth := 99) [-List.all_eq_true, cCkAmong_1, hlen, f0, f4, f7, f28, f29, f30, hlt3, hq, hcell, hcell0, eq_compared, hb, hw, hall]
          | false =>
            rw [hb, Bool.false_and] at hall
            rw [← hall, if_neg (by decide)] at hr
            subst hr
            simp (maxDischargeDepth := 99) [-List.all_eq_true, cCkAmong_1, hlen, f0, f4, f7, f28, f29, f30, hlt3, hq, hcell, hcell0, eq_compared, hb, hbx, hf, e3]
        · rintro fr τ' ⟨rfl, hlen, f0, f4, f7, f28, f29, f30, hall⟩
          rw [List.drop_length, List.all_nil] at hall
          rw [← hall, if_pos rfl] at hr
          subst hr
          simp (maxDischargeDepth := 99) [cCkAmong_1, hlen, f29, f30, efin]
  obtain ⟨v, σ', h1, rfl, h2⟩ := key
  exact ⟨σ', h1, h2⟩
end Go.Proofs.YtdpfgdmlmkpmbaaGreatDoor.Ab

/- The checker's cases. -/
namespace Go.Proofs.YtdpfgdmlmkpmbaaGreatDoor.Ab
open Go
set_option maxRecDepth 20000
set_option maxHeartbeats 16000000
set_option linter.unusedSimpArgs false

theorem Run.left {σ τ τ' : AHeap} {id : Nat} {s : SV} {aggs : Bool} {n : T} {st st' : CSt} {k : AV} {ks : List Int} (h : Run σ id s aggs n st τ k ks) (hlt : id < σ.size) (hl : Left τ id s aggs st' τ') : Run σ id s aggs n st' τ' k ks := by
  obtain ⟨⟨h1, h2, h3⟩, hb, ho⟩ := h
  obtain ⟨l1, l2, l3⟩ := hl
  have := AHeap.get_lt hb
  exact ⟨⟨by omega, l2, fun j hj hn => by rw [l3 j (by omega) hn, h3 j hj hn]⟩, by rw [l3 _ this (by omega), hb], ho.stay fun j h5 h6 => l3 j h6 (by omega)⟩
theorem OutSl.ints {b : Nat} {τ : AHeap} {k : AV} {ks : List Int} (h : OutSl b τ 1 k (ints ks) ks.length) : IntSl τ k ks := by
  rcases h.2 with ⟨h1, h2⟩ | ⟨q, h1, _, _, h2⟩
  · exact .inl ⟨h1, List.eq_nil_of_length_eq_zero h2⟩
  · exact .inr ⟨q, none, h1, h2⟩
theorem Run.gc {σ τ : AHeap} {id : Nat} {s : SV} {aggs : Bool} {n : T} {st : CSt} {k : AV} {ks : List Int} {F : List Fld} (h : Run σ id s aggs n st τ k ks) (hlt : id < σ.size) (hF : FldAt σ id s F) : GcOk σ τ ∧ Left σ id s aggs st (τ.cutTo σ.size) :=
  Keep1.gc h.keep hlt hF.lo
theorem Run.fld {σ τ : AHeap} {id : Nat} {s : SV} {aggs : Bool} {n : T} {st : CSt} {k : AV} {ks : List Int} {F : List Fld} (h : Run σ id s aggs n st τ k ks) (hF : FldAt σ id s F) : FldAt τ id s F := hF.keep h.keep.2.2

def caseC (last : Int) (i : Nat) : Bool := decide ((i : Int) < last) && decide (((i : Int)).tmod 2 = 0)
def caseN (r : Int × CSt) (t : T) : CSt := if maybeB r.1 1 = true then r.2 else failS r.2 111 t
def caseS (f : T → CSt → Int × CSt) (last : Int) : Nat → List T → CSt → List Int × CSt
  | _, [], st => ([], st)
  | i, t :: l, st => if caseC last i = true then caseS f last (i + 1) l (caseN (f t st) t) else ((f t st).1 :: (caseS f last (i + 1) l (f t st).2).1, (caseS f last (i + 1) l (f t st).2).2)

theorem eq_cases (σ : AHeap) (id : Nat) (s : SV) (F : List Fld) (aggs : Bool) (st : CSt) (n : T) (ins : Bool) (f : T → CSt → Int × CSt) (h : ChkAt σ id s aggs st) (hF : FldAt σ id s F)
    (hS : SaysL s F aggs id f ins n.kids) (hm : n.kids.length ≤ maxElems) (r : Int × CSt) (hr : r = casesS n (caseS f ((n.kids.length : Int) - 1) 0 n.kids st).1 (caseS f ((n.kids.length : Int) - 1) 0 n.kids st).2) :
    ∃ σ', lim TyD 92 [.one (.ptr id 0), .agg n.cells, .one (.bool ins)] σ = some (.one (.int .i64 r.1), σ') ∧ Left σ id s aggs r.2 σ' := by
  have key : OptP (lim TyD 92 [.one (.ptr id 0), .agg n.cells, .one (.bool ins)] σ) (fun _ x σ' => x = .one (.int .i64 r.1) ∧ Left σ id s aggs r.2 σ') := by
    refine lim_gc (TyD_prim rfl) ((TyD_code _).trans codeCkCases) rfl ?_
    unfold BodyP
    have hlt := h.lt
    have hlo := hF.lo
    obtain ⟨τ, hτ⟩ : ∃ τ, τ = σ.alloc ⟨n.cells, .own⟩ := ⟨_, rfl⟩
    have hc : ChkAt τ id s aggs st := by rw [hτ]; exact h.alloc _
    have g0 : τ.get σ.size = some ⟨n.cells, .own⟩ := by rw [hτ]; simp
    have hrun : Run σ id s aggs n st τ (.one .nilSlice) [] := ⟨⟨by rw [hτ]; simp, hc, fun j hj hn => by rw [hτ, AHeap.get_alloc, if_neg (by omega)]⟩, g0, OutSl.nil _ _ _⟩
    generalize hL : n.kids = L at *
    obtain ⟨last, hlast⟩ : ∃ last, last = (L.length : Int) - 1 := ⟨_, rfl⟩
    rw [← hlast] at hr
    generalize hKS : (caseS f last 0 L st).1 = KS at hr
    generalize hSF : (caseS f last 0 L st).2 = stF at hr
    have hwl : wr .i64 ((L.length : Int) - 1) = last := by
      rw [hlast]
      unfold maxElems at hm
      exact wr64 (by omega) (by omega)
    have hg4 := g0
    rw [T.cells_eq, hL] at hg4 hτ
    rw [T.cells_eq, hL]
    simp (maxDischargeDepth := 99) [cCkCases, ← hτ, hg4, hwl]
    refine endsi_range L.length (fun i fr τ => fr.length = 60 ∧ getSlot fr 0 = .one (.ptr id 0) ∧ getSlot fr 2 = .one (.bool ins) ∧ getSlot fr 4 = .one (.ptr σ.size 0) ∧ getSlot fr 8 = .one (.int .i64 last) ∧ getSlot fr 19 = .one (.lst (L.map T.cells)) ∧ getSlot fr 20 = .one (.int .i64 L.length) ∧ getSlot fr 21 = .one (.int .i64 i) ∧
      ∃ st' ks, Run σ id s aggs n st' τ (getSlot fr 7) ks ∧ ks.length ≤ i ∧ ks ++ (caseS f last i (L.drop i) st').1 = KS ∧ (caseS f last i (L.drop i) st').2 = stF) ?_ ?_ ?_
    · simp
      exact ⟨st, [], hrun, rfl, hKS, hSF⟩
    · rintro i fr τ hlt2 ⟨hlen, f0, f2, f4, f8, f19, f20, f21, st', ks, hR, hi, e1, e2⟩
      have hw := wr_next hlt2 hm
      rw [List.drop_eq_getElem_cons hlt2] at e1 e2
      obtain ⟨k, hk7⟩ : ∃ k, k = getSlot fr 7 := ⟨_, rfl⟩
      rw [← hk7] at hR
      obtain ⟨τa, hτa⟩ : ∃ τa, τa = (τ.alloc ⟨[.int .i64 0, .str [], .int .i64 0, .int .i64 0, .nilSlice], .own⟩).put τ.size ⟨L[i].cells, .own⟩ := ⟨_, rfl⟩
      obtain ⟨τb, τc, k', c1, ga, gb, c2, rb, rc⟩ := hR.step hlt hF (List.getElem_mem hlt2) hS (by omega) τa hτa
      generalize hu : L[i] = u at *
      obtain ⟨τd, hf, ld⟩ := eq_fail τb id s aggs (f u st').2 111 u rb.keep.2.1 (rb.fld hF).lo
      simp only [caseS] at e1 e2
      by_cases hc1 : (i : Int) < last
      · by_cases hc2 : ((i : Int)).tmod 2 = 0
        · have hcc : caseC last i = true := by simp [caseC, hc1, hc2]
          rw [hcc, if_pos rfl] at e1 e2
          cases hmb : maybeB (f u st').1 1 with
          | true =>
            simp only [caseN, hmb, if_true] at e1 e2
            simp (maxDischargeDepth := 99) [cCkCases_0, hlen, f0, f2, f4, f8, f19, f20, f21, ← hk7, hlt2, hu, ← hτa, ga, c1, hc1, hc2, eq_maybe, hmb, hw]
            exact ⟨_, ks, by first | exact rb | (rw [← hk7]; exact rb), by omega, e1, e2⟩
          | false =>
            simp only [caseN, hmb, Bool.false_eq_true, if_false] at e1 e2
            simp (maxDischargeDepth := 99) [cCkCases_0, hlen, f0, f2, f4, f8, f19, f20, f21, ← hk7, hlt2, hu, ← hτa, ga, gb, c1, hf, hc1, hc2, eq_maybe, hmb, hw]
            exact ⟨_, ks, by first | exact rb.left hlt ld | (rw [← hk7]; exact rb.left hlt ld), by omega, e1, e2⟩
        · have hcc : caseC last i = false := by simp [caseC, hc2]
          rw [hcc, if_neg (by decide)] at e1 e2
          simp (maxDischargeDepth := 99) [cCkCases_0, hlen, f0, f2, f4, f8, f19, f20, f21, ← hk7, hlt2, hu, ← hτa, ga, c1, hc1, hc2, srcLen, srcCells, c2, hw]
          exact ⟨_, _, rc, by rw [List.length_append]; simp; omega, by rw [List.append_assoc]; exact e1, e2⟩
      · have hcc : caseC last i = false := by simp [caseC, hc1]
        rw [hcc, if_neg (by decide)] at e1 e2
        simp (maxDischargeDepth := 99) [cCkCases_0, hlen, f0, f2, f4, f8, f19, f20, f21, ← hk7, hlt2, hu, ← hτa, ga, c1, hc1, srcLen, srcCells, c2, hw]
        exact ⟨_, _, rc, by rw [List.length_append]; simp; omega, by rw [List.append_assoc]; exact e1, e2⟩
    · rintro fr τ ⟨hlen, f0, f2, f4, f8, f19, f20, f21, st', ks, hR, hi, e1, e2⟩
      rw [List.drop_length] at e1 e2
      simp only [caseS, List.append_nil] at e1 e2
      subst e1 e2
      obtain ⟨k, hk7⟩ : ∃ k, k = getSlot fr 7 := ⟨_, rfl⟩
      rw [← hk7] at hR
      have ha := eq_alike τ k ks hR.out.ints (by omega)
      have efin := hR.gc hlt hF
      obtain ⟨τ3, hf, l3⟩ := eq_fail τ id s aggs st' 111 n hR.keep.2.1 (hR.fld hF).lo
      have e3 := (hR.left hlt l3).gc hlt hF
      have hbx := hR.box
      rw [T.cells_eq, hL] at hf hbx
      unfold casesS at hr
      cases hal : alikeI 0 ks with
      | some x =>
        rw [hal] at hr ha
        subst hr
        simp (maxDischargeDepth := 99) at ha
        simp (maxDischargeDepth := 99) [cCkCases_0, hlen, f0, f4, f20, f21, ← hk7, ha, efin]
      | none =>
        rw [hal] at hr ha
        subst hr
        simp (maxDischargeDepth := 99) at ha
        simp (maxDischargeDepth := 99) [cCkCases_0, hlen, f0, f4, f20, f21, ← hk7, ha, hbx, hf, e3]
  obtain ⟨v, σ', h1, rfl, h2⟩ := key
  exact ⟨σ', h1, h2⟩
end Go.Proofs.YtdpfgdmlmkpmbaaGreatDoor.Ab

/- The checker on any expression. -/
namespace Go.Proofs.YtdpfgdmlmkpmbaaGreatDoor.Ab
open Go
set_option maxRecDepth 20000
set_option maxHeartbeats 16000000
set_option linter.unusedSimpArgs false

def callS (n : T) (ks : List Int) (st : CSt) : Int × CSt := if (kindF n.text ks).2 = 0 then ((kindF n.text ks).1, st) else (0, failS st (kindF n.text ks).2 n)
def fstI : List Int → Int
  | [] => 0
  | x :: _ => x
def sndI : List Int → Int
  | _ :: y :: _ => y
  | _ => 0
/-- A tree's kind, out of what its kids' are. -/
def nodeS (F : List Fld) (aggs : Bool) (t : T) (ins : Bool) (st : CSt) (kids : List Int × CSt) (cas : List Int × CSt) (inner : List Int × CSt) : Int × CSt :=
  if t.kind = 2 then (1, st) else if t.kind = 3 then (2, st) else if t.kind = 4 then (3, st) else if t.kind = 5 then (4, st)
  else if t.kind = 6 then colS F t st
  else if t.kind = 7 then unS t (fstI kids.1) kids.2
  else if t.kind = 8 then binS t (fstI kids.1) (sndI kids.1) kids.2
  else if t.kind = 9 then (1, kids.2)
  else if t.kind = 10 ∨ t.kind = 11 then amongS t kids.1 kids.2
  else if t.kind = 12 then casesS t cas.1 cas.2
  else if t.kind = 13 then callS t kids.1 kids.2
  else if t.kind = 14 then (if (!aggs || ins) = true then (0, failS st 112 t) else aggS t (fstI inner.1) inner.2)
  else (0, st)
mutual
def expS (F : List Fld) (aggs : Bool) : T → Bool → CSt → Int × CSt
  | .mk k s n a l, ins, st => if st.err = 0 then nodeS F aggs (.mk k s n a l) ins st (expL F aggs l ins st) (expC F aggs ((l.length : Int) - 1) 0 l ins st) (expL F aggs l true st) else (0, st)
def expL (F : List Fld) (aggs : Bool) : List T → Bool → CSt → List Int × CSt
  | [], _, st => ([], st)
  | t :: l, ins, st => ((expS F aggs t ins st).1 :: (expL F aggs l ins (expS F aggs t ins st).2).1, (expL F aggs l ins (expS F aggs t ins st).2).2)
def expC (F : List Fld) (aggs : Bool) (last : Int) (i : Nat) : List T → Bool → CSt → List Int × CSt
  | [], _, st => ([], st)
  | t :: l, ins, st => if caseC last i = true then expC F aggs last (i + 1) l ins (caseN (expS F aggs t ins st) t)
      else ((expS F aggs t ins st).1 :: (expC F aggs last (i + 1) l ins (expS F aggs t ins st).2).1, (expC F aggs last (i + 1) l ins (expS F aggs t ins st).2).2)
end
theorem expL_eq (F : List Fld) (aggs ins : Bool) : ∀ (l : List T) (st : CSt), expL F aggs l ins st = kindsS (fun t st => expS F aggs t ins st) l st
  | [], _ => by simp [expL, kindsS]
  | t :: l, st => by rw [expL, kindsS, expL_eq F aggs ins l]
theorem expC_eq (F : List Fld) (aggs ins : Bool) (last : Int) : ∀ (l : List T) (i : Nat) (st : CSt), expC F aggs last i l ins st = caseS (fun t st => expS F aggs t ins st) last i l st
  | [], i, _ => by simp [expC, caseS]
  | t :: l, i, st => by rw [expC, caseS, expC_eq F aggs ins last l, expC_eq F aggs ins last l]
theorem expS_eq (F : List Fld) (aggs : Bool) (t : T) (ins : Bool) (st : CSt) : expS F aggs t ins st = if st.err = 0 then nodeS F aggs t ins st (kindsS (fun t st => expS F aggs t ins st) t.kids st) (caseS (fun t st => expS F aggs t ins st) ((t.kids.length : Int) - 1) 0 t.kids st) (kindsS (fun t st => expS F aggs t true st) t.kids st) else (0, st) := by
  cases t with
  | mk k s n a l => rw [expS, expL_eq, expC_eq, expL_eq]; rfl
end Go.Proofs.YtdpfgdmlmkpmbaaGreatDoor.Ab

/- The checker on any expression: the walk. -/
namespace Go.Proofs.YtdpfgdmlmkpmbaaGreatDoor.Ab
open Go
set_option maxRecDepth 20000
set_option maxHeartbeats 16000000
set_option linter.unusedSimpArgs false

/-- The beginning of a walk of the checker's expr. -/
theorem says_of {s : SV} {F : List Fld} {aggs : Bool} {id : Nat} {t : T} {ins : Bool} {st : CSt} {r : Int × CSt}
    (h : ∀ σ τ, ChkAt σ id s aggs st → FldAt σ id s F → τ = σ.alloc ⟨t.cells, .own⟩ → ChkAt τ id s aggs st → FldAt τ id s F → τ.get σ.size = some ⟨t.cells, .own⟩ → id < σ.size →
      (∀ {st' : CSt} {σ' : AHeap}, Left τ id s aggs st' σ' → GcOk σ σ' ∧ Left σ id s aggs st' (σ'.cutTo σ.size)) →
      BodyP TyD cCkExpr [.one (.ptr id 0), .agg t.cells, .one (.bool ins)] σ (fun _ v σ' => GcOk σ σ' ∧ ∃ v', frzA σ.size σ' v = some v' ∧ (v' = .one (.int .i64 r.1) ∧ Left σ id s aggs r.2 (σ'.cutTo σ.size)))) :
    Says s F aggs id t ins st r.1 r.2 := by
  intro σ hc hF
  have key : OptP (lim TyD 34 [.one (.ptr id 0), .agg t.cells, .one (.bool ins)] σ) (fun _ x σ' => x = .one (.int .i64 r.1) ∧ Left σ id s aggs r.2 σ') := by
    refine lim_gc (TyD_prim rfl) ((TyD_code _).trans codeCkExpr) rfl ?_
    exact h σ _ hc hF rfl (hc.alloc _) (hF.alloc _) (by simp) hc.lt (fun hl => Left.fin hc hF hl)
  obtain ⟨v, σ', h1, rfl, h2⟩ := key
  exact ⟨σ', h1, h2⟩

theorem says_err {s : SV} {F : List Fld} {aggs : Bool} {id : Nat} {t : T} {ins : Bool} {st : CSt} (he : ¬ st.err = 0) : Says s F aggs id t ins st 0 st := by
  refine says_of (r := (0, st)) fun σ τ hc hF hτ hcτ hFτ g0 hlt fin => ?_
  unfold BodyP
  have e := fin (Left.refl hcτ)
  have hcg := hcτ
  unfold ChkAt chkCells at hcg
  rw [T.cells_eq] at hτ ⊢
  simp (maxDischargeDepth := 99) [cCkExpr, ← hτ, hcg, he, e]

theorem says_leaf {s : SV} {F : List Fld} {aggs : Bool} {id : Nat} {t : T} {ins : Bool} {st : CSt} (he : st.err = 0) (k : Int) (hk : (t.kind = 2 ∧ k = 1) ∨ (t.kind = 3 ∧ k = 2) ∨ (t.kind = 4 ∧ k = 3) ∨ (t.kind = 5 ∧ k = 4) ∨ ((t.kind = 1 ∨ t.kind < 1 ∨ 14 < t.kind) ∧ k = 0)) : Says s F aggs id t ins st k st := by
  refine says_of (r := (k, st)) fun σ τ hc hF hτ hcτ hFτ g0 hlt fin => ?_
  unfold BodyP
  have e := fin (Left.refl hcτ)
  have hcg := hcτ
  unfold ChkAt chkCells at hcg
  rw [T.cells_eq] at hτ g0 ⊢
  rcases hk with ⟨hk, rfl⟩ | ⟨hk, rfl⟩ | ⟨hk, rfl⟩ | ⟨hk, rfl⟩ | ⟨hk, rfl⟩
  · rw [hk] at hτ g0 ⊢
    simp (maxDischargeDepth := 99) [cCkExpr, ← hτ, hcg, he, g0, e]
  · rw [hk] at hτ g0 ⊢
    simp (maxDischargeDepth := 99) [cCkExpr, ← hτ, hcg, he, g0, e]
  · rw [hk] at hτ g0 ⊢
    simp (maxDischargeDepth := 99) [cCkExpr, ← hτ, hcg, he, g0, e]
  · rw [hk] at hτ g0 ⊢
    simp (maxDischargeDepth := 99) [cCkExpr, ← hτ, hcg, he, g0, e]
  · have n2 : ¬ t.kind = 2 := by omega
    have n3 : ¬ t.kind = 3 := by omega
    have n4 : ¬ t.kind = 4 := by omega
    have n5 : ¬ t.kind = 5 := by omega
    have n6 : ¬ t.kind = 6 := by omega
    have n7 : ¬ t.kind = 7 := by omega
    have n8 : ¬ t.kind = 8 := by omega
    have n9 : ¬ t.kind = 9 := by omega
    have n10 : ¬ t.kind = 10 := by omega
    have n11 : ¬ t.kind = 11 := by omega
    have n12 : ¬ t.kind = 12 := by omega
    have n13 : ¬ t.kind = 13 := by omega
    have n14 : ¬ t.kind = 14 := by omega
    simp (maxDischargeDepth := 99) [cCkExpr, ← hτ, hcg, he, g0, e, n2, n3, n4, n5, n6, n7, n8, n9, n10, n11, n12, n13, n14]

theorem says_col {s : SV} {F : List Fld} {aggs : Bool} {id : Nat} {t : T} {ins : Bool} {st : CSt} (he : st.err = 0) (hk : t.kind = 6) (hm : F.length ≤ maxElems) : Says s F aggs id t ins st (colS F t st).1 (colS F t st).2 := by
  refine says_of fun σ τ hc hF hτ hcτ hFτ g0 hlt fin => ?_
  unfold BodyP
  obtain ⟨τ1, hcall, hl⟩ := eq_col τ id s F aggs st t hcτ hFτ hm
  have e := fin hl
  have hcg := hcτ
  unfold ChkAt chkCells at hcg
  rw [T.cells_eq, hk] at hτ g0 hcall ⊢
  simp (maxDischargeDepth := 99) [cCkExpr, ← hτ, hcg, he, g0, hcall, e]

theorem says_bin {s : SV} {F : List Fld} {aggs : Bool} {id : Nat} {t u v : T} {ins : Bool} {st st1 st2 : CSt} {a b : Int} (he : st.err = 0) (hk : t.kind = 8) (hkids : t.kids = [u, v]) (hu : Says s F aggs id u ins st a st1) (hv : Says s F aggs id v ins st1 b st2) :
    Says s F aggs id t ins st (binS t a b st2).1 (binS t a b st2).2 := by
  refine says_of fun σ τ hc hF hτ hcτ hFτ g0 hlt fin => ?_
  unfold BodyP
  obtain ⟨τ1, hcall, hl⟩ := eq_binary τ id s F aggs st t u v ins a b st1 st2 hcτ hFτ hkids hu hv
  have e := fin hl
  have hcg := hcτ
  unfold ChkAt chkCells at hcg
  rw [T.cells_eq, hk] at hτ g0 hcall ⊢
  simp (maxDischargeDepth := 99) [cCkExpr, ← hτ, hcg, he, g0, hcall, e]

theorem says_among {s : SV} {F : List Fld} {aggs : Bool} {id : Nat} {t : T} {ins : Bool} {st : CSt} {f : T → CSt → Int × CSt} (he : st.err = 0) (hk : t.kind = 10 ∨ t.kind = 11) (hS : SaysL s F aggs id f ins t.kids) (hm : t.kids.length ≤ maxElems) (h1 : 1 ≤ t.kids.length) :
    Says s F aggs id t ins st (amongS t (kindsS f t.kids st).1 (kindsS f t.kids st).2).1 (amongS t (kindsS f t.kids st).1 (kindsS f t.kids st).2).2 := by
  refine says_of fun σ τ hc hF hτ hcτ hFτ g0 hlt fin => ?_
  unfold BodyP
  obtain ⟨τ1, hcall, hl⟩ := eq_among τ id s F aggs st t ins f hcτ hFτ hS hm h1 _ rfl
  have e := fin hl
  have hcg := hcτ
  unfold ChkAt chkCells at hcg
  generalize amongS t (kindsS f t.kids st).1 (kindsS f t.kids st).2 = r at *
  rcases hk with hk | hk
  · rw [T.cells_eq, hk] at hτ g0 hcall ⊢
    simp (maxDischargeDepth := 99) [cCkExpr, ← hτ, hcg, he, g0, hcall, e]
  · rw [T.cells_eq, hk] at hτ g0 hcall ⊢
    simp (maxDischargeDepth := 99) [cCkExpr, ← hτ, hcg, he, g0, hcall, e]

theorem says_cases {s : SV} {F : List Fld} {aggs : Bool} {id : Nat} {t : T} {ins : Bool} {st : CSt} {f : T → CSt → Int × CSt} (he : st.err = 0) (hk : t.kind = 12) (hS : SaysL s F aggs id f ins t.kids) (hm : t.kids.length ≤ maxElems) (r : Int × CSt)
    (hr : r = casesS t (caseS f ((t.kids.length : Int) - 1) 0 t.kids st).1 (caseS f ((t.kids.length : Int) - 1) 0 t.kids st).2) : Says s F aggs id t ins st r.1 r.2 := by
  refine says_of fun σ τ hc hF hτ hcτ hFτ g0 hlt fin => ?_
  unfold BodyP
  obtain ⟨τ1, hcall, hl⟩ := eq_cases τ id s F aggs st t ins f hcτ hFτ hS hm r hr
  have e := fin hl
  have hcg := hcτ
  unfold ChkAt chkCells at hcg
  rw [T.cells_eq, hk] at hτ g0 hcall ⊢
  simp (maxDischargeDepth := 99) [cCkExpr, ← hτ, hcg, he, g0, hcall, e]

theorem says_agg {s : SV} {F : List Fld} {aggs : Bool} {id : Nat} {t : T} {ins : Bool} {st st1 : CSt} {kd : Int} (he : st.err = 0) (hk : t.kind = 14)
    (hkids : (t.kids = [] ∧ kd = 0 ∧ st1 = st) ∨ ∃ u, t.kids = [u] ∧ Says s F aggs id u true st kd st1) (r : Int × CSt) (hr : r = if (!aggs || ins) = true then (0, failS st 112 t) else aggS t kd st1) : Says s F aggs id t ins st r.1 r.2 := by
  refine says_of fun σ τ hc hF hτ hcτ hFτ g0 hlt fin => ?_
  unfold BodyP
  obtain ⟨τ1, hcall, hl⟩ := eq_agg τ id s F aggs st t ins kd st1 hcτ hFτ hkids r hr
  have e := fin hl
  have hcg := hcτ
  unfold ChkAt chkCells at hcg
  rw [T.cells_eq, hk] at hτ g0 hcall ⊢
  simp (maxDischargeDepth := 99) [cCkExpr, ← hτ, hcg, he, g0, hcall, e]

theorem says_isnull {s : SV} {F : List Fld} {aggs : Bool} {id : Nat} {t u : T} {ins : Bool} {st st1 : CSt} {a : Int} (he : st.err = 0) (hk : t.kind = 9) (hkids : t.kids = [u]) (hu : Says s F aggs id u ins st a st1) : Says s F aggs id t ins st 1 st1 := by
  refine says_of (r := (1, st1)) fun σ τ hc hF hτ hcτ hFτ g0 hlt fin => ?_
  unfold BodyP
  obtain ⟨τ1, hcall, hl⟩ := hu τ hcτ hFτ
  have e := fin hl
  have hcg := hcτ
  unfold ChkAt chkCells at hcg
  rw [T.cells_eq, hk, hkids] at hτ g0 ⊢
  simp only [List.map_cons, List.map_nil, T.cells_eq u] at hτ g0 hcall ⊢
  simp (maxDischargeDepth := 99) [cCkExpr, ← hτ, hcg, he, g0, hcall, e]

theorem says_un {s : SV} {F : List Fld} {aggs : Bool} {id : Nat} {t u : T} {ins : Bool} {st st1 : CSt} {a : Int} (he : st.err = 0) (hk : t.kind = 7) (hkids : t.kids = [u]) (hu : Says s F aggs id u ins st a st1) : Says s F aggs id t ins st (unS t a st1).1 (unS t a st1).2 := by
  refine says_of fun σ τ hc hF hτ hcτ hFτ g0 hlt fin => ?_
  unfold BodyP
  obtain ⟨τ1, hcall, hl⟩ := hu τ hcτ hFτ
  have e := fin hl
  obtain ⟨τ3, hf, l3⟩ := eq_fail τ1 id s aggs st1 111 t hl.2.1 (hl.fld hFτ).lo
  have e3 := fin (hl.trans l3)
  have g1 : τ1.get σ.size = some ⟨t.cells, .own⟩ := Left.box hc (by rw [← hτ]; exact hl)
  have hcg := hcτ
  unfold ChkAt chkCells at hcg
  unfold unS
  rw [T.cells_eq, hk, hkids] at hτ g0 g1 hf ⊢
  simp only [List.map_cons, List.map_nil, T.cells_eq u] at hτ g0 g1 hcall hf ⊢
  generalize t.text = tx at *
  by_cases t0 : tx = bytes [110, 111, 116]
  · subst t0
    have d1 : ¬ (bytes [110, 111, 116] = bytes [45]) := by decide
    cases hb : maybeB a 1 with
    | true => simp (maxDischargeDepth := 99) [cCkExpr, ← hτ, hcg, he, g0, g1, hcall, eq_maybe, eq_number, hb, e, sbin, beqL_iff]
    | false => simp (maxDischargeDepth := 99) [cCkExpr, ← hτ, hcg, he, g0, g1, hcall, eq_maybe, eq_number, hb, hf, e3, d1, sbin, beqL_iff]
  · by_cases t1 : tx = bytes [45]
    · subst t1
      cases hb : numberB a with
      | true => simp (maxDischargeDepth := 99) [cCkExpr, ← hτ, hcg, he, g0, g1, hcall, eq_maybe, eq_number, hb, e, t0, sbin, beqL_iff]
      | false => simp (maxDischargeDepth := 99) [cCkExpr, ← hτ, hcg, he, g0, g1, hcall, eq_maybe, eq_number, hb, hf, e3, t0, sbin, beqL_iff]
    · simp (maxDischargeDepth := 99) [cCkExpr, ← hτ, hcg, he, g0, g1, hcall, hf, e3, t0, t1, sbin, beqL_iff]
end Go.Proofs.YtdpfgdmlmkpmbaaGreatDoor.Ab

/- The checker on any expression: calls, and all together; types.Expr. -/
namespace Go.Proofs.YtdpfgdmlmkpmbaaGreatDoor.Ab
open Go
set_option maxRecDepth 20000
set_option maxHeartbeats 16000000
set_option linter.unusedSimpArgs false

theorem says_call {s : SV} {F : List Fld} {aggs : Bool} {id : Nat} {t : T} {ins : Bool} {st : CSt} {f : T → CSt → Int × CSt} (he : st.err = 0) (hk : t.kind = 13) (hS : SaysL s F aggs id f ins t.kids) (hm : t.kids.length ≤ maxElems) (r : Int × CSt)
    (hr : r = callS t (kindsS f t.kids st).1 (kindsS f t.kids st).2) : Says s F aggs id t ins st r.1 r.2 := by
  refine says_of fun σ τ hc hF hτ hcτ hFτ g0 hlt fin => ?_
  unfold BodyP
  have hrun : Run σ id s aggs t st τ (.one .nilSlice) [] := ⟨⟨by rw [hτ]; simp, hcτ, fun j hj hn => by rw [hτ, AHeap.get_alloc, if_neg (by omega)]⟩, g0, OutSl.nil _ _ _⟩
  have hcg := hcτ
  unfold ChkAt chkCells at hcg
  generalize hL : t.kids = L at *
  generalize hKS : (kindsS f L st).1 = KS at hr
  generalize hSF : (kindsS f L st).2 = stF at hr
  rw [T.cells_eq, hk, hL] at hτ g0 ⊢
  simp (maxDischargeDepth := 99) [cCkExpr, ← hτ, hcg, he, g0]
  refine endsi_range L.length (fun i fr τ => fr.length = 127 ∧ getSlot fr 0 = .one (.ptr id 0) ∧ getSlot fr 2 = .one (.bool ins) ∧ getSlot fr 4 = .one (.ptr σ.size 0) ∧ getSlot fr 93 = .one (.lst (L.map T.cells)) ∧ getSlot fr 94 = .one (.int .i64 L.length) ∧ getSlot fr 95 = .one (.int .i64 i) ∧
      ∃ st' ks, Run σ id s aggs t st' τ (getSlot fr 8) ks ∧ ks.length = i ∧ ks ++ (kindsS f (L.drop i) st').1 = KS ∧ (kindsS f (L.drop i) st').2 = stF) ?_ ?_ ?_
  · simp
    exact ⟨st, [], hrun, rfl, hKS, hSF⟩
  · rintro i fr τ hlt2 ⟨hlen, f0, f2, f4, f93, f94, f95, st', ks, hR, rfl, e1, e2⟩
    have hw := wr_next hlt2 hm
    rw [List.drop_eq_getElem_cons hlt2] at e1 e2
    obtain ⟨k, hk8⟩ : ∃ k, k = getSlot fr 8 := ⟨_, rfl⟩
    rw [← hk8] at hR
    obtain ⟨τa, hτa⟩ : ∃ τa, τa = (τ.alloc ⟨[.int .i64 0, .str [], .int .i64 0, .int .i64 0, .nilSlice], .own⟩).put τ.size ⟨L[ks.length].cells, .own⟩ := ⟨_, rfl⟩
    obtain ⟨τb, τc, k', c1, ga, gb, c2, rb, rc⟩ := hR.step hlt hF (List.getElem_mem hlt2) hS (by omega) τa hτa
    generalize hu : L[ks.length] = u at *
    simp only [kindsS] at e1 e2
    simp (maxDischargeDepth := 99) [cCkExpr_0, hlen, f0, f2, f4, f93, f94, f95, ← hk8, hlt2, hu, ← hτa, ga, c1, srcLen, srcCells, c2, hw]
    exact ⟨_, _, rc, by simp, by rw [List.append_assoc]; exact e1, e2⟩
  · rintro fr τ ⟨hlen, f0, f2, f4, f93, f94, f95, st', ks, hR, e0, e1, e2⟩
    rw [List.drop_length] at e1 e2
    simp only [kindsS, List.append_nil] at e1 e2
    subst e1 e2
    obtain ⟨k, hk8⟩ : ∃ k, k = getSlot fr 8 := ⟨_, rfl⟩
    rw [← hk8] at hR
    have ha := eq_kind τ k t.text ks hR.out.ints (by omega)
    have efin := hR.gc hlt hF
    have hbx := hR.box
    unfold callS at hr
    generalize hK : kindF t.text ks = K at *
    obtain ⟨K1, K2⟩ := K
    simp only at hr ha
    by_cases h0 : K2 = 0
    · subst h0
      rw [if_pos rfl] at hr
      subst hr
      rw [T.cells_eq, hk, hL] at hbx
      simp (maxDischargeDepth := 99) [cCkExpr_0, hlen, f0, f4, f94, f95, ← hk8, hbx, ha, efin]
    · rw [if_neg h0] at hr
      subst hr
      obtain ⟨τ3, hf, l3⟩ := eq_fail τ id s aggs st' K2 t hR.keep.2.1 (hR.fld hF).lo
      have e3 := (hR.left hlt l3).gc hlt hF
      rw [T.cells_eq, hk, hL] at hf hbx
      simp (maxDischargeDepth := 99) [cCkExpr_0, hlen, f0, f4, f94, f95, ← hk8, hbx, ha, h0, hf, e3]

theorem leaf_kind {t : T} (h : leafB t = true) : 1 ≤ t.kind ∧ t.kind ≤ 6 := by
  unfold leafB at h
  split at h
  · omega
  · split at h
    · omega
    · split at h
      · omega
      · split at h
        · omega
        · split at h
          · omega
          · cases h
theorem head_kind {t : T} (h : headB t = true) : 7 ≤ t.kind ∧ t.kind ≤ 14 := by
  unfold headB at h
  repeat' split at h
  all_goals first | omega | cases h
theorem len_one {l : List T} (h : (l.length : Int) = 1) : ∃ u, l = [u] := List.length_eq_one_iff.1 (by omega)
theorem len_two : ∀ {l : List T}, (l.length : Int) = 2 → ∃ u v, l = [u, v]
  | [u, v], _ => ⟨u, v, rfl⟩
  | [], h => by simp at h
  | [_], h => by simp at h
  | _ :: _ :: _ :: l, h => by simp only [List.length_cons] at h; omega

theorem says_expr (s : SV) (F : List Fld) (aggs : Bool) (id : Nat) (hF : F.length ≤ maxElems) (N : Nat) : ∀ (t : T), t.size ≤ N → N ≤ maxElems → exprB t = true → ∀ ins st, Says s F aggs id t ins st (expS F aggs t ins st).1 (expS F aggs t ins st).2 := by
  induction N with
  | zero => intro t h; have := t.size_pos; omega
  | succ N ih =>
    intro t ht hN hx ins st
    rw [expS_eq]
    by_cases he : st.err = 0
    · rw [if_pos he]
      have hK := t.kids_size
      rw [exprB_eq, Bool.or_eq_true, Bool.and_eq_true] at hx
      rcases hx with hl | ⟨hh, hall⟩
      · have hk := leaf_kind hl
        by_cases k6 : t.kind = 6
        · have := says_col (s := s) (F := F) (aggs := aggs) (id := id) (ins := ins) he k6 hF
          simp only [nodeS, k6]
          exact this
        · by_cases k1 : t.kind = 1
          · have := says_leaf (s := s) (F := F) (aggs := aggs) (id := id) (ins := ins) he 0 (.inr (.inr (.inr (.inr ⟨.inl k1, rfl⟩))))
            simp only [nodeS, k1]
            exact this
          · by_cases k2 : t.kind = 2
            · have := says_leaf (s := s) (F := F) (aggs := aggs) (id := id) (ins := ins) he 1 (.inl ⟨k2, rfl⟩)
              simp only [nodeS, k2]
              exact this
            · by_cases k3 : t.kind = 3
              · have := says_leaf (s := s) (F := F) (aggs := aggs) (id := id) (ins := ins) he 2 (.inr (.inl ⟨k3, rfl⟩))
                simp only [nodeS, k3]
                exact this
              · by_cases k4 : t.kind = 4
                · have := says_leaf (s := s) (F := F) (aggs := aggs) (id := id) (ins := ins) he 3 (.inr (.inr (.inl ⟨k4, rfl⟩)))
                  simp only [nodeS, k4]
                  exact this
                · have k5 : t.kind = 5 := by omega
                  have := says_leaf (s := s) (F := F) (aggs := aggs) (id := id) (ins := ins) he 4 (.inr (.inr (.inr (.inl ⟨k5, rfl⟩))))
                  simp only [nodeS, k5]
                  exact this
      · have hk := head_kind hh
        have hsay : ∀ u ∈ t.kids, ∀ ins st, Says s F aggs id u ins st (expS F aggs u ins st).1 (expS F aggs u ins st).2 := fun u hu ins st =>
          ih u (by have := t.size_kid hu; omega) (by omega) (List.all_eq_true.1 hall u hu) ins st
        have hS : SaysL s F aggs id (fun t st => expS F aggs t ins st) ins t.kids := fun u hu st => hsay u hu ins st
        have hm : t.kids.length ≤ maxElems := by omega
        clear ih hall
        unfold headB at hh
        by_cases k7 : t.kind = 7
        · rw [if_pos k7] at hh
          simp only [Bool.and_eq_true, decide_eq_true_eq] at hh
          obtain ⟨u, hu⟩ := len_one hh.2.2
          have := says_un (s := s) (F := F) (aggs := aggs) (id := id) he k7 hu (hsay u (by rw [hu]; simp) ins st)
          simp only [nodeS, k7, hu, kindsS, fstI]
          exact this
        by_cases k8 : t.kind = 8
        · rw [if_neg k7, if_pos k8] at hh
          simp only [Bool.and_eq_true, decide_eq_true_eq] at hh
          obtain ⟨u, v, hu⟩ := len_two hh.2.2
          have := says_bin (s := s) (F := F) (aggs := aggs) (id := id) he k8 hu (hsay u (by rw [hu]; simp) ins st) (hsay v (by rw [hu]; simp) ins _)
          simp only [nodeS, k8, hu, kindsS, fstI, sndI]
          exact this
        by_cases k9 : t.kind = 9
        · rw [if_neg k7, if_neg k8, if_pos k9] at hh
          simp only [Bool.and_eq_true, decide_eq_true_eq] at hh
          obtain ⟨u, hu⟩ := len_one hh.2.2
          have := says_isnull (s := s) (F := F) (aggs := aggs) (id := id) he k9 hu (hsay u (by rw [hu]; simp) ins st)
          simp only [nodeS, k9, hu, kindsS]
          exact this
        by_cases k10 : t.kind = 10
        · rw [if_neg k7, if_neg k8, if_neg k9, if_pos k10] at hh
          simp only [bareB, Bool.and_eq_true, decide_eq_true_eq] at hh
          have h3 := hh.2
          have := says_among (s := s) (F := F) (aggs := aggs) (id := id) he (.inl k10) hS hm (by omega)
          simp only [nodeS, k10]
          exact this
        by_cases k11 : t.kind = 11
        · rw [if_neg k7, if_neg k8, if_neg k9, if_neg k10, if_pos k11] at hh
          simp only [bareB, Bool.and_eq_true, decide_eq_true_eq] at hh
          have h3 := hh.2
          have := says_among (s := s) (F := F) (aggs := aggs) (id := id) he (.inr k11) hS hm (by omega)
          simp only [nodeS, k11]
          exact this
        by_cases k12 : t.kind = 12
        · have := says_cases (s := s) (F := F) (aggs := aggs) (id := id) he k12 hS hm _ rfl
          simp only [nodeS, k12]
          exact this
        by_cases k13 : t.kind = 13
        · have := says_call (s := s) (F := F) (aggs := aggs) (id := id) he k13 hS hm _ rfl
          simp only [nodeS, k13]
          exact this
        have k14 : t.kind = 14 := by omega
        rw [if_neg k7, if_neg k8, if_neg k9, if_neg k10, if_neg k11, if_neg k12, if_neg k13, if_pos k14] at hh
        simp only [Bool.and_eq_true, Bool.or_eq_true, decide_eq_true_eq] at hh
        have hkids : (t.kids = [] ∧ fstI (kindsS (fun t st => expS F aggs t true st) t.kids st).1 = 0 ∧ (kindsS (fun t st => expS F aggs t true st) t.kids st).2 = st) ∨ ∃ u, t.kids = [u] ∧ Says s F aggs id u true st (fstI (kindsS (fun t st => expS F aggs t true st) t.kids st).1) (kindsS (fun t st => expS F aggs t true st) t.kids st).2 := by
          by_cases h1 : (t.kids.length : Int) = 1
          · obtain ⟨u, hu⟩ := len_one h1
            refine .inr ⟨u, hu, ?_⟩
            have := hsay u (by rw [hu]; simp) true st
            simp only [hu, kindsS, fstI]
            exact this
          · have h0 : t.kids = [] := by
              rcases hh.2.2 with h | h
              · exact absurd h h1
              · exact List.eq_nil_of_length_eq_zero (by omega)
            exact .inl ⟨h0, by simp [h0, kindsS, fstI], by simp [h0, kindsS]⟩
        have := says_agg (s := s) (F := F) (aggs := aggs) (id := id) (ins := ins) he k14 hkids _ rfl
        simp only [nodeS, k14]
        exact this
    · rw [if_neg he]
      exact says_err he
end Go.Proofs.YtdpfgdmlmkpmbaaGreatDoor.Ab

/- types.Expr. -/
namespace Go.Proofs.YtdpfgdmlmkpmbaaGreatDoor.Ab
open Go
set_option maxRecDepth 20000
set_option maxHeartbeats 16000000
set_option linter.unusedSimpArgs false

def tyExpr (F : List Fld) (aggs : Bool) (t : T) : Int × Int × Int :=
  if exprB t = true then (if (expS F aggs t false ⟨0, 0⟩).2.err = 0 then ((expS F aggs t false ⟨0, 0⟩).1, 0, 0) else (0, (expS F aggs t false ⟨0, 0⟩).2.at', (expS F aggs t false ⟨0, 0⟩).2.err)) else (0, 0, 60)

/-- What Form says where a tree is no expression: something else. -/
def FormOk (t : T) : Prop := ∃ k : Int, k ≠ 1 ∧ ∀ σ, lim TyD 33 [.agg t.cells] σ = some (.one (.int .i64 k), σ)
theorem eq_form_expr (σ : AHeap) (t : T) (hm : t.size ≤ maxElems) (h : exprB t = true) : lim TyD 33 [.agg t.cells] σ = some (.one (.int .i64 1), σ) := by
  refine lim_eq (TyD_prim rfl) ((TyD_code _).trans codeForm) rfl ?_
  unfold BodyP
  have h1 := fun σ => eq_expr t.size t (Nat.le_refl _) hm σ
  rw [h] at h1
  rw [T.cells_eq] at h1 ⊢
  simp (maxDischargeDepth := 99) [cForm, h1]

theorem eq_tyExpr (σ : AHeap) (t : T) (s : AV) (F : List Fld) (aggs : Bool) (hs : FldSl σ s F) (hF : F.length ≤ maxElems) (hm : t.size ≤ maxElems) (hform : exprB t = false → FormOk t) :
    lim TyD 21 [.agg t.cells, s, .one (.bool aggs)] σ = some (.tup [.one (.int .i64 (tyExpr F aggs t).1), .one (.int .i64 (tyExpr F aggs t).2.1), .one (.int .i64 (tyExpr F aggs t).2.2)], σ) := by
  refine lim_eq (TyD_prim rfl) ((TyD_code _).trans codeTExpr) rfl ?_
  unfold BodyP tyExpr
  cases hx : exprB t with
  | false =>
    obtain ⟨k, hk, h1⟩ := hform hx
    rw [T.cells_eq] at h1 ⊢
    simp (maxDischargeDepth := 99) [cTExpr, h1, hk]
  | true =>
    obtain ⟨sv, rfl⟩ : ∃ sv, s = .one sv := by
      rcases hs with h | ⟨q, pre, h, _⟩ | ⟨h, _⟩
      · exact ⟨_, h⟩
      · exact ⟨_, h⟩
      · exact ⟨_, h⟩
    have h1 := fun σ => eq_form_expr σ t hm hx
    have hsay := says_expr sv F aggs (σ.size + 1) hF t.size t (Nat.le_refl _) hm hx false ⟨0, 0⟩
    obtain ⟨τ, hτ⟩ : ∃ τ, τ = (σ.alloc ⟨t.cells, .own⟩).alloc ⟨[sv, .bool aggs, .int .i64 0, .int .i64 0], .own⟩ := ⟨_, rfl⟩
    have hkeep : Keeps σ τ := by rw [hτ]; simp
    have hcτ : ChkAt τ (σ.size + 1) sv aggs ⟨0, 0⟩ := by unfold ChkAt chkCells; rw [hτ]; simp
    have hFτ : FldAt τ (σ.size + 1) sv F := by
      rcases hs with h | ⟨q, pre, h, hg⟩ | ⟨h, rfl⟩
      · cases h; exact .inl rfl
      · cases h
        have := AHeap.get_lt hg
        exact .inr (.inl ⟨q, pre, rfl, by omega, by rw [hkeep.2 q this, hg]⟩)
      · cases h; exact .inr (.inr ⟨rfl, rfl⟩)
    have gτ : τ.get σ.size = some ⟨t.cells, .own⟩ := by rw [hτ]; simp
    have szτ : τ.size = σ.size + 2 := by rw [hτ]; simp
    obtain ⟨τ1, hc, hl⟩ := hsay τ hcτ hFτ
    have hk1 : Keeps σ τ1 := ⟨by rw [hl.1, szτ]; omega, fun j hj => by rw [hl.2.2 j (by omega) (by omega), hkeep.2 j hj]⟩
    have g1 := hl.2.1
    unfold ChkAt chkCells at g1
    generalize expS F aggs t false ⟨0, 0⟩ = R at *
    obtain ⟨k, ⟨e, at1⟩⟩ := R
    simp only at hc g1 ⊢
    rw [T.cells_eq] at h1 hτ hc gτ ⊢
    by_cases he : e = 0
    · subst he
      simp (maxDischargeDepth := 99) [cTExpr, h1, ← hτ, gτ, hc, g1, hk1]
    · simp (maxDischargeDepth := 99) [cTExpr, h1, ← hτ, gτ, hc, g1, he, hk1]
end Go.Proofs.YtdpfgdmlmkpmbaaGreatDoor.Ab
