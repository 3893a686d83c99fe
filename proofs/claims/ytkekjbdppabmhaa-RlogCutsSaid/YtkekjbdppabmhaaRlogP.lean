/-
  Package rlog: RlogCuts.
-/
import Derived.Test.YtkekjbdppabmhaaRlogM
namespace Go.Proofs.Ytkekjbdppabmhaa
open Go.RowKit
set_option maxRecDepth 100000

theorem pickq (x : Int) {n : Nat} (hn : 0 < n) (h : n ≤ 1000000) : ∃ q : Nat, q < n ∧ IntKind.wrap .i64 (Int.tmod (IntKind.wrap .u64 x) ((n : Nat) : Int)) = (q : Int) := by
  have h0 : 0 ≤ IntKind.wrap .u64 x := by rw [w64u]; exact Int.emod_nonneg _ (by omega)
  have h1 := Int.emod_nonneg (IntKind.wrap .u64 x) (show ((n : Nat) : Int) ≠ 0 by omega)
  have h2 := Int.emod_lt_of_pos (IntKind.wrap .u64 x) (show (0 : Int) < ((n : Nat) : Int) by omega)
  refine ⟨(IntKind.wrap .u64 x % ((n : Nat) : Int)).toNat, by omega, ?_⟩
  rw [Int.tmod_eq_emod_of_nonneg h0, w64 (by omega)]
  omega
theorem u64len {n : Nat} (h : n ≤ 1000000) : IntKind.wrap .u64 ((n : Nat) : Int) = ((n : Nat) : Int) := by rw [w64u]; omega
theorem u64one {n : Nat} (h : n ≤ 100000) : IntKind.wrap .u64 (IntKind.wrap .i64 (((n : Nat) : Int) + 1)) = ((n + 1 : Nat) : Int) := by
  rw [w64 (n := ((n : Nat) : Int) + 1) (by omega), show ((n : Nat) : Int) + 1 = ((n + 1 : Nat) : Int) by omega, u64len (by omega)]
/-- a log that was cut k entries behind its base -/
def cutAt (g : Lg) (k : Nat) : Lg := ⟨g.base + (k : Int), (termO g (g.base + (k : Int))).1, g.l.drop k⟩
theorem cutAt_0 (g : Lg) : cutAt g 0 = g := by
  obtain ⟨b, t, l⟩ := g
  have : termO ⟨b, t, l⟩ (b + ((0 : Nat) : Int)) = (t, true) := by
    unfold termO
    rw [if_pos (by rw [inL_iff]; simp only; omega), if_pos (by simp only; omega)]
  unfold cutAt
  rw [this]
  simp
theorem cutAt_in {g : Lg} {k q : Nat} (hk : k ≤ g.l.length) (hq : q ≤ g.l.length) : inL (cutAt g k) (g.base + (q : Int)) = decide (k ≤ q) := by
  rw [Bool.eq_iff_iff, inL_iff, decide_eq_true_eq]
  unfold cutAt
  simp only [List.length_drop]
  omega
theorem cutAt_term {g : Lg} {k q : Nat} (hk : k ≤ q) (hq : q ≤ g.l.length) : (termO (cutAt g k) (g.base + (q : Int))).1 = (termO g (g.base + (q : Int))).1 := by
  have h1 : inL (cutAt g k) (g.base + (q : Int)) = true := by rw [cutAt_in (by omega) hq, decide_eq_true hk]
  by_cases hkq : k = q
  · subst hkq
    conv => lhs; unfold termO
    rw [h1, if_pos rfl, if_pos (by rfl)]
    rfl
  · have h2 : inL g (g.base + (q : Int)) = true := by rw [inL_iff]; omega
    unfold termO
    rw [h1, h2, if_pos rfl, if_pos rfl, if_neg (by unfold cutAt; simp only; omega), if_neg (by omega)]
    simp only
    unfold cutAt
    simp only
    have e1 : (g.base + (q : Int) - (g.base + (k : Int)) - 1).toNat = q - k - 1 := by omega
    have e2 : (g.base + (q : Int) - g.base - 1).toNat = q - 1 := by omega
    rw [e1, e2, List.getD_eq_getElem?_getD, List.getD_eq_getElem?_getD, List.getElem?_drop, show k + (q - k - 1) = q - 1 by omega]
theorem cutAt_cut {g : Lg} {k q : Nat} (hk : k ≤ g.l.length) (hq : q ≤ g.l.length) : cutG (cutAt g k) (g.base + (q : Int)) = if k ≤ q then cutAt g q else cutAt g k := by
  unfold cutG
  rw [cutAt_in hk hq]
  by_cases h : k ≤ q
  · rw [decide_eq_true h, if_pos rfl, if_pos h, cutAt_term h hq]
    unfold cutAt
    simp only [List.drop_drop]
    congr 1
    congr 1
    omega
  · rw [decide_eq_false h, if_neg (by simp), if_neg h]
theorem cutAt_from0 {g : Lg} {k : Nat} (h0 : 0 ≤ g.base) (hl : g.l.length ≤ 100) : fromO (cutAt g k) 0 100 = g.l.drop k := by
  unfold fromO
  rw [if_neg (by unfold cutAt; simp only [List.length_drop]; omega)]
  have : fromK (cutAt g k) 0 = 0 := by
    unfold fromK cutAt
    simp only
    split <;> omega
  rw [this, List.drop_zero]
  unfold cutAt
  simp only
  exact List.take_of_length_le (by rw [List.length_drop]; omega)
theorem cutAt_fromH {g : Lg} {k : Nat} (h0 : 0 ≤ g.base) (hk : k ≤ g.l.length) (hl : g.l.length ≤ 100) : fromO g (g.base + (k : Int) + 1) 100 = g.l.drop k := by
  unfold fromO
  by_cases h : k = g.l.length
  · rw [if_pos (by omega), h, List.drop_length]
  · rw [if_neg (by omega)]
    have : fromK g (g.base + (k : Int) + 1) = k := by
      unfold fromK
      split <;> omega
    rw [this]
    exact List.take_of_length_le (by rw [List.length_drop]; omega)
theorem cutAt_last {g : Lg} {k : Nat} (hk : k ≤ g.l.length) : lastO (cutAt g k) = lastO g := by
  have e : (cutAt g k).base + ((cutAt g k).l.length : Int) = g.base + (g.l.length : Int) := by
    unfold cutAt; simp only [List.length_drop]; omega
  unfold lastO
  rw [e, cutAt_term hk (Nat.le_refl _)]
set_option maxHeartbeats 1000000 in
theorem Cuts_law (base term : Int) (s c : Sl) (L : List En) (C : List Int) (w : World) (h : LIn w s L) (hc : InR itR w c C) (hL : L.length ≤ 100000000) (hb : ∀ e ∈ L, bulkE e ≤ 100000000) :
    Calls Try.prog 4 #[.int .i64 base, .int .i64 term, .slice s.base s.len s.cap, .slice c.base c.len c.cap] w fun e w' => e = .returned (.bool true) ∧ Ext [] w w' := by
  refine sh_butterylaw14_RlogCuts_ok _ _ _ _ _ _ ?_
  unfold sh_butterylaw14_RlogCuts
  have hsl := h.len
  have hcl := hc.len
  refine VCall.i (long_spec s L w h hL hb) ?_
  rintro r w1 ⟨rfl, e1⟩
  refine exW.i1 (t := .bool) _ rfl (VCall.opt (awake_spec w1) fun w2 e2 => exW.i1 (t := .bool) true rfl (VIf.mk (fun hq => ?_) (fun hq => ?_)))
  · refine VCall.i (awake_spec w2) ?_
    rintro r w3 ⟨rfl, e3⟩
    exact exW.i1 (t := .bool) true rfl ⟨rfl, (e1.then0 e2).then0 e3⟩
  have hll : L.length ≤ 80 := by
    unfold longB at hq
    simp at hq
    omega
  have hcc : C.length ≤ 20 := by rw [hcl] at hq; simp at hq; omega
  have hls : ∀ e ∈ L, e.list.length ≤ 100000000 := fun e he => by have := hb e he; unfold bulkE at this; omega
  have e02 := e1.then0 e2
  refine VCall.i (New_spec base term s L w2 (h.ext0 e02) hL hls) ?_
  rintro r w4 ⟨p, rfl, hp0, hp1, e4⟩
  have e04 := e02.then0 e4
  refine exW.i2 (t := .ptr) (u := .int .i64) p _ rfl (VSet.i (VIf.mk (fun hn => ⟨rfl, e04⟩) (fun hn => ?_)))
  have hn : newE base term L = 0 := by simpa using hn
  obtain ⟨gb, sg, rfl, hg⟩ := hp1 hn
  have z2 := e02.size
  have hg : LogAt w w4 gb ⟨base, term, L⟩ sg := hg.mono z2
  obtain ⟨g0, hg0⟩ : ∃ g0 : Lg, g0 = ⟨base, term, L⟩ := ⟨_, rfl⟩
  have hgl : g0.l = L := by rw [hg0]
  have hgbase : g0.base = base := by rw [hg0]
  rw [← hg0] at hg
  have hgl80 : g0.l.length ≤ 80 := by rw [hgl]; exact hll
  have hgls : ∀ e ∈ g0.l, e.list.length ≤ 100000000 := by rw [hgl]; exact hls
  obtain ⟨ob, oe⟩ := hg.ok
  refine VCall.i (Copy_spec w w4 gb g0 sg hg (by omega) hgls) ?_
  rintro r w5 ⟨hb_, sh, rfl, hh, e5⟩
  have z4 := e04.size
  have hne : hb_ ≠ gb := by have := hg.k.lt; have := hh.gb; omega
  have hh : LogAt w w5 hb_ g0 sh := hh.mono z4
  refine exW.i1 (t := .ptr) _ rfl ?_
  have e05 := e04.then0 e5
  have hg5 := hg.ext0 e5
  have gge := hg.gb
  refine ⟨fun kk i W => ∃ (j k : Nat) (s' : Sl), i = (j : Int) ∧ j ≤ C.length ∧ kk = C.length - j ∧ k ≤ g0.l.length ∧ LogAt w W gb (cutAt g0 k) s' ∧ LogAt w W hb_ g0 sh ∧ Ext [] w W, ⟨_, 0, 0, sg, rfl, by omega, rfl, by omega, by rw [cutAt_0]; exact hg5, hh, e05⟩, ?_⟩
  rintro kk i w6 ⟨j, k, s', rfl, hj, rfl, hk, G, H, e06⟩
  refine VIf.mk (fun hd => ?_) (fun hd => ⟨rfl, e06⟩)
  have hj' : j < C.length := by simp at hd; omega
  refine VIx.rd (r := itR) (hc.ext0 e06).1 hj' fun a57 hr57 => ?_
  refine VLd.i1 (t := .int .i64) (C[j]) (by rw [Int.toNat_natCast]; exact hr57) ?_
  have hlen1 : IntKind.wrap .u64 (IntKind.wrap .i64 (((s.len : Nat) : Int) + 1)) = ((g0.l.length + 1 : Nat) : Int) := by rw [hsl, ← hgl]; exact u64one (by omega)
  rw [hlen1]
  refine VCk.i (by omega) ?_
  obtain ⟨q, hq1, hqe⟩ := pickq C[j] (show 0 < g0.l.length + 1 by omega) (by omega)
  rw [hqe, ← hgbase, w64 (n := g0.base + (q : Int)) (by omega)]
  refine VSet.i ?_
  have hql : q ≤ g0.l.length := by omega
  refine VCall.i (Base_spec w w6 gb _ s' G) ?_
  rintro r w7 ⟨rfl, e7⟩
  have G7 := G.ext0 e7
  have H7 := H.ext0 e7
  refine exW.i2 (t := .int .i64) (u := .int .i64) _ _ rfl (VSet.i (VSet.i (VCall.i (Term_spec w w7 hb_ g0 sh _ H7) ?_)))
  rintro r w8 ⟨rfl, e8⟩
  have G8 := G7.ext0 e8
  have H8 := H7.ext0 e8
  have hcl1 : (cutAt g0 k).l.length ≤ 100000000 := by unfold cutAt; simp only [List.length_drop]; omega
  refine exW.i2 (t := .int .i64) (u := .bool) _ _ rfl (VSet.i (VCall.i (Cut_spec w w8 gb _ s' _ G8 hcl1) ?_))
  rintro r w9 ⟨s9, rfl, G9, e9⟩
  have H9 := H8.other G8.k hne e9
  have e09 : Ext [] w w9 := ((e06.then0 e7).then0 e8).then e9 (fun i hi hlt => by simp at hi; omega)
  rw [cutAt_cut hk hql] at G9
  rw [cutAt_in hk hql]
  refine exW.i1 (t := .int .i64) _ rfl (VSet.i ?_)
  have hcb : (cutAt g0 k).base = g0.base + (k : Int) := rfl
  obtain ⟨k', hk', hkl, hkq⟩ : ∃ k' : Nat, (if k ≤ q then cutAt g0 q else cutAt g0 k) = cutAt g0 k' ∧ k' ≤ g0.l.length ∧ (k ≤ q → k' = q) := by
    by_cases hx : k ≤ q
    · exact ⟨q, by rw [if_pos hx], hql, fun _ => rfl⟩
    · exact ⟨k, by rw [if_neg hx], hk, fun h => absurd h hx⟩
  rw [hk'] at G9
  refine VIf.f ?_ ?_
  · rw [hcb]
    by_cases hx : k ≤ q
    · rw [decide_eq_true hx]
      have : decide (g0.base + (q : Int) ≥ g0.base + (k : Int)) = true := by rw [decide_eq_true_eq]; omega
      rw [this]; rfl
    · rw [decide_eq_false hx]
      have : decide (g0.base + (q : Int) ≥ g0.base + (k : Int)) = false := by rw [decide_eq_false_iff_not]; omega
      rw [this]; rfl
  refine VCall.i (Base_spec w w9 gb _ s9 G9) ?_
  rintro r w10 ⟨rfl, e10⟩
  have G10 := G9.ext0 e10
  have H10 := H9.ext0 e10
  refine exW.i2 (t := .int .i64) (u := .int .i64) _ _ rfl (VSet.i (VSet.i (VIf.f ?_ ?_)))
  · by_cases hx : k ≤ q
    · rw [decide_eq_true hx, hkq hx]
      unfold cutAt
      simp
    · rw [decide_eq_false hx]
      rfl
  refine VCall.i (Last_spec w w10 gb _ s9 G10) ?_
  rintro r w11 ⟨rfl, e11⟩
  have G11 := G10.ext0 e11
  have H11 := H10.ext0 e11
  refine exW.i2 (t := .int .i64) (u := .int .i64) _ _ rfl (VSet.i (VSet.i (VCall.i (Last_spec w w11 hb_ g0 sh H11) ?_)))
  rintro r w12 ⟨rfl, e12⟩
  have G12 := G11.ext0 e12
  have H12 := H11.ext0 e12
  rw [cutAt_last hkl]
  refine exW.i2 (t := .int .i64) (u := .int .i64) _ _ rfl (VSet.i (VSet.i ?_))
  have hguard : (!(((lastO g0).1 != (lastO g0).1) || ((lastO g0).2 != (lastO g0).2))) = true := by simp
  have hcl2 : (cutAt g0 k').l.length ≤ 100000000 := by unfold cutAt; simp only [List.length_drop]; omega
  have hcls : ∀ e ∈ (cutAt g0 k').l, e.list.length ≤ 100000000 := fun e he => hgls e (List.mem_of_mem_drop he)
  refine VCall.on hguard (VCall.i (From_spec w w12 gb _ s9 0 100 G12 hcl2 hcls) ?_)
  rintro r w13 ⟨f1, rfl, hf1, e13⟩
  rw [cutAt_from0 ob (by omega)] at hf1
  have hcb' : (cutAt g0 k').base = g0.base + (k' : Int) := rfl
  refine exW.i1 (t := .sl) f1 rfl ?_
  rw [hcb', w64 (n := g0.base + (k' : Int) + 1) (by omega)]
  refine VCall.on hguard (VCall.i (From_spec w w13 hb_ g0 sh (g0.base + (k' : Int) + 1) 100 (H12.ext0 e13) (by omega) hgls) ?_)
  rintro r w14 ⟨f2, rfl, hf2, e14⟩
  rw [cutAt_fromH ob hkl (by omega)] at hf2
  refine exW.i1 (t := .sl) f2 rfl ?_
  have hsame := Sames_spec f1 f2 _ _ w14 (hf1.ext0 e14).lin hf2.lin
  refine VCall.opt hsame fun w15 e15 => exW.i1 (t := .bool) _ rfl (VIf.f (by simp) ?_)
  have G15 := ((G12.ext0 e13).ext0 e14).ext0 e15
  have H15 := ((H12.ext0 e13).ext0 e14).ext0 e15
  have e015 : Ext [] w w15 := (((((e09.then0 e10).then0 e11).then0 e12).then0 e13).then0 e14).then0 e15
  refine VSet.i ?_
  exact ⟨C.length - (j + 1), by omega, j + 1, k', s9, w64 (n := (j : Int) + 1) (by omega), by omega, rfl, hkl, G15, H15, e015⟩
end Go.Proofs.Ytkekjbdppabmhaa
