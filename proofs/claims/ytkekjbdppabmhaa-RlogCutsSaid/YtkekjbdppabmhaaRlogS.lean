/-
  Package rlog: RlogBack and RlogCuts for arguments of any size.
-/
import Derived.Test.YtkekjbdppabmhaaRlogN
import Derived.Test.YtkekjbdppabmhaaRlogP
namespace Go.Proofs.Ytkekjbdppabmhaa
open Go.RowKit
set_option maxRecDepth 100000

/-- whatever is told of the length: entries that are not too many -/
theorem long_any (s : Sl) (L : List En) (w : World) (hs : LIn w s L) : Calls Try.prog 15 #[.slice s.base s.len s.cap] w fun r w' => ∃ q : Bool, r = .returned (.bool q) ∧ (q = false → L.length ≤ 80) ∧ Ext [] w w' := by
  refine sh_butterylaw14_long_ok _ _ _ ?_
  unfold sh_butterylaw14_long
  have hl := hs.len
  have hcap := hs.cap
  refine VSet.i ?_
  refine ⟨fun kk n i W => ∃ j : Nat, i = (j : Int) ∧ j ≤ min L.length 100 ∧ kk = L.length - j ∧ Ext [] w W, ⟨_, 0, rfl, by omega, rfl, Ext.refl _ _⟩, ?_⟩
  rintro kk n i w1 ⟨j, rfl, hj, rfl, e01⟩
  refine VIf.mk (fun hd => ?_) (fun hd => ?_)
  · have hj' : j < L.length ∧ j < 100 := by simp at hd; omega
    intro w2 hw2
    have e02 := e01.then0 (Ext.drew' hw2)
    obtain ⟨X, hX, hXl, hEX⟩ := hs.ext0 e02
    refine VIx.rd (r := erR) hX.1 (show j < X.length by omega) fun a1 hra => ?_
    refine VLd.i1 (t := .str) (X[j]).d (by rw [Int.toNat_natCast]; exact hra.fld 2 rfl) ?_
    refine VIx.rd (r := erR) hX.1 (show j < X.length by omega) fun a2 hrb => ?_
    refine VLd.s (X[j]).s (by rw [Int.toNat_natCast]; exact hrb.fld 3 rfl) ?_
    exact VSet.i (VSet.i ⟨L.length - (j + 1), by omega, j + 1, w64 (n := (j : Int) + 1) (by omega), by omega, rfl, e02⟩)
  · refine ⟨_, rfl, fun hq => ?_, e01⟩
    rw [Bool.or_eq_false_iff, decide_eq_false_iff_not, decide_eq_false_iff_not] at hq
    omega
theorem may_lists {t : Int} {L : List En} (h : mayB t L = true) : ∀ e ∈ L, e.list.length ≤ 100000000 := fun e he => by
  obtain ⟨i, hi, rfl⟩ := List.mem_iff_getElem.1 he
  unfold mayB at h
  rw [decide_eq_true_eq] at h
  have := h i hi
  unfold badM at this
  rw [Bool.or_eq_false_iff] at this
  have hok : okE (L.getD i zEn) = true := by simpa using this.1
  rw [getD_getE hi] at hok
  have := (okE_kind hok).2.2.2.1
  omega
theorem New_any (base term : Int) (s : Sl) (L : List En) (w : World) (h : LIn w s L) (hL : L.length ≤ 100000000) : Calls Try.prog 9 #[.int .i64 base, .int .i64 term, .slice s.base s.len s.cap] w fun r w' =>
    ∃ p : Option Addr, r = .returned (.tuple #[.pointer p, .int .i64 (newE base term L)]) ∧ (newE base term L ≠ 0 → p = none) ∧ (newE base term L = 0 → ∃ b s', p = some ⟨b, 0, none⟩ ∧ LogAt w w' b ⟨base, term, L⟩ s') ∧ Ext [] w w' := by
  refine sh_rlog_New_ok _ _ _ _ _ ?_
  unfold sh_rlog_New
  have hsl := h.len
  refine VCall.opt (count_opt base w) fun w1 e1 => exW.i1 (t := .bool) _ rfl (VCall.opt (count_opt term w1) fun w2 e2 => exW.i1 (t := .bool) _ rfl (VCall.opt (may_spec term s L w2 ((h.ext0 e1).ext0 e2) hL) fun w3 e3 => exW.i1 (t := .bool) _ rfl ?_))
  have e03 := (e1.then0 e2).then0 e3
  have h3 := h.ext0 e03
  refine VIf.mk (fun hc => ?_) (fun hc => ?_)
  · have hq : newE base term L = 1 := by
      unfold newE
      rw [if_pos]
      revert hc
      cases cntB base <;> cases cntB term <;> cases mayB term L <;> simp
    rw [hq]
    exact ⟨none, rfl, fun _ => rfl, fun h => absurd h (by decide), e03⟩
  have hb : cntB base = true ∧ cntB term = true ∧ mayB term L = true := by
    revert hc
    cases cntB base <;> cases cntB term <;> cases mayB term L <;> simp
  have hq : newE base term L = if 2147483647 - base < (L.length : Int) then 70 else 0 := by
    unfold newE
    rw [hb.1, hb.2.1, hb.2.2]
    rfl
  have hbase := cntB_iff.1 hb.1
  rw [hsl, w64 (n := 2147483647 - base) (by omega)]
  refine VIf.mk (fun hd => ?_) (fun hd => ?_)
  · have hd : 2147483647 - base < (L.length : Int) := by simpa using hd
    rw [hq, if_pos hd]
    exact ⟨none, rfl, fun _ => rfl, fun h => absurd h (by decide), e03⟩
  have hd : ¬ 2147483647 - base < (L.length : Int) := by simpa using hd
  rw [hq, if_neg hd]
  rw [← hsl]
  refine VCall.i (twins_spec s L w3 h3 hL (may_lists hb.2.2)) ?_
  rintro r w4 ⟨s', rfl, hs', e4⟩
  refine exW.i1 (t := .sl) s' rfl (VNw.i fun b w5 hb5 hk5 e5 => ?_)
  have z3 := e03.size
  have z4 := e4.size
  exact ⟨some ⟨b, 0, none⟩, rfl, fun h => absurd rfl h, fun _ => ⟨b, s', rfl, by omega, ⟨hbase.1, by show base + (L.length : Int) ≤ 2147483647; omega⟩, hk5, (hs'.mono z3).ext0 e5⟩, (e03.then0 e4).then0 e5⟩
theorem new_may {base term : Int} {L : List En} (h : newE base term L = 0) : mayB term L = true := by
  unfold newE at h
  split at h
  · cases h
  · rename_i hq
    revert hq
    cases cntB base <;> cases cntB term <;> cases mayB term L <;> simp
set_option maxHeartbeats 1000000 in
theorem Back_any (x : Er) (en : En) (s : Sl) (l : List UInt8) (w : World) (h : EIn w x en) (hb : In w s l) :
    Calls Try.prog 6 #[.agg (erC x).toArray, .slice s.base s.len s.cap] w fun e w' => e = .returned (.bool true) ∧ Ext [] w w' := by
  refine sh_butterylaw14_RlogBack_ok _ _ _ _ _ _ _ ?_
  unfold sh_butterylaw14_RlogBack
  refine VNw.i fun eb w1 heb hk1 e1 => ?_
  have hk1 : Bk w1 eb (erC x) 28 := hk1
  refine VLd.er x (Rd.of_bk hk1 rfl) (VNw.i fun b12 w2 hb12 hk2 e2 => ?_)
  have hk2 : Bk w2 b12 (erC x) 28 := hk2
  have e02 := e1.then0 e2
  have hlong := long_any ⟨some ⟨b12, 0, none⟩, 1, 1⟩ [en] w2 (one_in hk2 (h.ext0 e02))
  refine VCall.i hlong ?_
  rintro r w3 ⟨big, rfl, -, e3⟩
  refine exW.i1 (t := .bool) _ rfl (VCall.opt (awake_spec w3) fun w4 e4 => exW.i1 (t := .bool) true rfl (VIf.mk (fun hc => ?_) (fun hc => ?_)))
  · refine VCall.i (awake_spec w4) ?_
    rintro r w5 ⟨rfl, e5⟩
    exact exW.i1 (t := .bool) true rfl ⟨rfl, ((e02.then0 e3).then0 e4).then0 e5⟩
  have hl : l.length ≤ 100000000 := by have := hb.len; rw [this] at hc; simp at hc; omega
  have e04 := (e02.then0 e3).then0 e4
  have hk4 := ((hk1.ext e2).ext e3).ext e4
  refine VLd.er x (Rd.of_bk hk4 rfl) (VCall.i (Write_spec x en w4 (h.ext0 e04)) ?_)
  rintro r w6 ⟨sw, rfl, ow, e6⟩
  have hk6 := hk4.ext e6
  have e06 := e04.then0 e6
  refine exW.i2 (t := .sl) (u := .int .i64) sw _ rfl (VSet.i (VLd.er x (Rd.of_bk hk6 rfl) (VCall.i (Check_spec x en w6 (h.ext0 e06)) ?_)))
  rintro r w7 ⟨rfl, e7⟩
  have hk7 := hk6.ext e7
  have e07 := e06.then0 e7
  have ow7 := ow.ext0 e7
  have hif : ((if okE en then (0 : Int) else 1) == 0) = okE en := by cases okE en <;> rfl
  refine exW.i1 (t := .bool) _ rfl (VIf.f (by rw [hif]; simp) ?_)
  rw [hif]
  refine ⟨fun W => Ext [] w W, ?_, ?_⟩
  · cases hok : okE en with
    | false => exact VIf.f rfl e07
    | true =>
      have hwr : wrE en = encE en := by unfold wrE; rw [if_pos hok]
      rw [hwr] at ow7
      have hle := encE_len hok
      refine VIf.t rfl (VCall.i (Read_spec sw (encE en) w7 ow7.in_ (by omega)) ?_)
      rintro r w8 ⟨xr, rfl, hxr, e8⟩
      rw [dec_enc hok] at hxr
      rw [dec_enc hok]
      refine ⟨xr.t, xr.k, xr.d, xr.s, (0 : Int), rfl, VNw.i fun rb w9 hrb hk9 e9 => VSt.bk hk9 rfl (by simp) fun w10 hk10 e10 => VSet.i ?_⟩
      have hk10 : Bk w10 rb (erC xr) 28 := hk10
      have e810 : Ext [] w8 w10 := e9.then e10 (fun i hi hlt => by simp at hi; omega)
      have e710 := e8.then0 e810
      refine VLd.er xr (Rd.of_bk hk10 rfl) (VLd.er x (Rd.of_bk (hk7.ext e710) rfl) (VCall.opt (Same_spec xr x en en w10 (hxr.ext0 e810).ein (h.ext0 (e07.then0 e710))) fun w11 e11 => exW.i1 (t := .bool) _ rfl (VIf.f (by simp) ((e07.then0 e710).then0 e11))))
  · rintro w12 e12
    refine VCall.i (Read_spec s l w12 (hb.ext0 e12) hl) ?_
    rintro r w13 ⟨xr, rfl, hxr, e13⟩
    refine ⟨xr.t, xr.k, xr.d, xr.s, (decE l).2, rfl, VNw.i fun rb w14 hrb hk14 e14 => VSt.bk hk14 rfl (by simp) fun w15 hk15 e15 => VSet.i ?_⟩
    have hk15 : Bk w15 rb (erC xr) 28 := hk15
    have e1315 : Ext [] w13 w15 := e14.then e15 (fun i hi hlt => by simp at hi; omega)
    have e015 := (e12.then0 e13).then0 e1315
    cases hg : goodE l with
    | false =>
      have hd : decE l = (zEn, 4) := by unfold decE; rw [hg]; rfl
      rw [hd]
      exact VIf.t rfl ⟨rfl, e015⟩
    | true =>
      obtain ⟨hok, hen⟩ := enc_dec hg
      have hd : decE l = (rawE l, 0) := by unfold decE; rw [hg]; rfl
      rw [hd] at hxr ⊢
      refine VIf.f rfl (VLd.er xr (Rd.of_bk hk15 rfl) (VCall.i (Write_spec xr (rawE l) w15 (hxr.ext0 e1315).ein) ?_))
      rintro r w16 ⟨sx, rfl, ox, e16⟩
      refine exW.i2 (t := .sl) (u := .int .i64) sx _ rfl (VSet.i ?_)
      have hwr : wrE (rawE l) = l := by unfold wrE; rw [if_pos hok]; exact hen
      rw [hwr] at ox
      rw [hok]
      refine VStr.i l ox.seg fun s65 h65 => VStr.i l (hb.ext0 (e015.then0 e16)).1 fun s67 h67 => ⟨?_, e015.then0 e16⟩
      rw [strEq, h65, h67]
      simp
set_option maxHeartbeats 1000000 in
theorem Cuts_any (base term : Int) (s c : Sl) (L : List En) (C : List Int) (w : World) (h : LIn w s L) (hc : InR itR w c C) :
    Calls Try.prog 4 #[.int .i64 base, .int .i64 term, .slice s.base s.len s.cap, .slice c.base c.len c.cap] w fun e w' => e = .returned (.bool true) ∧ Ext [] w w' := by
  refine sh_butterylaw14_RlogCuts_ok _ _ _ _ _ _ ?_
  unfold sh_butterylaw14_RlogCuts
  have hsl := h.len
  have hcl := hc.len
  refine VCall.i (long_any s L w h) ?_
  rintro r w1 ⟨big, rfl, hbig, e1⟩
  refine exW.i1 (t := .bool) _ rfl (VCall.opt (awake_spec w1) fun w2 e2 => exW.i1 (t := .bool) true rfl (VIf.mk (fun hq => ?_) (fun hq => ?_)))
  · refine VCall.i (awake_spec w2) ?_
    rintro r w3 ⟨rfl, e3⟩
    exact exW.i1 (t := .bool) true rfl ⟨rfl, (e1.then0 e2).then0 e3⟩
  have hll : L.length ≤ 80 := hbig (by cases big with | false => rfl | true => simp at hq)
  have hL : L.length ≤ 100000000 := by omega
  have hcc : C.length ≤ 20 := by rw [hcl] at hq; simp at hq; omega
  have e02 := e1.then0 e2
  refine VCall.i (New_any base term s L w2 (h.ext0 e02) hL) ?_
  rintro r w4 ⟨p, rfl, hp0, hp1, e4⟩
  have e04 := e02.then0 e4
  refine exW.i2 (t := .ptr) (u := .int .i64) p _ rfl (VSet.i (VIf.mk (fun hn => ⟨rfl, e04⟩) (fun hn => ?_)))
  have hn : newE base term L = 0 := by simpa using hn
  have hls := may_lists (new_may hn)
  obtain ⟨gb, sg, rfl, hg⟩ := hp1 hn
  have z2 := e02.size
  have hg : LogAt w w4 gb ⟨base, term, L⟩ sg := hg.mono z2
  obtain ⟨g0, hg0⟩ : ∃ g0 : Lg, g0 = ⟨base, term, L⟩ := ⟨_, rfl⟩
  have hgl : g0.l = L := by rw [hg0]
  have hgbase : g0.base = base := by rw [hg0]
  rw [← hg0] at hg
  have hgl80 : g0.l.length ≤ 80 := by rw [hgl]; exact hll
  have hgls : ∀ e ∈ g0.l, e.list.length ≤ 100000000 := by rw [hgl]; exact hls
  obtain ⟨ob, oe⟩ := hg.ok
  refine VCall.i (Copy_spec w w4 gb g0 sg hg (by omega) hgls) ?_
  rintro r w5 ⟨hb_, sh, rfl, hh, e5⟩
  have z4 := e04.size
  have hne : hb_ ≠ gb := by have := hg.k.lt; have := hh.gb; omega
  have hh : LogAt w w5 hb_ g0 sh := hh.mono z4
  refine exW.i1 (t := .ptr) _ rfl ?_
  have e05 := e04.then0 e5
  have hg5 := hg.ext0 e5
  have gge := hg.gb
  refine ⟨fun kk i W => ∃ (j k : Nat) (s' : Sl), i = (j : Int) ∧ j ≤ C.length ∧ kk = C.length - j ∧ k ≤ g0.l.length ∧ LogAt w W gb (cutAt g0 k) s' ∧ LogAt w W hb_ g0 sh ∧ Ext [] w W, ⟨_, 0, 0, sg, rfl, by omega, rfl, by omega, by rw [cutAt_0]; exact hg5, hh, e05⟩, ?_⟩
  rintro kk i w6 ⟨j, k, s', rfl, hj, rfl, hk, G, H, e06⟩
  refine VIf.mk (fun hd => ?_) (fun hd => ⟨rfl, e06⟩)
  have hj' : j < C.length := by simp at hd; omega
  refine VIx.rd (r := itR) (hc.ext0 e06).1 hj' fun a57 hr57 => ?_
  refine VLd.i1 (t := .int .i64) (C[j]) (by rw [Int.toNat_natCast]; exact hr57) ?_
  have hlen1 : IntKind.wrap .u64 (IntKind.wrap .i64 (((s.len : Nat) : Int) + 1)) = ((g0.l.length + 1 : Nat) : Int) := by rw [hsl, ← hgl]; exact u64one (by omega)
  rw [hlen1]
  refine VCk.i (by omega) ?_
  obtain ⟨q, hq1, hqe⟩ := pickq C[j] (show 0 < g0.l.length + 1 by omega) (by omega)
  rw [hqe, ← hgbase, w64 (n := g0.base + (q : Int)) (by omega)]
  refine VSet.i ?_
  have hql : q ≤ g0.l.length := by omega
  refine VCall.i (Base_spec w w6 gb _ s' G) ?_
  rintro r w7 ⟨rfl, e7⟩
  have G7 := G.ext0 e7
  have H7 := H.ext0 e7
  refine exW.i2 (t := .int .i64) (u := .int .i64) _ _ rfl (VSet.i (VSet.i (VCall.i (Term_spec w w7 hb_ g0 sh _ H7) ?_)))
  rintro r w8 ⟨rfl, e8⟩
  have G8 := G7.ext0 e8
  have H8 := H7.ext0 e8
  have hcl1 : (cutAt g0 k).l.length ≤ 100000000 := by unfold cutAt; simp only [List.length_drop]; omega
  refine exW.i2 (t := .int .i64) (u := .bool) _ _ rfl (VSet.i (VCall.i (Cut_spec w w8 gb _ s' _ G8 hcl1) ?_))
  rintro r w9 ⟨s9, rfl, G9, e9⟩
  have H9 := H8.other G8.k hne e9
  have e09 : Ext [] w w9 := ((e06.then0 e7).then0 e8).then e9 (fun i hi hlt => by simp at hi; omega)
  rw [cutAt_cut hk hql] at G9
  rw [cutAt_in hk hql]
  refine exW.i1 (t := .int .i64) _ rfl (VSet.i ?_)
  have hcb : (cutAt g0 k).base = g0.base + (k : Int) := rfl
  obtain ⟨k', hk', hkl, hkq⟩ : ∃ k' : Nat, (if k ≤ q then cutAt g0 q else cutAt g0 k) = cutAt g0 k' ∧ k' ≤ g0.l.length ∧ (k ≤ q → k' = q) := by
    by_cases hx : k ≤ q
    · exact ⟨q, by rw [if_pos hx], hql, fun _ => rfl⟩
    · exact ⟨k, by rw [if_neg hx], hk, fun h => absurd h hx⟩
  rw [hk'] at G9
  refine VIf.f ?_ ?_
  · rw [hcb]
    by_cases hx : k ≤ q
    · rw [decide_eq_true hx]
      have : decide (g0.base + (q : Int) ≥ g0.base + (k : Int)) = true := by rw [decide_eq_true_eq]; omega
      rw [this]; rfl
    · rw [decide_eq_false hx]
      have : decide (g0.base + (q : Int) ≥ g0.base + (k : Int)) = false := by rw [decide_eq_false_iff_not]; omega
      rw [this]; rfl
  refine VCall.i (Base_spec w w9 gb _ s9 G9) ?_
  rintro r w10 ⟨rfl, e10⟩
  have G10 := G9.ext0 e10
  have H10 := H9.ext0 e10
  refine exW.i2 (t := .int .i64) (u := .int .i64) _ _ rfl (VSet.i (VSet.i (VIf.f ?_ ?_)))
  · by_cases hx : k ≤ q
    · rw [decide_eq_true hx, hkq hx]
      unfold cutAt
      simp
    · rw [decide_eq_false hx]
      rfl
  refine VCall.i (Last_spec w w10 gb _ s9 G10) ?_
  rintro r w11 ⟨rfl, e11⟩
  have G11 := G10.ext0 e11
  have H11 := H10.ext0 e11
  refine exW.i2 (t := .int .i64) (u := .int .i64) _ _ rfl (VSet.i (VSet.i (VCall.i (Last_spec w w11 hb_ g0 sh H11) ?_)))
  rintro r w12 ⟨rfl, e12⟩
  have G12 := G11.ext0 e12
  have H12 := H11.ext0 e12
  rw [cutAt_last hkl]
  refine exW.i2 (t := .int .i64) (u := .int .i64) _ _ rfl (VSet.i (VSet.i ?_))
  have hguard : (!(((lastO g0).1 != (lastO g0).1) || ((lastO g0).2 != (lastO g0).2))) = true := by simp
  have hcl2 : (cutAt g0 k').l.length ≤ 100000000 := by unfold cutAt; simp only [List.length_drop]; omega
  have hcls : ∀ e ∈ (cutAt g0 k').l, e.list.length ≤ 100000000 := fun e he => hgls e (List.mem_of_mem_drop he)
  refine VCall.on hguard (VCall.i (From_spec w w12 gb _ s9 0 100 G12 hcl2 hcls) ?_)
  rintro r w13 ⟨f1, rfl, hf1, e13⟩
  rw [cutAt_from0 ob (by omega)] at hf1
  have hcb' : (cutAt g0 k').base = g0.base + (k' : Int) := rfl
  refine exW.i1 (t := .sl) f1 rfl ?_
  rw [hcb', w64 (n := g0.base + (k' : Int) + 1) (by omega)]
  refine VCall.on hguard (VCall.i (From_spec w w13 hb_ g0 sh (g0.base + (k' : Int) + 1) 100 (H12.ext0 e13) (by omega) hgls) ?_)
  rintro r w14 ⟨f2, rfl, hf2, e14⟩
  rw [cutAt_fromH ob hkl (by omega)] at hf2
  refine exW.i1 (t := .sl) f2 rfl ?_
  have hsame := Sames_spec f1 f2 _ _ w14 (hf1.ext0 e14).lin hf2.lin
  refine VCall.opt hsame fun w15 e15 => exW.i1 (t := .bool) _ rfl (VIf.f (by simp) ?_)
  have G15 := ((G12.ext0 e13).ext0 e14).ext0 e15
  have H15 := ((H12.ext0 e13).ext0 e14).ext0 e15
  have e015 : Ext [] w w15 := (((((e09.then0 e10).then0 e11).then0 e12).then0 e13).then0 e14).then0 e15
  refine VSet.i ?_
  exact ⟨C.length - (j + 1), by omega, j + 1, k', s9, w64 (n := (j : Int) + 1) (by omega), by omega, rfl, hkl, G15, H15, e015⟩
end Go.Proofs.Ytkekjbdppabmhaa
