/-
  Package rlog: RlogBack.
-/
import Derived.Test.YtkekjbdppabmhaaRlogM
import Derived.Test.YtkekjbdppabmhaaCodeE
namespace Go.Proofs.Ytkekjbdppabmhaa
open Go.RowKit
set_option maxRecDepth 100000

theorem encC_in {n : Int} (h : 0 ≤ n ∧ n ≤ 2147483647) : encC n = enc n.toNat := by unfold encC; rw [if_pos h]
theorem rL_enc (t : List UInt8) : ∀ (L : List Int), (∀ x ∈ L, 1 ≤ x ∧ x ≤ 5) → rL L.length (some (L.flatMap encC ++ t)) = (L, some t)
  | [], _ => rfl
  | x :: L, h => by
    have hx := h x (by simp)
    have ih := rL_enc t L fun y hy => h y (by simp [hy])
    rw [List.length_cons, List.flatMap_cons, List.append_assoc]
    unfold rL
    rw [rCount_enc 5 x (by omega) (by omega) (by omega), ih]
theorem dec_enc {e : En} (h : okE e = true) : decE (encE e) = (e, 0) := by
  obtain ⟨ht, hk, hd, hl, hx⟩ := okE_kind h
  have hl0 : encE e = encC e.term ++ (encC e.kind ++ (encS e.data ++ (encC ((e.list.length : Nat) : Int) ++ (e.list.flatMap encC ++ [])))) := by unfold encE; simp only [List.append_assoc, List.append_nil]
  have h1 : sE1 (encE e) = (e.term, some (encC e.kind ++ (encS e.data ++ (encC ((e.list.length : Nat) : Int) ++ (e.list.flatMap encC ++ []))))) := by
    unfold sE1; rw [hl0, rCount_enc 2147483647 e.term (by omega) (by omega) (by omega)]
  have h2 : sE2 (encE e) = (e.kind, some (encS e.data ++ (encC ((e.list.length : Nat) : Int) ++ (e.list.flatMap encC ++ [])))) := by
    unfold sE2; rw [h1, rCount_enc 255 e.kind (by omega) (by omega) (by omega)]
  have h3 : sE3 (encE e) = (e.data, some (encC ((e.list.length : Nat) : Int) ++ (e.list.flatMap encC ++ []))) := by
    unfold sE3; rw [h2, rStr_enc 256 e.data (by omega) (by omega)]
  have h4 : sE4 (encE e) = (((e.list.length : Nat) : Int), some (e.list.flatMap encC ++ [])) := by
    unfold sE4; rw [h3, rCount_enc 5 _ (by omega) (by omega) (by omega)]
  have h5 : sE5 (encE e) = (e.list, some []) := by
    unfold sE5 nE; rw [h4, Int.toNat_natCast, rL_enc [] e.list hx]
  have hr : rawE (encE e) = e := by unfold rawE; rw [h1, h2, h3, h5]
  have hg : goodE (encE e) = true := by unfold goodE; rw [hr, h5, h]; rfl
  unfold decE
  rw [hg, hr]; rfl
theorem rL_none : ∀ n, (rL n none).2 = none
  | 0 => rfl
  | n + 1 => by
    unfold rL
    rw [rCount_none]
    exact rL_none n
theorem rL_only : ∀ (n : Nat) (l t : List UInt8) (Y : List Int), rL n (some l) = (Y, some t) → Y.length = n ∧ l = Y.flatMap encC ++ t
  | 0, l, t, Y, h => by
    unfold rL at h
    simp only [Prod.mk.injEq, Option.some.injEq] at h
    obtain ⟨rfl, rfl⟩ := h
    exact ⟨rfl, rfl⟩
  | n + 1, l, t, Y, h => by
    unfold rL at h
    simp only [Prod.mk.injEq] at h
    obtain ⟨rfl, h2⟩ := h
    cases hc : rCount 5 (some l) with
    | mk v st =>
      rw [hc] at h2
      simp only at h2 ⊢
      cases st with
      | none => rw [rL_none] at h2; cases h2
      | some t1 =>
        obtain ⟨o1, o2, o3, o4⟩ := only_count hc
        obtain ⟨i1, i2⟩ := rL_only n t1 t (rL n (some t1)).1 (Prod.ext rfl h2)
        refine ⟨by rw [List.length_cons, i1], ?_⟩
        rw [List.flatMap_cons, encC_in ⟨o1, o2⟩, List.append_assoc, ← i2]
        exact o4
theorem enc_dec {l : List UInt8} (h : goodE l = true) : okE (rawE l) = true ∧ encE (rawE l) = l := by
  unfold goodE at h
  rw [Bool.and_eq_true] at h
  refine ⟨h.2, ?_⟩
  have h5 := rDone_iff h.1
  cases c1 : sE1 l with
  | mk v1 st1 =>
  cases st1 with
  | none =>
    exfalso
    have : sE2 l = (0, none) := by unfold sE2; rw [c1]; rfl
    have h3 : sE3 l = (⟨#[]⟩, none) := by unfold sE3; rw [this]; rfl
    have h4 : sE4 l = (0, none) := by unfold sE4; rw [h3]; rfl
    unfold sE5 at h5; rw [h4, rL_none] at h5; cases h5
  | some t1 =>
  cases c2 : sE2 l with
  | mk v2 st2 =>
  cases st2 with
  | none =>
    exfalso
    have h3 : sE3 l = (⟨#[]⟩, none) := by unfold sE3; rw [c2]; rfl
    have h4 : sE4 l = (0, none) := by unfold sE4; rw [h3]; rfl
    unfold sE5 at h5; rw [h4, rL_none] at h5; cases h5
  | some t2 =>
  cases c3 : sE3 l with
  | mk v3 st3 =>
  cases st3 with
  | none =>
    exfalso
    have h4 : sE4 l = (0, none) := by unfold sE4; rw [c3]; rfl
    unfold sE5 at h5; rw [h4, rL_none] at h5; cases h5
  | some t3 =>
  cases c4 : sE4 l with
  | mk v4 st4 =>
  cases st4 with
  | none =>
    exfalso
    unfold sE5 at h5; rw [c4, rL_none] at h5; cases h5
  | some t4 =>
  cases c5 : sE5 l with
  | mk Y st5 =>
  rw [c5] at h5
  simp only at h5
  subst h5
  have k1 : rCount 2147483647 (some l) = (v1, some t1) := c1
  have k2 : rCount 255 (some t1) = (v2, some t2) := by have := c2; unfold sE2 at this; rw [c1] at this; exact this
  have k3 : rStr 256 (some t2) = (v3, some t3) := by have := c3; unfold sE3 at this; rw [c2] at this; exact this
  have k4 : rCount 5 (some t3) = (v4, some t4) := by have := c4; unfold sE4 at this; rw [c3] at this; exact this
  have k5 : rL (nE l) (some t4) = (Y, some []) := by have := c5; unfold sE5 at this; rw [c4] at this; exact this
  obtain ⟨a1, a2, a3, a4⟩ := only_count k1
  obtain ⟨b1, b2, b3, b4⟩ := only_count k2
  obtain ⟨d1, d2, d3⟩ := only_str k3
  obtain ⟨f1, f2, f3, f4⟩ := only_count k4
  obtain ⟨g1, g2⟩ := rL_only _ _ _ _ k5
  have hn : ((Y.length : Nat) : Int) = v4 := by rw [g1]; unfold nE; rw [c4]; simp only; omega
  have hr : rawE l = ⟨v1, v2, v3, Y⟩ := by unfold rawE; rw [c1, c2, c3, c5]
  rw [hr]
  unfold encE
  simp only
  rw [hn, encC_in ⟨a1, a2⟩, encC_in ⟨b1, b2⟩, encC_in ⟨f1, f2⟩]
  rw [List.append_nil] at g2
  simp only [List.append_assoc]
  rw [← g2, ← f4, ← d3, ← b4, ← a4]
theorem encE_len {e : En} (h : okE e = true) : (encE e).length ≤ 1000 := by
  obtain ⟨-, -, hds, hll, -⟩ := okE_kind h
  have a1 := encC_len e.term
  have a2 := encC_len e.kind
  have a3 := encS_len e.data
  have a4 := encC_len ((e.list.length : Nat) : Int)
  have a5 := flat_len e.list
  unfold encE
  simp only [List.length_append]; omega
set_option maxHeartbeats 1000000 in
theorem Back_law (x : Er) (en : En) (s : Sl) (l : List UInt8) (w : World) (h : EIn w x en) (hb : In w s l) (hs : bulkE en ≤ 100000000) (hl : l.length ≤ 100000000) :
    Calls Try.prog 6 #[.agg (erC x).toArray, .slice s.base s.len s.cap] w fun e w' => e = .returned (.bool true) ∧ Ext [] w w' := by
  refine sh_butterylaw14_RlogBack_ok _ _ _ _ _ _ _ ?_
  unfold sh_butterylaw14_RlogBack
  refine VNw.i fun eb w1 heb hk1 e1 => ?_
  have hk1 : Bk w1 eb (erC x) 28 := hk1
  refine VLd.er x (Rd.of_bk hk1 rfl) (VNw.i fun b12 w2 hb12 hk2 e2 => ?_)
  have hk2 : Bk w2 b12 (erC x) 28 := hk2
  have e02 := e1.then0 e2
  have hlong := long_spec ⟨some ⟨b12, 0, none⟩, 1, 1⟩ [en] w2 (one_in hk2 (h.ext0 e02)) (by simp) (by simp; exact hs)
  refine VCall.i hlong ?_
  rintro r w3 ⟨rfl, e3⟩
  refine exW.i1 (t := .bool) _ rfl (VCall.opt (awake_spec w3) fun w4 e4 => exW.i1 (t := .bool) true rfl (VIf.mk (fun hc => ?_) (fun hc => ?_)))
  · refine VCall.i (awake_spec w4) ?_
    rintro r w5 ⟨rfl, e5⟩
    exact exW.i1 (t := .bool) true rfl ⟨rfl, ((e02.then0 e3).then0 e4).then0 e5⟩
  have e04 := (e02.then0 e3).then0 e4
  have hk4 := ((hk1.ext e2).ext e3).ext e4
  refine VLd.er x (Rd.of_bk hk4 rfl) (VCall.i (Write_spec x en w4 (h.ext0 e04)) ?_)
  rintro r w6 ⟨sw, rfl, ow, e6⟩
  have hk6 := hk4.ext e6
  have e06 := e04.then0 e6
  refine exW.i2 (t := .sl) (u := .int .i64) sw _ rfl (VSet.i (VLd.er x (Rd.of_bk hk6 rfl) (VCall.i (Check_spec x en w6 (h.ext0 e06)) ?_)))
  rintro r w7 ⟨rfl, e7⟩
  have hk7 := hk6.ext e7
  have e07 := e06.then0 e7
  have ow7 := ow.ext0 e7
  have hif : ((if okE en then (0 : Int) else 1) == 0) = okE en := by cases okE en <;> rfl
  refine exW.i1 (t := .bool) _ rfl (VIf.f (by rw [hif]; simp) ?_)
  rw [hif]
  refine ⟨fun W => Ext [] w W, ?_, ?_⟩
  · cases hok : okE en with
    | false => exact VIf.f rfl e07
    | true =>
      have hwr : wrE en = encE en := by unfold wrE; rw [if_pos hok]
      rw [hwr] at ow7
      have hle := encE_len hok
      refine VIf.t rfl (VCall.i (Read_spec sw (encE en) w7 ow7.in_ (by omega)) ?_)
      rintro r w8 ⟨xr, rfl, hxr, e8⟩
      rw [dec_enc hok] at hxr
      rw [dec_enc hok]
      refine ⟨xr.t, xr.k, xr.d, xr.s, (0 : Int), rfl, VNw.i fun rb w9 hrb hk9 e9 => VSt.bk hk9 rfl (by simp) fun w10 hk10 e10 => VSet.i ?_⟩
      have hk10 : Bk w10 rb (erC xr) 28 := hk10
      have e810 : Ext [] w8 w10 := e9.then e10 (fun i hi hlt => by simp at hi; omega)
      have e710 := e8.then0 e810
      refine VLd.er xr (Rd.of_bk hk10 rfl) (VLd.er x (Rd.of_bk (hk7.ext e710) rfl) (VCall.opt (Same_spec xr x en en w10 (hxr.ext0 e810).ein (h.ext0 (e07.then0 e710))) fun w11 e11 => exW.i1 (t := .bool) _ rfl (VIf.f (by simp) ((e07.then0 e710).then0 e11))))
  · rintro w12 e12
    refine VCall.i (Read_spec s l w12 (hb.ext0 e12) hl) ?_
    rintro r w13 ⟨xr, rfl, hxr, e13⟩
    refine ⟨xr.t, xr.k, xr.d, xr.s, (decE l).2, rfl, VNw.i fun rb w14 hrb hk14 e14 => VSt.bk hk14 rfl (by simp) fun w15 hk15 e15 => VSet.i ?_⟩
    have hk15 : Bk w15 rb (erC xr) 28 := hk15
    have e1315 : Ext [] w13 w15 := e14.then e15 (fun i hi hlt => by simp at hi; omega)
    have e015 := (e12.then0 e13).then0 e1315
    cases hg : goodE l with
    | false =>
      have hd : decE l = (zEn, 4) := by unfold decE; rw [hg]; rfl
      rw [hd]
      exact VIf.t rfl ⟨rfl, e015⟩
    | true =>
      obtain ⟨hok, hen⟩ := enc_dec hg
      have hd : decE l = (rawE l, 0) := by unfold decE; rw [hg]; rfl
      rw [hd] at hxr ⊢
      refine VIf.f rfl (VLd.er xr (Rd.of_bk hk15 rfl) (VCall.i (Write_spec xr (rawE l) w15 (hxr.ext0 e1315).ein) ?_))
      rintro r w16 ⟨sx, rfl, ox, e16⟩
      refine exW.i2 (t := .sl) (u := .int .i64) sx _ rfl (VSet.i ?_)
      have hwr : wrE (rawE l) = l := by unfold wrE; rw [if_pos hok]; exact hen
      rw [hwr] at ox
      rw [hok]
      refine VStr.i l ox.seg fun s65 h65 => VStr.i l (hb.ext0 (e015.then0 e16)).1 fun s67 h67 => ⟨?_, e015.then0 e16⟩
      rw [strEq, h65, h67]
      simp
end Go.Proofs.Ytkekjbdppabmhaa
