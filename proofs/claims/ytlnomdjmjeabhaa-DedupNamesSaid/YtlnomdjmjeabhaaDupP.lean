/-
  Package dedup: DedupNames (printed by walks/names.py).
-/
import Derived.Test.YtlnomdjmjeabhaaDupM
import Derived.Test.YtlnomdjmjeabhaaCodeI
namespace Go.Proofs.Ytlnomdjmjeabhaa
open Go.RowKit
set_option maxRecDepth 100000

theorem lt_ba : ltB (ByteArray.mk #[98]) (ByteArray.mk #[97]) = false := by unfold ltB; rw [ByteArray.toList_eq, ByteArray.toList_eq]; rfl
theorem put_ba : putP [p0] (ByteArray.mk #[98], ByteArray.mk #[50]) = [p0, (ByteArray.mk #[98], ByteArray.mk #[50])] := by
  unfold putP putL
  have h1 : List.findIdx? (fun y => decide (prK y = prK (ByteArray.mk #[98], ByteArray.mk #[50]))) [p0] = none := by rfl
  have h2 : List.findIdx? (fun y => gtB (prK y) (prK (ByteArray.mk #[98], ByteArray.mk #[50]))) [p0] = none := by simp [List.findIdx?_cons, gtB, prK, p0, lt_ba]
  simp only [h1, h2]; rfl

theorem don0 : doO [p0] ⟨4, ByteArray.mk #[97], ByteArray.mk #[50], ByteArray.mk #[49], true⟩ = ([(ByteArray.mk #[97], ByteArray.mk #[50])], (1, true, eB), 0) := by rfl
theorem Don0_spec (s : Sl) (w : World) (h : InR prR w s [p0]) : Calls Try.prog 16 #[.slice s.base s.len s.cap, .agg #[.int .u8 4, .string (ByteArray.mk #[97]), .string (ByteArray.mk #[50]), .string (ByteArray.mk #[49]), .bool true]] w fun e w' => ∃ s' : Sl,
      e = .returned (.tuple #[.slice s'.base s'.len s'.cap, .agg #[.int .u8 1, .bool true, .string ByteArray.empty], .int .i64 0]) ∧ OwnR prR 36 w w' s' [(ByteArray.mk #[97], ByteArray.mk #[50])] ∧ Ext [] w w' := by
  have := Do_spec s [p0] ⟨4, ByteArray.mk #[97], ByteArray.mk #[50], ByteArray.mk #[49], true⟩ w h (by decide) (by simp)
  rw [don0] at this
  exact this

theorem don1 : doO [p0] ⟨4, ByteArray.mk #[97], ByteArray.mk #[50], ByteArray.empty, false⟩ = ([p0], (1, false, eB), 0) := by rfl
theorem Don1_spec (s : Sl) (w : World) (h : InR prR w s [p0]) : Calls Try.prog 16 #[.slice s.base s.len s.cap, .agg #[.int .u8 4, .string (ByteArray.mk #[97]), .string (ByteArray.mk #[50]), .string ByteArray.empty, .bool false]] w fun e w' => ∃ s' : Sl,
      e = .returned (.tuple #[.slice s'.base s'.len s'.cap, .agg #[.int .u8 1, .bool false, .string ByteArray.empty], .int .i64 0]) ∧ OwnR prR 36 w w' s' [p0] ∧ Ext [] w w' := by
  have := Do_spec s [p0] ⟨4, ByteArray.mk #[97], ByteArray.mk #[50], ByteArray.empty, false⟩ w h (by decide) (by simp)
  rw [don1] at this
  exact this

theorem don2 : doO [p0] ⟨1, ByteArray.mk #[98], ByteArray.empty, ByteArray.empty, false⟩ = ([p0], (1, false, eB), 0) := by rfl
theorem Don2_spec (s : Sl) (w : World) (h : InR prR w s [p0]) : Calls Try.prog 16 #[.slice s.base s.len s.cap, .agg #[.int .u8 1, .string (ByteArray.mk #[98]), .string ByteArray.empty, .string ByteArray.empty, .bool false]] w fun e w' => ∃ s' : Sl,
      e = .returned (.tuple #[.slice s'.base s'.len s'.cap, .agg #[.int .u8 1, .bool false, .string ByteArray.empty], .int .i64 0]) ∧ OwnR prR 36 w w' s' [p0] ∧ Ext [] w w' := by
  have := Do_spec s [p0] ⟨1, ByteArray.mk #[98], ByteArray.empty, ByteArray.empty, false⟩ w h (by decide) (by simp)
  rw [don2] at this
  exact this

theorem don3 : doO [p0] ⟨4, ByteArray.mk #[98], ByteArray.mk #[50], ByteArray.empty, false⟩ = ([p0, (ByteArray.mk #[98], ByteArray.mk #[50])], (1, true, eB), 0) := (doO_ok (by rfl)).trans (by rw [(do4t rfl (by rfl)).1, (do4t rfl (by rfl)).2]; show (putP [p0] (ByteArray.mk #[98], ByteArray.mk #[50]), _, _) = _; rw [put_ba])
theorem Don3_spec (s : Sl) (w : World) (h : InR prR w s [p0]) : Calls Try.prog 16 #[.slice s.base s.len s.cap, .agg #[.int .u8 4, .string (ByteArray.mk #[98]), .string (ByteArray.mk #[50]), .string ByteArray.empty, .bool false]] w fun e w' => ∃ s' : Sl,
      e = .returned (.tuple #[.slice s'.base s'.len s'.cap, .agg #[.int .u8 1, .bool true, .string ByteArray.empty], .int .i64 0]) ∧ OwnR prR 36 w w' s' [p0, (ByteArray.mk #[98], ByteArray.mk #[50])] ∧ Ext [] w w' := by
  have := Do_spec s [p0] ⟨4, ByteArray.mk #[98], ByteArray.mk #[50], ByteArray.empty, false⟩ w h (by decide) (by simp)
  rw [don3] at this
  exact this

theorem don4 : doO [p0] ⟨4, ByteArray.mk #[98], ByteArray.mk #[50], ByteArray.empty, true⟩ = ([p0], (1, false, eB), 0) := by rfl
theorem Don4_spec (s : Sl) (w : World) (h : InR prR w s [p0]) : Calls Try.prog 16 #[.slice s.base s.len s.cap, .agg #[.int .u8 4, .string (ByteArray.mk #[98]), .string (ByteArray.mk #[50]), .string ByteArray.empty, .bool true]] w fun e w' => ∃ s' : Sl,
      e = .returned (.tuple #[.slice s'.base s'.len s'.cap, .agg #[.int .u8 1, .bool false, .string ByteArray.empty], .int .i64 0]) ∧ OwnR prR 36 w w' s' [p0] ∧ Ext [] w w' := by
  have := Do_spec s [p0] ⟨4, ByteArray.mk #[98], ByteArray.mk #[50], ByteArray.empty, true⟩ w h (by decide) (by simp)
  rw [don4] at this
  exact this

theorem stn : stepO [p0] [] 1 1 ⟨1, ByteArray.mk #[97], ByteArray.empty, ByteArray.empty, false⟩ = ([], [], (0, false, eB), 1) := by rfl
theorem Stn_spec (s : Sl) (w : World) (h : InR prR w s [p0]) : Calls Try.prog 24 #[.slice s.base s.len s.cap, .slice none 0 0, .int .i64 1, .int .i64 1, .agg #[.int .u8 1, .string (ByteArray.mk #[97]), .string ByteArray.empty, .string ByteArray.empty, .bool false]] w fun e w' => ∃ a p : Sl,
      e = .returned (.tuple #[.slice a.base a.len a.cap, .slice p.base p.len p.cap, .agg #[.int .u8 0, .bool false, .string ByteArray.empty], .int .i64 1]) ∧ OwnR prR 36 w w' a [] ∧ OwnR lsR 42 w w' p [] ∧ Ext [] w w' := by
  have := Step_spec s ⟨none, 0, 0⟩ [p0] [] 1 1 ⟨1, ByteArray.mk #[97], ByteArray.empty, ByteArray.empty, false⟩ w h (InR.nil _) (by decide) (by simp) (by simp)
  rw [stn] at this
  exact this
theorem chk (k : Int) (key v o : ByteArray) (h : Bool) (c : Int) (w : World) (hk : 0 ≤ k ∧ k ≤ 255) (hc : checkO ⟨k, key, v, o, h⟩ = c) : Calls Try.prog 12 #[.agg #[.int .u8 k, .string key, .string v, .string o, .bool h]] w fun e w' => e = .returned (.int .i64 c) ∧ Ext [] w w' := by
  have := Check_spec ⟨k, key, v, o, h⟩ w hk
  rw [hc] at this
  exact this
theorem plc (key : ByteArray) (n c : Int) (w : World) (hk : key.size ≤ 100) (hc : placeO key n = c) : Calls Try.prog 14 #[.string key, .int .i64 n] w fun e w' => e = .returned (.int .i64 c) ∧ Ext [] w w' := by
  have := Place_spec key n w (by omega)
  rw [hc] at this
  exact this
theorem nul_seg {w : World} {b : Nat} {t : TypeId} {n : Nat} (h : Bk w b (madeCells #[.int .u8 0] (n * 1)).toList t) : Seg w (some ⟨b, 0, none⟩) n 1 (bc (List.replicate n 0)) := by
  rw [made8] at h
  exact Seg.of_bk h (by simp) (by simp [bc])
set_option maxHeartbeats 2000000 in
theorem Names_law (w : World) : Calls Try.prog 8 #[] w fun e w' => e = .returned (.bool true) ∧ Ext [] w w' := by
  refine sh_butterylaw09_DedupNames_ok _ _ ?_
  unfold sh_butterylaw09_DedupNames
  have sz1 : (ByteArray.mk #[120]).size = 1 := rfl
  have sz0 : ByteArray.empty.size = 0 := rfl
  refine VCall.i (works_spec w) ?_
  rintro e w1 ⟨rfl, e1⟩
  have z1 := e1.size
  refine ⟨true, rfl, ?_⟩
  refine VIf.f (rfl) ?_
  refine VNw.i fun b48 w2 hb2 hk2 e2 => ?_
  have hk2 : Bk w2 b48 [.string (ByteArray.mk #[97]), .string (ByteArray.mk #[49])] 36 := hk2
  have z2 := e2.size
  have l2 := hk2.lt
  refine VCall.i (Don0_spec ⟨some ⟨b48, 0, none⟩, 1, 1⟩ w2 ⟨seg1 (x := p0) hk2, Nat.le_refl 1, (by show (1 : Nat) ≤ _; omega)⟩) ?_
  rintro e w3 ⟨q0, rfl, hQ0, e3⟩
  have z3 := e3.size
  refine ⟨q0, (1 : Int), true, ByteArray.empty, (0 : Int), rfl, ?_⟩
  have lq0 := hQ0.len
  refine VNw.i fun r_3 w4 hb4 hk4 e4 => ?_
  have hk4 : Bk w4 r_3 [.int .u8 0, .bool false, .string ByteArray.empty] 31 := hk4
  have z4 := e4.size
  have l4 := hk4.lt
  refine VSt.bk hk4 rfl (by simp) fun w5 hk5 e5 => ?_
  have hk5 : Bk w5 r_3 [.int .u8 (1 : Int), .bool true, .string ByteArray.empty] 31 := hk5
  have z5 := e5.size
  refine VSet.i ?_
  have e2_4 := e3.then0 e4
  have e2_5 := e2_4.then e5 (fun i hi hlt => by simp at hi; omega)
  have hb48_5 := hk2.ext e2_5
  refine VCall.i (Don1_spec ⟨some ⟨b48, 0, none⟩, 1, 1⟩ w5 ⟨seg1 (x := p0) hb48_5, Nat.le_refl 1, (by show (1 : Nat) ≤ _; omega)⟩) ?_
  rintro e w6 ⟨q1, rfl, hQ1, e6⟩
  have z6 := e6.size
  refine ⟨q1, (1 : Int), false, ByteArray.empty, (0 : Int), rfl, ?_⟩
  have lq1 := hQ1.len
  refine VNw.i fun s_6 w7 hb7 hk7 e7 => ?_
  have hk7 : Bk w7 s_6 [.int .u8 0, .bool false, .string ByteArray.empty] 31 := hk7
  have z7 := e7.size
  have l7 := hk7.lt
  refine VSt.bk hk7 rfl (by simp) fun w8 hk8 e8 => ?_
  have hk8 : Bk w8 s_6 [.int .u8 (1 : Int), .bool false, .string ByteArray.empty] 31 := hk8
  have z8 := e8.size
  refine VSet.i ?_
  have e5_7 := e6.then0 e7
  have e5_8 := e5_7.then e8 (fun i hi hlt => by simp at hi; omega)
  have hb48_8 := hb48_5.ext e5_8
  refine VCall.i (Don2_spec ⟨some ⟨b48, 0, none⟩, 1, 1⟩ w8 ⟨seg1 (x := p0) hb48_8, Nat.le_refl 1, (by show (1 : Nat) ≤ _; omega)⟩) ?_
  rintro e w9 ⟨q2, rfl, hQ2, e9⟩
  have z9 := e9.size
  refine ⟨q2, (1 : Int), false, ByteArray.empty, (0 : Int), rfl, ?_⟩
  have lq2 := hQ2.len
  refine VNw.i fun t_9 w10 hb10 hk10 e10 => ?_
  have hk10 : Bk w10 t_9 [.int .u8 0, .bool false, .string ByteArray.empty] 31 := hk10
  have z10 := e10.size
  have l10 := hk10.lt
  refine VSt.bk hk10 rfl (by simp) fun w11 hk11 e11 => ?_
  have hk11 : Bk w11 t_9 [.int .u8 (1 : Int), .bool false, .string ByteArray.empty] 31 := hk11
  have z11 := e11.size
  refine VSet.i ?_
  have e8_10 := e9.then0 e10
  have e8_11 := e8_10.then e11 (fun i hi hlt => by simp at hi; omega)
  have hb48_11 := hb48_8.ext e8_11
  refine VCall.i (Don3_spec ⟨some ⟨b48, 0, none⟩, 1, 1⟩ w11 ⟨seg1 (x := p0) hb48_11, Nat.le_refl 1, (by show (1 : Nat) ≤ _; omega)⟩) ?_
  rintro e w12 ⟨q3, rfl, hQ3, e12⟩
  have z12 := e12.size
  refine ⟨q3, (1 : Int), true, ByteArray.empty, (0 : Int), rfl, ?_⟩
  have lq3 := hQ3.len
  refine VNw.i fun u_12 w13 hb13 hk13 e13 => ?_
  have hk13 : Bk w13 u_12 [.int .u8 0, .bool false, .string ByteArray.empty] 31 := hk13
  have z13 := e13.size
  have l13 := hk13.lt
  refine VSt.bk hk13 rfl (by simp) fun w14 hk14 e14 => ?_
  have hk14 : Bk w14 u_12 [.int .u8 (1 : Int), .bool true, .string ByteArray.empty] 31 := hk14
  have z14 := e14.size
  refine VSet.i ?_
  have e11_13 := e12.then0 e13
  have e11_14 := e11_13.then e14 (fun i hi hlt => by simp at hi; omega)
  have hb48_14 := hb48_11.ext e11_14
  refine VCall.i (Don4_spec ⟨some ⟨b48, 0, none⟩, 1, 1⟩ w14 ⟨seg1 (x := p0) hb48_14, Nat.le_refl 1, (by show (1 : Nat) ≤ _; omega)⟩) ?_
  rintro e w15 ⟨q4, rfl, hQ4, e15⟩
  have z15 := e15.size
  refine ⟨q4, (1 : Int), false, ByteArray.empty, (0 : Int), rfl, ?_⟩
  have lq4 := hQ4.len
  refine VNw.i fun v_15 w16 hb16 hk16 e16 => ?_
  have hk16 : Bk w16 v_15 [.int .u8 0, .bool false, .string ByteArray.empty] 31 := hk16
  have z16 := e16.size
  have l16 := hk16.lt
  refine VSt.bk hk16 rfl (by simp) fun w17 hk17 e17 => ?_
  have hk17 : Bk w17 v_15 [.int .u8 (1 : Int), .bool false, .string ByteArray.empty] 31 := hk17
  have z17 := e17.size
  refine VSet.i ?_
  have e14_16 := e15.then0 e16
  have e14_17 := e14_16.then e17 (fun i hi hlt => by simp at hi; omega)
  have hb48_17 := hb48_14.ext e14_17
  refine VCall.i (Stn_spec ⟨some ⟨b48, 0, none⟩, 1, 1⟩ w17 ⟨seg1 (x := p0) hb48_17, Nat.le_refl 1, (by show (1 : Nat) ≤ _; omega)⟩) ?_
  rintro e w18 ⟨sa, sp, rfl, hSa, hSp, e18⟩
  have z18 := e18.size
  refine ⟨sa, sp, (0 : Int), false, ByteArray.empty, (1 : Int), rfl, ?_⟩
  refine VNw.i fun b19 w19 hb19 hk19 e19 => ?_
  have hk19 : Bk w19 b19 [.int .u8 0, .bool false, .string ByteArray.empty] 31 := hk19
  have z19 := e19.size
  have l19 := hk19.lt
  refine VSt.bk hk19 rfl (by simp) fun w20 hk20 e20 => ?_
  have hk20 : Bk w20 b19 [.int .u8 (0 : Int), .bool false, .string ByteArray.empty] 31 := hk20
  have z20 := e20.size
  refine VSet.i ?_
  refine VMk.i (by omega) (by omega) (by omega) (by omega) fun b92 w21 hb21 hk21 e21 => ?_
  have z21 := e21.size
  refine VStr.i (List.replicate 32 0) (nul_seg (n := 32) hk21) fun s93 hs93 => ?_
  have zs93 : s93.size = 32 := by have hq : s93.data.toList.length = s93.size := Array.length_toList; rw [hs93, List.length_replicate] at hq; omega
  refine VMk.i (by omega) (by omega) (by omega) (by omega) fun b94 w22 hb22 hk22 e22 => ?_
  have z22 := e22.size
  refine VStr.i (List.replicate 2000 0) (nul_seg (n := 2000) hk22) fun s95 hs95 => ?_
  have zs95 : s95.size = 2000 := by have hq : s95.data.toList.length = s95.size := Array.length_toList; rw [hs95, List.length_replicate] at hq; omega
  have e3_5 := e4.then e5 (fun i hi hlt => by simp at hi; omega)
  have e3_6 := e3_5.then0 e6
  have e3_7 := e3_6.then0 e7
  have e3_8 := e3_7.then e8 (fun i hi hlt => by simp at hi; omega)
  have e3_9 := e3_8.then0 e9
  have e3_10 := e3_9.then0 e10
  have e3_11 := e3_10.then e11 (fun i hi hlt => by simp at hi; omega)
  have e3_12 := e3_11.then0 e12
  have e3_13 := e3_12.then0 e13
  have e3_14 := e3_13.then e14 (fun i hi hlt => by simp at hi; omega)
  have e3_15 := e3_14.then0 e15
  have e3_16 := e3_15.then0 e16
  have e3_17 := e3_16.then e17 (fun i hi hlt => by simp at hi; omega)
  have e3_18 := e3_17.then0 e18
  have e3_19 := e3_18.then0 e19
  have e3_20 := e3_19.then e20 (fun i hi hlt => by simp at hi; omega)
  have e3_21 := e3_20.then0 e21
  have e3_22 := e3_21.then0 e22
  have hQ0_22 := hQ0.ext0 e3_22
  refine VIx.rd2 (r := prR) (j := 0) hQ0_22.seg (by decide) rfl fun a101 hra101 => ?_
  refine VLd.i1 (t := .str) (ByteArray.mk #[50]) (by have := hra101.fld 1 (v := .string (ByteArray.mk #[50])) rfl; rw [Nat.zero_mul, add_zero] at this; exact this) ?_
  have e5_9 := e5_8.then0 e9
  have e5_10 := e5_9.then0 e10
  have e5_11 := e5_10.then e11 (fun i hi hlt => by simp at hi; omega)
  have e5_12 := e5_11.then0 e12
  have e5_13 := e5_12.then0 e13
  have e5_14 := e5_13.then e14 (fun i hi hlt => by simp at hi; omega)
  have e5_15 := e5_14.then0 e15
  have e5_16 := e5_15.then0 e16
  have e5_17 := e5_16.then e17 (fun i hi hlt => by simp at hi; omega)
  have e5_18 := e5_17.then0 e18
  have e5_19 := e5_18.then0 e19
  have e5_20 := e5_19.then e20 (fun i hi hlt => by simp at hi; omega)
  have e5_21 := e5_20.then0 e21
  have e5_22 := e5_21.then0 e22
  have hr_3_22 := hk5.ext e5_22
  refine VLd.i1 (t := CT.bool) true (Rd.of_bk hr_3_22 rfl) ?_
  have e6_8 := e7.then e8 (fun i hi hlt => by simp at hi; omega)
  have e6_9 := e6_8.then0 e9
  have e6_10 := e6_9.then0 e10
  have e6_11 := e6_10.then e11 (fun i hi hlt => by simp at hi; omega)
  have e6_12 := e6_11.then0 e12
  have e6_13 := e6_12.then0 e13
  have e6_14 := e6_13.then e14 (fun i hi hlt => by simp at hi; omega)
  have e6_15 := e6_14.then0 e15
  have e6_16 := e6_15.then0 e16
  have e6_17 := e6_16.then e17 (fun i hi hlt => by simp at hi; omega)
  have e6_18 := e6_17.then0 e18
  have e6_19 := e6_18.then0 e19
  have e6_20 := e6_19.then e20 (fun i hi hlt => by simp at hi; omega)
  have e6_21 := e6_20.then0 e21
  have e6_22 := e6_21.then0 e22
  have hQ1_22 := hQ1.ext0 e6_22
  refine VIx.rd2 (r := prR) (j := 0) hQ1_22.seg (by decide) rfl fun a112 hra112 => ?_
  refine VLd.i1 (t := .str) (ByteArray.mk #[49]) (by have := hra112.fld 1 (v := .string (ByteArray.mk #[49])) rfl; rw [Nat.zero_mul, add_zero] at this; exact this) ?_
  have e8_12 := e8_11.then0 e12
  have e8_13 := e8_12.then0 e13
  have e8_14 := e8_13.then e14 (fun i hi hlt => by simp at hi; omega)
  have e8_15 := e8_14.then0 e15
  have e8_16 := e8_15.then0 e16
  have e8_17 := e8_16.then e17 (fun i hi hlt => by simp at hi; omega)
  have e8_18 := e8_17.then0 e18
  have e8_19 := e8_18.then0 e19
  have e8_20 := e8_19.then e20 (fun i hi hlt => by simp at hi; omega)
  have e8_21 := e8_20.then0 e21
  have e8_22 := e8_21.then0 e22
  have hs_6_22 := hk8.ext e8_22
  refine VLd.i1 (t := CT.bool) false (Rd.of_bk hs_6_22 rfl) ?_
  have e11_15 := e11_14.then0 e15
  have e11_16 := e11_15.then0 e16
  have e11_17 := e11_16.then e17 (fun i hi hlt => by simp at hi; omega)
  have e11_18 := e11_17.then0 e18
  have e11_19 := e11_18.then0 e19
  have e11_20 := e11_19.then e20 (fun i hi hlt => by simp at hi; omega)
  have e11_21 := e11_20.then0 e21
  have e11_22 := e11_21.then0 e22
  have ht_9_22 := hk11.ext e11_22
  refine ⟨(1 : Int), false, ByteArray.empty, gd.i (Rd.of_bk ht_9_22 rfl), ?_⟩
  have e14_18 := e14_17.then0 e18
  have e14_19 := e14_18.then0 e19
  have e14_20 := e14_19.then e20 (fun i hi hlt => by simp at hi; omega)
  have e14_21 := e14_20.then0 e21
  have e14_22 := e14_21.then0 e22
  have hu_12_22 := hk14.ext e14_22
  refine VLd.i1 (t := CT.bool) true (Rd.of_bk hu_12_22 rfl) ?_
  have e17_19 := e18.then0 e19
  have e17_20 := e17_19.then e20 (fun i hi hlt => by simp at hi; omega)
  have e17_21 := e17_20.then0 e21
  have e17_22 := e17_21.then0 e22
  have hv_15_22 := hk17.ext e17_22
  refine VLd.i1 (t := CT.bool) false (Rd.of_bk hv_15_22 rfl) ?_
  refine VCall.opt (chk 2 ByteArray.empty ByteArray.empty ByteArray.empty false (40) w22 (by decide) (by rfl)) fun w23 e23 => ?_
  have z23 := e23.size
  refine ⟨(40 : Int), rfl, ?_⟩
  refine VCall.opt (chk 2 s93 s95 s95 false (0) w23 (by decide) (by unfold checkO; simp only [ByteArray.size_append, zs93, zs95, sz1, sz0]; decide)) fun w24 e24 => ?_
  have z24 := e24.size
  refine ⟨(0 : Int), rfl, ?_⟩
  refine VCk.i (by simp only [zs93, zs95, sz1]; decide) ?_
  refine VCall.opt (chk 2 (s93 ++ (ByteArray.mk #[120])) ByteArray.empty ByteArray.empty false (40) w24 (by decide) (by unfold checkO; simp only [ByteArray.size_append, zs93, zs95, sz1, sz0]; decide)) fun w25 e25 => ?_
  have z25 := e25.size
  refine ⟨(40 : Int), rfl, ?_⟩
  refine VCk.i (by simp only [zs93, zs95, sz1]; decide) ?_
  refine VCall.opt (chk 2 (ByteArray.mk #[97]) (s95 ++ (ByteArray.mk #[120])) ByteArray.empty false (40) w25 (by decide) (by unfold checkO; simp only [ByteArray.size_append, zs93, zs95, sz1, sz0]; decide)) fun w26 e26 => ?_
  have z26 := e26.size
  refine ⟨(40 : Int), rfl, ?_⟩
  refine VCk.i (by simp only [zs93, zs95, sz1]; decide) ?_
  refine VCall.opt (chk 2 (ByteArray.mk #[97]) ByteArray.empty (s95 ++ (ByteArray.mk #[120])) false (40) w26 (by decide) (by unfold checkO; simp only [ByteArray.size_append, zs93, zs95, sz1, sz0]; decide)) fun w27 e27 => ?_
  have z27 := e27.size
  refine ⟨(40 : Int), rfl, ?_⟩
  refine VCall.opt (chk 0 (ByteArray.mk #[97]) ByteArray.empty ByteArray.empty false (1) w27 (by decide) (by rfl)) fun w28 e28 => ?_
  have z28 := e28.size
  refine ⟨(1 : Int), rfl, ?_⟩
  refine VCall.opt (chk 5 (ByteArray.mk #[97]) ByteArray.empty ByteArray.empty false (1) w28 (by decide) (by rfl)) fun w29 e29 => ?_
  have z29 := e29.size
  refine ⟨(1 : Int), rfl, ?_⟩
  refine VCall.opt (plc (ByteArray.mk #[97, 98]) 4 3 w29 (by decide) (by rfl)) fun w30 e30 => ?_
  have z30 := e30.size
  refine ⟨(3 : Int), rfl, ?_⟩
  refine VCall.opt (plc (ByteArray.mk #[97, 98]) 0 0 w30 (by decide) (by rfl)) fun w31 e31 => ?_
  have z31 := e31.size
  refine ⟨(0 : Int), rfl, ?_⟩
  refine VCall.opt (plc (ByteArray.mk #[]) 3 0 w31 (by decide) (by rfl)) fun w32 e32 => ?_
  have z32 := e32.size
  refine ⟨(0 : Int), rfl, ?_⟩
  have e0_2 := e1.then0 e2
  have e0_3 := e0_2.then0 e3
  have e0_4 := e0_3.then0 e4
  have e0_5 := e0_4.then e5 (fun i hi hlt => by simp at hi; omega)
  have e0_6 := e0_5.then0 e6
  have e0_7 := e0_6.then0 e7
  have e0_8 := e0_7.then e8 (fun i hi hlt => by simp at hi; omega)
  have e0_9 := e0_8.then0 e9
  have e0_10 := e0_9.then0 e10
  have e0_11 := e0_10.then e11 (fun i hi hlt => by simp at hi; omega)
  have e0_12 := e0_11.then0 e12
  have e0_13 := e0_12.then0 e13
  have e0_14 := e0_13.then e14 (fun i hi hlt => by simp at hi; omega)
  have e0_15 := e0_14.then0 e15
  have e0_16 := e0_15.then0 e16
  have e0_17 := e0_16.then e17 (fun i hi hlt => by simp at hi; omega)
  have e0_18 := e0_17.then0 e18
  have e0_19 := e0_18.then0 e19
  have e0_20 := e0_19.then e20 (fun i hi hlt => by simp at hi; omega)
  have e0_21 := e0_20.then0 e21
  have e0_22 := e0_21.then0 e22
  have e0_23 := e0_22.then0 e23
  have e0_24 := e0_23.then0 e24
  have e0_25 := e0_24.then0 e25
  have e0_26 := e0_25.then0 e26
  have e0_27 := e0_26.then0 e27
  have e0_28 := e0_27.then0 e28
  have e0_29 := e0_28.then0 e29
  have e0_30 := e0_29.then0 e30
  have e0_31 := e0_30.then0 e31
  have e0_32 := e0_31.then0 e32
  refine ⟨?_, e0_32⟩
  simp [lq0]
end Go.Proofs.Ytlnomdjmjeabhaa
