/-
  Package dedup: the examples (printed by walks/works.py).
-/
import Derived.Test.YtlnomdjmjeabhaaDupK
namespace Go.Proofs.Ytlnomdjmjeabhaa
open Go.RowKit
set_option maxRecDepth 100000

def o0 : Wo := ⟨2, ByteArray.mk #[97], ByteArray.mk #[49], ByteArray.empty, false⟩
def oD : Wo := ⟨3, ByteArray.mk #[97], ByteArray.empty, ByteArray.empty, false⟩
def p0 : Pr := (ByteArray.mk #[97], ByteArray.mk #[49])
def l0 : Ls := (201, 5, 1, false, ByteArray.empty)
theorem do0 : doO [] o0 = ([p0], (1, false, eB), 0) := by rfl
theorem Do0_spec (w : World) : Calls Try.prog 16 #[.slice none 0 0, .agg #[.int .u8 2, .string (ByteArray.mk #[97]), .string (ByteArray.mk #[49]), .string ByteArray.empty, .bool false]] w fun e w' => ∃ s' : Sl,
      e = .returned (.tuple #[.slice s'.base s'.len s'.cap, .agg #[.int .u8 1, .bool false, .string ByteArray.empty], .int .i64 0]) ∧ OwnR prR 36 w w' s' [p0] ∧ Ext [] w w' := by
  have := Do_spec ⟨none, 0, 0⟩ [] o0 w (InR.nil _) (by decide) (by simp)
  rw [do0] at this
  exact this

theorem step5 : stepO [p0] [l0] 201 5 oD = ([p0], [l0], (1, false, eB), 0) := by rfl
theorem Step5_spec (s q : Sl) (w : World) (h : InR prR w s [p0]) (hq : InR lsR w q [l0]) : Calls Try.prog 24 #[.slice s.base s.len s.cap, .slice q.base q.len q.cap, .int .i64 201, .int .i64 5, .agg #[.int .u8 3, .string (ByteArray.mk #[97]), .string ByteArray.empty, .string ByteArray.empty, .bool false]] w fun e w' => ∃ a p : Sl,
      e = .returned (.tuple #[.slice a.base a.len a.cap, .slice p.base p.len p.cap, .agg #[.int .u8 1, .bool false, .string ByteArray.empty], .int .i64 0]) ∧ OwnR prR 36 w w' a [p0] ∧ OwnR lsR 42 w w' p [l0] ∧ Ext [] w w' := by
  have := Step_spec s q [p0] [l0] 201 5 oD w h hq (by decide) (by decide) (by decide)
  rw [step5] at this
  exact this

theorem step6 : stepO [p0] [l0] 201 6 oD = ([], [(201, 6, 1, true, eB)], (1, true, eB), 0) := by rfl
theorem Step6_spec (s q : Sl) (w : World) (h : InR prR w s [p0]) (hq : InR lsR w q [l0]) : Calls Try.prog 24 #[.slice s.base s.len s.cap, .slice q.base q.len q.cap, .int .i64 201, .int .i64 6, .agg #[.int .u8 3, .string (ByteArray.mk #[97]), .string ByteArray.empty, .string ByteArray.empty, .bool false]] w fun e w' => ∃ a p : Sl,
      e = .returned (.tuple #[.slice a.base a.len a.cap, .slice p.base p.len p.cap, .agg #[.int .u8 1, .bool true, .string ByteArray.empty], .int .i64 0]) ∧ OwnR prR 36 w w' a [] ∧ OwnR lsR 42 w w' p [(201, 6, 1, true, eB)] ∧ Ext [] w w' := by
  have := Step_spec s q [p0] [l0] 201 6 oD w h hq (by decide) (by decide) (by decide)
  rw [step6] at this
  exact this

theorem step4 : stepO [p0] [l0] 201 4 oD = ([], [], (0, false, eB), 6) := by rfl
theorem Step4_spec (s q : Sl) (w : World) (h : InR prR w s [p0]) (hq : InR lsR w q [l0]) : Calls Try.prog 24 #[.slice s.base s.len s.cap, .slice q.base q.len q.cap, .int .i64 201, .int .i64 4, .agg #[.int .u8 3, .string (ByteArray.mk #[97]), .string ByteArray.empty, .string ByteArray.empty, .bool false]] w fun e w' => ∃ a p : Sl,
      e = .returned (.tuple #[.slice a.base a.len a.cap, .slice p.base p.len p.cap, .agg #[.int .u8 0, .bool false, .string ByteArray.empty], .int .i64 6]) ∧ OwnR prR 36 w w' a [] ∧ OwnR lsR 42 w w' p [] ∧ Ext [] w w' := by
  have := Step_spec s q [p0] [l0] 201 4 oD w h hq (by decide) (by decide) (by decide)
  rw [step4] at this
  exact this

set_option maxHeartbeats 1000000 in
theorem works_spec (w : World) : Calls Try.prog 26 #[] w fun e w' => e = .returned (.bool true) ∧ Ext [] w w' := by
  refine sh_butterylaw09_works_ok _ _ ?_
  unfold sh_butterylaw09_works
  refine VCall.i (Do0_spec w) ?_
  rintro e w1 ⟨ra, rfl, hA, e1⟩
  have z1 := e1.size
  refine ⟨ra, (1 : Int), false, ByteArray.empty, (0 : Int), rfl, ?_⟩
  have hA0 : ra.len = 1 := hA.len
  refine VNw.i fun r_2 w2 hb2 hk2 e2 => ?_
  have hk2 : Bk w2 r_2 [.int .u8 0, .bool false, .string ByteArray.empty] 31 := hk2
  have z2 := e2.size
  have l2 := hk2.lt
  refine VSt.bk hk2 rfl (by simp) fun w3 hk3 e3 => ?_
  have hk3 : Bk w3 r_2 [.int .u8 (1 : Int), .bool false, .string ByteArray.empty] 31 := hk3
  have z3 := e3.size
  refine VSet.i ?_
  refine ⟨(1 : Int), false, ByteArray.empty, gd.i (Rd.of_bk hk3 rfl), ?_⟩
  have e1_3 := e2.then e3 (fun i hi hlt => by simp at hi; omega)
  have hA_3 := hA.ext0 e1_3
  refine VIx.rd2 (r := prR) (j := 0) hA_3.seg (by decide) rfl fun a36 hr36 => ?_
  refine ⟨ByteArray.mk #[97], ByteArray.mk #[49], gd.i (by have := hr36; rw [Nat.zero_mul, add_zero] at this; exact this), ?_⟩
  refine VIf.f (by simp [hA0]) ?_
  refine VNw.i fun b43 w4 hb4 hk4 e4 => ?_
  have hk4 : Bk w4 b43 [.int .i64 201, .int .i64 5, .int .u8 1, .bool false, .string ByteArray.empty] 42 := hk4
  have z4 := e4.size
  have l4 := hk4.lt
  refine VNw.i fun del_5 w5 hb5 hk5 e5 => ?_
  have hk5 : Bk w5 del_5 [.int .u8 0, .string ByteArray.empty, .string ByteArray.empty, .string ByteArray.empty, .bool false] 24 := hk5
  have z5 := e5.size
  have l5 := hk5.lt
  refine VSt.bk hk5 rfl (by simp) fun w6 hk6 e6 => ?_
  have hk6 : Bk w6 del_5 [.int .u8 3, .string (ByteArray.mk #[97]), .string ByteArray.empty, .string ByteArray.empty, .bool false] 24 := hk6
  have z6 := e6.size
  refine ⟨3, (ByteArray.mk #[97]), ByteArray.empty, ByteArray.empty, false, gd.i (Rd.of_bk hk6 rfl), ?_⟩
  have e4_6 := e5.then e6 (fun i hi hlt => by simp at hi; omega)
  have hb43_6 := hk4.ext e4_6
  have e3_5 := e4.then0 e5
  have e3_6 := e3_5.then e6 (fun i hi hlt => by simp at hi; omega)
  have hA_6 := hA_3.ext0 e3_6
  refine VCall.i (Step5_spec ra ⟨some ⟨b43, 0, none⟩, 1, 1⟩ w6 hA_6.in_ ⟨seg1 (x := l0) hb43_6, Nat.le_refl 1, (by show (1 : Nat) ≤ _; omega)⟩) ?_
  rintro e w7 ⟨a5, p5, rfl, hA5, hP5, e7⟩
  have z7 := e7.size
  refine ⟨a5, p5, (1 : Int), false, ByteArray.empty, (0 : Int), rfl, ?_⟩
  have la5 := hA5.len
  have lp5 := hP5.len
  have e3_7 := e3_6.then0 e7
  have hr_2_7 := hk3.ext e3_7
  refine VSt.bk hr_2_7 rfl (by simp) fun w8 hk8 e8 => ?_
  have hk8 : Bk w8 r_2 [.int .u8 (1 : Int), .bool false, .string ByteArray.empty] 31 := hk8
  have z8 := e8.size
  refine VSet.i ?_
  have e6_8 := e7.trans e8
  have hdel_5_8 := hk6.ext e6_8
  refine ⟨3, (ByteArray.mk #[97]), ByteArray.empty, ByteArray.empty, false, gd.i (Rd.of_bk hdel_5_8 rfl), ?_⟩
  have hb43_8 := hb43_6.ext e6_8
  have hA_8 := OwnR.ext (hA_6.ext0 e7) e8 (notin1 (OwnR.notin (hA_6.ext0 e7) hr_2_7 (by decide)))
  refine VCall.i (Step6_spec ra ⟨some ⟨b43, 0, none⟩, 1, 1⟩ w8 hA_8.in_ ⟨seg1 (x := l0) hb43_8, Nat.le_refl 1, (by show (1 : Nat) ≤ _; omega)⟩) ?_
  rintro e w9 ⟨a6, p6, rfl, hA6, hP6, e9⟩
  have z9 := e9.size
  refine ⟨a6, p6, (1 : Int), true, ByteArray.empty, (0 : Int), rfl, ?_⟩
  have la6 := hA6.len
  have lp6 := hP6.len
  refine VNw.i fun s_10 w10 hb10 hk10 e10 => ?_
  have hk10 : Bk w10 s_10 [.int .u8 0, .bool false, .string ByteArray.empty] 31 := hk10
  have z10 := e10.size
  have l10 := hk10.lt
  refine VSt.bk hk10 rfl (by simp) fun w11 hk11 e11 => ?_
  have hk11 : Bk w11 s_10 [.int .u8 (1 : Int), .bool true, .string ByteArray.empty] 31 := hk11
  have z11 := e11.size
  refine VSet.i ?_
  have e8_10 := e9.then0 e10
  have e8_11 := e8_10.then e11 (fun i hi hlt => by simp at hi; omega)
  have hdel_5_11 := hdel_5_8.ext e8_11
  refine ⟨3, (ByteArray.mk #[97]), ByteArray.empty, ByteArray.empty, false, gd.i (Rd.of_bk hdel_5_11 rfl), ?_⟩
  have hb43_11 := hb43_8.ext e8_11
  have hA_11 := hA_8.ext0 e8_11
  refine VCall.i (Step4_spec ra ⟨some ⟨b43, 0, none⟩, 1, 1⟩ w11 hA_11.in_ ⟨seg1 (x := l0) hb43_11, Nat.le_refl 1, (by show (1 : Nat) ≤ _; omega)⟩) ?_
  rintro e w12 ⟨a4, p4, rfl, hA4, hP4, e12⟩
  have z12 := e12.size
  refine ⟨a4, p4, (0 : Int), false, ByteArray.empty, (6 : Int), rfl, ?_⟩
  have la4 := hA4.len
  have lp4 := hP4.len
  refine VNw.i fun b14 w13 hb13 hk13 e13 => ?_
  have hk13 : Bk w13 b14 [.int .u8 0, .bool false, .string ByteArray.empty] 31 := hk13
  have z13 := e13.size
  have l13 := hk13.lt
  refine VSt.bk hk13 rfl (by simp) fun w14 hk14 e14 => ?_
  have hk14 : Bk w14 b14 [.int .u8 (0 : Int), .bool false, .string ByteArray.empty] 31 := hk14
  have z14 := e14.size
  refine VSet.i ?_
  intro w15 hw15
  have e15 := Ext.drew' hw15
  have z15 := e15.size
  have e8_12 := e8_11.then0 e12
  have e8_13 := e8_12.then0 e13
  have e8_14 := e8_13.then e14 (fun i hi hlt => by simp at hi; omega)
  have e8_15 := e8_14.then0 e15
  have hr_2_15 := hk8.ext e8_15
  refine ⟨(1 : Int), false, ByteArray.empty, gd.i (Rd.of_bk hr_2_15 rfl), ?_⟩
  have e11_13 := e12.then0 e13
  have e11_14 := e11_13.then e14 (fun i hi hlt => by simp at hi; omega)
  have e11_15 := e11_14.then0 e15
  have hb43_15 := hb43_11.ext e11_15
  refine VIx.i (by decide) (by decide) ?_
  simp only [add_blk, Nat.zero_add, Nat.zero_mul, Int.toNat_zero]
  refine ⟨(1 : Int), false, ByteArray.empty, gd.i (Rd.of_bk hb43_15 rfl), ?_⟩
  have hs_10_15 := hk11.ext e11_15
  refine VLd.i1 (t := CT.bool) true (Rd.of_bk hs_10_15 rfl) ?_
  have e9_11 := e10.then e11 (fun i hi hlt => by simp at hi; omega)
  have e9_12 := e9_11.then0 e12
  have e9_13 := e9_12.then0 e13
  have e9_14 := e9_13.then e14 (fun i hi hlt => by simp at hi; omega)
  have e9_15 := e9_14.then0 e15
  have hP6_15 := hP6.ext0 e9_15
  refine VIx.rd2 (r := lsR) (j := 0) hP6_15.seg (by decide) rfl fun a112 hr112 => ?_
  refine VLd.i1 (t := .int .i64) 6 (by have := hr112.fld 1 (v := .int .i64 6) rfl; rw [Nat.zero_mul, add_zero] at this; exact this) ?_
  have e0_2 := e1.then0 e2
  have e0_3 := e0_2.then e3 (fun i hi hlt => by simp at hi; omega)
  have e0_4 := e0_3.then0 e4
  have e0_5 := e0_4.then0 e5
  have e0_6 := e0_5.then e6 (fun i hi hlt => by simp at hi; omega)
  have e0_7 := e0_6.then0 e7
  have e0_8 := e0_7.then e8 (fun i hi hlt => by simp at hi; omega)
  have e0_9 := e0_8.then0 e9
  have e0_10 := e0_9.then0 e10
  have e0_11 := e0_10.then e11 (fun i hi hlt => by simp at hi; omega)
  have e0_12 := e0_11.then0 e12
  have e0_13 := e0_12.then0 e13
  have e0_14 := e0_13.then e14 (fun i hi hlt => by simp at hi; omega)
  have e0_15 := e0_14.then0 e15
  refine ⟨?_, e0_15⟩
  simp [la5, lp5, la6, lp6]
end Go.Proofs.Ytlnomdjmjeabhaa
