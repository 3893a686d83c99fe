/-
  Package msg: MsgReads: any bytes are read as the message that the document says, or refused.
-/
import Derived.Test.YtodcdfelbphajaaMsgT
import Derived.Test.YtodcdfelbphajaaMsgD
import Derived.Test.YtodcdfelbphajaaMsgG
namespace Go.Proofs.Ytodcdfelbphajaa
open Go.RowKit
set_option maxRecDepth 100000

theorem exW.mvc {e : Ending} {w : World} {K : ArrW [CT.int .u8, CT.int .i64, CT.int .i64, CT.int .i64, CT.int .i64, CT.int .i64, CT.int .i64, CT.int .u8, CT.str, CT.str, CT.str, CT.bool, CT.int .i64, CT.int .u8, CT.bool, CT.str, CT.int .i64, CT.int .i64, CT.int .i64, CT.int .i64, CT.int .i64, CT.bool, CT.sl, CT.sl, CT.str, CT.int .i64, CT.bool, CT.sl, CT.sl, CT.int .u8, CT.int .i64, CT.int .i64, CT.int .i64, CT.int .i64]} (m : MV) (n : Int) (he : e = .returned (.tuple #[mva m, .int .i64 n])) (k : K (m.c.f0) (m.c.f1) (m.c.f2) (m.c.f3) (m.c.f4) (m.c.f5) (m.c.f6) (m.c.f7) (m.c.f8) (m.c.f9) (m.c.f10) (m.c.f11) (m.c.f12) (m.c.f13) (m.c.f14) (m.c.f15) (m.c.f16) (m.c.f17) (m.c.f18) (m.c.f19) (m.c.f20) (m.c.f21) (m.e) (m.l) (m.c.f24) (m.c.f25) (m.c.f26) (m.p) (m.q) (m.c.f29) (m.c.f30) (m.c.f31) (m.c.f32) n w) : exW (flatCT (.tuple #[.agg #[.int .u8 0, .int .i64 0, .int .i64 0, .int .i64 0, .int .i64 0, .int .i64 0, .int .i64 0, .int .u8 0, .string ByteArray.empty, .string ByteArray.empty, .string ByteArray.empty, .bool false, .int .i64 0, .int .u8 0, .bool false, .string ByteArray.empty, .int .i64 0, .int .i64 0, .int .i64 0, .int .i64 0, .int .i64 0, .bool false, .slice none 0 0, .slice none 0 0, .string ByteArray.empty, .int .i64 0, .bool false, .slice none 0 0, .slice none 0 0, .int .u8 0, .int .i64 0, .int .i64 0, .int .i64 0], .int .i64 0])) (fun vs => e = .returned (rebuild (.tuple #[.agg #[.int .u8 0, .int .i64 0, .int .i64 0, .int .i64 0, .int .i64 0, .int .i64 0, .int .i64 0, .int .u8 0, .string ByteArray.empty, .string ByteArray.empty, .string ByteArray.empty, .bool false, .int .i64 0, .int .u8 0, .bool false, .string ByteArray.empty, .int .i64 0, .int .i64 0, .int .i64 0, .int .i64 0, .int .i64 0, .bool false, .slice none 0 0, .slice none 0 0, .string ByteArray.empty, .int .i64 0, .bool false, .slice none 0 0, .slice none 0 0, .int .u8 0, .int .i64 0, .int .i64 0, .int .i64 0], .int .i64 0]) vs)) K w :=
  ⟨m.c.f0, m.c.f1, m.c.f2, m.c.f3, m.c.f4, m.c.f5, m.c.f6, m.c.f7, m.c.f8, m.c.f9, m.c.f10, m.c.f11, m.c.f12, m.c.f13, m.c.f14, m.c.f15, m.c.f16, m.c.f17, m.c.f18, m.c.f19, m.c.f20, m.c.f21, m.e, m.l, m.c.f24, m.c.f25, m.c.f26, m.p, m.q, m.c.f29, m.c.f30, m.c.f31, m.c.f32, n, he, k⟩
theorem Fit.dec (l : List UInt8) : Fit (decM l).1 := by
  by_cases h : (decM l).2 = 0
  · obtain ⟨h1, h2, h3, h4⟩ := enc_dec h
    obtain ⟨h0, h1, h2, h3, h4, h5, h6, h7, h8, h9, h10, h11, h12, h13, h14, h15, h16, h17, h18, h19, h20, h21, h22, h23, h24, h25, h26, h27, h28, h29, h30, h31, h32⟩ := h1
    exact ⟨by omega, fun x hx => by have := (h22.2 x hx).2.2.2.1; omega, by omega, by omega, by omega⟩
  · rw [dec_bad h]
    exact ⟨by simp, by simp, by simp, by simp, by simp⟩
theorem MsgReads_law (b : Sl) (l : List UInt8) (w : World) (h : Seg w b.base b.len 1 (bc l)) :
    Calls Try.prog 5 #[.slice b.base b.len b.cap] w fun e w' => e = .returned (.bool true) ∧ Ext [] w w' := by
  refine sh_butterylaw13_MsgReads_ok _ _ _ ?_
  unfold sh_butterylaw13_MsgReads
  have hlen := h.blen
  refine VIf.mk (fun hc => ⟨rfl, Ext.refl _ _⟩) (fun hc => ?_)
  have hc : l.length ≤ 20000 := by simp at hc; omega
  refine VNw.i fun b1 w1 hb hk e1 => ?_
  refine VApp.clone hb hk e1 h (by omega) fun s w2 hs e2 => ?_
  refine ⟨fun k i W => ∃ m : Nat, i = (m : Int) ∧ m ≤ 2 ∧ k = 2 - m ∧ Ext [] w2 W, ⟨_, 0, rfl, by omega, rfl, Ext.refl _ _⟩, ?_⟩
  rintro k1 i w3 ⟨m, rfl, hm, rfl, e3⟩
  refine VIf.mk (fun hd => ?_) (fun hd => ⟨rfl, e2.then0 e3⟩)
  have hm' : m < 2 := by simp at hd; omega
  have hs3 := hs.ext0 e3
  have h3 := (h.ext0 e2).ext0 e3
  refine VCall.i (Decode_spec s l w3 hs3.seg (by omega)) ?_
  rintro e w4 ⟨x, U, rfl, hx, e4⟩
  refine exW.mvc x _ rfl ?_
  refine VNw.i fun xb w5 hxb hk5 e5 => VSt.bk hk5 rfl (by simp) fun w6 hk6 e6 => VSet.i ?_
  have hk6 : Bk w6 xb (mvF x) 34 := hk6
  have e46 : Ext [] w4 w6 := e5.then e6 (fun i hi hlt => by simp at hi; omega)
  have e36 := e4.then0 e46
  refine VCall.i (refDecode_spec b l w6 (h3.ext0 e36) (by omega)) ?_
  rintro e w7 ⟨y, Y, rfl, hy, e7⟩
  refine exW.mvc y _ rfl ?_
  refine VNw.i fun yb w8 hyb hk8 e8 => VSt.bk hk8 rfl (by simp) fun w9 hk9 e9 => VSet.i ?_
  have hk9 : Bk w9 yb (mvF y) 34 := hk9
  have e79 : Ext [] w7 w9 := e8.then e9 (fun i hi hlt => by simp at hi; omega)
  have e69 := e7.then0 e79
  have hk69 := hk6.ext e69
  have hne : ((decM l).2 != (decM l).2) = false := by simp
  rw [hne]
  refine VLd.mv x (Rd.of_bk hk69 rfl) (VLd.mv y (Rd.of_bk hk9 rfl) ?_)
  have hx9 := (hx.ext0 e46).ext0 e69
  refine VCall.on rfl (VCall.i (refSame_spec x y (decM l).1 (decM l).1 U Y w9 hx9.in_ (hy.ext0 e79)) ?_)
  rintro e w10 ⟨rfl, e10⟩
  rw [decide_eq_true (rfl : (decM l).1 = (decM l).1)]
  refine exW.i1 (t := .bool) true rfl ?_
  have e310 := (e36.then0 e69).then0 e10
  refine VStr.i _ ((hs3.ext0 e310).seg) fun x1 hx1 => VStr.i _ (h3.ext0 e310) fun x2 hx2 => ?_
  have heq : (!(x1.toList == x2.toList)) = false := by rw [strEq, hx1, hx2]; simp
  rw [heq]
  refine VIf.f rfl (VLd.mv x (Rd.of_bk (hk69.ext e10) rfl) ?_)
  refine VCall.i (spoil_spec x (decM l).1 U w3 w10 (hx9.ext0 e10) (Fit.dec l)) ?_
  rintro e w11 ⟨rfl, M, hM, e11⟩
  refine exW.i0 rfl ?_
  rw [w64 (n := (m : Int) + 1) (by omega)]
  exact VSet.i ⟨_, (show 2 - (m + 1) < 2 - m by omega), m + 1, rfl, by omega, rfl, (e3.then0 e310).then e11 (fun i hi hlt => by have := hM i hi; have := e3.size; omega)⟩
end Go.Proofs.Ytodcdfelbphajaa
