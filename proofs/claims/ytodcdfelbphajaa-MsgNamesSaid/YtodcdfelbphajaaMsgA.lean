/-
  Package msg: a message in memory.
-/
import Derived.Test.YtodcdfelbphajaaRecO
import Derived.Test.YtodcdfelbphajaaSh
import Derived.Test.YtodcdfelbphajaaCodeP
namespace Go.Proofs.Ytodcdfelbphajaa
open Go.RowKit
set_option maxRecDepth 100000

/-- a message's plain fields -/
structure SC where
  f0 : Int
  f1 : Int
  f2 : Int
  f3 : Int
  f4 : Int
  f5 : Int
  f6 : Int
  f7 : Int
  f8 : ByteArray
  f9 : ByteArray
  f10 : ByteArray
  f11 : Bool
  f12 : Int
  f13 : Int
  f14 : Bool
  f15 : ByteArray
  f16 : Int
  f17 : Int
  f18 : Int
  f19 : Int
  f20 : Int
  f21 : Bool
  f24 : ByteArray
  f25 : Int
  f26 : Bool
  f29 : Int
  f30 : Int
  f31 : Int
  f32 : Int
structure MV where
  c : SC
  e : Sl
  l : Sl
  p : Sl
  q : Sl
def mvF (m : MV) : List Value := [.int .u8 m.c.f0, .int .i64 m.c.f1, .int .i64 m.c.f2, .int .i64 m.c.f3, .int .i64 m.c.f4, .int .i64 m.c.f5, .int .i64 m.c.f6, .int .u8 m.c.f7, .string m.c.f8, .string m.c.f9, .string m.c.f10, .bool m.c.f11, .int .i64 m.c.f12, .int .u8 m.c.f13, .bool m.c.f14, .string m.c.f15, .int .i64 m.c.f16, .int .i64 m.c.f17, .int .i64 m.c.f18, .int .i64 m.c.f19, .int .i64 m.c.f20, .bool m.c.f21, .slice m.e.base m.e.len m.e.cap, .slice m.l.base m.l.len m.l.cap, .string m.c.f24, .int .i64 m.c.f25, .bool m.c.f26, .slice m.p.base m.p.len m.p.cap, .slice m.q.base m.q.len m.q.cap, .int .u8 m.c.f29, .int .i64 m.c.f30, .int .i64 m.c.f31, .int .i64 m.c.f32]
def mva (m : MV) : Value := .agg #[.int .u8 m.c.f0, .int .i64 m.c.f1, .int .i64 m.c.f2, .int .i64 m.c.f3, .int .i64 m.c.f4, .int .i64 m.c.f5, .int .i64 m.c.f6, .int .u8 m.c.f7, .string m.c.f8, .string m.c.f9, .string m.c.f10, .bool m.c.f11, .int .i64 m.c.f12, .int .u8 m.c.f13, .bool m.c.f14, .string m.c.f15, .int .i64 m.c.f16, .int .i64 m.c.f17, .int .i64 m.c.f18, .int .i64 m.c.f19, .int .i64 m.c.f20, .bool m.c.f21, .slice m.e.base m.e.len m.e.cap, .slice m.l.base m.l.len m.l.cap, .string m.c.f24, .int .i64 m.c.f25, .bool m.c.f26, .slice m.p.base m.p.len m.p.cap, .slice m.q.base m.q.len m.q.cap, .int .u8 m.c.f29, .int .i64 m.c.f30, .int .i64 m.c.f31, .int .i64 m.c.f32]
theorem VLd.mv {g : Option Bool} {w : World} {a : Addr} {K : ArrP [CT.int .u8, CT.int .i64, CT.int .i64, CT.int .i64, CT.int .i64, CT.int .i64, CT.int .i64, CT.int .u8, CT.str, CT.str, CT.str, CT.bool, CT.int .i64, CT.int .u8, CT.bool, CT.str, CT.int .i64, CT.int .i64, CT.int .i64, CT.int .i64, CT.int .i64, CT.bool, CT.sl, CT.sl, CT.str, CT.int .i64, CT.bool, CT.sl, CT.sl, CT.int .u8, CT.int .i64, CT.int .i64, CT.int .i64]} (m : MV) (h : Rd w a (mvF m)) (k : K (m.c.f0) (m.c.f1) (m.c.f2) (m.c.f3) (m.c.f4) (m.c.f5) (m.c.f6) (m.c.f7) (m.c.f8) (m.c.f9) (m.c.f10) (m.c.f11) (m.c.f12) (m.c.f13) (m.c.f14) (m.c.f15) (m.c.f16) (m.c.f17) (m.c.f18) (m.c.f19) (m.c.f20) (m.c.f21) (m.e) (m.l) (m.c.f24) (m.c.f25) (m.c.f26) (m.p) (m.q) (m.c.f29) (m.c.f30) (m.c.f31) (m.c.f32)) : VLd g w a [CT.int .u8, CT.int .i64, CT.int .i64, CT.int .i64, CT.int .i64, CT.int .i64, CT.int .i64, CT.int .u8, CT.str, CT.str, CT.str, CT.bool, CT.int .i64, CT.int .u8, CT.bool, CT.str, CT.int .i64, CT.int .i64, CT.int .i64, CT.int .i64, CT.int .i64, CT.bool, CT.sl, CT.sl, CT.str, CT.int .i64, CT.bool, CT.sl, CT.sl, CT.int .u8, CT.int .i64, CT.int .i64, CT.int .i64] K :=
  ⟨m.c.f0, m.c.f1, m.c.f2, m.c.f3, m.c.f4, m.c.f5, m.c.f6, m.c.f7, m.c.f8, m.c.f9, m.c.f10, m.c.f11, m.c.f12, m.c.f13, m.c.f14, m.c.f15, m.c.f16, m.c.f17, m.c.f18, m.c.f19, m.c.f20, m.c.f21, m.e, m.l, m.c.f24, m.c.f25, m.c.f26, m.p, m.q, m.c.f29, m.c.f30, m.c.f31, m.c.f32, gd.i h, k⟩
theorem exW.mv {e : Ending} {w : World} {K : ArrW [CT.int .u8, CT.int .i64, CT.int .i64, CT.int .i64, CT.int .i64, CT.int .i64, CT.int .i64, CT.int .u8, CT.str, CT.str, CT.str, CT.bool, CT.int .i64, CT.int .u8, CT.bool, CT.str, CT.int .i64, CT.int .i64, CT.int .i64, CT.int .i64, CT.int .i64, CT.bool, CT.sl, CT.sl, CT.str, CT.int .i64, CT.bool, CT.sl, CT.sl, CT.int .u8, CT.int .i64, CT.int .i64, CT.int .i64]} (m : MV) (he : e = .returned (mva m)) (k : K (m.c.f0) (m.c.f1) (m.c.f2) (m.c.f3) (m.c.f4) (m.c.f5) (m.c.f6) (m.c.f7) (m.c.f8) (m.c.f9) (m.c.f10) (m.c.f11) (m.c.f12) (m.c.f13) (m.c.f14) (m.c.f15) (m.c.f16) (m.c.f17) (m.c.f18) (m.c.f19) (m.c.f20) (m.c.f21) (m.e) (m.l) (m.c.f24) (m.c.f25) (m.c.f26) (m.p) (m.q) (m.c.f29) (m.c.f30) (m.c.f31) (m.c.f32) w) : exW (flatCT (.agg #[.int .u8 0, .int .i64 0, .int .i64 0, .int .i64 0, .int .i64 0, .int .i64 0, .int .i64 0, .int .u8 0, .string ByteArray.empty, .string ByteArray.empty, .string ByteArray.empty, .bool false, .int .i64 0, .int .u8 0, .bool false, .string ByteArray.empty, .int .i64 0, .int .i64 0, .int .i64 0, .int .i64 0, .int .i64 0, .bool false, .slice none 0 0, .slice none 0 0, .string ByteArray.empty, .int .i64 0, .bool false, .slice none 0 0, .slice none 0 0, .int .u8 0, .int .i64 0, .int .i64 0, .int .i64 0])) (fun vs => e = .returned (rebuild (.agg #[.int .u8 0, .int .i64 0, .int .i64 0, .int .i64 0, .int .i64 0, .int .i64 0, .int .i64 0, .int .u8 0, .string ByteArray.empty, .string ByteArray.empty, .string ByteArray.empty, .bool false, .int .i64 0, .int .u8 0, .bool false, .string ByteArray.empty, .int .i64 0, .int .i64 0, .int .i64 0, .int .i64 0, .int .i64 0, .bool false, .slice none 0 0, .slice none 0 0, .string ByteArray.empty, .int .i64 0, .bool false, .slice none 0 0, .slice none 0 0, .int .u8 0, .int .i64 0, .int .i64 0, .int .i64 0]) vs)) K w :=
  ⟨m.c.f0, m.c.f1, m.c.f2, m.c.f3, m.c.f4, m.c.f5, m.c.f6, m.c.f7, m.c.f8, m.c.f9, m.c.f10, m.c.f11, m.c.f12, m.c.f13, m.c.f14, m.c.f15, m.c.f16, m.c.f17, m.c.f18, m.c.f19, m.c.f20, m.c.f21, m.e, m.l, m.c.f24, m.c.f25, m.c.f26, m.p, m.q, m.c.f29, m.c.f30, m.c.f31, m.c.f32, he, k⟩
def sc0 : SC := ⟨0, 0, 0, 0, 0, 0, 0, 0, ByteArray.empty, ByteArray.empty, ByteArray.empty, false, 0, 0, false, ByteArray.empty, 0, 0, 0, 0, 0, false, ByteArray.empty, 0, false, 0, 0, 0, 0⟩
def mv0 : MV := ⟨sc0, ⟨none, 0, 0⟩, ⟨none, 0, 0⟩, ⟨none, 0, 0⟩, ⟨none, 0, 0⟩⟩
noncomputable instance : DecidableEq SC := fun a b => Classical.propDecidable (a = b)
theorem sc_eq (a b : SC) : a = b ↔ (a.f0 = b.f0 ∧ a.f1 = b.f1 ∧ a.f2 = b.f2 ∧ a.f3 = b.f3 ∧ a.f4 = b.f4 ∧ a.f5 = b.f5 ∧ a.f6 = b.f6 ∧ a.f7 = b.f7 ∧ a.f8 = b.f8 ∧ a.f9 = b.f9 ∧ a.f10 = b.f10 ∧ a.f11 = b.f11 ∧ a.f12 = b.f12 ∧ a.f13 = b.f13 ∧ a.f14 = b.f14 ∧ a.f15 = b.f15 ∧ a.f16 = b.f16 ∧ a.f17 = b.f17 ∧ a.f18 = b.f18 ∧ a.f19 = b.f19 ∧ a.f20 = b.f20 ∧ a.f21 = b.f21 ∧ a.f24 = b.f24 ∧ a.f25 = b.f25 ∧ a.f26 = b.f26 ∧ a.f29 = b.f29 ∧ a.f30 = b.f30 ∧ a.f31 = b.f31 ∧ a.f32 = b.f32) := by
  obtain ⟨a0, a1, a2, a3, a4, a5, a6, a7, a8, a9, a10, a11, a12, a13, a14, a15, a16, a17, a18, a19, a20, a21, a24, a25, a26, a29, a30, a31, a32⟩ := a
  obtain ⟨b0, b1, b2, b3, b4, b5, b6, b7, b8, b9, b10, b11, b12, b13, b14, b15, b16, b17, b18, b19, b20, b21, b24, b25, b26, b29, b30, b31, b32⟩ := b
  simp only [SC.mk.injEq]
end Go.Proofs.Ytodcdfelbphajaa
