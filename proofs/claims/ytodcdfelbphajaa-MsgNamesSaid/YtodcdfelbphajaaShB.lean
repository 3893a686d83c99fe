/-
  By program (own tool): what the code of each function asks, in plain text, and that it suffices (the kernel compares the two).
-/
import Derived.Test.YtodcdfelbphajaaRows
import Derived.Test.YtodcdfelbphajaaEngJ
import Derived.KernelRfl
namespace Go.Proofs.Ytodcdfelbphajaa
open Go.RowKit
set_option maxRecDepth 100000

/-- 4: buttery/butterylaw13.MsgWrites -/
def sh_butterylaw13_MsgWrites (m_0_0 : Int) (m_0_1 : Int) (m_0_2 : Int) (m_0_3 : Int) (m_0_4 : Int) (m_0_5 : Int) (m_0_6 : Int) (m_0_7 : Int) (m_0_8 : ByteArray) (m_0_9 : ByteArray) (m_0_10 : ByteArray) (m_0_11 : Bool) (m_0_12 : Int) (m_0_13 : Int) (m_0_14 : Bool) (m_0_15 : ByteArray) (m_0_16 : Int) (m_0_17 : Int) (m_0_18 : Int) (m_0_19 : Int) (m_0_20 : Int) (m_0_21 : Bool) (m_0_22 : Sl) (m_0_23 : Sl) (m_0_24 : ByteArray) (m_0_25 : Int) (m_0_26 : Bool) (m_0_27 : Sl) (m_0_28 : Sl) (m_0_29 : Int) (m_0_30 : Int) (m_0_31 : Int) (m_0_32 : Int) (w : World) (R : Ending → World → Prop) : Prop :=
  VNw none w (.cells #[.int .u8 m_0_0, .int .i64 m_0_1, .int .i64 m_0_2, .int .i64 m_0_3, .int .i64 m_0_4, .int .i64 m_0_5, .int .i64 m_0_6, .int .u8 m_0_7, .string m_0_8, .string m_0_9, .string m_0_10, .bool m_0_11, .int .i64 m_0_12, .int .u8 m_0_13, .bool m_0_14, .string m_0_15, .int .i64 m_0_16, .int .i64 m_0_17, .int .i64 m_0_18, .int .i64 m_0_19, .int .i64 m_0_20, .bool m_0_21, .slice m_0_22.base m_0_22.len m_0_22.cap, .slice m_0_23.base m_0_23.len m_0_23.cap, .string m_0_24, .int .i64 m_0_25, .bool m_0_26, .slice m_0_27.base m_0_27.len m_0_27.cap, .slice m_0_28.base m_0_28.len m_0_28.cap, .int .u8 m_0_29, .int .i64 m_0_30, .int .i64 m_0_31, .int .i64 m_0_32] 34) fun (m_1 : Nat) (w1 : World) =>
  VLd none w1 ⟨m_1, 0, none⟩ [CT.int .u8, CT.int .i64, CT.int .i64, CT.int .i64, CT.int .i64, CT.int .i64, CT.int .i64, CT.int .u8, CT.str, CT.str, CT.str, CT.bool, CT.int .i64, CT.int .u8, CT.bool, CT.str, CT.int .i64, CT.int .i64, CT.int .i64, CT.int .i64, CT.int .i64, CT.bool, CT.sl, CT.sl, CT.str, CT.int .i64, CT.bool, CT.sl, CT.sl, CT.int .u8, CT.int .i64, CT.int .i64, CT.int .i64] fun (v10_0 : Int) (v10_1 : Int) (v10_2 : Int) (v10_3 : Int) (v10_4 : Int) (v10_5 : Int) (v10_6 : Int) (v10_7 : Int) (v10_8 : ByteArray) (v10_9 : ByteArray) (v10_10 : ByteArray) (v10_11 : Bool) (v10_12 : Int) (v10_13 : Int) (v10_14 : Bool) (v10_15 : ByteArray) (v10_16 : Int) (v10_17 : Int) (v10_18 : Int) (v10_19 : Int) (v10_20 : Int) (v10_21 : Bool) (v10_22 : Sl) (v10_23 : Sl) (v10_24 : ByteArray) (v10_25 : Int) (v10_26 : Bool) (v10_27 : Sl) (v10_28 : Sl) (v10_29 : Int) (v10_30 : Int) (v10_31 : Int) (v10_32 : Int) =>
  VCall none Try.prog 11 #[.agg #[.int .u8 v10_0, .int .i64 v10_1, .int .i64 v10_2, .int .i64 v10_3, .int .i64 v10_4, .int .i64 v10_5, .int .i64 v10_6, .int .u8 v10_7, .string v10_8, .string v10_9, .string v10_10, .bool v10_11, .int .i64 v10_12, .int .u8 v10_13, .bool v10_14, .string v10_15, .int .i64 v10_16, .int .i64 v10_17, .int .i64 v10_18, .int .i64 v10_19, .int .i64 v10_20, .bool v10_21, .slice v10_22.base v10_22.len v10_22.cap, .slice v10_23.base v10_23.len v10_23.cap, .string v10_24, .int .i64 v10_25, .bool v10_26, .slice v10_27.base v10_27.len v10_27.cap, .slice v10_28.base v10_28.len v10_28.cap, .int .u8 v10_29, .int .i64 v10_30, .int .i64 v10_31, .int .i64 v10_32]] w1 (.agg #[.int .u8 0, .int .i64 0, .int .i64 0, .int .i64 0, .int .i64 0, .int .i64 0, .int .i64 0, .int .u8 0, .string ByteArray.empty, .string ByteArray.empty, .string ByteArray.empty, .bool false, .int .i64 0, .int .u8 0, .bool false, .string ByteArray.empty, .int .i64 0, .int .i64 0, .int .i64 0, .int .i64 0, .int .i64 0, .bool false, .slice none 0 0, .slice none 0 0, .string ByteArray.empty, .int .i64 0, .bool false, .slice none 0 0, .slice none 0 0, .int .u8 0, .int .i64 0, .int .i64 0, .int .i64 0]) fun (r11_0 : Int) (r11_1 : Int) (r11_2 : Int) (r11_3 : Int) (r11_4 : Int) (r11_5 : Int) (r11_6 : Int) (r11_7 : Int) (r11_8 : ByteArray) (r11_9 : ByteArray) (r11_10 : ByteArray) (r11_11 : Bool) (r11_12 : Int) (r11_13 : Int) (r11_14 : Bool) (r11_15 : ByteArray) (r11_16 : Int) (r11_17 : Int) (r11_18 : Int) (r11_19 : Int) (r11_20 : Int) (r11_21 : Bool) (r11_22 : Sl) (r11_23 : Sl) (r11_24 : ByteArray) (r11_25 : Int) (r11_26 : Bool) (r11_27 : Sl) (r11_28 : Sl) (r11_29 : Int) (r11_30 : Int) (r11_31 : Int) (r11_32 : Int) (w2 : World) =>
  VNw none w2 (.cells #[.int .u8 0, .int .i64 0, .int .i64 0, .int .i64 0, .int .i64 0, .int .i64 0, .int .i64 0, .int .u8 0, .string ByteArray.empty, .string ByteArray.empty, .string ByteArray.empty, .bool false, .int .i64 0, .int .u8 0, .bool false, .string ByteArray.empty, .int .i64 0, .int .i64 0, .int .i64 0, .int .i64 0, .int .i64 0, .bool false, .slice none 0 0, .slice none 0 0, .string ByteArray.empty, .int .i64 0, .bool false, .slice none 0 0, .slice none 0 0, .int .u8 0, .int .i64 0, .int .i64 0, .int .i64 0] 34) fun (in_3 : Nat) (w3 : World) =>
  VSt none w3 ⟨in_3, 0, none⟩ [.int .u8 r11_0, .int .i64 r11_1, .int .i64 r11_2, .int .i64 r11_3, .int .i64 r11_4, .int .i64 r11_5, .int .i64 r11_6, .int .u8 r11_7, .string r11_8, .string r11_9, .string r11_10, .bool r11_11, .int .i64 r11_12, .int .u8 r11_13, .bool r11_14, .string r11_15, .int .i64 r11_16, .int .i64 r11_17, .int .i64 r11_18, .int .i64 r11_19, .int .i64 r11_20, .bool r11_21, .slice r11_22.base r11_22.len r11_22.cap, .slice r11_23.base r11_23.len r11_23.cap, .string r11_24, .int .i64 r11_25, .bool r11_26, .slice r11_27.base r11_27.len r11_27.cap, .slice r11_28.base r11_28.len r11_28.cap, .int .u8 r11_29, .int .i64 r11_30, .int .i64 r11_31, .int .i64 r11_32] fun (w4 : World) =>
  ∃ I1 : Nat → Int → World → Prop, (∃ k, I1 k 0 w4) ∧ ∀ k1 (round_4 : Int) (w5 : World), I1 k1 round_4 w5 →
  VIf (decide (round_4 < 2)) (
    VLd none w5 ⟨in_3, 0, none⟩ [CT.int .u8, CT.int .i64, CT.int .i64, CT.int .i64, CT.int .i64, CT.int .i64, CT.int .i64, CT.int .u8, CT.str, CT.str, CT.str, CT.bool, CT.int .i64, CT.int .u8, CT.bool, CT.str, CT.int .i64, CT.int .i64, CT.int .i64, CT.int .i64, CT.int .i64, CT.bool, CT.sl, CT.sl, CT.str, CT.int .i64, CT.bool, CT.sl, CT.sl, CT.int .u8, CT.int .i64, CT.int .i64, CT.int .i64] fun (v17_0 : Int) (v17_1 : Int) (v17_2 : Int) (v17_3 : Int) (v17_4 : Int) (v17_5 : Int) (v17_6 : Int) (v17_7 : Int) (v17_8 : ByteArray) (v17_9 : ByteArray) (v17_10 : ByteArray) (v17_11 : Bool) (v17_12 : Int) (v17_13 : Int) (v17_14 : Bool) (v17_15 : ByteArray) (v17_16 : Int) (v17_17 : Int) (v17_18 : Int) (v17_19 : Int) (v17_20 : Int) (v17_21 : Bool) (v17_22 : Sl) (v17_23 : Sl) (v17_24 : ByteArray) (v17_25 : Int) (v17_26 : Bool) (v17_27 : Sl) (v17_28 : Sl) (v17_29 : Int) (v17_30 : Int) (v17_31 : Int) (v17_32 : Int) =>
    VCall none Try.prog 14 #[.agg #[.int .u8 v17_0, .int .i64 v17_1, .int .i64 v17_2, .int .i64 v17_3, .int .i64 v17_4, .int .i64 v17_5, .int .i64 v17_6, .int .u8 v17_7, .string v17_8, .string v17_9, .string v17_10, .bool v17_11, .int .i64 v17_12, .int .u8 v17_13, .bool v17_14, .string v17_15, .int .i64 v17_16, .int .i64 v17_17, .int .i64 v17_18, .int .i64 v17_19, .int .i64 v17_20, .bool v17_21, .slice v17_22.base v17_22.len v17_22.cap, .slice v17_23.base v17_23.len v17_23.cap, .string v17_24, .int .i64 v17_25, .bool v17_26, .slice v17_27.base v17_27.len v17_27.cap, .slice v17_28.base v17_28.len v17_28.cap, .int .u8 v17_29, .int .i64 v17_30, .int .i64 v17_31, .int .i64 v17_32]] w5 (.tuple #[.slice none 0 0, .int .i64 0]) fun (r18_0 : Sl) (r18_1 : Int) (w6 : World) =>
    VSet r18_1 fun (e_6 : Int) =>
    VLd none w6 ⟨m_1, 0, none⟩ [CT.int .u8, CT.int .i64, CT.int .i64, CT.int .i64, CT.int .i64, CT.int .i64, CT.int .i64, CT.int .u8, CT.str, CT.str, CT.str, CT.bool, CT.int .i64, CT.int .u8, CT.bool, CT.str, CT.int .i64, CT.int .i64, CT.int .i64, CT.int .i64, CT.int .i64, CT.bool, CT.sl, CT.sl, CT.str, CT.int .i64, CT.bool, CT.sl, CT.sl, CT.int .u8, CT.int .i64, CT.int .i64, CT.int .i64] fun (v22_0 : Int) (v22_1 : Int) (v22_2 : Int) (v22_3 : Int) (v22_4 : Int) (v22_5 : Int) (v22_6 : Int) (v22_7 : Int) (v22_8 : ByteArray) (v22_9 : ByteArray) (v22_10 : ByteArray) (v22_11 : Bool) (v22_12 : Int) (v22_13 : Int) (v22_14 : Bool) (v22_15 : ByteArray) (v22_16 : Int) (v22_17 : Int) (v22_18 : Int) (v22_19 : Int) (v22_20 : Int) (v22_21 : Bool) (v22_22 : Sl) (v22_23 : Sl) (v22_24 : ByteArray) (v22_25 : Int) (v22_26 : Bool) (v22_27 : Sl) (v22_28 : Sl) (v22_29 : Int) (v22_30 : Int) (v22_31 : Int) (v22_32 : Int) =>
    VCall none Try.prog 15 #[.agg #[.int .u8 v22_0, .int .i64 v22_1, .int .i64 v22_2, .int .i64 v22_3, .int .i64 v22_4, .int .i64 v22_5, .int .i64 v22_6, .int .u8 v22_7, .string v22_8, .string v22_9, .string v22_10, .bool v22_11, .int .i64 v22_12, .int .u8 v22_13, .bool v22_14, .string v22_15, .int .i64 v22_16, .int .i64 v22_17, .int .i64 v22_18, .int .i64 v22_19, .int .i64 v22_20, .bool v22_21, .slice v22_22.base v22_22.len v22_22.cap, .slice v22_23.base v22_23.len v22_23.cap, .string v22_24, .int .i64 v22_25, .bool v22_26, .slice v22_27.base v22_27.len v22_27.cap, .slice v22_28.base v22_28.len v22_28.cap, .int .u8 v22_29, .int .i64 v22_30, .int .i64 v22_31, .int .i64 v22_32]] w6 (.tuple #[.slice none 0 0, .int .i64 0]) fun (r23_0 : Sl) (r23_1 : Int) (w7 : World) =>
    VSet r23_1 fun (f_8 : Int) =>
    VStr (some (!(e_6 != f_8))) w7 r18_0.base r18_0.len fun (s31 : ByteArray) =>
    VStr (some (!(e_6 != f_8))) w7 r23_0.base r23_0.len fun (s33 : ByteArray) =>
    VLd (some (!((e_6 != f_8) || (!(s31.toList == s33.toList))))) w7 ⟨in_3, 0, none⟩ [CT.int .u8, CT.int .i64, CT.int .i64, CT.int .i64, CT.int .i64, CT.int .i64, CT.int .i64, CT.int .u8, CT.str, CT.str, CT.str, CT.bool, CT.int .i64, CT.int .u8, CT.bool, CT.str, CT.int .i64, CT.int .i64, CT.int .i64, CT.int .i64, CT.int .i64, CT.bool, CT.sl, CT.sl, CT.str, CT.int .i64, CT.bool, CT.sl, CT.sl, CT.int .u8, CT.int .i64, CT.int .i64, CT.int .i64] fun (v37_0 : Int) (v37_1 : Int) (v37_2 : Int) (v37_3 : Int) (v37_4 : Int) (v37_5 : Int) (v37_6 : Int) (v37_7 : Int) (v37_8 : ByteArray) (v37_9 : ByteArray) (v37_10 : ByteArray) (v37_11 : Bool) (v37_12 : Int) (v37_13 : Int) (v37_14 : Bool) (v37_15 : ByteArray) (v37_16 : Int) (v37_17 : Int) (v37_18 : Int) (v37_19 : Int) (v37_20 : Int) (v37_21 : Bool) (v37_22 : Sl) (v37_23 : Sl) (v37_24 : ByteArray) (v37_25 : Int) (v37_26 : Bool) (v37_27 : Sl) (v37_28 : Sl) (v37_29 : Int) (v37_30 : Int) (v37_31 : Int) (v37_32 : Int) =>
    VLd (some (!((e_6 != f_8) || (!(s31.toList == s33.toList))))) w7 ⟨m_1, 0, none⟩ [CT.int .u8, CT.int .i64, CT.int .i64, CT.int .i64, CT.int .i64, CT.int .i64, CT.int .i64, CT.int .u8, CT.str, CT.str, CT.str, CT.bool, CT.int .i64, CT.int .u8, CT.bool, CT.str, CT.int .i64, CT.int .i64, CT.int .i64, CT.int .i64, CT.int .i64, CT.bool, CT.sl, CT.sl, CT.str, CT.int .i64, CT.bool, CT.sl, CT.sl, CT.int .u8, CT.int .i64, CT.int .i64, CT.int .i64] fun (v38_0 : Int) (v38_1 : Int) (v38_2 : Int) (v38_3 : Int) (v38_4 : Int) (v38_5 : Int) (v38_6 : Int) (v38_7 : Int) (v38_8 : ByteArray) (v38_9 : ByteArray) (v38_10 : ByteArray) (v38_11 : Bool) (v38_12 : Int) (v38_13 : Int) (v38_14 : Bool) (v38_15 : ByteArray) (v38_16 : Int) (v38_17 : Int) (v38_18 : Int) (v38_19 : Int) (v38_20 : Int) (v38_21 : Bool) (v38_22 : Sl) (v38_23 : Sl) (v38_24 : ByteArray) (v38_25 : Int) (v38_26 : Bool) (v38_27 : Sl) (v38_28 : Sl) (v38_29 : Int) (v38_30 : Int) (v38_31 : Int) (v38_32 : Int) =>
    VCall (some (!((e_6 != f_8) || (!(s31.toList == s33.toList))))) Try.prog 10 #[.agg #[.int .u8 v37_0, .int .i64 v37_1, .int .i64 v37_2, .int .i64 v37_3, .int .i64 v37_4, .int .i64 v37_5, .int .i64 v37_6, .int .u8 v37_7, .string v37_8, .string v37_9, .string v37_10, .bool v37_11, .int .i64 v37_12, .int .u8 v37_13, .bool v37_14, .string v37_15, .int .i64 v37_16, .int .i64 v37_17, .int .i64 v37_18, .int .i64 v37_19, .int .i64 v37_20, .bool v37_21, .slice v37_22.base v37_22.len v37_22.cap, .slice v37_23.base v37_23.len v37_23.cap, .string v37_24, .int .i64 v37_25, .bool v37_26, .slice v37_27.base v37_27.len v37_27.cap, .slice v37_28.base v37_28.len v37_28.cap, .int .u8 v37_29, .int .i64 v37_30, .int .i64 v37_31, .int .i64 v37_32], .agg #[.int .u8 v38_0, .int .i64 v38_1, .int .i64 v38_2, .int .i64 v38_3, .int .i64 v38_4, .int .i64 v38_5, .int .i64 v38_6, .int .u8 v38_7, .string v38_8, .string v38_9, .string v38_10, .bool v38_11, .int .i64 v38_12, .int .u8 v38_13, .bool v38_14, .string v38_15, .int .i64 v38_16, .int .i64 v38_17, .int .i64 v38_18, .int .i64 v38_19, .int .i64 v38_20, .bool v38_21, .slice v38_22.base v38_22.len v38_22.cap, .slice v38_23.base v38_23.len v38_23.cap, .string v38_24, .int .i64 v38_25, .bool v38_26, .slice v38_27.base v38_27.len v38_27.cap, .slice v38_28.base v38_28.len v38_28.cap, .int .u8 v38_29, .int .i64 v38_30, .int .i64 v38_31, .int .i64 v38_32]] w7 (.bool false) fun (r39 : Bool) (w8 : World) =>
    VIf (((e_6 != f_8) || (!(s31.toList == s33.toList))) || (!r39)) (
      R (.returned (.bool false)) w8
    ) (
      ∃ I2 : Nat → Int → World → Prop, (∃ k, I2 k 0 w8) ∧ ∀ k2 (i_9 : Int) (w9 : World), I2 k2 i_9 w9 →
      VIf (decide (i_9 < ((r18_0.len : Nat) : Int))) (
        VIx none r18_0.base r18_0.len i_9 fun (a50 : Addr) =>
        VSt none w9 (Addr.add a50 ((Int.toNat i_9) * 1)) [.int .u8 9] fun (w10 : World) =>
        VSet (IntKind.wrap .i64 (i_9 + 1)) fun (i_9' : Int) =>
        ∃ k', k' < k2 ∧ I2 k' i_9' w10
      ) (
        VSet (IntKind.wrap .i64 (round_4 + 1)) fun (round_4' : Int) =>
        ∃ k', k' < k1 ∧ I1 k' round_4' w9
      )
    )
  ) (
    R (.returned (.bool true)) w5
  )
theorem sh_butterylaw13_MsgWrites_ok (m_0_0 : Int) (m_0_1 : Int) (m_0_2 : Int) (m_0_3 : Int) (m_0_4 : Int) (m_0_5 : Int) (m_0_6 : Int) (m_0_7 : Int) (m_0_8 : ByteArray) (m_0_9 : ByteArray) (m_0_10 : ByteArray) (m_0_11 : Bool) (m_0_12 : Int) (m_0_13 : Int) (m_0_14 : Bool) (m_0_15 : ByteArray) (m_0_16 : Int) (m_0_17 : Int) (m_0_18 : Int) (m_0_19 : Int) (m_0_20 : Int) (m_0_21 : Bool) (m_0_22 : Sl) (m_0_23 : Sl) (m_0_24 : ByteArray) (m_0_25 : Int) (m_0_26 : Bool) (m_0_27 : Sl) (m_0_28 : Sl) (m_0_29 : Int) (m_0_30 : Int) (m_0_31 : Int) (m_0_32 : Int) (w : World) (R : Ending → World → Prop) (h : sh_butterylaw13_MsgWrites m_0_0 m_0_1 m_0_2 m_0_3 m_0_4 m_0_5 m_0_6 m_0_7 m_0_8 m_0_9 m_0_10 m_0_11 m_0_12 m_0_13 m_0_14 m_0_15 m_0_16 m_0_17 m_0_18 m_0_19 m_0_20 m_0_21 m_0_22 m_0_23 m_0_24 m_0_25 m_0_26 m_0_27 m_0_28 m_0_29 m_0_30 m_0_31 m_0_32 w R) : Calls Try.prog 4 #[.agg #[.int .u8 m_0_0, .int .i64 m_0_1, .int .i64 m_0_2, .int .i64 m_0_3, .int .i64 m_0_4, .int .i64 m_0_5, .int .i64 m_0_6, .int .u8 m_0_7, .string m_0_8, .string m_0_9, .string m_0_10, .bool m_0_11, .int .i64 m_0_12, .int .u8 m_0_13, .bool m_0_14, .string m_0_15, .int .i64 m_0_16, .int .i64 m_0_17, .int .i64 m_0_18, .int .i64 m_0_19, .int .i64 m_0_20, .bool m_0_21, .slice m_0_22.base m_0_22.len m_0_22.cap, .slice m_0_23.base m_0_23.len m_0_23.cap, .string m_0_24, .int .i64 m_0_25, .bool m_0_26, .slice m_0_27.base m_0_27.len m_0_27.cap, .slice m_0_28.base m_0_28.len m_0_28.cap, .int .u8 m_0_29, .int .i64 m_0_30, .int .i64 m_0_31, .int .i64 m_0_32]] w R :=
  by
  apply calls_of_sh (P := Try.prog) (f := 4) (fn := Try.f4) (args := [.agg #[.int .u8 m_0_0, .int .i64 m_0_1, .int .i64 m_0_2, .int .i64 m_0_3, .int .i64 m_0_4, .int .i64 m_0_5, .int .i64 m_0_6, .int .u8 m_0_7, .string m_0_8, .string m_0_9, .string m_0_10, .bool m_0_11, .int .i64 m_0_12, .int .u8 m_0_13, .bool m_0_14, .string m_0_15, .int .i64 m_0_16, .int .i64 m_0_17, .int .i64 m_0_18, .int .i64 m_0_19, .int .i64 m_0_20, .bool m_0_21, .slice m_0_22.base m_0_22.len m_0_22.cap, .slice m_0_23.base m_0_23.len m_0_23.cap, .string m_0_24, .int .i64 m_0_25, .bool m_0_26, .slice m_0_27.base m_0_27.len m_0_27.cap, .slice m_0_28.base m_0_28.len m_0_28.cap, .int .u8 m_0_29, .int .i64 m_0_30, .int .i64 m_0_31, .int .i64 m_0_32]]) (w := w) (R := R) (.two .auto (.two .auto (.two (.two .auto (.one (.loop [(4, .int .i64 0)] (.two (.two .auto (.two .auto .auto)) (.two (.one (.two .auto (.two .auto (.two (.two .auto (.two (.two .auto .auto) .auto)) (.two .auto (.one (.loop [(9, .int .i64 0)] (.two (.two .auto (.two .auto .auto)) (.two (.one .auto) .auto))))))))) .auto))))) (.two .auto .auto)))) Try.func4
  · kernel_rfl
  · kernel_rfl
  · kernel_rfl
  · exact h

/-- 5: buttery/butterylaw13.MsgReads -/
def sh_butterylaw13_MsgReads (b_0 : Sl) (w : World) (R : Ending → World → Prop) : Prop :=
  VIf (decide (((b_0.len : Nat) : Int) > 20000)) (
    R (.returned (.bool true)) w
  ) (
    VNw none w (.cells #[] 5) fun (b12 : Nat) (w1 : World) =>
    VApp none w1 5 1 1 #[.int .u8 0] (some ⟨b12, 0, none⟩) 0 0 b_0.len (fun news => Seg w1 b_0.base b_0.len 1 news) fun (l14 : Sl) (w2 : World) =>
    ∃ I1 : Nat → Int → World → Prop, (∃ k, I1 k 0 w2) ∧ ∀ k1 (round_4 : Int) (w3 : World), I1 k1 round_4 w3 →
    VIf (decide (round_4 < 2)) (
      VCall none Try.prog 16 #[.slice l14.base l14.len l14.cap] w3 (.tuple #[.agg #[.int .u8 0, .int .i64 0, .int .i64 0, .int .i64 0, .int .i64 0, .int .i64 0, .int .i64 0, .int .u8 0, .string ByteArray.empty, .string ByteArray.empty, .string ByteArray.empty, .bool false, .int .i64 0, .int .u8 0, .bool false, .string ByteArray.empty, .int .i64 0, .int .i64 0, .int .i64 0, .int .i64 0, .int .i64 0, .bool false, .slice none 0 0, .slice none 0 0, .string ByteArray.empty, .int .i64 0, .bool false, .slice none 0 0, .slice none 0 0, .int .u8 0, .int .i64 0, .int .i64 0, .int .i64 0], .int .i64 0]) fun (r21_0 : Int) (r21_1 : Int) (r21_2 : Int) (r21_3 : Int) (r21_4 : Int) (r21_5 : Int) (r21_6 : Int) (r21_7 : Int) (r21_8 : ByteArray) (r21_9 : ByteArray) (r21_10 : ByteArray) (r21_11 : Bool) (r21_12 : Int) (r21_13 : Int) (r21_14 : Bool) (r21_15 : ByteArray) (r21_16 : Int) (r21_17 : Int) (r21_18 : Int) (r21_19 : Int) (r21_20 : Int) (r21_21 : Bool) (r21_22 : Sl) (r21_23 : Sl) (r21_24 : ByteArray) (r21_25 : Int) (r21_26 : Bool) (r21_27 : Sl) (r21_28 : Sl) (r21_29 : Int) (r21_30 : Int) (r21_31 : Int) (r21_32 : Int) (r21_33 : Int) (w4 : World) =>
      VNw none w4 (.cells #[.int .u8 0, .int .i64 0, .int .i64 0, .int .i64 0, .int .i64 0, .int .i64 0, .int .i64 0, .int .u8 0, .string ByteArray.empty, .string ByteArray.empty, .string ByteArray.empty, .bool false, .int .i64 0, .int .u8 0, .bool false, .string ByteArray.empty, .int .i64 0, .int .i64 0, .int .i64 0, .int .i64 0, .int .i64 0, .bool false, .slice none 0 0, .slice none 0 0, .string ByteArray.empty, .int .i64 0, .bool false, .slice none 0 0, .slice none 0 0, .int .u8 0, .int .i64 0, .int .i64 0, .int .i64 0] 34) fun (x_5 : Nat) (w5 : World) =>
      VSt none w5 ⟨x_5, 0, none⟩ [.int .u8 r21_0, .int .i64 r21_1, .int .i64 r21_2, .int .i64 r21_3, .int .i64 r21_4, .int .i64 r21_5, .int .i64 r21_6, .int .u8 r21_7, .string r21_8, .string r21_9, .string r21_10, .bool r21_11, .int .i64 r21_12, .int .u8 r21_13, .bool r21_14, .string r21_15, .int .i64 r21_16, .int .i64 r21_17, .int .i64 r21_18, .int .i64 r21_19, .int .i64 r21_20, .bool r21_21, .slice r21_22.base r21_22.len r21_22.cap, .slice r21_23.base r21_23.len r21_23.cap, .string r21_24, .int .i64 r21_25, .bool r21_26, .slice r21_27.base r21_27.len r21_27.cap, .slice r21_28.base r21_28.len r21_28.cap, .int .u8 r21_29, .int .i64 r21_30, .int .i64 r21_31, .int .i64 r21_32] fun (w6 : World) =>
      VSet r21_33 fun (e_6 : Int) =>
      VCall none Try.prog 17 #[.slice b_0.base b_0.len b_0.cap] w6 (.tuple #[.agg #[.int .u8 0, .int .i64 0, .int .i64 0, .int .i64 0, .int .i64 0, .int .i64 0, .int .i64 0, .int .u8 0, .string ByteArray.empty, .string ByteArray.empty, .string ByteArray.empty, .bool false, .int .i64 0, .int .u8 0, .bool false, .string ByteArray.empty, .int .i64 0, .int .i64 0, .int .i64 0, .int .i64 0, .int .i64 0, .bool false, .slice none 0 0, .slice none 0 0, .string ByteArray.empty, .int .i64 0, .bool false, .slice none 0 0, .slice none 0 0, .int .u8 0, .int .i64 0, .int .i64 0, .int .i64 0], .int .i64 0]) fun (r26_0 : Int) (r26_1 : Int) (r26_2 : Int) (r26_3 : Int) (r26_4 : Int) (r26_5 : Int) (r26_6 : Int) (r26_7 : Int) (r26_8 : ByteArray) (r26_9 : ByteArray) (r26_10 : ByteArray) (r26_11 : Bool) (r26_12 : Int) (r26_13 : Int) (r26_14 : Bool) (r26_15 : ByteArray) (r26_16 : Int) (r26_17 : Int) (r26_18 : Int) (r26_19 : Int) (r26_20 : Int) (r26_21 : Bool) (r26_22 : Sl) (r26_23 : Sl) (r26_24 : ByteArray) (r26_25 : Int) (r26_26 : Bool) (r26_27 : Sl) (r26_28 : Sl) (r26_29 : Int) (r26_30 : Int) (r26_31 : Int) (r26_32 : Int) (r26_33 : Int) (w7 : World) =>
      VNw none w7 (.cells #[.int .u8 0, .int .i64 0, .int .i64 0, .int .i64 0, .int .i64 0, .int .i64 0, .int .i64 0, .int .u8 0, .string ByteArray.empty, .string ByteArray.empty, .string ByteArray.empty, .bool false, .int .i64 0, .int .u8 0, .bool false, .string ByteArray.empty, .int .i64 0, .int .i64 0, .int .i64 0, .int .i64 0, .int .i64 0, .bool false, .slice none 0 0, .slice none 0 0, .string ByteArray.empty, .int .i64 0, .bool false, .slice none 0 0, .slice none 0 0, .int .u8 0, .int .i64 0, .int .i64 0, .int .i64 0] 34) fun (y_7 : Nat) (w8 : World) =>
      VSt none w8 ⟨y_7, 0, none⟩ [.int .u8 r26_0, .int .i64 r26_1, .int .i64 r26_2, .int .i64 r26_3, .int .i64 r26_4, .int .i64 r26_5, .int .i64 r26_6, .int .u8 r26_7, .string r26_8, .string r26_9, .string r26_10, .bool r26_11, .int .i64 r26_12, .int .u8 r26_13, .bool r26_14, .string r26_15, .int .i64 r26_16, .int .i64 r26_17, .int .i64 r26_18, .int .i64 r26_19, .int .i64 r26_20, .bool r26_21, .slice r26_22.base r26_22.len r26_22.cap, .slice r26_23.base r26_23.len r26_23.cap, .string r26_24, .int .i64 r26_25, .bool r26_26, .slice r26_27.base r26_27.len r26_27.cap, .slice r26_28.base r26_28.len r26_28.cap, .int .u8 r26_29, .int .i64 r26_30, .int .i64 r26_31, .int .i64 r26_32] fun (w9 : World) =>
      VSet r26_33 fun (f_8 : Int) =>
      VLd (some (!(e_6 != f_8))) w9 ⟨x_5, 0, none⟩ [CT.int .u8, CT.int .i64, CT.int .i64, CT.int .i64, CT.int .i64, CT.int .i64, CT.int .i64, CT.int .u8, CT.str, CT.str, CT.str, CT.bool, CT.int .i64, CT.int .u8, CT.bool, CT.str, CT.int .i64, CT.int .i64, CT.int .i64, CT.int .i64, CT.int .i64, CT.bool, CT.sl, CT.sl, CT.str, CT.int .i64, CT.bool, CT.sl, CT.sl, CT.int .u8, CT.int .i64, CT.int .i64, CT.int .i64] fun (v33_0 : Int) (v33_1 : Int) (v33_2 : Int) (v33_3 : Int) (v33_4 : Int) (v33_5 : Int) (v33_6 : Int) (v33_7 : Int) (v33_8 : ByteArray) (v33_9 : ByteArray) (v33_10 : ByteArray) (v33_11 : Bool) (v33_12 : Int) (v33_13 : Int) (v33_14 : Bool) (v33_15 : ByteArray) (v33_16 : Int) (v33_17 : Int) (v33_18 : Int) (v33_19 : Int) (v33_20 : Int) (v33_21 : Bool) (v33_22 : Sl) (v33_23 : Sl) (v33_24 : ByteArray) (v33_25 : Int) (v33_26 : Bool) (v33_27 : Sl) (v33_28 : Sl) (v33_29 : Int) (v33_30 : Int) (v33_31 : Int) (v33_32 : Int) =>
      VLd (some (!(e_6 != f_8))) w9 ⟨y_7, 0, none⟩ [CT.int .u8, CT.int .i64, CT.int .i64, CT.int .i64, CT.int .i64, CT.int .i64, CT.int .i64, CT.int .u8, CT.str, CT.str, CT.str, CT.bool, CT.int .i64, CT.int .u8, CT.bool, CT.str, CT.int .i64, CT.int .i64, CT.int .i64, CT.int .i64, CT.int .i64, CT.bool, CT.sl, CT.sl, CT.str, CT.int .i64, CT.bool, CT.sl, CT.sl, CT.int .u8, CT.int .i64, CT.int .i64, CT.int .i64] fun (v34_0 : Int) (v34_1 : Int) (v34_2 : Int) (v34_3 : Int) (v34_4 : Int) (v34_5 : Int) (v34_6 : Int) (v34_7 : Int) (v34_8 : ByteArray) (v34_9 : ByteArray) (v34_10 : ByteArray) (v34_11 : Bool) (v34_12 : Int) (v34_13 : Int) (v34_14 : Bool) (v34_15 : ByteArray) (v34_16 : Int) (v34_17 : Int) (v34_18 : Int) (v34_19 : Int) (v34_20 : Int) (v34_21 : Bool) (v34_22 : Sl) (v34_23 : Sl) (v34_24 : ByteArray) (v34_25 : Int) (v34_26 : Bool) (v34_27 : Sl) (v34_28 : Sl) (v34_29 : Int) (v34_30 : Int) (v34_31 : Int) (v34_32 : Int) =>
      VCall (some (!(e_6 != f_8))) Try.prog 10 #[.agg #[.int .u8 v33_0, .int .i64 v33_1, .int .i64 v33_2, .int .i64 v33_3, .int .i64 v33_4, .int .i64 v33_5, .int .i64 v33_6, .int .u8 v33_7, .string v33_8, .string v33_9, .string v33_10, .bool v33_11, .int .i64 v33_12, .int .u8 v33_13, .bool v33_14, .string v33_15, .int .i64 v33_16, .int .i64 v33_17, .int .i64 v33_18, .int .i64 v33_19, .int .i64 v33_20, .bool v33_21, .slice v33_22.base v33_22.len v33_22.cap, .slice v33_23.base v33_23.len v33_23.cap, .string v33_24, .int .i64 v33_25, .bool v33_26, .slice v33_27.base v33_27.len v33_27.cap, .slice v33_28.base v33_28.len v33_28.cap, .int .u8 v33_29, .int .i64 v33_30, .int .i64 v33_31, .int .i64 v33_32], .agg #[.int .u8 v34_0, .int .i64 v34_1, .int .i64 v34_2, .int .i64 v34_3, .int .i64 v34_4, .int .i64 v34_5, .int .i64 v34_6, .int .u8 v34_7, .string v34_8, .string v34_9, .string v34_10, .bool v34_11, .int .i64 v34_12, .int .u8 v34_13, .bool v34_14, .string v34_15, .int .i64 v34_16, .int .i64 v34_17, .int .i64 v34_18, .int .i64 v34_19, .int .i64 v34_20, .bool v34_21, .slice v34_22.base v34_22.len v34_22.cap, .slice v34_23.base v34_23.len v34_23.cap, .string v34_24, .int .i64 v34_25, .bool v34_26, .slice v34_27.base v34_27.len v34_27.cap, .slice v34_28.base v34_28.len v34_28.cap, .int .u8 v34_29, .int .i64 v34_30, .int .i64 v34_31, .int .i64 v34_32]] w9 (.bool false) fun (r35 : Bool) (w10 : World) =>
      VStr (some (!((e_6 != f_8) || (!r35)))) w10 l14.base l14.len fun (s40 : ByteArray) =>
      VStr (some (!((e_6 != f_8) || (!r35)))) w10 b_0.base b_0.len fun (s42 : ByteArray) =>
      VIf (((e_6 != f_8) || (!r35)) || (!(s40.toList == s42.toList))) (
        R (.returned (.bool false)) w10
      ) (
        VLd none w10 ⟨x_5, 0, none⟩ [CT.int .u8, CT.int .i64, CT.int .i64, CT.int .i64, CT.int .i64, CT.int .i64, CT.int .i64, CT.int .u8, CT.str, CT.str, CT.str, CT.bool, CT.int .i64, CT.int .u8, CT.bool, CT.str, CT.int .i64, CT.int .i64, CT.int .i64, CT.int .i64, CT.int .i64, CT.bool, CT.sl, CT.sl, CT.str, CT.int .i64, CT.bool, CT.sl, CT.sl, CT.int .u8, CT.int .i64, CT.int .i64, CT.int .i64] fun (v45_0 : Int) (v45_1 : Int) (v45_2 : Int) (v45_3 : Int) (v45_4 : Int) (v45_5 : Int) (v45_6 : Int) (v45_7 : Int) (v45_8 : ByteArray) (v45_9 : ByteArray) (v45_10 : ByteArray) (v45_11 : Bool) (v45_12 : Int) (v45_13 : Int) (v45_14 : Bool) (v45_15 : ByteArray) (v45_16 : Int) (v45_17 : Int) (v45_18 : Int) (v45_19 : Int) (v45_20 : Int) (v45_21 : Bool) (v45_22 : Sl) (v45_23 : Sl) (v45_24 : ByteArray) (v45_25 : Int) (v45_26 : Bool) (v45_27 : Sl) (v45_28 : Sl) (v45_29 : Int) (v45_30 : Int) (v45_31 : Int) (v45_32 : Int) =>
        VCall none Try.prog 13 #[.agg #[.int .u8 v45_0, .int .i64 v45_1, .int .i64 v45_2, .int .i64 v45_3, .int .i64 v45_4, .int .i64 v45_5, .int .i64 v45_6, .int .u8 v45_7, .string v45_8, .string v45_9, .string v45_10, .bool v45_11, .int .i64 v45_12, .int .u8 v45_13, .bool v45_14, .string v45_15, .int .i64 v45_16, .int .i64 v45_17, .int .i64 v45_18, .int .i64 v45_19, .int .i64 v45_20, .bool v45_21, .slice v45_22.base v45_22.len v45_22.cap, .slice v45_23.base v45_23.len v45_23.cap, .string v45_24, .int .i64 v45_25, .bool v45_26, .slice v45_27.base v45_27.len v45_27.cap, .slice v45_28.base v45_28.len v45_28.cap, .int .u8 v45_29, .int .i64 v45_30, .int .i64 v45_31, .int .i64 v45_32]] w10 (.tuple #[]) fun (w11 : World) =>
        VSet (IntKind.wrap .i64 (round_4 + 1)) fun (round_4' : Int) =>
        ∃ k', k' < k1 ∧ I1 k' round_4' w11
      )
    ) (
      R (.returned (.bool true)) w3
    )
  )
theorem sh_butterylaw13_MsgReads_ok (b_0 : Sl) (w : World) (R : Ending → World → Prop) (h : sh_butterylaw13_MsgReads b_0 w R) : Calls Try.prog 5 #[.slice b_0.base b_0.len b_0.cap] w R :=
  calls_of_sh (args := [.slice b_0.base b_0.len b_0.cap]) (.two .auto (.two (.two .auto (.two (.two .auto .auto) .auto)) (.two .auto (.two (.two .auto (.one (.loop [(4, .int .i64 0)] (.two (.two .auto (.two .auto .auto)) (.two (.one (.two .auto (.two .auto (.two (.two .auto (.two (.two .auto .auto) .auto)) .auto)))) .auto))))) (.two .auto .auto))))) Try.func5 (by kernel_rfl) (by kernel_rfl) (by kernel_rfl) h

/-- 6: buttery/butterylaw13.MsgNames -/
def sh_butterylaw13_MsgNames (w : World) (R : Ending → World → Prop) : Prop :=
  VCall none Try.prog 18 #[] w (.bool false) fun (r20 : Bool) (w1 : World) =>
  VIf (((((((((!r20) || false) || false) || false) || false) || false) || false) || false) || false) (
    R (.returned (.bool false)) w1
  ) (
    VCall none Try.prog 14 #[.agg #[.int .u8 8, .int .i64 2, .int .i64 0, .int .i64 0, .int .i64 0, .int .i64 0, .int .i64 0, .int .u8 0, .string ByteArray.empty, .string ByteArray.empty, .string ByteArray.empty, .bool false, .int .i64 0, .int .u8 0, .bool false, .string ByteArray.empty, .int .i64 0, .int .i64 0, .int .i64 0, .int .i64 0, .int .i64 0, .bool false, .slice none 0 0, .slice none 0 0, .string ByteArray.empty, .int .i64 0, .bool false, .slice none 0 0, .slice none 0 0, .int .u8 0, .int .i64 0, .int .i64 0, .int .i64 0]] w1 (.tuple #[.slice none 0 0, .int .i64 0]) fun (r40_0 : Sl) (r40_1 : Int) (w2 : World) =>
    VSet r40_1 fun (e_2 : Int) =>
    VCall none Try.prog 14 #[.agg #[.int .u8 0, .int .i64 0, .int .i64 0, .int .i64 0, .int .i64 0, .int .i64 0, .int .i64 0, .int .u8 0, .string ByteArray.empty, .string ByteArray.empty, .string ByteArray.empty, .bool false, .int .i64 0, .int .u8 0, .bool false, .string ByteArray.empty, .int .i64 0, .int .i64 0, .int .i64 0, .int .i64 0, .int .i64 0, .bool false, .slice none 0 0, .slice none 0 0, .string ByteArray.empty, .int .i64 0, .bool false, .slice none 0 0, .slice none 0 0, .int .u8 0, .int .i64 0, .int .i64 0, .int .i64 0]] w2 (.tuple #[.slice none 0 0, .int .i64 0]) fun (r45_0 : Sl) (r45_1 : Int) (w3 : World) =>
    VSet r45_1 fun (f_4 : Int) =>
    VCall none Try.prog 14 #[.agg #[.int .u8 20, .int .i64 0, .int .i64 0, .int .i64 0, .int .i64 0, .int .i64 0, .int .i64 0, .int .u8 0, .string ByteArray.empty, .string ByteArray.empty, .string ByteArray.empty, .bool false, .int .i64 0, .int .u8 0, .bool false, .string ByteArray.empty, .int .i64 0, .int .i64 0, .int .i64 0, .int .i64 0, .int .i64 0, .bool false, .slice none 0 0, .slice none 0 0, .string ByteArray.empty, .int .i64 0, .bool false, .slice none 0 0, .slice none 0 0, .int .u8 0, .int .i64 0, .int .i64 0, .int .i64 0]] w3 (.tuple #[.slice none 0 0, .int .i64 0]) fun (r50_0 : Sl) (r50_1 : Int) (w4 : World) =>
    VSet r50_1 fun (g_6 : Int) =>
    VMk none w4 5 1 1 #[.int .u8 0] 8192 8192 fun (b54 : Nat) (w5 : World) =>
    VStr none w5 (some ⟨b54, 0, none⟩) 8192 fun (s55 : ByteArray) =>
    VCall none Try.prog 14 #[.agg #[.int .u8 1, .int .i64 0, .int .i64 0, .int .i64 0, .int .i64 0, .int .i64 0, .int .i64 0, .int .u8 0, .string ByteArray.empty, .string ByteArray.empty, .string ByteArray.empty, .bool false, .int .i64 0, .int .u8 0, .bool false, .string ByteArray.empty, .int .i64 0, .int .i64 0, .int .i64 0, .int .i64 0, .int .i64 0, .bool false, .slice none 0 0, .slice none 0 0, .string s55, .int .i64 0, .bool false, .slice none 0 0, .slice none 0 0, .int .u8 0, .int .i64 0, .int .i64 0, .int .i64 0]] w5 (.tuple #[.slice none 0 0, .int .i64 0]) fun (r57_0 : Sl) (r57_1 : Int) (w6 : World) =>
    VSet r57_1 fun (h_8 : Int) =>
    VIf ((((e_2 != 0) || (f_4 != 1)) || (g_6 != 1)) || (h_8 != 40)) (
      R (.returned (.bool false)) w6
    ) (
      VSet (IntKind.wrap .i64 ((IntKind.wrap .i64 (8192 - ((r40_0.len : Nat) : Int))) - 1)) fun (room_9 : Int) =>
      VMk none w6 5 1 1 #[.int .u8 0] room_9 room_9 fun (b80 : Nat) (w7 : World) =>
      VStr none w7 (some ⟨b80, 0, none⟩) (Int.toNat room_9) fun (s81 : ByteArray) =>
      VCall none Try.prog 14 #[.agg #[.int .u8 8, .int .i64 2, .int .i64 0, .int .i64 0, .int .i64 0, .int .i64 0, .int .i64 0, .int .u8 0, .string ByteArray.empty, .string ByteArray.empty, .string ByteArray.empty, .bool false, .int .i64 0, .int .u8 0, .bool false, .string ByteArray.empty, .int .i64 0, .int .i64 0, .int .i64 0, .int .i64 0, .int .i64 0, .bool false, .slice none 0 0, .slice none 0 0, .string s81, .int .i64 0, .bool false, .slice none 0 0, .slice none 0 0, .int .u8 0, .int .i64 0, .int .i64 0, .int .i64 0]] w7 (.tuple #[.slice none 0 0, .int .i64 0]) fun (r83_0 : Sl) (r83_1 : Int) (w8 : World) =>
      VSet r83_1 fun (i_11 : Int) =>
      VMk none w8 5 1 1 #[.int .u8 0] (IntKind.wrap .i64 (room_9 + 1)) (IntKind.wrap .i64 (room_9 + 1)) fun (b89 : Nat) (w9 : World) =>
      VStr none w9 (some ⟨b89, 0, none⟩) (Int.toNat (IntKind.wrap .i64 (room_9 + 1))) fun (s90 : ByteArray) =>
      VCall none Try.prog 14 #[.agg #[.int .u8 8, .int .i64 2, .int .i64 0, .int .i64 0, .int .i64 0, .int .i64 0, .int .i64 0, .int .u8 0, .string ByteArray.empty, .string ByteArray.empty, .string ByteArray.empty, .bool false, .int .i64 0, .int .u8 0, .bool false, .string ByteArray.empty, .int .i64 0, .int .i64 0, .int .i64 0, .int .i64 0, .int .i64 0, .bool false, .slice none 0 0, .slice none 0 0, .string s90, .int .i64 0, .bool false, .slice none 0 0, .slice none 0 0, .int .u8 0, .int .i64 0, .int .i64 0, .int .i64 0]] w9 (.tuple #[.slice none 0 0, .int .i64 0]) fun (r92_0 : Sl) (r92_1 : Int) (w10 : World) =>
      VSet r92_1 fun (j_13 : Int) =>
      VIf ((i_11 != 0) || (j_13 != 40)) (
        R (.returned (.bool false)) w10
      ) (
        VNw none w10 (.cells #[] 5) fun (b101 : Nat) (w11 : World) =>
        VApp none w11 5 1 1 #[.int .u8 0] (some ⟨b101, 0, none⟩) 0 0 r40_0.len (fun news => Seg w11 r40_0.base r40_0.len 1 news) fun (l103 : Sl) (w12 : World) =>
        VIx none l103.base l103.len 0 fun (a105 : Addr) =>
        VSt none w12 a105 [.int .u8 0] fun (w13 : World) =>
        VNw none w13 (.cells #[] 5) fun (b106 : Nat) (w14 : World) =>
        VApp none w14 5 1 1 #[.int .u8 0] (some ⟨b106, 0, none⟩) 0 0 r40_0.len (fun news => Seg w14 r40_0.base r40_0.len 1 news) fun (l108 : Sl) (w15 : World) =>
        VIx none l108.base l108.len 0 fun (a110 : Addr) =>
        VSt none w15 a110 [.int .u8 20] fun (w16 : World) =>
        ∃ Φ1 : Sl → Int → Int → World → Prop, (
          ∀ (w17 : World), w17 = World.drew w16 →
          VCk none ((0 : Int) ≤ 0 ∧ (0 : Int) ≤ IntKind.wrap .i64 (((r40_0.len : Nat) : Int) - 1) ∧ (IntKind.wrap .i64 (((r40_0.len : Nat) : Int) - 1) : Int) ≤ ((r40_0.cap : Nat) : Int)) (
            (
              VNw none w17 (.cells #[] 5) fun (b118 : Nat) (w18 : World) =>
              (
                VApp none w18 5 1 1 #[.int .u8 0] (some ⟨b118, 0, none⟩) 0 0 r40_0.len (fun news => Seg w18 r40_0.base r40_0.len 1 news) fun (l120 : Sl) (w19 : World) =>
                VNw none w19 (.cells #[.int .u8 0] 5) fun (b121 : Nat) (w20 : World) =>
                VApp none w20 5 1 1 #[.int .u8 0] l120.base l120.len l120.cap 1 (fun news => Seg w20 (some ⟨b121, 0, none⟩) 1 1 news) fun (l122 : Sl) (w21 : World) =>
                VNw none w21 (.cells #[.slice none 0 0, .slice l103.base l103.len l103.cap, .slice l108.base l108.len l108.cap, .slice (cutB r40_0.base r40_0.cap 1 0) ((Int.toNat (IntKind.wrap .i64 (((r40_0.len : Nat) : Int) - 1))) - 0) (r40_0.cap - 0), .slice l122.base l122.len l122.cap] 38) fun (b123 : Nat) (w22 : World) =>
                Φ1 ⟨some ⟨b123, 0, none⟩, 5, 5⟩ ((5 : Nat) : Int) 0 w22
              ) ∧ (
                VNw none w18 (.cells #[.int .u8 0] 5) fun (b121 : Nat) (w23 : World) =>
                VApp none w23 5 1 1 #[.int .u8 0] (some ⟨b118, 0, none⟩) 0 0 r40_0.len (fun news => Seg w23 r40_0.base r40_0.len 1 news) fun (l120 : Sl) (w24 : World) =>
                VApp none w24 5 1 1 #[.int .u8 0] l120.base l120.len l120.cap 1 (fun news => Seg w24 (some ⟨b121, 0, none⟩) 1 1 news) fun (l122 : Sl) (w25 : World) =>
                VNw none w25 (.cells #[.slice none 0 0, .slice l103.base l103.len l103.cap, .slice l108.base l108.len l108.cap, .slice (cutB r40_0.base r40_0.cap 1 0) ((Int.toNat (IntKind.wrap .i64 (((r40_0.len : Nat) : Int) - 1))) - 0) (r40_0.cap - 0), .slice l122.base l122.len l122.cap] 38) fun (b123 : Nat) (w26 : World) =>
                Φ1 ⟨some ⟨b123, 0, none⟩, 5, 5⟩ ((5 : Nat) : Int) 0 w26
              )
            ) ∧ (
              VNw none w17 (.cells #[.int .u8 0] 5) fun (b121 : Nat) (w27 : World) =>
              VNw none w27 (.cells #[] 5) fun (b118 : Nat) (w28 : World) =>
              VApp none w28 5 1 1 #[.int .u8 0] (some ⟨b118, 0, none⟩) 0 0 r40_0.len (fun news => Seg w28 r40_0.base r40_0.len 1 news) fun (l120 : Sl) (w29 : World) =>
              VApp none w29 5 1 1 #[.int .u8 0] l120.base l120.len l120.cap 1 (fun news => Seg w29 (some ⟨b121, 0, none⟩) 1 1 news) fun (l122 : Sl) (w30 : World) =>
              VNw none w30 (.cells #[.slice none 0 0, .slice l103.base l103.len l103.cap, .slice l108.base l108.len l108.cap, .slice (cutB r40_0.base r40_0.cap 1 0) ((Int.toNat (IntKind.wrap .i64 (((r40_0.len : Nat) : Int) - 1))) - 0) (r40_0.cap - 0), .slice l122.base l122.len l122.cap] 38) fun (b123 : Nat) (w31 : World) =>
              Φ1 ⟨some ⟨b123, 0, none⟩, 5, 5⟩ ((5 : Nat) : Int) 0 w31
            )
          )
        ) ∧ ∀ (x123 : Sl) (x124 : Int) (x125 : Int) (w32 : World), Φ1 x123 x124 x125 w32 →
        ∃ I2 : Nat → Int → World → Prop, (∃ k, I2 k x125 w32) ∧ ∀ k2 (x125' : Int) (w33 : World), I2 k2 x125' w33 →
        VIf (decide (x125' < x124)) (
          VIx none x123.base x123.len x125' fun (a127 : Addr) =>
          VLd none w33 (Addr.add a127 ((Int.toNat x125') * 1)) [CT.sl] fun (v128 : Sl) =>
          VCall none Try.prog 16 #[.slice v128.base v128.len v128.cap] w33 (.tuple #[.agg #[.int .u8 0, .int .i64 0, .int .i64 0, .int .i64 0, .int .i64 0, .int .i64 0, .int .i64 0, .int .u8 0, .string ByteArray.empty, .string ByteArray.empty, .string ByteArray.empty, .bool false, .int .i64 0, .int .u8 0, .bool false, .string ByteArray.empty, .int .i64 0, .int .i64 0, .int .i64 0, .int .i64 0, .int .i64 0, .bool false, .slice none 0 0, .slice none 0 0, .string ByteArray.empty, .int .i64 0, .bool false, .slice none 0 0, .slice none 0 0, .int .u8 0, .int .i64 0, .int .i64 0, .int .i64 0], .int .i64 0]) fun (r131_0 : Int) (r131_1 : Int) (r131_2 : Int) (r131_3 : Int) (r131_4 : Int) (r131_5 : Int) (r131_6 : Int) (r131_7 : Int) (r131_8 : ByteArray) (r131_9 : ByteArray) (r131_10 : ByteArray) (r131_11 : Bool) (r131_12 : Int) (r131_13 : Int) (r131_14 : Bool) (r131_15 : ByteArray) (r131_16 : Int) (r131_17 : Int) (r131_18 : Int) (r131_19 : Int) (r131_20 : Int) (r131_21 : Bool) (r131_22 : Sl) (r131_23 : Sl) (r131_24 : ByteArray) (r131_25 : Int) (r131_26 : Bool) (r131_27 : Sl) (r131_28 : Sl) (r131_29 : Int) (r131_30 : Int) (r131_31 : Int) (r131_32 : Int) (r131_33 : Int) (w34 : World) =>
          VNw none w34 (.cells #[.int .u8 0, .int .i64 0, .int .i64 0, .int .i64 0, .int .i64 0, .int .i64 0, .int .i64 0, .int .u8 0, .string ByteArray.empty, .string ByteArray.empty, .string ByteArray.empty, .bool false, .int .i64 0, .int .u8 0, .bool false, .string ByteArray.empty, .int .i64 0, .int .i64 0, .int .i64 0, .int .i64 0, .int .i64 0, .bool false, .slice none 0 0, .slice none 0 0, .string ByteArray.empty, .int .i64 0, .bool false, .slice none 0 0, .slice none 0 0, .int .u8 0, .int .i64 0, .int .i64 0, .int .i64 0] 34) fun (b18 : Nat) (w35 : World) =>
          VSt none w35 ⟨b18, 0, none⟩ [.int .u8 r131_0, .int .i64 r131_1, .int .i64 r131_2, .int .i64 r131_3, .int .i64 r131_4, .int .i64 r131_5, .int .i64 r131_6, .int .u8 r131_7, .string r131_8, .string r131_9, .string r131_10, .bool r131_11, .int .i64 r131_12, .int .u8 r131_13, .bool r131_14, .string r131_15, .int .i64 r131_16, .int .i64 r131_17, .int .i64 r131_18, .int .i64 r131_19, .int .i64 r131_20, .bool r131_21, .slice r131_22.base r131_22.len r131_22.cap, .slice r131_23.base r131_23.len r131_23.cap, .string r131_24, .int .i64 r131_25, .bool r131_26, .slice r131_27.base r131_27.len r131_27.cap, .slice r131_28.base r131_28.len r131_28.cap, .int .u8 r131_29, .int .i64 r131_30, .int .i64 r131_31, .int .i64 r131_32] fun (w36 : World) =>
          VSet r131_33 fun (k_19 : Int) =>
          VIf (k_19 != 4) (
            R (.returned (.bool false)) w36
          ) (
            ∃ k', k' < k2 ∧ I2 k' (IntKind.wrap .i64 (x125' + 1)) w36
          )
        ) (
          R (.returned (.bool true)) w33
        )
      )
    )
  )
theorem sh_butterylaw13_MsgNames_ok (w : World) (R : Ending → World → Prop) (h : sh_butterylaw13_MsgNames w R) : Calls Try.prog 6 #[] w R :=
  calls_of_sh (args := []) (.two .auto (.two (.two .auto (.two (.two .auto .auto) .auto)) (.two .auto (.two .auto (.two .auto (.two .auto (.two (.two .auto (.two (.two .auto .auto) .auto)) (.two .auto (.two .auto (.two .auto (.two (.two .auto (.two (.two .auto .auto) .auto)) (.two .auto (.two .auto (.two .auto (.two .auto (.two (.two (.bjoin [(123, .slice none 0 0), (124, .int .i64 0), (125, .int .i64 0)] .auto) (.one (.loop [(125, .int .i64 0)] (.two .auto (.two (.two .auto .auto) (.two (.one (.two .auto (.two .auto (.two .auto (.two (.two .auto .auto) .auto))))) .auto)))))) (.two .auto .auto))))))))))))))))) Try.func6 (by kernel_rfl) (by kernel_rfl) (by kernel_rfl) h

/-- 7: buttery/butterylaw13.MsgBack -/
def sh_butterylaw13_MsgBack (a_0_0 : Int) (a_0_1 : Int) (a_0_2 : Int) (a_0_3 : Int) (a_0_4 : Int) (a_0_5 : Int) (a_0_6 : Int) (a_0_7 : Int) (a_0_8 : ByteArray) (a_0_9 : ByteArray) (a_0_10 : ByteArray) (a_0_11 : Bool) (a_0_12 : Int) (a_0_13 : Int) (a_0_14 : Bool) (a_0_15 : ByteArray) (a_0_16 : Int) (a_0_17 : Int) (a_0_18 : Int) (a_0_19 : Int) (a_0_20 : Int) (a_0_21 : Bool) (a_0_22 : Sl) (a_0_23 : Sl) (a_0_24 : ByteArray) (a_0_25 : Int) (a_0_26 : Bool) (a_0_27 : Sl) (a_0_28 : Sl) (a_0_29 : Int) (a_0_30 : Int) (a_0_31 : Int) (a_0_32 : Int) (b_1_0 : Int) (b_1_1 : Int) (b_1_2 : Int) (b_1_3 : Int) (b_1_4 : Int) (b_1_5 : Int) (b_1_6 : Int) (b_1_7 : Int) (b_1_8 : ByteArray) (b_1_9 : ByteArray) (b_1_10 : ByteArray) (b_1_11 : Bool) (b_1_12 : Int) (b_1_13 : Int) (b_1_14 : Bool) (b_1_15 : ByteArray) (b_1_16 : Int) (b_1_17 : Int) (b_1_18 : Int) (b_1_19 : Int) (b_1_20 : Int) (b_1_21 : Bool) (b_1_22 : Sl) (b_1_23 : Sl) (b_1_24 : ByteArray) (b_1_25 : Int) (b_1_26 : Bool) (b_1_27 : Sl) (b_1_28 : Sl) (b_1_29 : Int) (b_1_30 : Int) (b_1_31 : Int) (b_1_32 : Int) (w : World) (R : Ending → World → Prop) : Prop :=
  VNw none w (.cells #[.int .u8 a_0_0, .int .i64 a_0_1, .int .i64 a_0_2, .int .i64 a_0_3, .int .i64 a_0_4, .int .i64 a_0_5, .int .i64 a_0_6, .int .u8 a_0_7, .string a_0_8, .string a_0_9, .string a_0_10, .bool a_0_11, .int .i64 a_0_12, .int .u8 a_0_13, .bool a_0_14, .string a_0_15, .int .i64 a_0_16, .int .i64 a_0_17, .int .i64 a_0_18, .int .i64 a_0_19, .int .i64 a_0_20, .bool a_0_21, .slice a_0_22.base a_0_22.len a_0_22.cap, .slice a_0_23.base a_0_23.len a_0_23.cap, .string a_0_24, .int .i64 a_0_25, .bool a_0_26, .slice a_0_27.base a_0_27.len a_0_27.cap, .slice a_0_28.base a_0_28.len a_0_28.cap, .int .u8 a_0_29, .int .i64 a_0_30, .int .i64 a_0_31, .int .i64 a_0_32] 34) fun (a_2 : Nat) (w1 : World) =>
  VNw none w1 (.cells #[.int .u8 b_1_0, .int .i64 b_1_1, .int .i64 b_1_2, .int .i64 b_1_3, .int .i64 b_1_4, .int .i64 b_1_5, .int .i64 b_1_6, .int .u8 b_1_7, .string b_1_8, .string b_1_9, .string b_1_10, .bool b_1_11, .int .i64 b_1_12, .int .u8 b_1_13, .bool b_1_14, .string b_1_15, .int .i64 b_1_16, .int .i64 b_1_17, .int .i64 b_1_18, .int .i64 b_1_19, .int .i64 b_1_20, .bool b_1_21, .slice b_1_22.base b_1_22.len b_1_22.cap, .slice b_1_23.base b_1_23.len b_1_23.cap, .string b_1_24, .int .i64 b_1_25, .bool b_1_26, .slice b_1_27.base b_1_27.len b_1_27.cap, .slice b_1_28.base b_1_28.len b_1_28.cap, .int .u8 b_1_29, .int .i64 b_1_30, .int .i64 b_1_31, .int .i64 b_1_32] 34) fun (b_3 : Nat) (w2 : World) =>
  VCall none Try.prog 18 #[] w2 (.bool false) fun (r10 : Bool) (w3 : World) =>
  VIf (!r10) (
    R (.returned (.bool false)) w3
  ) (
    VLd none w3 ⟨a_2, 0, none⟩ [CT.int .u8, CT.int .i64, CT.int .i64, CT.int .i64, CT.int .i64, CT.int .i64, CT.int .i64, CT.int .u8, CT.str, CT.str, CT.str, CT.bool, CT.int .i64, CT.int .u8, CT.bool, CT.str, CT.int .i64, CT.int .i64, CT.int .i64, CT.int .i64, CT.int .i64, CT.bool, CT.sl, CT.sl, CT.str, CT.int .i64, CT.bool, CT.sl, CT.sl, CT.int .u8, CT.int .i64, CT.int .i64, CT.int .i64] fun (v13_0 : Int) (v13_1 : Int) (v13_2 : Int) (v13_3 : Int) (v13_4 : Int) (v13_5 : Int) (v13_6 : Int) (v13_7 : Int) (v13_8 : ByteArray) (v13_9 : ByteArray) (v13_10 : ByteArray) (v13_11 : Bool) (v13_12 : Int) (v13_13 : Int) (v13_14 : Bool) (v13_15 : ByteArray) (v13_16 : Int) (v13_17 : Int) (v13_18 : Int) (v13_19 : Int) (v13_20 : Int) (v13_21 : Bool) (v13_22 : Sl) (v13_23 : Sl) (v13_24 : ByteArray) (v13_25 : Int) (v13_26 : Bool) (v13_27 : Sl) (v13_28 : Sl) (v13_29 : Int) (v13_30 : Int) (v13_31 : Int) (v13_32 : Int) =>
    VCall none Try.prog 14 #[.agg #[.int .u8 v13_0, .int .i64 v13_1, .int .i64 v13_2, .int .i64 v13_3, .int .i64 v13_4, .int .i64 v13_5, .int .i64 v13_6, .int .u8 v13_7, .string v13_8, .string v13_9, .string v13_10, .bool v13_11, .int .i64 v13_12, .int .u8 v13_13, .bool v13_14, .string v13_15, .int .i64 v13_16, .int .i64 v13_17, .int .i64 v13_18, .int .i64 v13_19, .int .i64 v13_20, .bool v13_21, .slice v13_22.base v13_22.len v13_22.cap, .slice v13_23.base v13_23.len v13_23.cap, .string v13_24, .int .i64 v13_25, .bool v13_26, .slice v13_27.base v13_27.len v13_27.cap, .slice v13_28.base v13_28.len v13_28.cap, .int .u8 v13_29, .int .i64 v13_30, .int .i64 v13_31, .int .i64 v13_32]] w3 (.tuple #[.slice none 0 0, .int .i64 0]) fun (r14_0 : Sl) (r14_1 : Int) (w4 : World) =>
    VSet r14_1 fun (e_6 : Int) =>
    VIf (e_6 != 0) (
      R (.returned (.bool ((((r14_0.len : Nat) : Int) == 0) && ((e_6 == 1) || (e_6 == 40))))) w4
    ) (
      VCall none Try.prog 16 #[.slice r14_0.base r14_0.len r14_0.cap] w4 (.tuple #[.agg #[.int .u8 0, .int .i64 0, .int .i64 0, .int .i64 0, .int .i64 0, .int .i64 0, .int .i64 0, .int .u8 0, .string ByteArray.empty, .string ByteArray.empty, .string ByteArray.empty, .bool false, .int .i64 0, .int .u8 0, .bool false, .string ByteArray.empty, .int .i64 0, .int .i64 0, .int .i64 0, .int .i64 0, .int .i64 0, .bool false, .slice none 0 0, .slice none 0 0, .string ByteArray.empty, .int .i64 0, .bool false, .slice none 0 0, .slice none 0 0, .int .u8 0, .int .i64 0, .int .i64 0, .int .i64 0], .int .i64 0]) fun (r32_0 : Int) (r32_1 : Int) (r32_2 : Int) (r32_3 : Int) (r32_4 : Int) (r32_5 : Int) (r32_6 : Int) (r32_7 : Int) (r32_8 : ByteArray) (r32_9 : ByteArray) (r32_10 : ByteArray) (r32_11 : Bool) (r32_12 : Int) (r32_13 : Int) (r32_14 : Bool) (r32_15 : ByteArray) (r32_16 : Int) (r32_17 : Int) (r32_18 : Int) (r32_19 : Int) (r32_20 : Int) (r32_21 : Bool) (r32_22 : Sl) (r32_23 : Sl) (r32_24 : ByteArray) (r32_25 : Int) (r32_26 : Bool) (r32_27 : Sl) (r32_28 : Sl) (r32_29 : Int) (r32_30 : Int) (r32_31 : Int) (r32_32 : Int) (r32_33 : Int) (w5 : World) =>
      VNw none w5 (.cells #[.int .u8 0, .int .i64 0, .int .i64 0, .int .i64 0, .int .i64 0, .int .i64 0, .int .i64 0, .int .u8 0, .string ByteArray.empty, .string ByteArray.empty, .string ByteArray.empty, .bool false, .int .i64 0, .int .u8 0, .bool false, .string ByteArray.empty, .int .i64 0, .int .i64 0, .int .i64 0, .int .i64 0, .int .i64 0, .bool false, .slice none 0 0, .slice none 0 0, .string ByteArray.empty, .int .i64 0, .bool false, .slice none 0 0, .slice none 0 0, .int .u8 0, .int .i64 0, .int .i64 0, .int .i64 0] 34) fun (x_7 : Nat) (w6 : World) =>
      VSt none w6 ⟨x_7, 0, none⟩ [.int .u8 r32_0, .int .i64 r32_1, .int .i64 r32_2, .int .i64 r32_3, .int .i64 r32_4, .int .i64 r32_5, .int .i64 r32_6, .int .u8 r32_7, .string r32_8, .string r32_9, .string r32_10, .bool r32_11, .int .i64 r32_12, .int .u8 r32_13, .bool r32_14, .string r32_15, .int .i64 r32_16, .int .i64 r32_17, .int .i64 r32_18, .int .i64 r32_19, .int .i64 r32_20, .bool r32_21, .slice r32_22.base r32_22.len r32_22.cap, .slice r32_23.base r32_23.len r32_23.cap, .string r32_24, .int .i64 r32_25, .bool r32_26, .slice r32_27.base r32_27.len r32_27.cap, .slice r32_28.base r32_28.len r32_28.cap, .int .u8 r32_29, .int .i64 r32_30, .int .i64 r32_31, .int .i64 r32_32] fun (w7 : World) =>
      VSet r32_33 fun (e_6' : Int) =>
      VLd (some (!(e_6' != 0))) w7 ⟨x_7, 0, none⟩ [CT.int .u8, CT.int .i64, CT.int .i64, CT.int .i64, CT.int .i64, CT.int .i64, CT.int .i64, CT.int .u8, CT.str, CT.str, CT.str, CT.bool, CT.int .i64, CT.int .u8, CT.bool, CT.str, CT.int .i64, CT.int .i64, CT.int .i64, CT.int .i64, CT.int .i64, CT.bool, CT.sl, CT.sl, CT.str, CT.int .i64, CT.bool, CT.sl, CT.sl, CT.int .u8, CT.int .i64, CT.int .i64, CT.int .i64] fun (v38_0 : Int) (v38_1 : Int) (v38_2 : Int) (v38_3 : Int) (v38_4 : Int) (v38_5 : Int) (v38_6 : Int) (v38_7 : Int) (v38_8 : ByteArray) (v38_9 : ByteArray) (v38_10 : ByteArray) (v38_11 : Bool) (v38_12 : Int) (v38_13 : Int) (v38_14 : Bool) (v38_15 : ByteArray) (v38_16 : Int) (v38_17 : Int) (v38_18 : Int) (v38_19 : Int) (v38_20 : Int) (v38_21 : Bool) (v38_22 : Sl) (v38_23 : Sl) (v38_24 : ByteArray) (v38_25 : Int) (v38_26 : Bool) (v38_27 : Sl) (v38_28 : Sl) (v38_29 : Int) (v38_30 : Int) (v38_31 : Int) (v38_32 : Int) =>
      VLd (some (!(e_6' != 0))) w7 ⟨a_2, 0, none⟩ [CT.int .u8, CT.int .i64, CT.int .i64, CT.int .i64, CT.int .i64, CT.int .i64, CT.int .i64, CT.int .u8, CT.str, CT.str, CT.str, CT.bool, CT.int .i64, CT.int .u8, CT.bool, CT.str, CT.int .i64, CT.int .i64, CT.int .i64, CT.int .i64, CT.int .i64, CT.bool, CT.sl, CT.sl, CT.str, CT.int .i64, CT.bool, CT.sl, CT.sl, CT.int .u8, CT.int .i64, CT.int .i64, CT.int .i64] fun (v39_0 : Int) (v39_1 : Int) (v39_2 : Int) (v39_3 : Int) (v39_4 : Int) (v39_5 : Int) (v39_6 : Int) (v39_7 : Int) (v39_8 : ByteArray) (v39_9 : ByteArray) (v39_10 : ByteArray) (v39_11 : Bool) (v39_12 : Int) (v39_13 : Int) (v39_14 : Bool) (v39_15 : ByteArray) (v39_16 : Int) (v39_17 : Int) (v39_18 : Int) (v39_19 : Int) (v39_20 : Int) (v39_21 : Bool) (v39_22 : Sl) (v39_23 : Sl) (v39_24 : ByteArray) (v39_25 : Int) (v39_26 : Bool) (v39_27 : Sl) (v39_28 : Sl) (v39_29 : Int) (v39_30 : Int) (v39_31 : Int) (v39_32 : Int) =>
      VCall (some (!(e_6' != 0))) Try.prog 9 #[.agg #[.int .u8 v38_0, .int .i64 v38_1, .int .i64 v38_2, .int .i64 v38_3, .int .i64 v38_4, .int .i64 v38_5, .int .i64 v38_6, .int .u8 v38_7, .string v38_8, .string v38_9, .string v38_10, .bool v38_11, .int .i64 v38_12, .int .u8 v38_13, .bool v38_14, .string v38_15, .int .i64 v38_16, .int .i64 v38_17, .int .i64 v38_18, .int .i64 v38_19, .int .i64 v38_20, .bool v38_21, .slice v38_22.base v38_22.len v38_22.cap, .slice v38_23.base v38_23.len v38_23.cap, .string v38_24, .int .i64 v38_25, .bool v38_26, .slice v38_27.base v38_27.len v38_27.cap, .slice v38_28.base v38_28.len v38_28.cap, .int .u8 v38_29, .int .i64 v38_30, .int .i64 v38_31, .int .i64 v38_32], .agg #[.int .u8 v39_0, .int .i64 v39_1, .int .i64 v39_2, .int .i64 v39_3, .int .i64 v39_4, .int .i64 v39_5, .int .i64 v39_6, .int .u8 v39_7, .string v39_8, .string v39_9, .string v39_10, .bool v39_11, .int .i64 v39_12, .int .u8 v39_13, .bool v39_14, .string v39_15, .int .i64 v39_16, .int .i64 v39_17, .int .i64 v39_18, .int .i64 v39_19, .int .i64 v39_20, .bool v39_21, .slice v39_22.base v39_22.len v39_22.cap, .slice v39_23.base v39_23.len v39_23.cap, .string v39_24, .int .i64 v39_25, .bool v39_26, .slice v39_27.base v39_27.len v39_27.cap, .slice v39_28.base v39_28.len v39_28.cap, .int .u8 v39_29, .int .i64 v39_30, .int .i64 v39_31, .int .i64 v39_32]] w7 (.bool false) fun (r40 : Bool) (w8 : World) =>
      VIf (((e_6' != 0) || (!r40)) || (decide (((r14_0.len : Nat) : Int) > 8192))) (
        R (.returned (.bool false)) w8
      ) (
        VLd none w8 ⟨b_3, 0, none⟩ [CT.int .u8, CT.int .i64, CT.int .i64, CT.int .i64, CT.int .i64, CT.int .i64, CT.int .i64, CT.int .u8, CT.str, CT.str, CT.str, CT.bool, CT.int .i64, CT.int .u8, CT.bool, CT.str, CT.int .i64, CT.int .i64, CT.int .i64, CT.int .i64, CT.int .i64, CT.bool, CT.sl, CT.sl, CT.str, CT.int .i64, CT.bool, CT.sl, CT.sl, CT.int .u8, CT.int .i64, CT.int .i64, CT.int .i64] fun (v49_0 : Int) (v49_1 : Int) (v49_2 : Int) (v49_3 : Int) (v49_4 : Int) (v49_5 : Int) (v49_6 : Int) (v49_7 : Int) (v49_8 : ByteArray) (v49_9 : ByteArray) (v49_10 : ByteArray) (v49_11 : Bool) (v49_12 : Int) (v49_13 : Int) (v49_14 : Bool) (v49_15 : ByteArray) (v49_16 : Int) (v49_17 : Int) (v49_18 : Int) (v49_19 : Int) (v49_20 : Int) (v49_21 : Bool) (v49_22 : Sl) (v49_23 : Sl) (v49_24 : ByteArray) (v49_25 : Int) (v49_26 : Bool) (v49_27 : Sl) (v49_28 : Sl) (v49_29 : Int) (v49_30 : Int) (v49_31 : Int) (v49_32 : Int) =>
        VCall none Try.prog 14 #[.agg #[.int .u8 v49_0, .int .i64 v49_1, .int .i64 v49_2, .int .i64 v49_3, .int .i64 v49_4, .int .i64 v49_5, .int .i64 v49_6, .int .u8 v49_7, .string v49_8, .string v49_9, .string v49_10, .bool v49_11, .int .i64 v49_12, .int .u8 v49_13, .bool v49_14, .string v49_15, .int .i64 v49_16, .int .i64 v49_17, .int .i64 v49_18, .int .i64 v49_19, .int .i64 v49_20, .bool v49_21, .slice v49_22.base v49_22.len v49_22.cap, .slice v49_23.base v49_23.len v49_23.cap, .string v49_24, .int .i64 v49_25, .bool v49_26, .slice v49_27.base v49_27.len v49_27.cap, .slice v49_28.base v49_28.len v49_28.cap, .int .u8 v49_29, .int .i64 v49_30, .int .i64 v49_31, .int .i64 v49_32]] w8 (.tuple #[.slice none 0 0, .int .i64 0]) fun (r50_0 : Sl) (r50_1 : Int) (w9 : World) =>
        VSet r50_1 fun (f_9 : Int) =>
        ∀ (w10 : World), w10 = World.drew w9 →
        VStr (some (!(f_9 != 0))) w10 r14_0.base r14_0.len fun (s57 : ByteArray) =>
        VStr (some (!(f_9 != 0))) w10 r50_0.base r50_0.len fun (s59 : ByteArray) =>
        VLd (some (!(f_9 != 0))) w10 ⟨a_2, 0, none⟩ [CT.int .u8, CT.int .i64, CT.int .i64, CT.int .i64, CT.int .i64, CT.int .i64, CT.int .i64, CT.int .u8, CT.str, CT.str, CT.str, CT.bool, CT.int .i64, CT.int .u8, CT.bool, CT.str, CT.int .i64, CT.int .i64, CT.int .i64, CT.int .i64, CT.int .i64, CT.bool, CT.sl, CT.sl, CT.str, CT.int .i64, CT.bool, CT.sl, CT.sl, CT.int .u8, CT.int .i64, CT.int .i64, CT.int .i64] fun (v61_0 : Int) (v61_1 : Int) (v61_2 : Int) (v61_3 : Int) (v61_4 : Int) (v61_5 : Int) (v61_6 : Int) (v61_7 : Int) (v61_8 : ByteArray) (v61_9 : ByteArray) (v61_10 : ByteArray) (v61_11 : Bool) (v61_12 : Int) (v61_13 : Int) (v61_14 : Bool) (v61_15 : ByteArray) (v61_16 : Int) (v61_17 : Int) (v61_18 : Int) (v61_19 : Int) (v61_20 : Int) (v61_21 : Bool) (v61_22 : Sl) (v61_23 : Sl) (v61_24 : ByteArray) (v61_25 : Int) (v61_26 : Bool) (v61_27 : Sl) (v61_28 : Sl) (v61_29 : Int) (v61_30 : Int) (v61_31 : Int) (v61_32 : Int) =>
        VLd (some (!(f_9 != 0))) w10 ⟨b_3, 0, none⟩ [CT.int .u8, CT.int .i64, CT.int .i64, CT.int .i64, CT.int .i64, CT.int .i64, CT.int .i64, CT.int .u8, CT.str, CT.str, CT.str, CT.bool, CT.int .i64, CT.int .u8, CT.bool, CT.str, CT.int .i64, CT.int .i64, CT.int .i64, CT.int .i64, CT.int .i64, CT.bool, CT.sl, CT.sl, CT.str, CT.int .i64, CT.bool, CT.sl, CT.sl, CT.int .u8, CT.int .i64, CT.int .i64, CT.int .i64] fun (v62_0 : Int) (v62_1 : Int) (v62_2 : Int) (v62_3 : Int) (v62_4 : Int) (v62_5 : Int) (v62_6 : Int) (v62_7 : Int) (v62_8 : ByteArray) (v62_9 : ByteArray) (v62_10 : ByteArray) (v62_11 : Bool) (v62_12 : Int) (v62_13 : Int) (v62_14 : Bool) (v62_15 : ByteArray) (v62_16 : Int) (v62_17 : Int) (v62_18 : Int) (v62_19 : Int) (v62_20 : Int) (v62_21 : Bool) (v62_22 : Sl) (v62_23 : Sl) (v62_24 : ByteArray) (v62_25 : Int) (v62_26 : Bool) (v62_27 : Sl) (v62_28 : Sl) (v62_29 : Int) (v62_30 : Int) (v62_31 : Int) (v62_32 : Int) =>
        VCall (some (!(f_9 != 0))) Try.prog 9 #[.agg #[.int .u8 v61_0, .int .i64 v61_1, .int .i64 v61_2, .int .i64 v61_3, .int .i64 v61_4, .int .i64 v61_5, .int .i64 v61_6, .int .u8 v61_7, .string v61_8, .string v61_9, .string v61_10, .bool v61_11, .int .i64 v61_12, .int .u8 v61_13, .bool v61_14, .string v61_15, .int .i64 v61_16, .int .i64 v61_17, .int .i64 v61_18, .int .i64 v61_19, .int .i64 v61_20, .bool v61_21, .slice v61_22.base v61_22.len v61_22.cap, .slice v61_23.base v61_23.len v61_23.cap, .string v61_24, .int .i64 v61_25, .bool v61_26, .slice v61_27.base v61_27.len v61_27.cap, .slice v61_28.base v61_28.len v61_28.cap, .int .u8 v61_29, .int .i64 v61_30, .int .i64 v61_31, .int .i64 v61_32], .agg #[.int .u8 v62_0, .int .i64 v62_1, .int .i64 v62_2, .int .i64 v62_3, .int .i64 v62_4, .int .i64 v62_5, .int .i64 v62_6, .int .u8 v62_7, .string v62_8, .string v62_9, .string v62_10, .bool v62_11, .int .i64 v62_12, .int .u8 v62_13, .bool v62_14, .string v62_15, .int .i64 v62_16, .int .i64 v62_17, .int .i64 v62_18, .int .i64 v62_19, .int .i64 v62_20, .bool v62_21, .slice v62_22.base v62_22.len v62_22.cap, .slice v62_23.base v62_23.len v62_23.cap, .string v62_24, .int .i64 v62_25, .bool v62_26, .slice v62_27.base v62_27.len v62_27.cap, .slice v62_28.base v62_28.len v62_28.cap, .int .u8 v62_29, .int .i64 v62_30, .int .i64 v62_31, .int .i64 v62_32]] w10 (.bool false) fun (r63 : Bool) (w11 : World) =>
        ((!(f_9 != 0)) = true → Seg w11 r50_0.base r50_0.len 1 (strCells s59)) ∧
        ((!(f_9 != 0)) = true → Seg w11 r14_0.base r14_0.len 1 (strCells s57)) ∧
        R (.returned (.bool ((f_9 != 0) || ((s57.toList == s59.toList) == r63)))) w11
      )
    )
  )
theorem sh_butterylaw13_MsgBack_ok (a_0_0 : Int) (a_0_1 : Int) (a_0_2 : Int) (a_0_3 : Int) (a_0_4 : Int) (a_0_5 : Int) (a_0_6 : Int) (a_0_7 : Int) (a_0_8 : ByteArray) (a_0_9 : ByteArray) (a_0_10 : ByteArray) (a_0_11 : Bool) (a_0_12 : Int) (a_0_13 : Int) (a_0_14 : Bool) (a_0_15 : ByteArray) (a_0_16 : Int) (a_0_17 : Int) (a_0_18 : Int) (a_0_19 : Int) (a_0_20 : Int) (a_0_21 : Bool) (a_0_22 : Sl) (a_0_23 : Sl) (a_0_24 : ByteArray) (a_0_25 : Int) (a_0_26 : Bool) (a_0_27 : Sl) (a_0_28 : Sl) (a_0_29 : Int) (a_0_30 : Int) (a_0_31 : Int) (a_0_32 : Int) (b_1_0 : Int) (b_1_1 : Int) (b_1_2 : Int) (b_1_3 : Int) (b_1_4 : Int) (b_1_5 : Int) (b_1_6 : Int) (b_1_7 : Int) (b_1_8 : ByteArray) (b_1_9 : ByteArray) (b_1_10 : ByteArray) (b_1_11 : Bool) (b_1_12 : Int) (b_1_13 : Int) (b_1_14 : Bool) (b_1_15 : ByteArray) (b_1_16 : Int) (b_1_17 : Int) (b_1_18 : Int) (b_1_19 : Int) (b_1_20 : Int) (b_1_21 : Bool) (b_1_22 : Sl) (b_1_23 : Sl) (b_1_24 : ByteArray) (b_1_25 : Int) (b_1_26 : Bool) (b_1_27 : Sl) (b_1_28 : Sl) (b_1_29 : Int) (b_1_30 : Int) (b_1_31 : Int) (b_1_32 : Int) (w : World) (R : Ending → World → Prop) (h : sh_butterylaw13_MsgBack a_0_0 a_0_1 a_0_2 a_0_3 a_0_4 a_0_5 a_0_6 a_0_7 a_0_8 a_0_9 a_0_10 a_0_11 a_0_12 a_0_13 a_0_14 a_0_15 a_0_16 a_0_17 a_0_18 a_0_19 a_0_20 a_0_21 a_0_22 a_0_23 a_0_24 a_0_25 a_0_26 a_0_27 a_0_28 a_0_29 a_0_30 a_0_31 a_0_32 b_1_0 b_1_1 b_1_2 b_1_3 b_1_4 b_1_5 b_1_6 b_1_7 b_1_8 b_1_9 b_1_10 b_1_11 b_1_12 b_1_13 b_1_14 b_1_15 b_1_16 b_1_17 b_1_18 b_1_19 b_1_20 b_1_21 b_1_22 b_1_23 b_1_24 b_1_25 b_1_26 b_1_27 b_1_28 b_1_29 b_1_30 b_1_31 b_1_32 w R) : Calls Try.prog 7 #[.agg #[.int .u8 a_0_0, .int .i64 a_0_1, .int .i64 a_0_2, .int .i64 a_0_3, .int .i64 a_0_4, .int .i64 a_0_5, .int .i64 a_0_6, .int .u8 a_0_7, .string a_0_8, .string a_0_9, .string a_0_10, .bool a_0_11, .int .i64 a_0_12, .int .u8 a_0_13, .bool a_0_14, .string a_0_15, .int .i64 a_0_16, .int .i64 a_0_17, .int .i64 a_0_18, .int .i64 a_0_19, .int .i64 a_0_20, .bool a_0_21, .slice a_0_22.base a_0_22.len a_0_22.cap, .slice a_0_23.base a_0_23.len a_0_23.cap, .string a_0_24, .int .i64 a_0_25, .bool a_0_26, .slice a_0_27.base a_0_27.len a_0_27.cap, .slice a_0_28.base a_0_28.len a_0_28.cap, .int .u8 a_0_29, .int .i64 a_0_30, .int .i64 a_0_31, .int .i64 a_0_32], .agg #[.int .u8 b_1_0, .int .i64 b_1_1, .int .i64 b_1_2, .int .i64 b_1_3, .int .i64 b_1_4, .int .i64 b_1_5, .int .i64 b_1_6, .int .u8 b_1_7, .string b_1_8, .string b_1_9, .string b_1_10, .bool b_1_11, .int .i64 b_1_12, .int .u8 b_1_13, .bool b_1_14, .string b_1_15, .int .i64 b_1_16, .int .i64 b_1_17, .int .i64 b_1_18, .int .i64 b_1_19, .int .i64 b_1_20, .bool b_1_21, .slice b_1_22.base b_1_22.len b_1_22.cap, .slice b_1_23.base b_1_23.len b_1_23.cap, .string b_1_24, .int .i64 b_1_25, .bool b_1_26, .slice b_1_27.base b_1_27.len b_1_27.cap, .slice b_1_28.base b_1_28.len b_1_28.cap, .int .u8 b_1_29, .int .i64 b_1_30, .int .i64 b_1_31, .int .i64 b_1_32]] w R :=
  by
  apply calls_of_sh (P := Try.prog) (f := 7) (fn := Try.f7) (args := [.agg #[.int .u8 a_0_0, .int .i64 a_0_1, .int .i64 a_0_2, .int .i64 a_0_3, .int .i64 a_0_4, .int .i64 a_0_5, .int .i64 a_0_6, .int .u8 a_0_7, .string a_0_8, .string a_0_9, .string a_0_10, .bool a_0_11, .int .i64 a_0_12, .int .u8 a_0_13, .bool a_0_14, .string a_0_15, .int .i64 a_0_16, .int .i64 a_0_17, .int .i64 a_0_18, .int .i64 a_0_19, .int .i64 a_0_20, .bool a_0_21, .slice a_0_22.base a_0_22.len a_0_22.cap, .slice a_0_23.base a_0_23.len a_0_23.cap, .string a_0_24, .int .i64 a_0_25, .bool a_0_26, .slice a_0_27.base a_0_27.len a_0_27.cap, .slice a_0_28.base a_0_28.len a_0_28.cap, .int .u8 a_0_29, .int .i64 a_0_30, .int .i64 a_0_31, .int .i64 a_0_32], .agg #[.int .u8 b_1_0, .int .i64 b_1_1, .int .i64 b_1_2, .int .i64 b_1_3, .int .i64 b_1_4, .int .i64 b_1_5, .int .i64 b_1_6, .int .u8 b_1_7, .string b_1_8, .string b_1_9, .string b_1_10, .bool b_1_11, .int .i64 b_1_12, .int .u8 b_1_13, .bool b_1_14, .string b_1_15, .int .i64 b_1_16, .int .i64 b_1_17, .int .i64 b_1_18, .int .i64 b_1_19, .int .i64 b_1_20, .bool b_1_21, .slice b_1_22.base b_1_22.len b_1_22.cap, .slice b_1_23.base b_1_23.len b_1_23.cap, .string b_1_24, .int .i64 b_1_25, .bool b_1_26, .slice b_1_27.base b_1_27.len b_1_27.cap, .slice b_1_28.base b_1_28.len b_1_28.cap, .int .u8 b_1_29, .int .i64 b_1_30, .int .i64 b_1_31, .int .i64 b_1_32]]) (w := w) (R := R) (.two .auto (.two (.two .auto (.two (.two .auto .auto) .auto)) (.two .auto (.two (.two .auto (.two (.two .auto .auto) .auto)) (.two .auto (.two (.two .auto (.two (.two .auto .auto) .auto)) (.two .auto (.two .auto .auto)))))))) Try.func7
  · kernel_rfl
  · kernel_rfl
  · kernel_rfl
  · exact h

/-- 8: buttery/butterylaw13.MsgOnly -/
def sh_butterylaw13_MsgOnly (b_0 : Sl) (cut_1 : Int) (w : World) (R : Ending → World → Prop) : Prop :=
  VCall none Try.prog 18 #[] w (.bool false) fun (r10 : Bool) (w1 : World) =>
  VIf ((!r10) || (decide (((b_0.len : Nat) : Int) > 20000))) (
    VCall none Try.prog 18 #[] w1 (.bool false) fun (r17 : Bool) (w2 : World) =>
    R (.returned (.bool r17)) w2
  ) (
    VCall none Try.prog 16 #[.slice b_0.base b_0.len b_0.cap] w1 (.tuple #[.agg #[.int .u8 0, .int .i64 0, .int .i64 0, .int .i64 0, .int .i64 0, .int .i64 0, .int .i64 0, .int .u8 0, .string ByteArray.empty, .string ByteArray.empty, .string ByteArray.empty, .bool false, .int .i64 0, .int .u8 0, .bool false, .string ByteArray.empty, .int .i64 0, .int .i64 0, .int .i64 0, .int .i64 0, .int .i64 0, .bool false, .slice none 0 0, .slice none 0 0, .string ByteArray.empty, .int .i64 0, .bool false, .slice none 0 0, .slice none 0 0, .int .u8 0, .int .i64 0, .int .i64 0, .int .i64 0], .int .i64 0]) fun (r20_0 : Int) (r20_1 : Int) (r20_2 : Int) (r20_3 : Int) (r20_4 : Int) (r20_5 : Int) (r20_6 : Int) (r20_7 : Int) (r20_8 : ByteArray) (r20_9 : ByteArray) (r20_10 : ByteArray) (r20_11 : Bool) (r20_12 : Int) (r20_13 : Int) (r20_14 : Bool) (r20_15 : ByteArray) (r20_16 : Int) (r20_17 : Int) (r20_18 : Int) (r20_19 : Int) (r20_20 : Int) (r20_21 : Bool) (r20_22 : Sl) (r20_23 : Sl) (r20_24 : ByteArray) (r20_25 : Int) (r20_26 : Bool) (r20_27 : Sl) (r20_28 : Sl) (r20_29 : Int) (r20_30 : Int) (r20_31 : Int) (r20_32 : Int) (r20_33 : Int) (w3 : World) =>
    VNw none w3 (.cells #[.int .u8 0, .int .i64 0, .int .i64 0, .int .i64 0, .int .i64 0, .int .i64 0, .int .i64 0, .int .u8 0, .string ByteArray.empty, .string ByteArray.empty, .string ByteArray.empty, .bool false, .int .i64 0, .int .u8 0, .bool false, .string ByteArray.empty, .int .i64 0, .int .i64 0, .int .i64 0, .int .i64 0, .int .i64 0, .bool false, .slice none 0 0, .slice none 0 0, .string ByteArray.empty, .int .i64 0, .bool false, .slice none 0 0, .slice none 0 0, .int .u8 0, .int .i64 0, .int .i64 0, .int .i64 0] 34) fun (m_5 : Nat) (w4 : World) =>
    VSt none w4 ⟨m_5, 0, none⟩ [.int .u8 r20_0, .int .i64 r20_1, .int .i64 r20_2, .int .i64 r20_3, .int .i64 r20_4, .int .i64 r20_5, .int .i64 r20_6, .int .u8 r20_7, .string r20_8, .string r20_9, .string r20_10, .bool r20_11, .int .i64 r20_12, .int .u8 r20_13, .bool r20_14, .string r20_15, .int .i64 r20_16, .int .i64 r20_17, .int .i64 r20_18, .int .i64 r20_19, .int .i64 r20_20, .bool r20_21, .slice r20_22.base r20_22.len r20_22.cap, .slice r20_23.base r20_23.len r20_23.cap, .string r20_24, .int .i64 r20_25, .bool r20_26, .slice r20_27.base r20_27.len r20_27.cap, .slice r20_28.base r20_28.len r20_28.cap, .int .u8 r20_29, .int .i64 r20_30, .int .i64 r20_31, .int .i64 r20_32] fun (w5 : World) =>
    VSet r20_33 fun (e_6 : Int) =>
    VIf (e_6 != 0) (
      VLd (some (e_6 == 4)) w5 ⟨m_5, 0, none⟩ [CT.int .u8] fun (v29 : Int) =>
      R (.returned (.bool ((e_6 == 4) && (v29 == 0)))) w5
    ) (
      VLd none w5 ⟨m_5, 0, none⟩ [CT.int .u8, CT.int .i64, CT.int .i64, CT.int .i64, CT.int .i64, CT.int .i64, CT.int .i64, CT.int .u8, CT.str, CT.str, CT.str, CT.bool, CT.int .i64, CT.int .u8, CT.bool, CT.str, CT.int .i64, CT.int .i64, CT.int .i64, CT.int .i64, CT.int .i64, CT.bool, CT.sl, CT.sl, CT.str, CT.int .i64, CT.bool, CT.sl, CT.sl, CT.int .u8, CT.int .i64, CT.int .i64, CT.int .i64] fun (v33_0 : Int) (v33_1 : Int) (v33_2 : Int) (v33_3 : Int) (v33_4 : Int) (v33_5 : Int) (v33_6 : Int) (v33_7 : Int) (v33_8 : ByteArray) (v33_9 : ByteArray) (v33_10 : ByteArray) (v33_11 : Bool) (v33_12 : Int) (v33_13 : Int) (v33_14 : Bool) (v33_15 : ByteArray) (v33_16 : Int) (v33_17 : Int) (v33_18 : Int) (v33_19 : Int) (v33_20 : Int) (v33_21 : Bool) (v33_22 : Sl) (v33_23 : Sl) (v33_24 : ByteArray) (v33_25 : Int) (v33_26 : Bool) (v33_27 : Sl) (v33_28 : Sl) (v33_29 : Int) (v33_30 : Int) (v33_31 : Int) (v33_32 : Int) =>
      VCall none Try.prog 14 #[.agg #[.int .u8 v33_0, .int .i64 v33_1, .int .i64 v33_2, .int .i64 v33_3, .int .i64 v33_4, .int .i64 v33_5, .int .i64 v33_6, .int .u8 v33_7, .string v33_8, .string v33_9, .string v33_10, .bool v33_11, .int .i64 v33_12, .int .u8 v33_13, .bool v33_14, .string v33_15, .int .i64 v33_16, .int .i64 v33_17, .int .i64 v33_18, .int .i64 v33_19, .int .i64 v33_20, .bool v33_21, .slice v33_22.base v33_22.len v33_22.cap, .slice v33_23.base v33_23.len v33_23.cap, .string v33_24, .int .i64 v33_25, .bool v33_26, .slice v33_27.base v33_27.len v33_27.cap, .slice v33_28.base v33_28.len v33_28.cap, .int .u8 v33_29, .int .i64 v33_30, .int .i64 v33_31, .int .i64 v33_32]] w5 (.tuple #[.slice none 0 0, .int .i64 0]) fun (r34_0 : Sl) (r34_1 : Int) (w6 : World) =>
      VSet r34_1 fun (e_6' : Int) =>
      VStr (some (!(e_6' != 0))) w6 r34_0.base r34_0.len fun (s41 : ByteArray) =>
      VStr (some (!(e_6' != 0))) w6 b_0.base b_0.len fun (s43 : ByteArray) =>
      VIf ((e_6' != 0) || (!(s41.toList == s43.toList))) (
        R (.returned (.bool false)) w6
      ) (
        VCk none (((IntKind.wrap .u64 ((b_0.len : Nat) : Int)) : Int) ≠ 0) (
          VCk none ((0 : Int) ≤ 0 ∧ (0 : Int) ≤ IntKind.wrap .i64 (Int.tmod (IntKind.wrap .u64 cut_1) (IntKind.wrap .u64 ((b_0.len : Nat) : Int))) ∧ (IntKind.wrap .i64 (Int.tmod (IntKind.wrap .u64 cut_1) (IntKind.wrap .u64 ((b_0.len : Nat) : Int))) : Int) ≤ ((b_0.cap : Nat) : Int)) (
            VCall none Try.prog 16 #[.slice (cutB b_0.base b_0.cap 1 0) ((Int.toNat (IntKind.wrap .i64 (Int.tmod (IntKind.wrap .u64 cut_1) (IntKind.wrap .u64 ((b_0.len : Nat) : Int))))) - 0) (b_0.cap - 0)] w6 (.tuple #[.agg #[.int .u8 0, .int .i64 0, .int .i64 0, .int .i64 0, .int .i64 0, .int .i64 0, .int .i64 0, .int .u8 0, .string ByteArray.empty, .string ByteArray.empty, .string ByteArray.empty, .bool false, .int .i64 0, .int .u8 0, .bool false, .string ByteArray.empty, .int .i64 0, .int .i64 0, .int .i64 0, .int .i64 0, .int .i64 0, .bool false, .slice none 0 0, .slice none 0 0, .string ByteArray.empty, .int .i64 0, .bool false, .slice none 0 0, .slice none 0 0, .int .u8 0, .int .i64 0, .int .i64 0, .int .i64 0], .int .i64 0]) fun (r56_0 : Int) (r56_1 : Int) (r56_2 : Int) (r56_3 : Int) (r56_4 : Int) (r56_5 : Int) (r56_6 : Int) (r56_7 : Int) (r56_8 : ByteArray) (r56_9 : ByteArray) (r56_10 : ByteArray) (r56_11 : Bool) (r56_12 : Int) (r56_13 : Int) (r56_14 : Bool) (r56_15 : ByteArray) (r56_16 : Int) (r56_17 : Int) (r56_18 : Int) (r56_19 : Int) (r56_20 : Int) (r56_21 : Bool) (r56_22 : Sl) (r56_23 : Sl) (r56_24 : ByteArray) (r56_25 : Int) (r56_26 : Bool) (r56_27 : Sl) (r56_28 : Sl) (r56_29 : Int) (r56_30 : Int) (r56_31 : Int) (r56_32 : Int) (r56_33 : Int) (w7 : World) =>
            VNw none w7 (.cells #[.int .u8 0, .int .i64 0, .int .i64 0, .int .i64 0, .int .i64 0, .int .i64 0, .int .i64 0, .int .u8 0, .string ByteArray.empty, .string ByteArray.empty, .string ByteArray.empty, .bool false, .int .i64 0, .int .u8 0, .bool false, .string ByteArray.empty, .int .i64 0, .int .i64 0, .int .i64 0, .int .i64 0, .int .i64 0, .bool false, .slice none 0 0, .slice none 0 0, .string ByteArray.empty, .int .i64 0, .bool false, .slice none 0 0, .slice none 0 0, .int .u8 0, .int .i64 0, .int .i64 0, .int .i64 0] 34) fun (b8 : Nat) (w8 : World) =>
            VSt none w8 ⟨b8, 0, none⟩ [.int .u8 r56_0, .int .i64 r56_1, .int .i64 r56_2, .int .i64 r56_3, .int .i64 r56_4, .int .i64 r56_5, .int .i64 r56_6, .int .u8 r56_7, .string r56_8, .string r56_9, .string r56_10, .bool r56_11, .int .i64 r56_12, .int .u8 r56_13, .bool r56_14, .string r56_15, .int .i64 r56_16, .int .i64 r56_17, .int .i64 r56_18, .int .i64 r56_19, .int .i64 r56_20, .bool r56_21, .slice r56_22.base r56_22.len r56_22.cap, .slice r56_23.base r56_23.len r56_23.cap, .string r56_24, .int .i64 r56_25, .bool r56_26, .slice r56_27.base r56_27.len r56_27.cap, .slice r56_28.base r56_28.len r56_28.cap, .int .u8 r56_29, .int .i64 r56_30, .int .i64 r56_31, .int .i64 r56_32] fun (w9 : World) =>
            VSet r56_33 fun (f_9 : Int) =>
            R (.returned (.bool (f_9 == 4))) w9
          )
        )
      )
    )
  )
theorem sh_butterylaw13_MsgOnly_ok (b_0 : Sl) (cut_1 : Int) (w : World) (R : Ending → World → Prop) (h : sh_butterylaw13_MsgOnly b_0 cut_1 w R) : Calls Try.prog 8 #[.slice b_0.base b_0.len b_0.cap, .int .i64 cut_1] w R :=
  calls_of_sh (args := [.slice b_0.base b_0.len b_0.cap, .int .i64 cut_1]) (.two .auto (.two (.two .auto (.two (.two .auto .auto) .auto)) (.two .auto (.two (.two .auto (.two (.two .auto .auto) .auto)) (.two .auto (.two (.two .auto (.two (.two .auto .auto) .auto)) (.two .auto (.two .auto .auto)))))))) Try.func8 (by kernel_rfl) (by kernel_rfl) (by kernel_rfl) h

/-- 14: buttery/msg.Encode -/
def sh_msg_Encode (m_0_0 : Int) (m_0_1 : Int) (m_0_2 : Int) (m_0_3 : Int) (m_0_4 : Int) (m_0_5 : Int) (m_0_6 : Int) (m_0_7 : Int) (m_0_8 : ByteArray) (m_0_9 : ByteArray) (m_0_10 : ByteArray) (m_0_11 : Bool) (m_0_12 : Int) (m_0_13 : Int) (m_0_14 : Bool) (m_0_15 : ByteArray) (m_0_16 : Int) (m_0_17 : Int) (m_0_18 : Int) (m_0_19 : Int) (m_0_20 : Int) (m_0_21 : Bool) (m_0_22 : Sl) (m_0_23 : Sl) (m_0_24 : ByteArray) (m_0_25 : Int) (m_0_26 : Bool) (m_0_27 : Sl) (m_0_28 : Sl) (m_0_29 : Int) (m_0_30 : Int) (m_0_31 : Int) (m_0_32 : Int) (w : World) (R : Ending → World → Prop) : Prop :=
  VNw none w (.cells #[.int .u8 m_0_0, .int .i64 m_0_1, .int .i64 m_0_2, .int .i64 m_0_3, .int .i64 m_0_4, .int .i64 m_0_5, .int .i64 m_0_6, .int .u8 m_0_7, .string m_0_8, .string m_0_9, .string m_0_10, .bool m_0_11, .int .i64 m_0_12, .int .u8 m_0_13, .bool m_0_14, .string m_0_15, .int .i64 m_0_16, .int .i64 m_0_17, .int .i64 m_0_18, .int .i64 m_0_19, .int .i64 m_0_20, .bool m_0_21, .slice m_0_22.base m_0_22.len m_0_22.cap, .slice m_0_23.base m_0_23.len m_0_23.cap, .string m_0_24, .int .i64 m_0_25, .bool m_0_26, .slice m_0_27.base m_0_27.len m_0_27.cap, .slice m_0_28.base m_0_28.len m_0_28.cap, .int .u8 m_0_29, .int .i64 m_0_30, .int .i64 m_0_31, .int .i64 m_0_32] 34) fun (m_1 : Nat) (w1 : World) =>
  VLd none w1 ⟨m_1, 0, none⟩ [CT.int .u8] fun (v14 : Int) =>
  VLd (some (!(v14 == 0))) w1 ⟨m_1, 0, none⟩ [CT.int .u8] fun (v18 : Int) =>
  VIf ((v14 == 0) || (decide (v18 > 19))) (
    R (.returned (.tuple #[.slice none 0 0, .int .i64 1])) w1
  ) (
    VNw none w1 (.cells #[.slice none 0 0, .bool false] 66) fun (b22 : Nat) (w2 : World) =>
    VNw none w2 (.cells #[.pointer none] 64) fun (w_4 : Nat) (w3 : World) =>
    VSt none w3 ⟨w_4, 0, none⟩ [.pointer (some ⟨b22, 0, none⟩)] fun (w4 : World) =>
    VLd none w4 ⟨w_4, 0, none⟩ [CT.ptr] fun (v23 : Option Addr) =>
    VLd none w4 ⟨m_1, 0, none⟩ [CT.int .u8] fun (v25 : Int) =>
    VCall none Try.prog 29 #[.pointer v23, .int .u8 v25] w4 (.tuple #[]) fun (w5 : World) =>
    VLd none w5 ⟨m_1, 1, none⟩ [CT.int .i64] fun (v28 : Int) =>
    VLd none w5 ⟨m_1, 2, none⟩ [CT.int .i64] fun (v30 : Int) =>
    VLd none w5 ⟨m_1, 3, none⟩ [CT.int .i64] fun (v32 : Int) =>
    VLd none w5 ⟨m_1, 4, none⟩ [CT.int .i64] fun (v34 : Int) =>
    VLd none w5 ⟨m_1, 5, none⟩ [CT.int .i64] fun (v36 : Int) =>
    VLd none w5 ⟨m_1, 6, none⟩ [CT.int .i64] fun (v38 : Int) =>
    VNw none w5 (.cells #[.int .i64 v28, .int .i64 v30, .int .i64 v32, .int .i64 v34, .int .i64 v36, .int .i64 v38] 3) fun (b39 : Nat) (w6 : World) =>
    ∃ I1 : Nat → Int → World → Prop, (∃ k, I1 k 0 w6) ∧ ∀ k1 (x41 : Int) (w7 : World), I1 k1 x41 w7 →
    VIf (decide (x41 < ((6 : Nat) : Int))) (
      VIx none (some ⟨b39, 0, none⟩) 6 x41 fun (a43 : Addr) =>
      VLd none w7 (Addr.add a43 ((Int.toNat x41) * 1)) [CT.int .i64] fun (v44 : Int) =>
      VSet v44 fun (n_6 : Int) =>
      VLd none w7 ⟨w_4, 0, none⟩ [CT.ptr] fun (v45 : Option Addr) =>
      VCall none Try.prog 30 #[.pointer v45, .int .i64 n_6] w7 (.tuple #[]) fun (w8 : World) =>
      ∃ k', k' < k1 ∧ I1 k' (IntKind.wrap .i64 (x41 + 1)) w8
    ) (
      VLd none w7 ⟨w_4, 0, none⟩ [CT.ptr] fun (v49 : Option Addr) =>
      VLd none w7 ⟨m_1, 7, none⟩ [CT.int .u8] fun (v52 : Int) =>
      VCall none Try.prog 29 #[.pointer v49, .int .u8 v52] w7 (.tuple #[]) fun (w9 : World) =>
      VLd none w9 ⟨m_1, 8, none⟩ [CT.str] fun (v56 : ByteArray) =>
      VLd none w9 ⟨m_1, 9, none⟩ [CT.str] fun (v59 : ByteArray) =>
      VLd none w9 ⟨m_1, 10, none⟩ [CT.str] fun (v62 : ByteArray) =>
      VNw none w9 (.cells #[.string v56, .string v59, .string v62] 9) fun (b63 : Nat) (w10 : World) =>
      ∃ I2 : Nat → Int → World → Prop, (∃ k, I2 k 0 w10) ∧ ∀ k2 (x65 : Int) (w11 : World), I2 k2 x65 w11 →
      VIf (decide (x65 < ((3 : Nat) : Int))) (
        VIx none (some ⟨b63, 0, none⟩) 3 x65 fun (a67 : Addr) =>
        VLd none w11 (Addr.add a67 ((Int.toNat x65) * 1)) [CT.str] fun (v68 : ByteArray) =>
        VLd none w11 ⟨w_4, 0, none⟩ [CT.ptr] fun (v69 : Option Addr) =>
        VCall none Try.prog 31 #[.pointer v69, .string v68] w11 (.tuple #[]) fun (w12 : World) =>
        ∃ k', k' < k2 ∧ I2 k' (IntKind.wrap .i64 (x65 + 1)) w12
      ) (
        VLd none w11 ⟨w_4, 0, none⟩ [CT.ptr] fun (v73 : Option Addr) =>
        VLd none w11 ⟨m_1, 11, none⟩ [CT.bool] fun (v76 : Bool) =>
        VCall none Try.prog 32 #[.pointer v73, .bool v76] w11 (.tuple #[]) fun (w13 : World) =>
        VLd none w13 ⟨w_4, 0, none⟩ [CT.ptr] fun (v78 : Option Addr) =>
        VLd none w13 ⟨m_1, 12, none⟩ [CT.int .i64] fun (v80 : Int) =>
        VCall none Try.prog 30 #[.pointer v78, .int .i64 v80] w13 (.tuple #[]) fun (w14 : World) =>
        VLd none w14 ⟨w_4, 0, none⟩ [CT.ptr] fun (v82 : Option Addr) =>
        VLd none w14 ⟨m_1, 13, none⟩ [CT.int .u8, CT.bool, CT.str] fun (v84_0 : Int) (v84_1 : Bool) (v84_2 : ByteArray) =>
        VCall none Try.prog 33 #[.pointer v82, .agg #[.int .u8 v84_0, .bool v84_1, .string v84_2]] w14 (.tuple #[]) fun (w15 : World) =>
        VLd none w15 ⟨m_1, 16, none⟩ [CT.int .i64] fun (v87 : Int) =>
        VLd none w15 ⟨m_1, 17, none⟩ [CT.int .i64] fun (v89 : Int) =>
        VLd none w15 ⟨m_1, 18, none⟩ [CT.int .i64] fun (v91 : Int) =>
        VLd none w15 ⟨m_1, 19, none⟩ [CT.int .i64] fun (v93 : Int) =>
        VLd none w15 ⟨m_1, 20, none⟩ [CT.int .i64] fun (v95 : Int) =>
        VNw none w15 (.cells #[.int .i64 v87, .int .i64 v89, .int .i64 v91, .int .i64 v93, .int .i64 v95] 3) fun (b96 : Nat) (w16 : World) =>
        ∃ I3 : Nat → Int → World → Prop, (∃ k, I3 k 0 w16) ∧ ∀ k3 (x98 : Int) (w17 : World), I3 k3 x98 w17 →
        VIf (decide (x98 < ((5 : Nat) : Int))) (
          VIx none (some ⟨b96, 0, none⟩) 5 x98 fun (a100 : Addr) =>
          VLd none w17 (Addr.add a100 ((Int.toNat x98) * 1)) [CT.int .i64] fun (v101 : Int) =>
          VSet v101 fun (n_10 : Int) =>
          VLd none w17 ⟨w_4, 0, none⟩ [CT.ptr] fun (v102 : Option Addr) =>
          VCall none Try.prog 30 #[.pointer v102, .int .i64 n_10] w17 (.tuple #[]) fun (w18 : World) =>
          ∃ k', k' < k3 ∧ I3 k' (IntKind.wrap .i64 (x98 + 1)) w18
        ) (
          VLd none w17 ⟨w_4, 0, none⟩ [CT.ptr] fun (v106 : Option Addr) =>
          VLd none w17 ⟨m_1, 21, none⟩ [CT.bool] fun (v108 : Bool) =>
          VCall none Try.prog 32 #[.pointer v106, .bool v108] w17 (.tuple #[]) fun (w19 : World) =>
          VLd none w19 ⟨w_4, 0, none⟩ [CT.ptr] fun (v110 : Option Addr) =>
          VLd none w19 ⟨m_1, 22, none⟩ [CT.sl] fun (v112 : Sl) =>
          VCall none Try.prog 34 #[.pointer v110, .slice v112.base v112.len v112.cap, .func (.func 35) #[] #[.pointer (some ⟨w_4, 0, none⟩)]] w19 (.tuple #[]) fun (w20 : World) =>
          VLd none w20 ⟨w_4, 0, none⟩ [CT.ptr] fun (v115 : Option Addr) =>
          VLd none w20 ⟨m_1, 23, none⟩ [CT.sl] fun (v117 : Sl) =>
          VLd none w20 ⟨w_4, 0, none⟩ [CT.ptr] fun (v118 : Option Addr) =>
          VCall none Try.prog 36 #[.pointer v115, .slice v117.base v117.len v117.cap, .func (.func 30) #[.pointer v118] #[]] w20 (.tuple #[]) fun (w21 : World) =>
          VLd none w21 ⟨w_4, 0, none⟩ [CT.ptr] fun (v121 : Option Addr) =>
          VLd none w21 ⟨m_1, 24, none⟩ [CT.str] fun (v123 : ByteArray) =>
          VCall none Try.prog 31 #[.pointer v121, .string v123] w21 (.tuple #[]) fun (w22 : World) =>
          VLd none w22 ⟨w_4, 0, none⟩ [CT.ptr] fun (v125 : Option Addr) =>
          VLd none w22 ⟨m_1, 25, none⟩ [CT.int .i64] fun (v127 : Int) =>
          VCall none Try.prog 30 #[.pointer v125, .int .i64 v127] w22 (.tuple #[]) fun (w23 : World) =>
          VLd none w23 ⟨w_4, 0, none⟩ [CT.ptr] fun (v129 : Option Addr) =>
          VLd none w23 ⟨m_1, 26, none⟩ [CT.bool] fun (v131 : Bool) =>
          VCall none Try.prog 32 #[.pointer v129, .bool v131] w23 (.tuple #[]) fun (w24 : World) =>
          VLd none w24 ⟨w_4, 0, none⟩ [CT.ptr] fun (v133 : Option Addr) =>
          VLd none w24 ⟨m_1, 27, none⟩ [CT.sl] fun (v135 : Sl) =>
          VCall none Try.prog 37 #[.pointer v133, .slice v135.base v135.len v135.cap, .func (.func 38) #[] #[.pointer (some ⟨w_4, 0, none⟩)]] w24 (.tuple #[]) fun (w25 : World) =>
          VLd none w25 ⟨w_4, 0, none⟩ [CT.ptr] fun (v138 : Option Addr) =>
          VLd none w25 ⟨m_1, 28, none⟩ [CT.sl] fun (v140 : Sl) =>
          VCall none Try.prog 39 #[.pointer v138, .slice v140.base v140.len v140.cap, .func (.func 40) #[] #[.pointer (some ⟨w_4, 0, none⟩)]] w25 (.tuple #[]) fun (w26 : World) =>
          VLd none w26 ⟨w_4, 0, none⟩ [CT.ptr] fun (v143 : Option Addr) =>
          VLd none w26 ⟨m_1, 29, none⟩ [CT.int .u8] fun (v146 : Int) =>
          VCall none Try.prog 29 #[.pointer v143, .int .u8 v146] w26 (.tuple #[]) fun (w27 : World) =>
          VLd none w27 ⟨m_1, 30, none⟩ [CT.int .i64] fun (v150 : Int) =>
          VLd none w27 ⟨m_1, 31, none⟩ [CT.int .i64] fun (v153 : Int) =>
          VLd none w27 ⟨m_1, 32, none⟩ [CT.int .i64] fun (v156 : Int) =>
          VNw none w27 (.cells #[.int .i64 v150, .int .i64 v153, .int .i64 v156] 3) fun (b157 : Nat) (w28 : World) =>
          ∃ I4 : Nat → Int → World → Prop, (∃ k, I4 k 0 w28) ∧ ∀ k4 (x159 : Int) (w29 : World), I4 k4 x159 w29 →
          VIf (decide (x159 < ((3 : Nat) : Int))) (
            VIx none (some ⟨b157, 0, none⟩) 3 x159 fun (a161 : Addr) =>
            VLd none w29 (Addr.add a161 ((Int.toNat x159) * 1)) [CT.int .i64] fun (v162 : Int) =>
            VSet v162 fun (n_12 : Int) =>
            VLd none w29 ⟨w_4, 0, none⟩ [CT.ptr] fun (v163 : Option Addr) =>
            VCall none Try.prog 30 #[.pointer v163, .int .i64 n_12] w29 (.tuple #[]) fun (w30 : World) =>
            ∃ k', k' < k4 ∧ I4 k' (IntKind.wrap .i64 (x159 + 1)) w30
          ) (
            VLd none w29 ⟨w_4, 0, none⟩ [CT.ptr] fun (v167 : Option Addr) =>
            VNN none v167 fun (a168 : Addr) =>
            VLd none w29 (Addr.add a168 1) [CT.bool] fun (v170 : Bool) =>
            VIf v170 (
              R (.returned (.tuple #[.slice none 0 0, .int .i64 40])) w29
            ) (
              VLd none w29 ⟨w_4, 0, none⟩ [CT.ptr] fun (v171 : Option Addr) =>
              VNN none v171 fun (a172 : Addr) =>
              VLd none w29 a172 [CT.sl] fun (v174 : Sl) =>
              R (.returned (.tuple #[.slice v174.base v174.len v174.cap, .int .i64 0])) w29
            )
          )
        )
      )
    )
  )
theorem sh_msg_Encode_ok (m_0_0 : Int) (m_0_1 : Int) (m_0_2 : Int) (m_0_3 : Int) (m_0_4 : Int) (m_0_5 : Int) (m_0_6 : Int) (m_0_7 : Int) (m_0_8 : ByteArray) (m_0_9 : ByteArray) (m_0_10 : ByteArray) (m_0_11 : Bool) (m_0_12 : Int) (m_0_13 : Int) (m_0_14 : Bool) (m_0_15 : ByteArray) (m_0_16 : Int) (m_0_17 : Int) (m_0_18 : Int) (m_0_19 : Int) (m_0_20 : Int) (m_0_21 : Bool) (m_0_22 : Sl) (m_0_23 : Sl) (m_0_24 : ByteArray) (m_0_25 : Int) (m_0_26 : Bool) (m_0_27 : Sl) (m_0_28 : Sl) (m_0_29 : Int) (m_0_30 : Int) (m_0_31 : Int) (m_0_32 : Int) (w : World) (R : Ending → World → Prop) (h : sh_msg_Encode m_0_0 m_0_1 m_0_2 m_0_3 m_0_4 m_0_5 m_0_6 m_0_7 m_0_8 m_0_9 m_0_10 m_0_11 m_0_12 m_0_13 m_0_14 m_0_15 m_0_16 m_0_17 m_0_18 m_0_19 m_0_20 m_0_21 m_0_22 m_0_23 m_0_24 m_0_25 m_0_26 m_0_27 m_0_28 m_0_29 m_0_30 m_0_31 m_0_32 w R) : Calls Try.prog 14 #[.agg #[.int .u8 m_0_0, .int .i64 m_0_1, .int .i64 m_0_2, .int .i64 m_0_3, .int .i64 m_0_4, .int .i64 m_0_5, .int .i64 m_0_6, .int .u8 m_0_7, .string m_0_8, .string m_0_9, .string m_0_10, .bool m_0_11, .int .i64 m_0_12, .int .u8 m_0_13, .bool m_0_14, .string m_0_15, .int .i64 m_0_16, .int .i64 m_0_17, .int .i64 m_0_18, .int .i64 m_0_19, .int .i64 m_0_20, .bool m_0_21, .slice m_0_22.base m_0_22.len m_0_22.cap, .slice m_0_23.base m_0_23.len m_0_23.cap, .string m_0_24, .int .i64 m_0_25, .bool m_0_26, .slice m_0_27.base m_0_27.len m_0_27.cap, .slice m_0_28.base m_0_28.len m_0_28.cap, .int .u8 m_0_29, .int .i64 m_0_30, .int .i64 m_0_31, .int .i64 m_0_32]] w R :=
  by
  apply calls_of_sh (P := Try.prog) (f := 14) (fn := Try.f14) (args := [.agg #[.int .u8 m_0_0, .int .i64 m_0_1, .int .i64 m_0_2, .int .i64 m_0_3, .int .i64 m_0_4, .int .i64 m_0_5, .int .i64 m_0_6, .int .u8 m_0_7, .string m_0_8, .string m_0_9, .string m_0_10, .bool m_0_11, .int .i64 m_0_12, .int .u8 m_0_13, .bool m_0_14, .string m_0_15, .int .i64 m_0_16, .int .i64 m_0_17, .int .i64 m_0_18, .int .i64 m_0_19, .int .i64 m_0_20, .bool m_0_21, .slice m_0_22.base m_0_22.len m_0_22.cap, .slice m_0_23.base m_0_23.len m_0_23.cap, .string m_0_24, .int .i64 m_0_25, .bool m_0_26, .slice m_0_27.base m_0_27.len m_0_27.cap, .slice m_0_28.base m_0_28.len m_0_28.cap, .int .u8 m_0_29, .int .i64 m_0_30, .int .i64 m_0_31, .int .i64 m_0_32]]) (w := w) (R := R) (.two .auto (.two (.two .auto (.two (.two .auto .auto) .auto)) (.two .auto (.two .auto (.two (.two .auto (.one (.loop [(41, .int .i64 0)] (.two .auto (.two (.two .auto .auto) (.two (.one (.two .auto .auto)) .auto)))))) (.two .auto (.two (.two .auto (.one (.loop [(65, .int .i64 0)] (.two .auto (.two (.two .auto .auto) (.two (.one (.two .auto .auto)) .auto)))))) (.two .auto (.two .auto (.two .auto (.two (.two .auto (.one (.loop [(98, .int .i64 0)] (.two .auto (.two (.two .auto .auto) (.two (.one (.two .auto .auto)) .auto)))))) (.two .auto (.two .auto (.two .auto (.two .auto (.two .auto (.two .auto (.two .auto (.two .auto (.two .auto (.two (.two .auto (.one (.loop [(159, .int .i64 0)] (.two .auto (.two (.two .auto .auto) (.two (.one (.two .auto .auto)) .auto)))))) (.two (.two .auto (.two (.two .auto .auto) .auto)) (.two .auto .auto))))))))))))))))))))))) Try.func14
  · kernel_rfl
  · kernel_rfl
  · kernel_rfl
  · exact h

/-- 15: buttery/butteryref13.Encode -/
def sh_butteryref13_Encode (m_0_0 : Int) (m_0_1 : Int) (m_0_2 : Int) (m_0_3 : Int) (m_0_4 : Int) (m_0_5 : Int) (m_0_6 : Int) (m_0_7 : Int) (m_0_8 : ByteArray) (m_0_9 : ByteArray) (m_0_10 : ByteArray) (m_0_11 : Bool) (m_0_12 : Int) (m_0_13 : Int) (m_0_14 : Bool) (m_0_15 : ByteArray) (m_0_16 : Int) (m_0_17 : Int) (m_0_18 : Int) (m_0_19 : Int) (m_0_20 : Int) (m_0_21 : Bool) (m_0_22 : Sl) (m_0_23 : Sl) (m_0_24 : ByteArray) (m_0_25 : Int) (m_0_26 : Bool) (m_0_27 : Sl) (m_0_28 : Sl) (m_0_29 : Int) (m_0_30 : Int) (m_0_31 : Int) (m_0_32 : Int) (w : World) (R : Ending → World → Prop) : Prop :=
  VNw none w (.cells #[.int .u8 m_0_0, .int .i64 m_0_1, .int .i64 m_0_2, .int .i64 m_0_3, .int .i64 m_0_4, .int .i64 m_0_5, .int .i64 m_0_6, .int .u8 m_0_7, .string m_0_8, .string m_0_9, .string m_0_10, .bool m_0_11, .int .i64 m_0_12, .int .u8 m_0_13, .bool m_0_14, .string m_0_15, .int .i64 m_0_16, .int .i64 m_0_17, .int .i64 m_0_18, .int .i64 m_0_19, .int .i64 m_0_20, .bool m_0_21, .slice m_0_22.base m_0_22.len m_0_22.cap, .slice m_0_23.base m_0_23.len m_0_23.cap, .string m_0_24, .int .i64 m_0_25, .bool m_0_26, .slice m_0_27.base m_0_27.len m_0_27.cap, .slice m_0_28.base m_0_28.len m_0_28.cap, .int .u8 m_0_29, .int .i64 m_0_30, .int .i64 m_0_31, .int .i64 m_0_32] 34) fun (m_1 : Nat) (w1 : World) =>
  VLd none w1 ⟨m_1, 0, none⟩ [CT.int .u8] fun (v9 : Int) =>
  VLd (some (!(decide (v9 < 1)))) w1 ⟨m_1, 0, none⟩ [CT.int .u8] fun (v13 : Int) =>
  VIf ((decide (v9 < 1)) || (decide (v13 > 19))) (
    R (.returned (.tuple #[.slice none 0 0, .int .i64 1])) w1
  ) (
    VLd none w1 ⟨m_1, 0, none⟩ [CT.int .u8, CT.int .i64, CT.int .i64, CT.int .i64, CT.int .i64, CT.int .i64, CT.int .i64, CT.int .u8, CT.str, CT.str, CT.str, CT.bool, CT.int .i64, CT.int .u8, CT.bool, CT.str, CT.int .i64, CT.int .i64, CT.int .i64, CT.int .i64, CT.int .i64, CT.bool, CT.sl, CT.sl, CT.str, CT.int .i64, CT.bool, CT.sl, CT.sl, CT.int .u8, CT.int .i64, CT.int .i64, CT.int .i64] fun (v16_0 : Int) (v16_1 : Int) (v16_2 : Int) (v16_3 : Int) (v16_4 : Int) (v16_5 : Int) (v16_6 : Int) (v16_7 : Int) (v16_8 : ByteArray) (v16_9 : ByteArray) (v16_10 : ByteArray) (v16_11 : Bool) (v16_12 : Int) (v16_13 : Int) (v16_14 : Bool) (v16_15 : ByteArray) (v16_16 : Int) (v16_17 : Int) (v16_18 : Int) (v16_19 : Int) (v16_20 : Int) (v16_21 : Bool) (v16_22 : Sl) (v16_23 : Sl) (v16_24 : ByteArray) (v16_25 : Int) (v16_26 : Bool) (v16_27 : Sl) (v16_28 : Sl) (v16_29 : Int) (v16_30 : Int) (v16_31 : Int) (v16_32 : Int) =>
    VCall none Try.prog 41 #[.agg #[.int .u8 v16_0, .int .i64 v16_1, .int .i64 v16_2, .int .i64 v16_3, .int .i64 v16_4, .int .i64 v16_5, .int .i64 v16_6, .int .u8 v16_7, .string v16_8, .string v16_9, .string v16_10, .bool v16_11, .int .i64 v16_12, .int .u8 v16_13, .bool v16_14, .string v16_15, .int .i64 v16_16, .int .i64 v16_17, .int .i64 v16_18, .int .i64 v16_19, .int .i64 v16_20, .bool v16_21, .slice v16_22.base v16_22.len v16_22.cap, .slice v16_23.base v16_23.len v16_23.cap, .string v16_24, .int .i64 v16_25, .bool v16_26, .slice v16_27.base v16_27.len v16_27.cap, .slice v16_28.base v16_28.len v16_28.cap, .int .u8 v16_29, .int .i64 v16_30, .int .i64 v16_31, .int .i64 v16_32]] w1 (.int .i64 0) fun (r17 : Int) (w2 : World) =>
    VIf (decide (r17 > 8192)) (
      R (.returned (.tuple #[.slice none 0 0, .int .i64 40])) w2
    ) (
      VLd none w2 ⟨m_1, 0, none⟩ [CT.int .u8] fun (v20 : Int) =>
      VCall none Try.prog 42 #[.slice none 0 0, .int .u8 v20] w2 (.slice none 0 0) fun (r21 : Sl) (w3 : World) =>
      ∀ (w4 : World), w4 = World.drew w3 →
      VLd none w4 ⟨m_1, 1, none⟩ [CT.int .i64] fun (v24 : Int) =>
      VLd none w4 ⟨m_1, 2, none⟩ [CT.int .i64] fun (v27 : Int) =>
      VLd none w4 ⟨m_1, 3, none⟩ [CT.int .i64] fun (v30 : Int) =>
      VLd none w4 ⟨m_1, 4, none⟩ [CT.int .i64] fun (v33 : Int) =>
      VLd none w4 ⟨m_1, 5, none⟩ [CT.int .i64] fun (v36 : Int) =>
      VLd none w4 ⟨m_1, 6, none⟩ [CT.int .i64] fun (v39 : Int) =>
      VCall none Try.prog 43 #[.slice r21.base r21.len r21.cap, .int .i64 v24] w4 (.slice none 0 0) fun (r25 : Sl) (w5 : World) =>
      Rd w5 ⟨m_1, 6, none⟩ [.int .i64 v39] ∧
      Rd w5 ⟨m_1, 5, none⟩ [.int .i64 v36] ∧
      Rd w5 ⟨m_1, 4, none⟩ [.int .i64 v33] ∧
      Rd w5 ⟨m_1, 3, none⟩ [.int .i64 v30] ∧
      Rd w5 ⟨m_1, 2, none⟩ [.int .i64 v27] ∧
      VCall none Try.prog 43 #[.slice r25.base r25.len r25.cap, .int .i64 v27] w5 (.slice none 0 0) fun (r28 : Sl) (w6 : World) =>
      Rd w6 ⟨m_1, 6, none⟩ [.int .i64 v39] ∧
      Rd w6 ⟨m_1, 5, none⟩ [.int .i64 v36] ∧
      Rd w6 ⟨m_1, 4, none⟩ [.int .i64 v33] ∧
      Rd w6 ⟨m_1, 3, none⟩ [.int .i64 v30] ∧
      VCall none Try.prog 43 #[.slice r28.base r28.len r28.cap, .int .i64 v30] w6 (.slice none 0 0) fun (r31 : Sl) (w7 : World) =>
      Rd w7 ⟨m_1, 6, none⟩ [.int .i64 v39] ∧
      Rd w7 ⟨m_1, 5, none⟩ [.int .i64 v36] ∧
      Rd w7 ⟨m_1, 4, none⟩ [.int .i64 v33] ∧
      VCall none Try.prog 43 #[.slice r31.base r31.len r31.cap, .int .i64 v33] w7 (.slice none 0 0) fun (r34 : Sl) (w8 : World) =>
      Rd w8 ⟨m_1, 6, none⟩ [.int .i64 v39] ∧
      Rd w8 ⟨m_1, 5, none⟩ [.int .i64 v36] ∧
      VCall none Try.prog 43 #[.slice r34.base r34.len r34.cap, .int .i64 v36] w8 (.slice none 0 0) fun (r37 : Sl) (w9 : World) =>
      Rd w9 ⟨m_1, 6, none⟩ [.int .i64 v39] ∧
      VCall none Try.prog 43 #[.slice r37.base r37.len r37.cap, .int .i64 v39] w9 (.slice none 0 0) fun (r40 : Sl) (w10 : World) =>
      VLd none w10 ⟨m_1, 7, none⟩ [CT.int .u8] fun (v44 : Int) =>
      VCall none Try.prog 42 #[.slice r40.base r40.len r40.cap, .int .u8 v44] w10 (.slice none 0 0) fun (r45 : Sl) (w11 : World) =>
      ∀ (w12 : World), w12 = World.drew w11 →
      VLd none w12 ⟨m_1, 8, none⟩ [CT.str] fun (v49 : ByteArray) =>
      VLd none w12 ⟨m_1, 9, none⟩ [CT.str] fun (v53 : ByteArray) =>
      VLd none w12 ⟨m_1, 10, none⟩ [CT.str] fun (v57 : ByteArray) =>
      VCall none Try.prog 44 #[.slice r45.base r45.len r45.cap, .string v49] w12 (.slice none 0 0) fun (r50 : Sl) (w13 : World) =>
      Rd w13 ⟨m_1, 10, none⟩ [.string v57] ∧
      Rd w13 ⟨m_1, 9, none⟩ [.string v53] ∧
      VCall none Try.prog 44 #[.slice r50.base r50.len r50.cap, .string v53] w13 (.slice none 0 0) fun (r54 : Sl) (w14 : World) =>
      Rd w14 ⟨m_1, 10, none⟩ [.string v57] ∧
      VCall none Try.prog 44 #[.slice r54.base r54.len r54.cap, .string v57] w14 (.slice none 0 0) fun (r58 : Sl) (w15 : World) =>
      VLd none w15 ⟨m_1, 11, none⟩ [CT.bool] fun (v62 : Bool) =>
      VCall none Try.prog 45 #[.slice r58.base r58.len r58.cap, .bool v62] w15 (.slice none 0 0) fun (r63 : Sl) (w16 : World) =>
      ∀ (w17 : World), w17 = World.drew w16 →
      VLd none w17 ⟨m_1, 12, none⟩ [CT.int .i64] fun (v66 : Int) =>
      VLd none w17 ⟨m_1, 13, none⟩ [CT.int .u8, CT.bool, CT.str] fun (v69_0 : Int) (v69_1 : Bool) (v69_2 : ByteArray) =>
      VCall none Try.prog 43 #[.slice r63.base r63.len r63.cap, .int .i64 v66] w17 (.slice none 0 0) fun (r67 : Sl) (w18 : World) =>
      Rd w18 ⟨m_1, 13, none⟩ [.int .u8 v69_0, .bool v69_1, .string v69_2] ∧
      VCall none Try.prog 46 #[.slice r67.base r67.len r67.cap, .agg #[.int .u8 v69_0, .bool v69_1, .string v69_2]] w18 (.slice none 0 0) fun (r70 : Sl) (w19 : World) =>
      ∀ (w20 : World), w20 = World.drew w19 →
      VLd none w20 ⟨m_1, 16, none⟩ [CT.int .i64] fun (v73 : Int) =>
      VLd none w20 ⟨m_1, 17, none⟩ [CT.int .i64] fun (v76 : Int) =>
      VLd none w20 ⟨m_1, 18, none⟩ [CT.int .i64] fun (v79 : Int) =>
      VLd none w20 ⟨m_1, 19, none⟩ [CT.int .i64] fun (v82 : Int) =>
      VLd none w20 ⟨m_1, 20, none⟩ [CT.int .i64] fun (v85 : Int) =>
      VCall none Try.prog 43 #[.slice r70.base r70.len r70.cap, .int .i64 v73] w20 (.slice none 0 0) fun (r74 : Sl) (w21 : World) =>
      Rd w21 ⟨m_1, 20, none⟩ [.int .i64 v85] ∧
      Rd w21 ⟨m_1, 19, none⟩ [.int .i64 v82] ∧
      Rd w21 ⟨m_1, 18, none⟩ [.int .i64 v79] ∧
      Rd w21 ⟨m_1, 17, none⟩ [.int .i64 v76] ∧
      VCall none Try.prog 43 #[.slice r74.base r74.len r74.cap, .int .i64 v76] w21 (.slice none 0 0) fun (r77 : Sl) (w22 : World) =>
      Rd w22 ⟨m_1, 20, none⟩ [.int .i64 v85] ∧
      Rd w22 ⟨m_1, 19, none⟩ [.int .i64 v82] ∧
      Rd w22 ⟨m_1, 18, none⟩ [.int .i64 v79] ∧
      VCall none Try.prog 43 #[.slice r77.base r77.len r77.cap, .int .i64 v79] w22 (.slice none 0 0) fun (r80 : Sl) (w23 : World) =>
      Rd w23 ⟨m_1, 20, none⟩ [.int .i64 v85] ∧
      Rd w23 ⟨m_1, 19, none⟩ [.int .i64 v82] ∧
      VCall none Try.prog 43 #[.slice r80.base r80.len r80.cap, .int .i64 v82] w23 (.slice none 0 0) fun (r83 : Sl) (w24 : World) =>
      Rd w24 ⟨m_1, 20, none⟩ [.int .i64 v85] ∧
      VCall none Try.prog 43 #[.slice r83.base r83.len r83.cap, .int .i64 v85] w24 (.slice none 0 0) fun (r86 : Sl) (w25 : World) =>
      VLd none w25 ⟨m_1, 21, none⟩ [CT.bool] fun (v89 : Bool) =>
      VCall none Try.prog 45 #[.slice r86.base r86.len r86.cap, .bool v89] w25 (.slice none 0 0) fun (r90 : Sl) (w26 : World) =>
      VLd none w26 ⟨m_1, 22, none⟩ [CT.sl] fun (v93 : Sl) =>
      VCall none Try.prog 47 #[.slice r90.base r90.len r90.cap, .int .i64 ((v93.len : Nat) : Int)] w26 (.slice none 0 0) fun (r95 : Sl) (w27 : World) =>
      ∃ I1 : Nat → Sl → Int → World → Prop, (∃ k, I1 k r95 0 w27) ∧ ∀ k1 (b_4 : Sl) (i_5 : Int) (w28 : World), I1 k1 b_4 i_5 w28 →
      VLd none w28 ⟨m_1, 22, none⟩ [CT.sl] fun (v98 : Sl) =>
      VIf (decide (i_5 < ((v98.len : Nat) : Int))) (
        ∀ (w29 : World), w29 = World.drew w28 →
        VLd none w29 ⟨m_1, 22, none⟩ [CT.sl] fun (v105 : Sl) =>
        VIx none v105.base v105.len i_5 fun (a107 : Addr) =>
        VLd none w29 (Addr.add a107 ((Int.toNat i_5) * 4)) [CT.int .i64] fun (v109 : Int) =>
        VLd none w29 ⟨m_1, 22, none⟩ [CT.sl] fun (v112 : Sl) =>
        VIx none v112.base v112.len i_5 fun (a114 : Addr) =>
        VLd none w29 (Addr.add (Addr.add a114 ((Int.toNat i_5) * 4)) 1) [CT.int .u8] fun (v116 : Int) =>
        VCall none Try.prog 43 #[.slice b_4.base b_4.len b_4.cap, .int .i64 v109] w29 (.slice none 0 0) fun (r110 : Sl) (w30 : World) =>
        Rd w30 (Addr.add (Addr.add a114 ((Int.toNat i_5) * 4)) 1) [.int .u8 v116] ∧
        Rd w30 ⟨m_1, 22, none⟩ [.slice v112.base v112.len v112.cap] ∧
        VCall none Try.prog 42 #[.slice r110.base r110.len r110.cap, .int .u8 v116] w30 (.slice none 0 0) fun (r117 : Sl) (w31 : World) =>
        ∀ (w32 : World), w32 = World.drew w31 →
        VLd none w32 ⟨m_1, 22, none⟩ [CT.sl] fun (v120 : Sl) =>
        VIx none v120.base v120.len i_5 fun (a122 : Addr) =>
        VLd none w32 (Addr.add (Addr.add a122 ((Int.toNat i_5) * 4)) 2) [CT.str] fun (v124 : ByteArray) =>
        VLd none w32 ⟨m_1, 22, none⟩ [CT.sl] fun (v127 : Sl) =>
        VIx none v127.base v127.len i_5 fun (a129 : Addr) =>
        VLd none w32 (Addr.add (Addr.add a129 ((Int.toNat i_5) * 4)) 3) [CT.sl] fun (v131 : Sl) =>
        VCall none Try.prog 44 #[.slice r117.base r117.len r117.cap, .string v124] w32 (.slice none 0 0) fun (r125 : Sl) (w33 : World) =>
        Rd w33 (Addr.add (Addr.add a129 ((Int.toNat i_5) * 4)) 3) [.slice v131.base v131.len v131.cap] ∧
        Rd w33 ⟨m_1, 22, none⟩ [.slice v127.base v127.len v127.cap] ∧
        VCall none Try.prog 48 #[.slice r125.base r125.len r125.cap, .slice v131.base v131.len v131.cap] w33 (.slice none 0 0) fun (r132 : Sl) (w34 : World) =>
        VSet (IntKind.wrap .i64 (i_5 + 1)) fun (i_5' : Int) =>
        ∃ k', k' < k1 ∧ I1 k' r132 i_5' w34
      ) (
        VLd none w28 ⟨m_1, 23, none⟩ [CT.sl] fun (v135 : Sl) =>
        VCall none Try.prog 48 #[.slice b_4.base b_4.len b_4.cap, .slice v135.base v135.len v135.cap] w28 (.slice none 0 0) fun (r136 : Sl) (w35 : World) =>
        ∀ (w36 : World), w36 = World.drew w35 →
        VLd none w36 ⟨m_1, 24, none⟩ [CT.str] fun (v139 : ByteArray) =>
        VLd none w36 ⟨m_1, 25, none⟩ [CT.int .i64] fun (v142 : Int) =>
        VLd none w36 ⟨m_1, 26, none⟩ [CT.bool] fun (v145 : Bool) =>
        VCall none Try.prog 44 #[.slice r136.base r136.len r136.cap, .string v139] w36 (.slice none 0 0) fun (r140 : Sl) (w37 : World) =>
        Rd w37 ⟨m_1, 26, none⟩ [.bool v145] ∧
        Rd w37 ⟨m_1, 25, none⟩ [.int .i64 v142] ∧
        VCall none Try.prog 43 #[.slice r140.base r140.len r140.cap, .int .i64 v142] w37 (.slice none 0 0) fun (r143 : Sl) (w38 : World) =>
        Rd w38 ⟨m_1, 26, none⟩ [.bool v145] ∧
        VCall none Try.prog 45 #[.slice r143.base r143.len r143.cap, .bool v145] w38 (.slice none 0 0) fun (r146 : Sl) (w39 : World) =>
        VLd none w39 ⟨m_1, 27, none⟩ [CT.sl] fun (v149 : Sl) =>
        VCall none Try.prog 47 #[.slice r146.base r146.len r146.cap, .int .i64 ((v149.len : Nat) : Int)] w39 (.slice none 0 0) fun (r151 : Sl) (w40 : World) =>
        ∃ I2 : Nat → Sl → Int → World → Prop, (∃ k, I2 k r151 0 w40) ∧ ∀ k2 (b_4' : Sl) (i_6 : Int) (w41 : World), I2 k2 b_4' i_6 w41 →
        VLd none w41 ⟨m_1, 27, none⟩ [CT.sl] fun (v154 : Sl) =>
        VIf (decide (i_6 < ((v154.len : Nat) : Int))) (
          ∀ (w42 : World), w42 = World.drew w41 →
          VLd none w42 ⟨m_1, 27, none⟩ [CT.sl] fun (v161 : Sl) =>
          VIx none v161.base v161.len i_6 fun (a163 : Addr) =>
          VLd none w42 (Addr.add a163 ((Int.toNat i_6) * 2)) [CT.str] fun (v165 : ByteArray) =>
          VLd none w42 ⟨m_1, 27, none⟩ [CT.sl] fun (v168 : Sl) =>
          VIx none v168.base v168.len i_6 fun (a170 : Addr) =>
          VLd none w42 (Addr.add (Addr.add a170 ((Int.toNat i_6) * 2)) 1) [CT.str] fun (v172 : ByteArray) =>
          VCall none Try.prog 44 #[.slice b_4'.base b_4'.len b_4'.cap, .string v165] w42 (.slice none 0 0) fun (r166 : Sl) (w43 : World) =>
          Rd w43 (Addr.add (Addr.add a170 ((Int.toNat i_6) * 2)) 1) [.string v172] ∧
          Rd w43 ⟨m_1, 27, none⟩ [.slice v168.base v168.len v168.cap] ∧
          VCall none Try.prog 44 #[.slice r166.base r166.len r166.cap, .string v172] w43 (.slice none 0 0) fun (r173 : Sl) (w44 : World) =>
          VSet (IntKind.wrap .i64 (i_6 + 1)) fun (i_6' : Int) =>
          ∃ k', k' < k2 ∧ I2 k' r173 i_6' w44
        ) (
          VLd none w41 ⟨m_1, 28, none⟩ [CT.sl] fun (v176 : Sl) =>
          VCall none Try.prog 47 #[.slice b_4'.base b_4'.len b_4'.cap, .int .i64 ((v176.len : Nat) : Int)] w41 (.slice none 0 0) fun (r178 : Sl) (w45 : World) =>
          ∃ I3 : Nat → Sl → Int → World → Prop, (∃ k, I3 k r178 0 w45) ∧ ∀ k3 (b_4'' : Sl) (i_7 : Int) (w46 : World), I3 k3 b_4'' i_7 w46 →
          VLd none w46 ⟨m_1, 28, none⟩ [CT.sl] fun (v181 : Sl) =>
          VIf (decide (i_7 < ((v181.len : Nat) : Int))) (
            ∀ (w47 : World), w47 = World.drew w46 →
            VLd none w47 ⟨m_1, 28, none⟩ [CT.sl] fun (v188 : Sl) =>
            VIx none v188.base v188.len i_7 fun (a190 : Addr) =>
            VLd none w47 (Addr.add a190 ((Int.toNat i_7) * 5)) [CT.int .i64] fun (v192 : Int) =>
            VLd none w47 ⟨m_1, 28, none⟩ [CT.sl] fun (v195 : Sl) =>
            VIx none v195.base v195.len i_7 fun (a197 : Addr) =>
            VLd none w47 (Addr.add (Addr.add a197 ((Int.toNat i_7) * 5)) 1) [CT.int .i64] fun (v199 : Int) =>
            VLd none w47 ⟨m_1, 28, none⟩ [CT.sl] fun (v202 : Sl) =>
            VIx none v202.base v202.len i_7 fun (a204 : Addr) =>
            VLd none w47 (Addr.add (Addr.add a204 ((Int.toNat i_7) * 5)) 2) [CT.int .u8, CT.bool, CT.str] fun (v206_0 : Int) (v206_1 : Bool) (v206_2 : ByteArray) =>
            VCall none Try.prog 43 #[.slice b_4''.base b_4''.len b_4''.cap, .int .i64 v192] w47 (.slice none 0 0) fun (r193 : Sl) (w48 : World) =>
            Rd w48 (Addr.add (Addr.add a204 ((Int.toNat i_7) * 5)) 2) [.int .u8 v206_0, .bool v206_1, .string v206_2] ∧
            Rd w48 ⟨m_1, 28, none⟩ [.slice v202.base v202.len v202.cap] ∧
            Rd w48 (Addr.add (Addr.add a197 ((Int.toNat i_7) * 5)) 1) [.int .i64 v199] ∧
            Rd w48 ⟨m_1, 28, none⟩ [.slice v195.base v195.len v195.cap] ∧
            VCall none Try.prog 43 #[.slice r193.base r193.len r193.cap, .int .i64 v199] w48 (.slice none 0 0) fun (r200 : Sl) (w49 : World) =>
            Rd w49 (Addr.add (Addr.add a204 ((Int.toNat i_7) * 5)) 2) [.int .u8 v206_0, .bool v206_1, .string v206_2] ∧
            Rd w49 ⟨m_1, 28, none⟩ [.slice v202.base v202.len v202.cap] ∧
            VCall none Try.prog 46 #[.slice r200.base r200.len r200.cap, .agg #[.int .u8 v206_0, .bool v206_1, .string v206_2]] w49 (.slice none 0 0) fun (r207 : Sl) (w50 : World) =>
            VSet (IntKind.wrap .i64 (i_7 + 1)) fun (i_7' : Int) =>
            ∃ k', k' < k3 ∧ I3 k' r207 i_7' w50
          ) (
            ∀ (w51 : World), w51 = World.drew w46 →
            VLd none w51 ⟨m_1, 29, none⟩ [CT.int .u8] fun (v211 : Int) =>
            VLd none w51 ⟨m_1, 30, none⟩ [CT.int .i64] fun (v215 : Int) =>
            VLd none w51 ⟨m_1, 31, none⟩ [CT.int .i64] fun (v219 : Int) =>
            VLd none w51 ⟨m_1, 32, none⟩ [CT.int .i64] fun (v223 : Int) =>
            VCall none Try.prog 42 #[.slice b_4''.base b_4''.len b_4''.cap, .int .u8 v211] w51 (.slice none 0 0) fun (r212 : Sl) (w52 : World) =>
            Rd w52 ⟨m_1, 32, none⟩ [.int .i64 v223] ∧
            Rd w52 ⟨m_1, 31, none⟩ [.int .i64 v219] ∧
            Rd w52 ⟨m_1, 30, none⟩ [.int .i64 v215] ∧
            VCall none Try.prog 43 #[.slice r212.base r212.len r212.cap, .int .i64 v215] w52 (.slice none 0 0) fun (r216 : Sl) (w53 : World) =>
            Rd w53 ⟨m_1, 32, none⟩ [.int .i64 v223] ∧
            Rd w53 ⟨m_1, 31, none⟩ [.int .i64 v219] ∧
            VCall none Try.prog 43 #[.slice r216.base r216.len r216.cap, .int .i64 v219] w53 (.slice none 0 0) fun (r220 : Sl) (w54 : World) =>
            Rd w54 ⟨m_1, 32, none⟩ [.int .i64 v223] ∧
            VCall none Try.prog 43 #[.slice r220.base r220.len r220.cap, .int .i64 v223] w54 (.slice none 0 0) fun (r224 : Sl) (w55 : World) =>
            VIf (decide (((r224.len : Nat) : Int) > 8192)) (
              R (.returned (.tuple #[.slice none 0 0, .int .i64 40])) w55
            ) (
              R (.returned (.tuple #[.slice r224.base r224.len r224.cap, .int .i64 0])) w55
            )
          )
        )
      )
    )
  )
theorem sh_butteryref13_Encode_ok (m_0_0 : Int) (m_0_1 : Int) (m_0_2 : Int) (m_0_3 : Int) (m_0_4 : Int) (m_0_5 : Int) (m_0_6 : Int) (m_0_7 : Int) (m_0_8 : ByteArray) (m_0_9 : ByteArray) (m_0_10 : ByteArray) (m_0_11 : Bool) (m_0_12 : Int) (m_0_13 : Int) (m_0_14 : Bool) (m_0_15 : ByteArray) (m_0_16 : Int) (m_0_17 : Int) (m_0_18 : Int) (m_0_19 : Int) (m_0_20 : Int) (m_0_21 : Bool) (m_0_22 : Sl) (m_0_23 : Sl) (m_0_24 : ByteArray) (m_0_25 : Int) (m_0_26 : Bool) (m_0_27 : Sl) (m_0_28 : Sl) (m_0_29 : Int) (m_0_30 : Int) (m_0_31 : Int) (m_0_32 : Int) (w : World) (R : Ending → World → Prop) (h : sh_butteryref13_Encode m_0_0 m_0_1 m_0_2 m_0_3 m_0_4 m_0_5 m_0_6 m_0_7 m_0_8 m_0_9 m_0_10 m_0_11 m_0_12 m_0_13 m_0_14 m_0_15 m_0_16 m_0_17 m_0_18 m_0_19 m_0_20 m_0_21 m_0_22 m_0_23 m_0_24 m_0_25 m_0_26 m_0_27 m_0_28 m_0_29 m_0_30 m_0_31 m_0_32 w R) : Calls Try.prog 15 #[.agg #[.int .u8 m_0_0, .int .i64 m_0_1, .int .i64 m_0_2, .int .i64 m_0_3, .int .i64 m_0_4, .int .i64 m_0_5, .int .i64 m_0_6, .int .u8 m_0_7, .string m_0_8, .string m_0_9, .string m_0_10, .bool m_0_11, .int .i64 m_0_12, .int .u8 m_0_13, .bool m_0_14, .string m_0_15, .int .i64 m_0_16, .int .i64 m_0_17, .int .i64 m_0_18, .int .i64 m_0_19, .int .i64 m_0_20, .bool m_0_21, .slice m_0_22.base m_0_22.len m_0_22.cap, .slice m_0_23.base m_0_23.len m_0_23.cap, .string m_0_24, .int .i64 m_0_25, .bool m_0_26, .slice m_0_27.base m_0_27.len m_0_27.cap, .slice m_0_28.base m_0_28.len m_0_28.cap, .int .u8 m_0_29, .int .i64 m_0_30, .int .i64 m_0_31, .int .i64 m_0_32]] w R :=
  by
  apply calls_of_sh (P := Try.prog) (f := 15) (fn := Try.f15) (args := [.agg #[.int .u8 m_0_0, .int .i64 m_0_1, .int .i64 m_0_2, .int .i64 m_0_3, .int .i64 m_0_4, .int .i64 m_0_5, .int .i64 m_0_6, .int .u8 m_0_7, .string m_0_8, .string m_0_9, .string m_0_10, .bool m_0_11, .int .i64 m_0_12, .int .u8 m_0_13, .bool m_0_14, .string m_0_15, .int .i64 m_0_16, .int .i64 m_0_17, .int .i64 m_0_18, .int .i64 m_0_19, .int .i64 m_0_20, .bool m_0_21, .slice m_0_22.base m_0_22.len m_0_22.cap, .slice m_0_23.base m_0_23.len m_0_23.cap, .string m_0_24, .int .i64 m_0_25, .bool m_0_26, .slice m_0_27.base m_0_27.len m_0_27.cap, .slice m_0_28.base m_0_28.len m_0_28.cap, .int .u8 m_0_29, .int .i64 m_0_30, .int .i64 m_0_31, .int .i64 m_0_32]]) (w := w) (R := R) (.two .auto (.two (.two .auto (.two (.two .auto .auto) .auto)) (.two (.two .auto (.two (.two .auto .auto) .auto)) (.two .auto (.two .auto (.two .auto (.two .auto (.two .auto (.two .auto (.two .auto (.two .auto (.two .auto (.two (.two .auto (.one (.loop [(4, .slice none 0 0), (5, .int .i64 0)] (.two (.two .auto (.two .auto .auto)) (.two (.one (.two .auto .auto)) .auto))))) (.two .auto (.two .auto (.two .auto (.two (.two .auto (.one (.loop [(4, .slice none 0 0), (6, .int .i64 0)] (.two (.two .auto (.two .auto .auto)) (.two (.one .auto) .auto))))) (.two .auto (.two (.two .auto (.one (.loop [(4, .slice none 0 0), (7, .int .i64 0)] (.two (.two .auto (.two .auto .auto)) (.two (.one .auto) .auto))))) (.two .auto (.two (.two .auto (.two (.two .auto .auto) .auto)) (.two .auto .auto)))))))))))))))))))))) Try.func15
  · kernel_rfl
  · kernel_rfl
  · kernel_rfl
  · exact h

/-- 16: buttery/msg.Decode -/
def sh_msg_Decode (b_0 : Sl) (w : World) (R : Ending → World → Prop) : Prop :=
  VNw none w (.cells #[.int .u8 0, .int .i64 0, .int .i64 0, .int .i64 0, .int .i64 0, .int .i64 0, .int .i64 0, .int .u8 0, .string ByteArray.empty, .string ByteArray.empty, .string ByteArray.empty, .bool false, .int .i64 0, .int .u8 0, .bool false, .string ByteArray.empty, .int .i64 0, .int .i64 0, .int .i64 0, .int .i64 0, .int .i64 0, .bool false, .slice none 0 0, .slice none 0 0, .string ByteArray.empty, .int .i64 0, .bool false, .slice none 0 0, .slice none 0 0, .int .u8 0, .int .i64 0, .int .i64 0, .int .i64 0] 34) fun (b2 : Nat) (w1 : World) =>
  VIf (decide (((b_0.len : Nat) : Int) > 8192)) (
    VSt none w1 ⟨b2, 0, none⟩ [.int .u8 0, .int .i64 0, .int .i64 0, .int .i64 0, .int .i64 0, .int .i64 0, .int .i64 0, .int .u8 0, .string ByteArray.empty, .string ByteArray.empty, .string ByteArray.empty, .bool false, .int .i64 0, .int .u8 0, .bool false, .string ByteArray.empty, .int .i64 0, .int .i64 0, .int .i64 0, .int .i64 0, .int .i64 0, .bool false, .slice none 0 0, .slice none 0 0, .string ByteArray.empty, .int .i64 0, .bool false, .slice none 0 0, .slice none 0 0, .int .u8 0, .int .i64 0, .int .i64 0, .int .i64 0] fun (w2 : World) =>
    VLd none w2 ⟨b2, 0, none⟩ [CT.int .u8, CT.int .i64, CT.int .i64, CT.int .i64, CT.int .i64, CT.int .i64, CT.int .i64, CT.int .u8, CT.str, CT.str, CT.str, CT.bool, CT.int .i64, CT.int .u8, CT.bool, CT.str, CT.int .i64, CT.int .i64, CT.int .i64, CT.int .i64, CT.int .i64, CT.bool, CT.sl, CT.sl, CT.str, CT.int .i64, CT.bool, CT.sl, CT.sl, CT.int .u8, CT.int .i64, CT.int .i64, CT.int .i64] fun (res2_0 : Int) (res2_1 : Int) (res2_2 : Int) (res2_3 : Int) (res2_4 : Int) (res2_5 : Int) (res2_6 : Int) (res2_7 : Int) (res2_8 : ByteArray) (res2_9 : ByteArray) (res2_10 : ByteArray) (res2_11 : Bool) (res2_12 : Int) (res2_13 : Int) (res2_14 : Bool) (res2_15 : ByteArray) (res2_16 : Int) (res2_17 : Int) (res2_18 : Int) (res2_19 : Int) (res2_20 : Int) (res2_21 : Bool) (res2_22 : Sl) (res2_23 : Sl) (res2_24 : ByteArray) (res2_25 : Int) (res2_26 : Bool) (res2_27 : Sl) (res2_28 : Sl) (res2_29 : Int) (res2_30 : Int) (res2_31 : Int) (res2_32 : Int) =>
    R (.returned (.tuple #[.agg #[.int .u8 res2_0, .int .i64 res2_1, .int .i64 res2_2, .int .i64 res2_3, .int .i64 res2_4, .int .i64 res2_5, .int .i64 res2_6, .int .u8 res2_7, .string res2_8, .string res2_9, .string res2_10, .bool res2_11, .int .i64 res2_12, .int .u8 res2_13, .bool res2_14, .string res2_15, .int .i64 res2_16, .int .i64 res2_17, .int .i64 res2_18, .int .i64 res2_19, .int .i64 res2_20, .bool res2_21, .slice res2_22.base res2_22.len res2_22.cap, .slice res2_23.base res2_23.len res2_23.cap, .string res2_24, .int .i64 res2_25, .bool res2_26, .slice res2_27.base res2_27.len res2_27.cap, .slice res2_28.base res2_28.len res2_28.cap, .int .u8 res2_29, .int .i64 res2_30, .int .i64 res2_31, .int .i64 res2_32], .int .i64 4])) w2
  ) (
    VCall none Try.prog 49 #[.slice b_0.base b_0.len b_0.cap] w1 (.pointer none) fun (r11 : Option Addr) (w3 : World) =>
    VNw none w3 (.cells #[.pointer none] 90) fun (r_4 : Nat) (w4 : World) =>
    VSt none w4 ⟨r_4, 0, none⟩ [.pointer r11] fun (w5 : World) =>
    VLd none w5 ⟨r_4, 0, none⟩ [CT.ptr] fun (v13 : Option Addr) =>
    VCall none Try.prog 50 #[.agg #[.pointer v13]] w5 (.int .u8 0) fun (r14 : Int) (w6 : World) =>
    VNw none w6 (.cells #[.int .u8 0, .int .i64 0, .int .i64 0, .int .i64 0, .int .i64 0, .int .i64 0, .int .i64 0, .int .u8 0, .string ByteArray.empty, .string ByteArray.empty, .string ByteArray.empty, .bool false, .int .i64 0, .int .u8 0, .bool false, .string ByteArray.empty, .int .i64 0, .int .i64 0, .int .i64 0, .int .i64 0, .int .i64 0, .bool false, .slice none 0 0, .slice none 0 0, .string ByteArray.empty, .int .i64 0, .bool false, .slice none 0 0, .slice none 0 0, .int .u8 0, .int .i64 0, .int .i64 0, .int .i64 0] 34) fun (m_5 : Nat) (w7 : World) =>
    VSt none w7 ⟨m_5, 0, none⟩ [.int .u8 r14, .int .i64 0, .int .i64 0, .int .i64 0, .int .i64 0, .int .i64 0, .int .i64 0, .int .u8 0, .string ByteArray.empty, .string ByteArray.empty, .string ByteArray.empty, .bool false, .int .i64 0, .int .u8 0, .bool false, .string ByteArray.empty, .int .i64 0, .int .i64 0, .int .i64 0, .int .i64 0, .int .i64 0, .bool false, .slice none 0 0, .slice none 0 0, .string ByteArray.empty, .int .i64 0, .bool false, .slice none 0 0, .slice none 0 0, .int .u8 0, .int .i64 0, .int .i64 0, .int .i64 0] fun (w8 : World) =>
    ∀ (w9 : World), w9 = World.drew w8 →
    VLd none w9 ⟨r_4, 0, none⟩ [CT.ptr] fun (v16 : Option Addr) =>
    VLd none w9 ⟨r_4, 0, none⟩ [CT.ptr] fun (v18 : Option Addr) =>
    VLd none w9 ⟨r_4, 0, none⟩ [CT.ptr] fun (v20 : Option Addr) =>
    VLd none w9 ⟨r_4, 0, none⟩ [CT.ptr] fun (v22 : Option Addr) =>
    VLd none w9 ⟨r_4, 0, none⟩ [CT.ptr] fun (v24 : Option Addr) =>
    VLd none w9 ⟨r_4, 0, none⟩ [CT.ptr] fun (v26 : Option Addr) =>
    VCall none Try.prog 51 #[.agg #[.pointer v16]] w9 (.int .i64 0) fun (r17 : Int) (w10 : World) =>
    Rd w10 ⟨r_4, 0, none⟩ [.pointer v26] ∧
    Rd w10 ⟨r_4, 0, none⟩ [.pointer v24] ∧
    Rd w10 ⟨r_4, 0, none⟩ [.pointer v22] ∧
    Rd w10 ⟨r_4, 0, none⟩ [.pointer v20] ∧
    Rd w10 ⟨r_4, 0, none⟩ [.pointer v18] ∧
    VCall none Try.prog 51 #[.agg #[.pointer v18]] w10 (.int .i64 0) fun (r19 : Int) (w11 : World) =>
    Rd w11 ⟨r_4, 0, none⟩ [.pointer v26] ∧
    Rd w11 ⟨r_4, 0, none⟩ [.pointer v24] ∧
    Rd w11 ⟨r_4, 0, none⟩ [.pointer v22] ∧
    Rd w11 ⟨r_4, 0, none⟩ [.pointer v20] ∧
    VCall none Try.prog 51 #[.agg #[.pointer v20]] w11 (.int .i64 0) fun (r21 : Int) (w12 : World) =>
    Rd w12 ⟨r_4, 0, none⟩ [.pointer v26] ∧
    Rd w12 ⟨r_4, 0, none⟩ [.pointer v24] ∧
    Rd w12 ⟨r_4, 0, none⟩ [.pointer v22] ∧
    VCall none Try.prog 51 #[.agg #[.pointer v22]] w12 (.int .i64 0) fun (r23 : Int) (w13 : World) =>
    Rd w13 ⟨r_4, 0, none⟩ [.pointer v26] ∧
    Rd w13 ⟨r_4, 0, none⟩ [.pointer v24] ∧
    VCall none Try.prog 51 #[.agg #[.pointer v24]] w13 (.int .i64 0) fun (r25 : Int) (w14 : World) =>
    Rd w14 ⟨r_4, 0, none⟩ [.pointer v26] ∧
    VCall none Try.prog 51 #[.agg #[.pointer v26]] w14 (.int .i64 0) fun (r27 : Int) (w15 : World) =>
    VSt none w15 ⟨m_5, 1, none⟩ [.int .i64 r17] fun (w16 : World) =>
    VSt none w16 ⟨m_5, 2, none⟩ [.int .i64 r19] fun (w17 : World) =>
    VSt none w17 ⟨m_5, 3, none⟩ [.int .i64 r21] fun (w18 : World) =>
    VSt none w18 ⟨m_5, 4, none⟩ [.int .i64 r23] fun (w19 : World) =>
    VSt none w19 ⟨m_5, 5, none⟩ [.int .i64 r25] fun (w20 : World) =>
    VSt none w20 ⟨m_5, 6, none⟩ [.int .i64 r27] fun (w21 : World) =>
    ∀ (w22 : World), w22 = World.drew w21 →
    VLd none w22 ⟨r_4, 0, none⟩ [CT.ptr] fun (v34 : Option Addr) =>
    VLd none w22 ⟨r_4, 0, none⟩ [CT.ptr] fun (v36 : Option Addr) =>
    VLd none w22 ⟨r_4, 0, none⟩ [CT.ptr] fun (v38 : Option Addr) =>
    VLd none w22 ⟨r_4, 0, none⟩ [CT.ptr] fun (v40 : Option Addr) =>
    VLd none w22 ⟨r_4, 0, none⟩ [CT.ptr] fun (v43 : Option Addr) =>
    VCall none Try.prog 50 #[.agg #[.pointer v34]] w22 (.int .u8 0) fun (r35 : Int) (w23 : World) =>
    Rd w23 ⟨r_4, 0, none⟩ [.pointer v43] ∧
    Rd w23 ⟨r_4, 0, none⟩ [.pointer v40] ∧
    Rd w23 ⟨r_4, 0, none⟩ [.pointer v38] ∧
    Rd w23 ⟨r_4, 0, none⟩ [.pointer v36] ∧
    VCall none Try.prog 52 #[.agg #[.pointer v36]] w23 (.string ByteArray.empty) fun (r37 : ByteArray) (w24 : World) =>
    Rd w24 ⟨r_4, 0, none⟩ [.pointer v43] ∧
    Rd w24 ⟨r_4, 0, none⟩ [.pointer v40] ∧
    Rd w24 ⟨r_4, 0, none⟩ [.pointer v38] ∧
    VCall none Try.prog 52 #[.agg #[.pointer v38]] w24 (.string ByteArray.empty) fun (r39 : ByteArray) (w25 : World) =>
    Rd w25 ⟨r_4, 0, none⟩ [.pointer v43] ∧
    Rd w25 ⟨r_4, 0, none⟩ [.pointer v40] ∧
    VCall none Try.prog 52 #[.agg #[.pointer v40]] w25 (.string ByteArray.empty) fun (r41 : ByteArray) (w26 : World) =>
    Rd w26 ⟨r_4, 0, none⟩ [.pointer v43] ∧
    VCall none Try.prog 53 #[.pointer v43] w26 (.bool false) fun (r44 : Bool) (w27 : World) =>
    VSt none w27 ⟨m_5, 7, none⟩ [.int .u8 r35, .string r37, .string r39, .string r41, .bool r44] fun (w28 : World) =>
    ∀ (w29 : World), w29 = World.drew w28 →
    VLd none w29 ⟨r_4, 0, none⟩ [CT.ptr] fun (v47 : Option Addr) =>
    VLd none w29 ⟨r_4, 0, none⟩ [CT.ptr] fun (v49 : Option Addr) =>
    VCall none Try.prog 51 #[.agg #[.pointer v47]] w29 (.int .i64 0) fun (r48 : Int) (w30 : World) =>
    Rd w30 ⟨r_4, 0, none⟩ [.pointer v49] ∧
    VCall none Try.prog 54 #[.agg #[.pointer v49]] w30 (.agg #[.int .u8 0, .bool false, .string ByteArray.empty]) fun (r50_0 : Int) (r50_1 : Bool) (r50_2 : ByteArray) (w31 : World) =>
    VSt none w31 ⟨m_5, 12, none⟩ [.int .i64 r48] fun (w32 : World) =>
    VSt none w32 ⟨m_5, 13, none⟩ [.int .u8 r50_0, .bool r50_1, .string r50_2] fun (w33 : World) =>
    ∀ (w34 : World), w34 = World.drew w33 →
    VLd none w34 ⟨r_4, 0, none⟩ [CT.ptr] fun (v53 : Option Addr) =>
    VLd none w34 ⟨r_4, 0, none⟩ [CT.ptr] fun (v55 : Option Addr) =>
    VLd none w34 ⟨r_4, 0, none⟩ [CT.ptr] fun (v57 : Option Addr) =>
    VLd none w34 ⟨r_4, 0, none⟩ [CT.ptr] fun (v59 : Option Addr) =>
    VLd none w34 ⟨r_4, 0, none⟩ [CT.ptr] fun (v61 : Option Addr) =>
    VCall none Try.prog 51 #[.agg #[.pointer v53]] w34 (.int .i64 0) fun (r54 : Int) (w35 : World) =>
    Rd w35 ⟨r_4, 0, none⟩ [.pointer v61] ∧
    Rd w35 ⟨r_4, 0, none⟩ [.pointer v59] ∧
    Rd w35 ⟨r_4, 0, none⟩ [.pointer v57] ∧
    Rd w35 ⟨r_4, 0, none⟩ [.pointer v55] ∧
    VCall none Try.prog 51 #[.agg #[.pointer v55]] w35 (.int .i64 0) fun (r56 : Int) (w36 : World) =>
    Rd w36 ⟨r_4, 0, none⟩ [.pointer v61] ∧
    Rd w36 ⟨r_4, 0, none⟩ [.pointer v59] ∧
    Rd w36 ⟨r_4, 0, none⟩ [.pointer v57] ∧
    VCall none Try.prog 51 #[.agg #[.pointer v57]] w36 (.int .i64 0) fun (r58 : Int) (w37 : World) =>
    Rd w37 ⟨r_4, 0, none⟩ [.pointer v61] ∧
    Rd w37 ⟨r_4, 0, none⟩ [.pointer v59] ∧
    VCall none Try.prog 51 #[.agg #[.pointer v59]] w37 (.int .i64 0) fun (r60 : Int) (w38 : World) =>
    Rd w38 ⟨r_4, 0, none⟩ [.pointer v61] ∧
    VCall none Try.prog 51 #[.agg #[.pointer v61]] w38 (.int .i64 0) fun (r62 : Int) (w39 : World) =>
    VSt none w39 ⟨m_5, 16, none⟩ [.int .i64 r54] fun (w40 : World) =>
    VSt none w40 ⟨m_5, 17, none⟩ [.int .i64 r56] fun (w41 : World) =>
    VSt none w41 ⟨m_5, 18, none⟩ [.int .i64 r58] fun (w42 : World) =>
    VSt none w42 ⟨m_5, 19, none⟩ [.int .i64 r60] fun (w43 : World) =>
    VSt none w43 ⟨m_5, 20, none⟩ [.int .i64 r62] fun (w44 : World) =>
    VLd none w44 ⟨r_4, 0, none⟩ [CT.ptr] fun (v69 : Option Addr) =>
    VCall none Try.prog 53 #[.pointer v69] w44 (.bool false) fun (r70 : Bool) (w45 : World) =>
    VSt none w45 ⟨m_5, 21, none⟩ [.bool r70] fun (w46 : World) =>
    VLd none w46 ⟨r_4, 0, none⟩ [CT.ptr] fun (v72 : Option Addr) =>
    VCall none Try.prog 55 #[.agg #[.pointer v72], .func (.func 56) #[] #[.pointer (some ⟨r_4, 0, none⟩)]] w46 (.slice none 0 0) fun (r74 : Sl) (w47 : World) =>
    VSt none w47 ⟨m_5, 22, none⟩ [.slice r74.base r74.len r74.cap] fun (w48 : World) =>
    ∀ (w49 : World), w49 = World.drew w48 →
    VLd none w49 ⟨r_4, 0, none⟩ [CT.ptr] fun (v76 : Option Addr) =>
    VLd none w49 ⟨r_4, 0, none⟩ [CT.ptr] fun (v77 : Option Addr) =>
    VLd none w49 ⟨r_4, 0, none⟩ [CT.ptr] fun (v80 : Option Addr) =>
    VLd none w49 ⟨r_4, 0, none⟩ [CT.ptr] fun (v82 : Option Addr) =>
    VLd none w49 ⟨r_4, 0, none⟩ [CT.ptr] fun (v85 : Option Addr) =>
    VCall none Try.prog 57 #[.agg #[.pointer v76], .func (.func 51) #[.agg #[.pointer v77]] #[]] w49 (.slice none 0 0) fun (r79 : Sl) (w50 : World) =>
    Rd w50 ⟨r_4, 0, none⟩ [.pointer v85] ∧
    Rd w50 ⟨r_4, 0, none⟩ [.pointer v82] ∧
    Rd w50 ⟨r_4, 0, none⟩ [.pointer v80] ∧
    VCall none Try.prog 52 #[.agg #[.pointer v80]] w50 (.string ByteArray.empty) fun (r81 : ByteArray) (w51 : World) =>
    Rd w51 ⟨r_4, 0, none⟩ [.pointer v85] ∧
    Rd w51 ⟨r_4, 0, none⟩ [.pointer v82] ∧
    VCall none Try.prog 51 #[.agg #[.pointer v82]] w51 (.int .i64 0) fun (r83 : Int) (w52 : World) =>
    Rd w52 ⟨r_4, 0, none⟩ [.pointer v85] ∧
    VCall none Try.prog 53 #[.pointer v85] w52 (.bool false) fun (r86 : Bool) (w53 : World) =>
    VSt none w53 ⟨m_5, 23, none⟩ [.slice r79.base r79.len r79.cap] fun (w54 : World) =>
    VSt none w54 ⟨m_5, 24, none⟩ [.string r81] fun (w55 : World) =>
    VSt none w55 ⟨m_5, 25, none⟩ [.int .i64 r83] fun (w56 : World) =>
    VSt none w56 ⟨m_5, 26, none⟩ [.bool r86] fun (w57 : World) =>
    VLd none w57 ⟨r_4, 0, none⟩ [CT.ptr] fun (v91 : Option Addr) =>
    VCall none Try.prog 58 #[.agg #[.pointer v91], .func (.func 59) #[] #[.pointer (some ⟨r_4, 0, none⟩)]] w57 (.slice none 0 0) fun (r93 : Sl) (w58 : World) =>
    VSt none w58 ⟨m_5, 27, none⟩ [.slice r93.base r93.len r93.cap] fun (w59 : World) =>
    VLd none w59 ⟨r_4, 0, none⟩ [CT.ptr] fun (v95 : Option Addr) =>
    VCall none Try.prog 60 #[.agg #[.pointer v95], .func (.func 61) #[] #[.pointer (some ⟨r_4, 0, none⟩)]] w59 (.slice none 0 0) fun (r97 : Sl) (w60 : World) =>
    VSt none w60 ⟨m_5, 28, none⟩ [.slice r97.base r97.len r97.cap] fun (w61 : World) =>
    ∀ (w62 : World), w62 = World.drew w61 →
    VLd none w62 ⟨r_4, 0, none⟩ [CT.ptr] fun (v99 : Option Addr) =>
    VLd none w62 ⟨r_4, 0, none⟩ [CT.ptr] fun (v101 : Option Addr) =>
    VLd none w62 ⟨r_4, 0, none⟩ [CT.ptr] fun (v103 : Option Addr) =>
    VLd none w62 ⟨r_4, 0, none⟩ [CT.ptr] fun (v105 : Option Addr) =>
    VCall none Try.prog 50 #[.agg #[.pointer v99]] w62 (.int .u8 0) fun (r100 : Int) (w63 : World) =>
    Rd w63 ⟨r_4, 0, none⟩ [.pointer v105] ∧
    Rd w63 ⟨r_4, 0, none⟩ [.pointer v103] ∧
    Rd w63 ⟨r_4, 0, none⟩ [.pointer v101] ∧
    VCall none Try.prog 51 #[.agg #[.pointer v101]] w63 (.int .i64 0) fun (r102 : Int) (w64 : World) =>
    Rd w64 ⟨r_4, 0, none⟩ [.pointer v105] ∧
    Rd w64 ⟨r_4, 0, none⟩ [.pointer v103] ∧
    VCall none Try.prog 51 #[.agg #[.pointer v103]] w64 (.int .i64 0) fun (r104 : Int) (w65 : World) =>
    Rd w65 ⟨r_4, 0, none⟩ [.pointer v105] ∧
    VCall none Try.prog 51 #[.agg #[.pointer v105]] w65 (.int .i64 0) fun (r106 : Int) (w66 : World) =>
    VSt none w66 ⟨m_5, 29, none⟩ [.int .u8 r100, .int .i64 r102, .int .i64 r104, .int .i64 r106] fun (w67 : World) =>
    VLd none w67 ⟨r_4, 0, none⟩ [CT.ptr] fun (v110 : Option Addr) =>
    VCall none Try.prog 62 #[.pointer v110] w67 (.bool false) fun (r111 : Bool) (w68 : World) =>
    VLd (some (!(!r111))) w68 ⟨m_5, 0, none⟩ [CT.int .u8] fun (v115 : Int) =>
    VLd (some (!((!r111) || (v115 == 0)))) w68 ⟨m_5, 0, none⟩ [CT.int .u8] fun (v120 : Int) =>
    VIf (((!r111) || (v115 == 0)) || (decide (v120 > 19))) (
      VSt none w68 ⟨b2, 0, none⟩ [.int .u8 0, .int .i64 0, .int .i64 0, .int .i64 0, .int .i64 0, .int .i64 0, .int .i64 0, .int .u8 0, .string ByteArray.empty, .string ByteArray.empty, .string ByteArray.empty, .bool false, .int .i64 0, .int .u8 0, .bool false, .string ByteArray.empty, .int .i64 0, .int .i64 0, .int .i64 0, .int .i64 0, .int .i64 0, .bool false, .slice none 0 0, .slice none 0 0, .string ByteArray.empty, .int .i64 0, .bool false, .slice none 0 0, .slice none 0 0, .int .u8 0, .int .i64 0, .int .i64 0, .int .i64 0] fun (w69 : World) =>
      VLd none w69 ⟨b2, 0, none⟩ [CT.int .u8, CT.int .i64, CT.int .i64, CT.int .i64, CT.int .i64, CT.int .i64, CT.int .i64, CT.int .u8, CT.str, CT.str, CT.str, CT.bool, CT.int .i64, CT.int .u8, CT.bool, CT.str, CT.int .i64, CT.int .i64, CT.int .i64, CT.int .i64, CT.int .i64, CT.bool, CT.sl, CT.sl, CT.str, CT.int .i64, CT.bool, CT.sl, CT.sl, CT.int .u8, CT.int .i64, CT.int .i64, CT.int .i64] fun (res2_0 : Int) (res2_1 : Int) (res2_2 : Int) (res2_3 : Int) (res2_4 : Int) (res2_5 : Int) (res2_6 : Int) (res2_7 : Int) (res2_8 : ByteArray) (res2_9 : ByteArray) (res2_10 : ByteArray) (res2_11 : Bool) (res2_12 : Int) (res2_13 : Int) (res2_14 : Bool) (res2_15 : ByteArray) (res2_16 : Int) (res2_17 : Int) (res2_18 : Int) (res2_19 : Int) (res2_20 : Int) (res2_21 : Bool) (res2_22 : Sl) (res2_23 : Sl) (res2_24 : ByteArray) (res2_25 : Int) (res2_26 : Bool) (res2_27 : Sl) (res2_28 : Sl) (res2_29 : Int) (res2_30 : Int) (res2_31 : Int) (res2_32 : Int) =>
      R (.returned (.tuple #[.agg #[.int .u8 res2_0, .int .i64 res2_1, .int .i64 res2_2, .int .i64 res2_3, .int .i64 res2_4, .int .i64 res2_5, .int .i64 res2_6, .int .u8 res2_7, .string res2_8, .string res2_9, .string res2_10, .bool res2_11, .int .i64 res2_12, .int .u8 res2_13, .bool res2_14, .string res2_15, .int .i64 res2_16, .int .i64 res2_17, .int .i64 res2_18, .int .i64 res2_19, .int .i64 res2_20, .bool res2_21, .slice res2_22.base res2_22.len res2_22.cap, .slice res2_23.base res2_23.len res2_23.cap, .string res2_24, .int .i64 res2_25, .bool res2_26, .slice res2_27.base res2_27.len res2_27.cap, .slice res2_28.base res2_28.len res2_28.cap, .int .u8 res2_29, .int .i64 res2_30, .int .i64 res2_31, .int .i64 res2_32], .int .i64 4])) w69
    ) (
      VLd none w68 ⟨m_5, 0, none⟩ [CT.int .u8, CT.int .i64, CT.int .i64, CT.int .i64, CT.int .i64, CT.int .i64, CT.int .i64, CT.int .u8, CT.str, CT.str, CT.str, CT.bool, CT.int .i64, CT.int .u8, CT.bool, CT.str, CT.int .i64, CT.int .i64, CT.int .i64, CT.int .i64, CT.int .i64, CT.bool, CT.sl, CT.sl, CT.str, CT.int .i64, CT.bool, CT.sl, CT.sl, CT.int .u8, CT.int .i64, CT.int .i64, CT.int .i64] fun (v124_0 : Int) (v124_1 : Int) (v124_2 : Int) (v124_3 : Int) (v124_4 : Int) (v124_5 : Int) (v124_6 : Int) (v124_7 : Int) (v124_8 : ByteArray) (v124_9 : ByteArray) (v124_10 : ByteArray) (v124_11 : Bool) (v124_12 : Int) (v124_13 : Int) (v124_14 : Bool) (v124_15 : ByteArray) (v124_16 : Int) (v124_17 : Int) (v124_18 : Int) (v124_19 : Int) (v124_20 : Int) (v124_21 : Bool) (v124_22 : Sl) (v124_23 : Sl) (v124_24 : ByteArray) (v124_25 : Int) (v124_26 : Bool) (v124_27 : Sl) (v124_28 : Sl) (v124_29 : Int) (v124_30 : Int) (v124_31 : Int) (v124_32 : Int) =>
      VSt none w68 ⟨b2, 0, none⟩ [.int .u8 v124_0, .int .i64 v124_1, .int .i64 v124_2, .int .i64 v124_3, .int .i64 v124_4, .int .i64 v124_5, .int .i64 v124_6, .int .u8 v124_7, .string v124_8, .string v124_9, .string v124_10, .bool v124_11, .int .i64 v124_12, .int .u8 v124_13, .bool v124_14, .string v124_15, .int .i64 v124_16, .int .i64 v124_17, .int .i64 v124_18, .int .i64 v124_19, .int .i64 v124_20, .bool v124_21, .slice v124_22.base v124_22.len v124_22.cap, .slice v124_23.base v124_23.len v124_23.cap, .string v124_24, .int .i64 v124_25, .bool v124_26, .slice v124_27.base v124_27.len v124_27.cap, .slice v124_28.base v124_28.len v124_28.cap, .int .u8 v124_29, .int .i64 v124_30, .int .i64 v124_31, .int .i64 v124_32] fun (w70 : World) =>
      VLd none w70 ⟨b2, 0, none⟩ [CT.int .u8, CT.int .i64, CT.int .i64, CT.int .i64, CT.int .i64, CT.int .i64, CT.int .i64, CT.int .u8, CT.str, CT.str, CT.str, CT.bool, CT.int .i64, CT.int .u8, CT.bool, CT.str, CT.int .i64, CT.int .i64, CT.int .i64, CT.int .i64, CT.int .i64, CT.bool, CT.sl, CT.sl, CT.str, CT.int .i64, CT.bool, CT.sl, CT.sl, CT.int .u8, CT.int .i64, CT.int .i64, CT.int .i64] fun (res2_0 : Int) (res2_1 : Int) (res2_2 : Int) (res2_3 : Int) (res2_4 : Int) (res2_5 : Int) (res2_6 : Int) (res2_7 : Int) (res2_8 : ByteArray) (res2_9 : ByteArray) (res2_10 : ByteArray) (res2_11 : Bool) (res2_12 : Int) (res2_13 : Int) (res2_14 : Bool) (res2_15 : ByteArray) (res2_16 : Int) (res2_17 : Int) (res2_18 : Int) (res2_19 : Int) (res2_20 : Int) (res2_21 : Bool) (res2_22 : Sl) (res2_23 : Sl) (res2_24 : ByteArray) (res2_25 : Int) (res2_26 : Bool) (res2_27 : Sl) (res2_28 : Sl) (res2_29 : Int) (res2_30 : Int) (res2_31 : Int) (res2_32 : Int) =>
      R (.returned (.tuple #[.agg #[.int .u8 res2_0, .int .i64 res2_1, .int .i64 res2_2, .int .i64 res2_3, .int .i64 res2_4, .int .i64 res2_5, .int .i64 res2_6, .int .u8 res2_7, .string res2_8, .string res2_9, .string res2_10, .bool res2_11, .int .i64 res2_12, .int .u8 res2_13, .bool res2_14, .string res2_15, .int .i64 res2_16, .int .i64 res2_17, .int .i64 res2_18, .int .i64 res2_19, .int .i64 res2_20, .bool res2_21, .slice res2_22.base res2_22.len res2_22.cap, .slice res2_23.base res2_23.len res2_23.cap, .string res2_24, .int .i64 res2_25, .bool res2_26, .slice res2_27.base res2_27.len res2_27.cap, .slice res2_28.base res2_28.len res2_28.cap, .int .u8 res2_29, .int .i64 res2_30, .int .i64 res2_31, .int .i64 res2_32], .int .i64 0])) w70
    )
  )
theorem sh_msg_Decode_ok (b_0 : Sl) (w : World) (R : Ending → World → Prop) (h : sh_msg_Decode b_0 w R) : Calls Try.prog 16 #[.slice b_0.base b_0.len b_0.cap] w R :=
  calls_of_sh (args := [.slice b_0.base b_0.len b_0.cap]) (.two .auto (.two (.two .auto (.two (.two .auto .auto) .auto)) (.two .auto (.two .auto (.two .auto (.two .auto (.two .auto (.two .auto (.two .auto (.two .auto (.two .auto (.two .auto (.two .auto (.two .auto (.two (.two .auto (.two (.two .auto .auto) .auto)) (.two .auto .auto)))))))))))))))) Try.func16 (by kernel_rfl) (by kernel_rfl) (by kernel_rfl) h

/-- 17: buttery/butteryref13.Decode -/
def sh_butteryref13_Decode (b_0 : Sl) (w : World) (R : Ending → World → Prop) : Prop :=
  VNw none w (.cells #[.int .u8 0, .int .i64 0, .int .i64 0, .int .i64 0, .int .i64 0, .int .i64 0, .int .i64 0, .int .u8 0, .string ByteArray.empty, .string ByteArray.empty, .string ByteArray.empty, .bool false, .int .i64 0, .int .u8 0, .bool false, .string ByteArray.empty, .int .i64 0, .int .i64 0, .int .i64 0, .int .i64 0, .int .i64 0, .bool false, .slice none 0 0, .slice none 0 0, .string ByteArray.empty, .int .i64 0, .bool false, .slice none 0 0, .slice none 0 0, .int .u8 0, .int .i64 0, .int .i64 0, .int .i64 0] 34) fun (b2 : Nat) (w1 : World) =>
  VIf (decide (((b_0.len : Nat) : Int) > 8192)) (
    VSt none w1 ⟨b2, 0, none⟩ [.int .u8 0, .int .i64 0, .int .i64 0, .int .i64 0, .int .i64 0, .int .i64 0, .int .i64 0, .int .u8 0, .string ByteArray.empty, .string ByteArray.empty, .string ByteArray.empty, .bool false, .int .i64 0, .int .u8 0, .bool false, .string ByteArray.empty, .int .i64 0, .int .i64 0, .int .i64 0, .int .i64 0, .int .i64 0, .bool false, .slice none 0 0, .slice none 0 0, .string ByteArray.empty, .int .i64 0, .bool false, .slice none 0 0, .slice none 0 0, .int .u8 0, .int .i64 0, .int .i64 0, .int .i64 0] fun (w2 : World) =>
    VLd none w2 ⟨b2, 0, none⟩ [CT.int .u8, CT.int .i64, CT.int .i64, CT.int .i64, CT.int .i64, CT.int .i64, CT.int .i64, CT.int .u8, CT.str, CT.str, CT.str, CT.bool, CT.int .i64, CT.int .u8, CT.bool, CT.str, CT.int .i64, CT.int .i64, CT.int .i64, CT.int .i64, CT.int .i64, CT.bool, CT.sl, CT.sl, CT.str, CT.int .i64, CT.bool, CT.sl, CT.sl, CT.int .u8, CT.int .i64, CT.int .i64, CT.int .i64] fun (res2_0 : Int) (res2_1 : Int) (res2_2 : Int) (res2_3 : Int) (res2_4 : Int) (res2_5 : Int) (res2_6 : Int) (res2_7 : Int) (res2_8 : ByteArray) (res2_9 : ByteArray) (res2_10 : ByteArray) (res2_11 : Bool) (res2_12 : Int) (res2_13 : Int) (res2_14 : Bool) (res2_15 : ByteArray) (res2_16 : Int) (res2_17 : Int) (res2_18 : Int) (res2_19 : Int) (res2_20 : Int) (res2_21 : Bool) (res2_22 : Sl) (res2_23 : Sl) (res2_24 : ByteArray) (res2_25 : Int) (res2_26 : Bool) (res2_27 : Sl) (res2_28 : Sl) (res2_29 : Int) (res2_30 : Int) (res2_31 : Int) (res2_32 : Int) =>
    R (.returned (.tuple #[.agg #[.int .u8 res2_0, .int .i64 res2_1, .int .i64 res2_2, .int .i64 res2_3, .int .i64 res2_4, .int .i64 res2_5, .int .i64 res2_6, .int .u8 res2_7, .string res2_8, .string res2_9, .string res2_10, .bool res2_11, .int .i64 res2_12, .int .u8 res2_13, .bool res2_14, .string res2_15, .int .i64 res2_16, .int .i64 res2_17, .int .i64 res2_18, .int .i64 res2_19, .int .i64 res2_20, .bool res2_21, .slice res2_22.base res2_22.len res2_22.cap, .slice res2_23.base res2_23.len res2_23.cap, .string res2_24, .int .i64 res2_25, .bool res2_26, .slice res2_27.base res2_27.len res2_27.cap, .slice res2_28.base res2_28.len res2_28.cap, .int .u8 res2_29, .int .i64 res2_30, .int .i64 res2_31, .int .i64 res2_32], .int .i64 4])) w2
  ) (
    VCall none Try.prog 63 #[.slice b_0.base b_0.len b_0.cap] w1 (.pointer none) fun (r22 : Option Addr) (w3 : World) =>
    VCall none Try.prog 64 #[.pointer r22] w3 (.int .u8 0) fun (r24 : Int) (w4 : World) =>
    VNw none w4 (.cells #[.int .u8 0, .int .i64 0, .int .i64 0, .int .i64 0, .int .i64 0, .int .i64 0, .int .i64 0, .int .u8 0, .string ByteArray.empty, .string ByteArray.empty, .string ByteArray.empty, .bool false, .int .i64 0, .int .u8 0, .bool false, .string ByteArray.empty, .int .i64 0, .int .i64 0, .int .i64 0, .int .i64 0, .int .i64 0, .bool false, .slice none 0 0, .slice none 0 0, .string ByteArray.empty, .int .i64 0, .bool false, .slice none 0 0, .slice none 0 0, .int .u8 0, .int .i64 0, .int .i64 0, .int .i64 0] 34) fun (m_5 : Nat) (w5 : World) =>
    VSt none w5 ⟨m_5, 0, none⟩ [.int .u8 r24, .int .i64 0, .int .i64 0, .int .i64 0, .int .i64 0, .int .i64 0, .int .i64 0, .int .u8 0, .string ByteArray.empty, .string ByteArray.empty, .string ByteArray.empty, .bool false, .int .i64 0, .int .u8 0, .bool false, .string ByteArray.empty, .int .i64 0, .int .i64 0, .int .i64 0, .int .i64 0, .int .i64 0, .bool false, .slice none 0 0, .slice none 0 0, .string ByteArray.empty, .int .i64 0, .bool false, .slice none 0 0, .slice none 0 0, .int .u8 0, .int .i64 0, .int .i64 0, .int .i64 0] fun (w6 : World) =>
    VNw none w6 (.cells #[.pointer (some ⟨m_5, 1, none⟩), .pointer (some ⟨m_5, 2, none⟩), .pointer (some ⟨m_5, 3, none⟩), .pointer (some ⟨m_5, 4, none⟩), .pointer (some ⟨m_5, 5, none⟩), .pointer (some ⟨m_5, 6, none⟩)] 105) fun (b32 : Nat) (w7 : World) =>
    ∃ I1 : Nat → Int → World → Prop, (∃ k, I1 k 0 w7) ∧ ∀ k1 (i_7 : Int) (w8 : World), I1 k1 i_7 w8 →
    VIf (decide (i_7 < ((6 : Nat) : Int))) (
      ∀ (w9 : World), w9 = World.drew w8 →
      VIx none (some ⟨b32, 0, none⟩) 6 i_7 fun (a41 : Addr) =>
      VLd none w9 (Addr.add a41 ((Int.toNat i_7) * 1)) [CT.ptr] fun (v42 : Option Addr) =>
      VCall none Try.prog 65 #[.pointer r22] w9 (.int .i64 0) fun (r44 : Int) (w10 : World) =>
      Rd w10 (Addr.add a41 ((Int.toNat i_7) * 1)) [.pointer v42] ∧
      VNN none v42 fun (a45 : Addr) =>
      VSt none w10 a45 [.int .i64 r44] fun (w11 : World) =>
      VSet (IntKind.wrap .i64 (i_7 + 1)) fun (i_7' : Int) =>
      ∃ k', k' < k1 ∧ I1 k' i_7' w11
    ) (
      VCall none Try.prog 64 #[.pointer r22] w8 (.int .u8 0) fun (r47 : Int) (w12 : World) =>
      VSt none w12 ⟨m_5, 7, none⟩ [.int .u8 r47] fun (w13 : World) =>
      VCall none Try.prog 66 #[.pointer r22, .int .i64 8192] w13 (.string ByteArray.empty) fun (r51 : ByteArray) (w14 : World) =>
      VSt none w14 ⟨m_5, 8, none⟩ [.string r51] fun (w15 : World) =>
      VCall none Try.prog 66 #[.pointer r22, .int .i64 8192] w15 (.string ByteArray.empty) fun (r55 : ByteArray) (w16 : World) =>
      VSt none w16 ⟨m_5, 9, none⟩ [.string r55] fun (w17 : World) =>
      VCall none Try.prog 66 #[.pointer r22, .int .i64 8192] w17 (.string ByteArray.empty) fun (r59 : ByteArray) (w18 : World) =>
      VSt none w18 ⟨m_5, 10, none⟩ [.string r59] fun (w19 : World) =>
      VCall none Try.prog 67 #[.pointer r22] w19 (.bool false) fun (r63 : Bool) (w20 : World) =>
      VSt none w20 ⟨m_5, 11, none⟩ [.bool r63] fun (w21 : World) =>
      VCall none Try.prog 65 #[.pointer r22] w21 (.int .i64 0) fun (r67 : Int) (w22 : World) =>
      VSt none w22 ⟨m_5, 12, none⟩ [.int .i64 r67] fun (w23 : World) =>
      VCall none Try.prog 68 #[.pointer r22] w23 (.agg #[.int .u8 0, .bool false, .string ByteArray.empty]) fun (r70_0 : Int) (r70_1 : Bool) (r70_2 : ByteArray) (w24 : World) =>
      VSt none w24 ⟨m_5, 13, none⟩ [.int .u8 r70_0, .bool r70_1, .string r70_2] fun (w25 : World) =>
      VNw none w25 (.cells #[.pointer (some ⟨m_5, 16, none⟩), .pointer (some ⟨m_5, 17, none⟩), .pointer (some ⟨m_5, 18, none⟩), .pointer (some ⟨m_5, 19, none⟩), .pointer (some ⟨m_5, 20, none⟩)] 105) fun (b77 : Nat) (w26 : World) =>
      ∃ I2 : Nat → Int → World → Prop, (∃ k, I2 k 0 w26) ∧ ∀ k2 (i_9 : Int) (w27 : World), I2 k2 i_9 w27 →
      VIf (decide (i_9 < ((5 : Nat) : Int))) (
        ∀ (w28 : World), w28 = World.drew w27 →
        VIx none (some ⟨b77, 0, none⟩) 5 i_9 fun (a86 : Addr) =>
        VLd none w28 (Addr.add a86 ((Int.toNat i_9) * 1)) [CT.ptr] fun (v87 : Option Addr) =>
        VCall none Try.prog 65 #[.pointer r22] w28 (.int .i64 0) fun (r89 : Int) (w29 : World) =>
        Rd w29 (Addr.add a86 ((Int.toNat i_9) * 1)) [.pointer v87] ∧
        VNN none v87 fun (a90 : Addr) =>
        VSt none w29 a90 [.int .i64 r89] fun (w30 : World) =>
        VSet (IntKind.wrap .i64 (i_9 + 1)) fun (i_9' : Int) =>
        ∃ k', k' < k2 ∧ I2 k' i_9' w30
      ) (
        VCall none Try.prog 67 #[.pointer r22] w27 (.bool false) fun (r92 : Bool) (w31 : World) =>
        VSt none w31 ⟨m_5, 21, none⟩ [.bool r92] fun (w32 : World) =>
        VCall none Try.prog 69 #[.pointer r22, .int .i64 8192] w32 (.int .i64 0) fun (r95 : Int) (w33 : World) =>
        VSet r95 fun (n_10 : Int) =>
        ∃ I3 : Nat → Int → World → Prop, (∃ k, I3 k 0 w33) ∧ ∀ k3 (i_11 : Int) (w34 : World), I3 k3 i_11 w34 →
        VCall (some (decide (i_11 < n_10))) Try.prog 70 #[.pointer r22] w34 (.bool false) fun (r101 : Bool) (w35 : World) =>
        VIf ((decide (i_11 < n_10)) && r101) (
          VCall none Try.prog 65 #[.pointer r22] w35 (.int .i64 0) fun (r106 : Int) (w36 : World) =>
          VNw none w36 (.cells #[.int .i64 0, .int .u8 0, .string ByteArray.empty, .slice none 0 0] 58) fun (e_12 : Nat) (w37 : World) =>
          VSt none w37 ⟨e_12, 0, none⟩ [.int .i64 r106, .int .u8 0, .string ByteArray.empty, .slice none 0 0] fun (w38 : World) =>
          VCall none Try.prog 64 #[.pointer r22] w38 (.int .u8 0) fun (r109 : Int) (w39 : World) =>
          VSt none w39 ⟨e_12, 1, none⟩ [.int .u8 r109] fun (w40 : World) =>
          VCall none Try.prog 66 #[.pointer r22, .int .i64 8192] w40 (.string ByteArray.empty) fun (r112 : ByteArray) (w41 : World) =>
          VSt none w41 ⟨e_12, 2, none⟩ [.string r112] fun (w42 : World) =>
          VCall none Try.prog 71 #[.pointer r22] w42 (.slice none 0 0) fun (r115 : Sl) (w43 : World) =>
          VSt none w43 ⟨e_12, 3, none⟩ [.slice r115.base r115.len r115.cap] fun (w44 : World) =>
          VLd none w44 ⟨m_5, 22, none⟩ [CT.sl] fun (v118 : Sl) =>
          VLd none w44 ⟨e_12, 0, none⟩ [CT.int .i64, CT.int .u8, CT.str, CT.sl] fun (v119_0 : Int) (v119_1 : Int) (v119_2 : ByteArray) (v119_3 : Sl) =>
          VNw none w44 (.cells #[.int .i64 v119_0, .int .u8 v119_1, .string v119_2, .slice v119_3.base v119_3.len v119_3.cap] 58) fun (b120 : Nat) (w45 : World) =>
          VApp none w45 58 4 56 #[.int .i64 0, .int .u8 0, .string ByteArray.empty, .slice none 0 0] v118.base v118.len v118.cap 1 (fun news => Seg w45 (some ⟨b120, 0, none⟩) 1 4 news) fun (l121 : Sl) (w46 : World) =>
          VSt none w46 ⟨m_5, 22, none⟩ [.slice l121.base l121.len l121.cap] fun (w47 : World) =>
          VSet (IntKind.wrap .i64 (i_11 + 1)) fun (i_11' : Int) =>
          ∃ k', k' < k3 ∧ I3 k' i_11' w47
        ) (
          VCall none Try.prog 71 #[.pointer r22] w35 (.slice none 0 0) fun (r124 : Sl) (w48 : World) =>
          VSt none w48 ⟨m_5, 23, none⟩ [.slice r124.base r124.len r124.cap] fun (w49 : World) =>
          VCall none Try.prog 66 #[.pointer r22, .int .i64 8192] w49 (.string ByteArray.empty) fun (r127 : ByteArray) (w50 : World) =>
          VSt none w50 ⟨m_5, 24, none⟩ [.string r127] fun (w51 : World) =>
          VCall none Try.prog 65 #[.pointer r22] w51 (.int .i64 0) fun (r130 : Int) (w52 : World) =>
          VSt none w52 ⟨m_5, 25, none⟩ [.int .i64 r130] fun (w53 : World) =>
          VCall none Try.prog 67 #[.pointer r22] w53 (.bool false) fun (r133 : Bool) (w54 : World) =>
          VSt none w54 ⟨m_5, 26, none⟩ [.bool r133] fun (w55 : World) =>
          VCall none Try.prog 69 #[.pointer r22, .int .i64 8192] w55 (.int .i64 0) fun (r136 : Int) (w56 : World) =>
          VSet r136 fun (n_10' : Int) =>
          ∃ I4 : Nat → Int → World → Prop, (∃ k, I4 k 0 w56) ∧ ∀ k4 (i_13 : Int) (w57 : World), I4 k4 i_13 w57 →
          VCall (some (decide (i_13 < n_10'))) Try.prog 70 #[.pointer r22] w57 (.bool false) fun (r142 : Bool) (w58 : World) =>
          VIf ((decide (i_13 < n_10')) && r142) (
            VCall none Try.prog 66 #[.pointer r22, .int .i64 8192] w58 (.string ByteArray.empty) fun (r147 : ByteArray) (w59 : World) =>
            VNw none w59 (.cells #[.string ByteArray.empty, .string ByteArray.empty] 52) fun (p_14 : Nat) (w60 : World) =>
            VSt none w60 ⟨p_14, 0, none⟩ [.string r147, .string ByteArray.empty] fun (w61 : World) =>
            VCall none Try.prog 66 #[.pointer r22, .int .i64 8192] w61 (.string ByteArray.empty) fun (r150 : ByteArray) (w62 : World) =>
            VSt none w62 ⟨p_14, 1, none⟩ [.string r150] fun (w63 : World) =>
            VLd none w63 ⟨m_5, 27, none⟩ [CT.sl] fun (v153 : Sl) =>
            VLd none w63 ⟨p_14, 0, none⟩ [CT.str, CT.str] fun (v154_0 : ByteArray) (v154_1 : ByteArray) =>
            VNw none w63 (.cells #[.string v154_0, .string v154_1] 52) fun (b155 : Nat) (w64 : World) =>
            VApp none w64 52 2 32 #[.string ByteArray.empty, .string ByteArray.empty] v153.base v153.len v153.cap 1 (fun news => Seg w64 (some ⟨b155, 0, none⟩) 1 2 news) fun (l156 : Sl) (w65 : World) =>
            VSt none w65 ⟨m_5, 27, none⟩ [.slice l156.base l156.len l156.cap] fun (w66 : World) =>
            VSet (IntKind.wrap .i64 (i_13 + 1)) fun (i_13' : Int) =>
            ∃ k', k' < k4 ∧ I4 k' i_13' w66
          ) (
            VCall none Try.prog 69 #[.pointer r22, .int .i64 8192] w58 (.int .i64 0) fun (r159 : Int) (w67 : World) =>
            VSet r159 fun (n_10'' : Int) =>
            ∃ I5 : Nat → Int → World → Prop, (∃ k, I5 k 0 w67) ∧ ∀ k5 (i_15 : Int) (w68 : World), I5 k5 i_15 w68 →
            VCall (some (decide (i_15 < n_10''))) Try.prog 70 #[.pointer r22] w68 (.bool false) fun (r165 : Bool) (w69 : World) =>
            VIf ((decide (i_15 < n_10'')) && r165) (
              VCall none Try.prog 65 #[.pointer r22] w69 (.int .i64 0) fun (r170 : Int) (w70 : World) =>
              VNw none w70 (.cells #[.int .i64 0, .int .i64 0, .int .u8 0, .bool false, .string ByteArray.empty] 55) fun (l_16 : Nat) (w71 : World) =>
              VSt none w71 ⟨l_16, 0, none⟩ [.int .i64 r170, .int .i64 0, .int .u8 0, .bool false, .string ByteArray.empty] fun (w72 : World) =>
              VCall none Try.prog 65 #[.pointer r22] w72 (.int .i64 0) fun (r173 : Int) (w73 : World) =>
              VSt none w73 ⟨l_16, 1, none⟩ [.int .i64 r173] fun (w74 : World) =>
              VCall none Try.prog 68 #[.pointer r22] w74 (.agg #[.int .u8 0, .bool false, .string ByteArray.empty]) fun (r176_0 : Int) (r176_1 : Bool) (r176_2 : ByteArray) (w75 : World) =>
              VSt none w75 ⟨l_16, 2, none⟩ [.int .u8 r176_0, .bool r176_1, .string r176_2] fun (w76 : World) =>
              VLd none w76 ⟨m_5, 28, none⟩ [CT.sl] fun (v179 : Sl) =>
              VLd none w76 ⟨l_16, 0, none⟩ [CT.int .i64, CT.int .i64, CT.int .u8, CT.bool, CT.str] fun (v180_0 : Int) (v180_1 : Int) (v180_2 : Int) (v180_3 : Bool) (v180_4 : ByteArray) =>
              VNw none w76 (.cells #[.int .i64 v180_0, .int .i64 v180_1, .int .u8 v180_2, .bool v180_3, .string v180_4] 55) fun (b181 : Nat) (w77 : World) =>
              VApp none w77 55 5 40 #[.int .i64 0, .int .i64 0, .int .u8 0, .bool false, .string ByteArray.empty] v179.base v179.len v179.cap 1 (fun news => Seg w77 (some ⟨b181, 0, none⟩) 1 5 news) fun (l182 : Sl) (w78 : World) =>
              VSt none w78 ⟨m_5, 28, none⟩ [.slice l182.base l182.len l182.cap] fun (w79 : World) =>
              VSet (IntKind.wrap .i64 (i_15 + 1)) fun (i_15' : Int) =>
              ∃ k', k' < k5 ∧ I5 k' i_15' w79
            ) (
              VCall none Try.prog 64 #[.pointer r22] w69 (.int .u8 0) fun (r185 : Int) (w80 : World) =>
              VSt none w80 ⟨m_5, 29, none⟩ [.int .u8 r185] fun (w81 : World) =>
              VCall none Try.prog 65 #[.pointer r22] w81 (.int .i64 0) fun (r189 : Int) (w82 : World) =>
              VSt none w82 ⟨m_5, 30, none⟩ [.int .i64 r189] fun (w83 : World) =>
              VCall none Try.prog 65 #[.pointer r22] w83 (.int .i64 0) fun (r193 : Int) (w84 : World) =>
              VSt none w84 ⟨m_5, 31, none⟩ [.int .i64 r193] fun (w85 : World) =>
              VCall none Try.prog 65 #[.pointer r22] w85 (.int .i64 0) fun (r197 : Int) (w86 : World) =>
              VSt none w86 ⟨m_5, 32, none⟩ [.int .i64 r197] fun (w87 : World) =>
              VCall none Try.prog 72 #[.pointer r22] w87 (.bool false) fun (r201 : Bool) (w88 : World) =>
              VLd (some (!(!r201))) w88 ⟨m_5, 0, none⟩ [CT.int .u8] fun (v205 : Int) =>
              VLd (some (!((!r201) || (decide (v205 < 1))))) w88 ⟨m_5, 0, none⟩ [CT.int .u8] fun (v210 : Int) =>
              VIf (((!r201) || (decide (v205 < 1))) || (decide (v210 > 19))) (
                VSt none w88 ⟨b2, 0, none⟩ [.int .u8 0, .int .i64 0, .int .i64 0, .int .i64 0, .int .i64 0, .int .i64 0, .int .i64 0, .int .u8 0, .string ByteArray.empty, .string ByteArray.empty, .string ByteArray.empty, .bool false, .int .i64 0, .int .u8 0, .bool false, .string ByteArray.empty, .int .i64 0, .int .i64 0, .int .i64 0, .int .i64 0, .int .i64 0, .bool false, .slice none 0 0, .slice none 0 0, .string ByteArray.empty, .int .i64 0, .bool false, .slice none 0 0, .slice none 0 0, .int .u8 0, .int .i64 0, .int .i64 0, .int .i64 0] fun (w89 : World) =>
                VLd none w89 ⟨b2, 0, none⟩ [CT.int .u8, CT.int .i64, CT.int .i64, CT.int .i64, CT.int .i64, CT.int .i64, CT.int .i64, CT.int .u8, CT.str, CT.str, CT.str, CT.bool, CT.int .i64, CT.int .u8, CT.bool, CT.str, CT.int .i64, CT.int .i64, CT.int .i64, CT.int .i64, CT.int .i64, CT.bool, CT.sl, CT.sl, CT.str, CT.int .i64, CT.bool, CT.sl, CT.sl, CT.int .u8, CT.int .i64, CT.int .i64, CT.int .i64] fun (res2_0 : Int) (res2_1 : Int) (res2_2 : Int) (res2_3 : Int) (res2_4 : Int) (res2_5 : Int) (res2_6 : Int) (res2_7 : Int) (res2_8 : ByteArray) (res2_9 : ByteArray) (res2_10 : ByteArray) (res2_11 : Bool) (res2_12 : Int) (res2_13 : Int) (res2_14 : Bool) (res2_15 : ByteArray) (res2_16 : Int) (res2_17 : Int) (res2_18 : Int) (res2_19 : Int) (res2_20 : Int) (res2_21 : Bool) (res2_22 : Sl) (res2_23 : Sl) (res2_24 : ByteArray) (res2_25 : Int) (res2_26 : Bool) (res2_27 : Sl) (res2_28 : Sl) (res2_29 : Int) (res2_30 : Int) (res2_31 : Int) (res2_32 : Int) =>
                R (.returned (.tuple #[.agg #[.int .u8 res2_0, .int .i64 res2_1, .int .i64 res2_2, .int .i64 res2_3, .int .i64 res2_4, .int .i64 res2_5, .int .i64 res2_6, .int .u8 res2_7, .string res2_8, .string res2_9, .string res2_10, .bool res2_11, .int .i64 res2_12, .int .u8 res2_13, .bool res2_14, .string res2_15, .int .i64 res2_16, .int .i64 res2_17, .int .i64 res2_18, .int .i64 res2_19, .int .i64 res2_20, .bool res2_21, .slice res2_22.base res2_22.len res2_22.cap, .slice res2_23.base res2_23.len res2_23.cap, .string res2_24, .int .i64 res2_25, .bool res2_26, .slice res2_27.base res2_27.len res2_27.cap, .slice res2_28.base res2_28.len res2_28.cap, .int .u8 res2_29, .int .i64 res2_30, .int .i64 res2_31, .int .i64 res2_32], .int .i64 4])) w89
              ) (
                VLd none w88 ⟨m_5, 0, none⟩ [CT.int .u8, CT.int .i64, CT.int .i64, CT.int .i64, CT.int .i64, CT.int .i64, CT.int .i64, CT.int .u8, CT.str, CT.str, CT.str, CT.bool, CT.int .i64, CT.int .u8, CT.bool, CT.str, CT.int .i64, CT.int .i64, CT.int .i64, CT.int .i64, CT.int .i64, CT.bool, CT.sl, CT.sl, CT.str, CT.int .i64, CT.bool, CT.sl, CT.sl, CT.int .u8, CT.int .i64, CT.int .i64, CT.int .i64] fun (v214_0 : Int) (v214_1 : Int) (v214_2 : Int) (v214_3 : Int) (v214_4 : Int) (v214_5 : Int) (v214_6 : Int) (v214_7 : Int) (v214_8 : ByteArray) (v214_9 : ByteArray) (v214_10 : ByteArray) (v214_11 : Bool) (v214_12 : Int) (v214_13 : Int) (v214_14 : Bool) (v214_15 : ByteArray) (v214_16 : Int) (v214_17 : Int) (v214_18 : Int) (v214_19 : Int) (v214_20 : Int) (v214_21 : Bool) (v214_22 : Sl) (v214_23 : Sl) (v214_24 : ByteArray) (v214_25 : Int) (v214_26 : Bool) (v214_27 : Sl) (v214_28 : Sl) (v214_29 : Int) (v214_30 : Int) (v214_31 : Int) (v214_32 : Int) =>
                VSt none w88 ⟨b2, 0, none⟩ [.int .u8 v214_0, .int .i64 v214_1, .int .i64 v214_2, .int .i64 v214_3, .int .i64 v214_4, .int .i64 v214_5, .int .i64 v214_6, .int .u8 v214_7, .string v214_8, .string v214_9, .string v214_10, .bool v214_11, .int .i64 v214_12, .int .u8 v214_13, .bool v214_14, .string v214_15, .int .i64 v214_16, .int .i64 v214_17, .int .i64 v214_18, .int .i64 v214_19, .int .i64 v214_20, .bool v214_21, .slice v214_22.base v214_22.len v214_22.cap, .slice v214_23.base v214_23.len v214_23.cap, .string v214_24, .int .i64 v214_25, .bool v214_26, .slice v214_27.base v214_27.len v214_27.cap, .slice v214_28.base v214_28.len v214_28.cap, .int .u8 v214_29, .int .i64 v214_30, .int .i64 v214_31, .int .i64 v214_32] fun (w90 : World) =>
                VLd none w90 ⟨b2, 0, none⟩ [CT.int .u8, CT.int .i64, CT.int .i64, CT.int .i64, CT.int .i64, CT.int .i64, CT.int .i64, CT.int .u8, CT.str, CT.str, CT.str, CT.bool, CT.int .i64, CT.int .u8, CT.bool, CT.str, CT.int .i64, CT.int .i64, CT.int .i64, CT.int .i64, CT.int .i64, CT.bool, CT.sl, CT.sl, CT.str, CT.int .i64, CT.bool, CT.sl, CT.sl, CT.int .u8, CT.int .i64, CT.int .i64, CT.int .i64] fun (res2_0 : Int) (res2_1 : Int) (res2_2 : Int) (res2_3 : Int) (res2_4 : Int) (res2_5 : Int) (res2_6 : Int) (res2_7 : Int) (res2_8 : ByteArray) (res2_9 : ByteArray) (res2_10 : ByteArray) (res2_11 : Bool) (res2_12 : Int) (res2_13 : Int) (res2_14 : Bool) (res2_15 : ByteArray) (res2_16 : Int) (res2_17 : Int) (res2_18 : Int) (res2_19 : Int) (res2_20 : Int) (res2_21 : Bool) (res2_22 : Sl) (res2_23 : Sl) (res2_24 : ByteArray) (res2_25 : Int) (res2_26 : Bool) (res2_27 : Sl) (res2_28 : Sl) (res2_29 : Int) (res2_30 : Int) (res2_31 : Int) (res2_32 : Int) =>
                R (.returned (.tuple #[.agg #[.int .u8 res2_0, .int .i64 res2_1, .int .i64 res2_2, .int .i64 res2_3, .int .i64 res2_4, .int .i64 res2_5, .int .i64 res2_6, .int .u8 res2_7, .string res2_8, .string res2_9, .string res2_10, .bool res2_11, .int .i64 res2_12, .int .u8 res2_13, .bool res2_14, .string res2_15, .int .i64 res2_16, .int .i64 res2_17, .int .i64 res2_18, .int .i64 res2_19, .int .i64 res2_20, .bool res2_21, .slice res2_22.base res2_22.len res2_22.cap, .slice res2_23.base res2_23.len res2_23.cap, .string res2_24, .int .i64 res2_25, .bool res2_26, .slice res2_27.base res2_27.len res2_27.cap, .slice res2_28.base res2_28.len res2_28.cap, .int .u8 res2_29, .int .i64 res2_30, .int .i64 res2_31, .int .i64 res2_32], .int .i64 0])) w90
              )
            )
          )
        )
      )
    )
  )
theorem sh_butteryref13_Decode_ok (b_0 : Sl) (w : World) (R : Ending → World → Prop) (h : sh_butteryref13_Decode b_0 w R) : Calls Try.prog 17 #[.slice b_0.base b_0.len b_0.cap] w R :=
  calls_of_sh (args := [.slice b_0.base b_0.len b_0.cap]) (.two .auto (.two (.two .auto (.two (.two .auto .auto) .auto)) (.two .auto (.two .auto (.two .auto (.two (.two .auto (.one (.loop [(7, .int .i64 0)] (.two (.two .auto (.two .auto .auto)) (.two (.one .auto) .auto))))) (.two .auto (.two .auto (.two .auto (.two .auto (.two .auto (.two .auto (.two .auto (.two .auto (.two (.two .auto (.one (.loop [(9, .int .i64 0)] (.two (.two .auto (.two .auto .auto)) (.two (.one .auto) .auto))))) (.two .auto (.two .auto (.two (.two .auto (.one (.loop [(11, .int .i64 0)] (.two (.two .auto (.two .auto .auto)) (.two (.one (.two .auto (.two .auto (.two .auto (.two .auto .auto))))) .auto))))) (.two .auto (.two .auto (.two .auto (.two .auto (.two .auto (.two (.two .auto (.one (.loop [(13, .int .i64 0)] (.two (.two .auto (.two .auto .auto)) (.two (.one (.two .auto (.two .auto .auto))) .auto))))) (.two .auto (.two (.two .auto (.one (.loop [(15, .int .i64 0)] (.two (.two .auto (.two .auto .auto)) (.two (.one (.two .auto (.two .auto (.two .auto .auto)))) .auto))))) (.two .auto (.two .auto (.two .auto (.two .auto (.two (.two .auto (.two (.two .auto .auto) .auto)) (.two .auto .auto)))))))))))))))))))))))))))))))) Try.func17 (by kernel_rfl) (by kernel_rfl) (by kernel_rfl) h

/-- 18: buttery/butterylaw13.works -/
def sh_butterylaw13_works (w : World) (R : Ending → World → Prop) : Prop :=
  VNw none w (.cells #[.string (ByteArray.mk #[97]), .string (ByteArray.mk #[98])] 52) fun (b7 : Nat) (w1 : World) =>
  VNw none w1 (.cells #[.int .u8 0, .int .i64 0, .int .i64 0, .int .i64 0, .int .i64 0, .int .i64 0, .int .i64 0, .int .u8 0, .string ByteArray.empty, .string ByteArray.empty, .string ByteArray.empty, .bool false, .int .i64 0, .int .u8 0, .bool false, .string ByteArray.empty, .int .i64 0, .int .i64 0, .int .i64 0, .int .i64 0, .int .i64 0, .bool false, .slice none 0 0, .slice none 0 0, .string ByteArray.empty, .int .i64 0, .bool false, .slice none 0 0, .slice none 0 0, .int .u8 0, .int .i64 0, .int .i64 0, .int .i64 0] 34) fun (m_1 : Nat) (w2 : World) =>
  VSt none w2 ⟨m_1, 0, none⟩ [.int .u8 8, .int .i64 2, .int .i64 0, .int .i64 0, .int .i64 0, .int .i64 0, .int .i64 0, .int .u8 0, .string ByteArray.empty, .string ByteArray.empty, .string ByteArray.empty, .bool false, .int .i64 0, .int .u8 0, .bool false, .string ByteArray.empty, .int .i64 0, .int .i64 0, .int .i64 0, .int .i64 0, .int .i64 0, .bool false, .slice none 0 0, .slice none 0 0, .string ByteArray.empty, .int .i64 0, .bool false, .slice (some ⟨b7, 0, none⟩) 1 1, .slice none 0 0, .int .u8 0, .int .i64 0, .int .i64 0, .int .i64 0] fun (w3 : World) =>
  VLd none w3 ⟨m_1, 0, none⟩ [CT.int .u8, CT.int .i64, CT.int .i64, CT.int .i64, CT.int .i64, CT.int .i64, CT.int .i64, CT.int .u8, CT.str, CT.str, CT.str, CT.bool, CT.int .i64, CT.int .u8, CT.bool, CT.str, CT.int .i64, CT.int .i64, CT.int .i64, CT.int .i64, CT.int .i64, CT.bool, CT.sl, CT.sl, CT.str, CT.int .i64, CT.bool, CT.sl, CT.sl, CT.int .u8, CT.int .i64, CT.int .i64, CT.int .i64] fun (v10_0 : Int) (v10_1 : Int) (v10_2 : Int) (v10_3 : Int) (v10_4 : Int) (v10_5 : Int) (v10_6 : Int) (v10_7 : Int) (v10_8 : ByteArray) (v10_9 : ByteArray) (v10_10 : ByteArray) (v10_11 : Bool) (v10_12 : Int) (v10_13 : Int) (v10_14 : Bool) (v10_15 : ByteArray) (v10_16 : Int) (v10_17 : Int) (v10_18 : Int) (v10_19 : Int) (v10_20 : Int) (v10_21 : Bool) (v10_22 : Sl) (v10_23 : Sl) (v10_24 : ByteArray) (v10_25 : Int) (v10_26 : Bool) (v10_27 : Sl) (v10_28 : Sl) (v10_29 : Int) (v10_30 : Int) (v10_31 : Int) (v10_32 : Int) =>
  VCall none Try.prog 14 #[.agg #[.int .u8 v10_0, .int .i64 v10_1, .int .i64 v10_2, .int .i64 v10_3, .int .i64 v10_4, .int .i64 v10_5, .int .i64 v10_6, .int .u8 v10_7, .string v10_8, .string v10_9, .string v10_10, .bool v10_11, .int .i64 v10_12, .int .u8 v10_13, .bool v10_14, .string v10_15, .int .i64 v10_16, .int .i64 v10_17, .int .i64 v10_18, .int .i64 v10_19, .int .i64 v10_20, .bool v10_21, .slice v10_22.base v10_22.len v10_22.cap, .slice v10_23.base v10_23.len v10_23.cap, .string v10_24, .int .i64 v10_25, .bool v10_26, .slice v10_27.base v10_27.len v10_27.cap, .slice v10_28.base v10_28.len v10_28.cap, .int .u8 v10_29, .int .i64 v10_30, .int .i64 v10_31, .int .i64 v10_32]] w3 (.tuple #[.slice none 0 0, .int .i64 0]) fun (r11_0 : Sl) (r11_1 : Int) (w4 : World) =>
  VSet r11_1 fun (e_3 : Int) =>
  VCall none Try.prog 16 #[.slice r11_0.base r11_0.len r11_0.cap] w4 (.tuple #[.agg #[.int .u8 0, .int .i64 0, .int .i64 0, .int .i64 0, .int .i64 0, .int .i64 0, .int .i64 0, .int .u8 0, .string ByteArray.empty, .string ByteArray.empty, .string ByteArray.empty, .bool false, .int .i64 0, .int .u8 0, .bool false, .string ByteArray.empty, .int .i64 0, .int .i64 0, .int .i64 0, .int .i64 0, .int .i64 0, .bool false, .slice none 0 0, .slice none 0 0, .string ByteArray.empty, .int .i64 0, .bool false, .slice none 0 0, .slice none 0 0, .int .u8 0, .int .i64 0, .int .i64 0, .int .i64 0], .int .i64 0]) fun (r16_0 : Int) (r16_1 : Int) (r16_2 : Int) (r16_3 : Int) (r16_4 : Int) (r16_5 : Int) (r16_6 : Int) (r16_7 : Int) (r16_8 : ByteArray) (r16_9 : ByteArray) (r16_10 : ByteArray) (r16_11 : Bool) (r16_12 : Int) (r16_13 : Int) (r16_14 : Bool) (r16_15 : ByteArray) (r16_16 : Int) (r16_17 : Int) (r16_18 : Int) (r16_19 : Int) (r16_20 : Int) (r16_21 : Bool) (r16_22 : Sl) (r16_23 : Sl) (r16_24 : ByteArray) (r16_25 : Int) (r16_26 : Bool) (r16_27 : Sl) (r16_28 : Sl) (r16_29 : Int) (r16_30 : Int) (r16_31 : Int) (r16_32 : Int) (r16_33 : Int) (w5 : World) =>
  VNw none w5 (.cells #[.int .u8 0, .int .i64 0, .int .i64 0, .int .i64 0, .int .i64 0, .int .i64 0, .int .i64 0, .int .u8 0, .string ByteArray.empty, .string ByteArray.empty, .string ByteArray.empty, .bool false, .int .i64 0, .int .u8 0, .bool false, .string ByteArray.empty, .int .i64 0, .int .i64 0, .int .i64 0, .int .i64 0, .int .i64 0, .bool false, .slice none 0 0, .slice none 0 0, .string ByteArray.empty, .int .i64 0, .bool false, .slice none 0 0, .slice none 0 0, .int .u8 0, .int .i64 0, .int .i64 0, .int .i64 0] 34) fun (x_4 : Nat) (w6 : World) =>
  VSt none w6 ⟨x_4, 0, none⟩ [.int .u8 r16_0, .int .i64 r16_1, .int .i64 r16_2, .int .i64 r16_3, .int .i64 r16_4, .int .i64 r16_5, .int .i64 r16_6, .int .u8 r16_7, .string r16_8, .string r16_9, .string r16_10, .bool r16_11, .int .i64 r16_12, .int .u8 r16_13, .bool r16_14, .string r16_15, .int .i64 r16_16, .int .i64 r16_17, .int .i64 r16_18, .int .i64 r16_19, .int .i64 r16_20, .bool r16_21, .slice r16_22.base r16_22.len r16_22.cap, .slice r16_23.base r16_23.len r16_23.cap, .string r16_24, .int .i64 r16_25, .bool r16_26, .slice r16_27.base r16_27.len r16_27.cap, .slice r16_28.base r16_28.len r16_28.cap, .int .u8 r16_29, .int .i64 r16_30, .int .i64 r16_31, .int .i64 r16_32] fun (w7 : World) =>
  VSet r16_33 fun (f_5 : Int) =>
  ∀ (w8 : World), w8 = World.drew w7 →
  VIx (some (((e_3 == 0) && (f_5 == 0)) && (decide (((r11_0.len : Nat) : Int) > 3)))) r11_0.base r11_0.len 0 fun (a32 : Addr) =>
  VLd (some (((e_3 == 0) && (f_5 == 0)) && (decide (((r11_0.len : Nat) : Int) > 3)))) w8 a32 [CT.int .u8] fun (v33 : Int) =>
  VIx (some ((((e_3 == 0) && (f_5 == 0)) && (decide (((r11_0.len : Nat) : Int) > 3))) && (v33 == 8))) r11_0.base r11_0.len 1 fun (a38 : Addr) =>
  VLd (some ((((e_3 == 0) && (f_5 == 0)) && (decide (((r11_0.len : Nat) : Int) > 3))) && (v33 == 8))) w8 (Addr.add a38 1) [CT.int .u8] fun (v39 : Int) =>
  VLd (some (((((e_3 == 0) && (f_5 == 0)) && (decide (((r11_0.len : Nat) : Int) > 3))) && (v33 == 8)) && (v39 == 4))) w8 ⟨x_4, 0, none⟩ [CT.int .u8] fun (v44 : Int) =>
  VLd (some ((((((e_3 == 0) && (f_5 == 0)) && (decide (((r11_0.len : Nat) : Int) > 3))) && (v33 == 8)) && (v39 == 4)) && (v44 == 8))) w8 ⟨x_4, 1, none⟩ [CT.int .i64] fun (v49 : Int) =>
  VLd (some (((((((e_3 == 0) && (f_5 == 0)) && (decide (((r11_0.len : Nat) : Int) > 3))) && (v33 == 8)) && (v39 == 4)) && (v44 == 8)) && (v49 == 2))) w8 ⟨x_4, 27, none⟩ [CT.sl] fun (v54 : Sl) =>
  VLd (some ((((((((e_3 == 0) && (f_5 == 0)) && (decide (((r11_0.len : Nat) : Int) > 3))) && (v33 == 8)) && (v39 == 4)) && (v44 == 8)) && (v49 == 2)) && (((v54.len : Nat) : Int) == 1))) w8 ⟨x_4, 27, none⟩ [CT.sl] fun (v60 : Sl) =>
  VIx (some ((((((((e_3 == 0) && (f_5 == 0)) && (decide (((r11_0.len : Nat) : Int) > 3))) && (v33 == 8)) && (v39 == 4)) && (v44 == 8)) && (v49 == 2)) && (((v54.len : Nat) : Int) == 1))) v60.base v60.len 0 fun (a61 : Addr) =>
  VLd (some ((((((((e_3 == 0) && (f_5 == 0)) && (decide (((r11_0.len : Nat) : Int) > 3))) && (v33 == 8)) && (v39 == 4)) && (v44 == 8)) && (v49 == 2)) && (((v54.len : Nat) : Int) == 1))) w8 a61 [CT.str, CT.str] fun (v62_0 : ByteArray) (v62_1 : ByteArray) =>
  VLd (some ((((((((e_3 == 0) && (f_5 == 0)) && (decide (((r11_0.len : Nat) : Int) > 3))) && (v33 == 8)) && (v39 == 4)) && (v44 == 8)) && (v49 == 2)) && (((v54.len : Nat) : Int) == 1))) w8 ⟨m_1, 27, none⟩ [CT.sl] fun (v64 : Sl) =>
  VIx (some ((((((((e_3 == 0) && (f_5 == 0)) && (decide (((r11_0.len : Nat) : Int) > 3))) && (v33 == 8)) && (v39 == 4)) && (v44 == 8)) && (v49 == 2)) && (((v54.len : Nat) : Int) == 1))) v64.base v64.len 0 fun (a65 : Addr) =>
  VLd (some ((((((((e_3 == 0) && (f_5 == 0)) && (decide (((r11_0.len : Nat) : Int) > 3))) && (v33 == 8)) && (v39 == 4)) && (v44 == 8)) && (v49 == 2)) && (((v54.len : Nat) : Int) == 1))) w8 a65 [CT.str, CT.str] fun (v66_0 : ByteArray) (v66_1 : ByteArray) =>
  VLd (some (((((((((e_3 == 0) && (f_5 == 0)) && (decide (((r11_0.len : Nat) : Int) > 3))) && (v33 == 8)) && (v39 == 4)) && (v44 == 8)) && (v49 == 2)) && (((v54.len : Nat) : Int) == 1)) && ((v62_0.toList == v66_0.toList) && (v62_1.toList == v66_1.toList)))) w8 ⟨x_4, 0, none⟩ [CT.int .u8, CT.int .i64, CT.int .i64, CT.int .i64, CT.int .i64, CT.int .i64, CT.int .i64, CT.int .u8, CT.str, CT.str, CT.str, CT.bool, CT.int .i64, CT.int .u8, CT.bool, CT.str, CT.int .i64, CT.int .i64, CT.int .i64, CT.int .i64, CT.int .i64, CT.bool, CT.sl, CT.sl, CT.str, CT.int .i64, CT.bool, CT.sl, CT.sl, CT.int .u8, CT.int .i64, CT.int .i64, CT.int .i64] fun (v70_0 : Int) (v70_1 : Int) (v70_2 : Int) (v70_3 : Int) (v70_4 : Int) (v70_5 : Int) (v70_6 : Int) (v70_7 : Int) (v70_8 : ByteArray) (v70_9 : ByteArray) (v70_10 : ByteArray) (v70_11 : Bool) (v70_12 : Int) (v70_13 : Int) (v70_14 : Bool) (v70_15 : ByteArray) (v70_16 : Int) (v70_17 : Int) (v70_18 : Int) (v70_19 : Int) (v70_20 : Int) (v70_21 : Bool) (v70_22 : Sl) (v70_23 : Sl) (v70_24 : ByteArray) (v70_25 : Int) (v70_26 : Bool) (v70_27 : Sl) (v70_28 : Sl) (v70_29 : Int) (v70_30 : Int) (v70_31 : Int) (v70_32 : Int) =>
  VLd (some (((((((((e_3 == 0) && (f_5 == 0)) && (decide (((r11_0.len : Nat) : Int) > 3))) && (v33 == 8)) && (v39 == 4)) && (v44 == 8)) && (v49 == 2)) && (((v54.len : Nat) : Int) == 1)) && ((v62_0.toList == v66_0.toList) && (v62_1.toList == v66_1.toList)))) w8 ⟨m_1, 0, none⟩ [CT.int .u8, CT.int .i64, CT.int .i64, CT.int .i64, CT.int .i64, CT.int .i64, CT.int .i64, CT.int .u8, CT.str, CT.str, CT.str, CT.bool, CT.int .i64, CT.int .u8, CT.bool, CT.str, CT.int .i64, CT.int .i64, CT.int .i64, CT.int .i64, CT.int .i64, CT.bool, CT.sl, CT.sl, CT.str, CT.int .i64, CT.bool, CT.sl, CT.sl, CT.int .u8, CT.int .i64, CT.int .i64, CT.int .i64] fun (v71_0 : Int) (v71_1 : Int) (v71_2 : Int) (v71_3 : Int) (v71_4 : Int) (v71_5 : Int) (v71_6 : Int) (v71_7 : Int) (v71_8 : ByteArray) (v71_9 : ByteArray) (v71_10 : ByteArray) (v71_11 : Bool) (v71_12 : Int) (v71_13 : Int) (v71_14 : Bool) (v71_15 : ByteArray) (v71_16 : Int) (v71_17 : Int) (v71_18 : Int) (v71_19 : Int) (v71_20 : Int) (v71_21 : Bool) (v71_22 : Sl) (v71_23 : Sl) (v71_24 : ByteArray) (v71_25 : Int) (v71_26 : Bool) (v71_27 : Sl) (v71_28 : Sl) (v71_29 : Int) (v71_30 : Int) (v71_31 : Int) (v71_32 : Int) =>
  VCall (some (((((((((e_3 == 0) && (f_5 == 0)) && (decide (((r11_0.len : Nat) : Int) > 3))) && (v33 == 8)) && (v39 == 4)) && (v44 == 8)) && (v49 == 2)) && (((v54.len : Nat) : Int) == 1)) && ((v62_0.toList == v66_0.toList) && (v62_1.toList == v66_1.toList)))) Try.prog 9 #[.agg #[.int .u8 v70_0, .int .i64 v70_1, .int .i64 v70_2, .int .i64 v70_3, .int .i64 v70_4, .int .i64 v70_5, .int .i64 v70_6, .int .u8 v70_7, .string v70_8, .string v70_9, .string v70_10, .bool v70_11, .int .i64 v70_12, .int .u8 v70_13, .bool v70_14, .string v70_15, .int .i64 v70_16, .int .i64 v70_17, .int .i64 v70_18, .int .i64 v70_19, .int .i64 v70_20, .bool v70_21, .slice v70_22.base v70_22.len v70_22.cap, .slice v70_23.base v70_23.len v70_23.cap, .string v70_24, .int .i64 v70_25, .bool v70_26, .slice v70_27.base v70_27.len v70_27.cap, .slice v70_28.base v70_28.len v70_28.cap, .int .u8 v70_29, .int .i64 v70_30, .int .i64 v70_31, .int .i64 v70_32], .agg #[.int .u8 v71_0, .int .i64 v71_1, .int .i64 v71_2, .int .i64 v71_3, .int .i64 v71_4, .int .i64 v71_5, .int .i64 v71_6, .int .u8 v71_7, .string v71_8, .string v71_9, .string v71_10, .bool v71_11, .int .i64 v71_12, .int .u8 v71_13, .bool v71_14, .string v71_15, .int .i64 v71_16, .int .i64 v71_17, .int .i64 v71_18, .int .i64 v71_19, .int .i64 v71_20, .bool v71_21, .slice v71_22.base v71_22.len v71_22.cap, .slice v71_23.base v71_23.len v71_23.cap, .string v71_24, .int .i64 v71_25, .bool v71_26, .slice v71_27.base v71_27.len v71_27.cap, .slice v71_28.base v71_28.len v71_28.cap, .int .u8 v71_29, .int .i64 v71_30, .int .i64 v71_31, .int .i64 v71_32]] w8 (.bool false) fun (r72 : Bool) (w9 : World) =>
  R (.returned (.bool ((((((((((e_3 == 0) && (f_5 == 0)) && (decide (((r11_0.len : Nat) : Int) > 3))) && (v33 == 8)) && (v39 == 4)) && (v44 == 8)) && (v49 == 2)) && (((v54.len : Nat) : Int) == 1)) && ((v62_0.toList == v66_0.toList) && (v62_1.toList == v66_1.toList))) && r72))) w9
theorem sh_butterylaw13_works_ok (w : World) (R : Ending → World → Prop) (h : sh_butterylaw13_works w R) : Calls Try.prog 18 #[] w R :=
  calls_of_sh (args := []) (.two .auto (.two .auto (.two .auto (.two .auto (.two .auto .auto))))) Try.func18 (by kernel_rfl) (by kernel_rfl) (by kernel_rfl) h

/-- 29: (*buttery/msg.writer).kind -/
def sh_msg_writer_kind (w_0 : Option Addr) (k_1 : Int) (w : World) (R : Ending → World → Prop) : Prop :=
  VNw none w (.cells #[.int .u8 k_1] 5) fun (k_3 : Nat) (w1 : World) =>
  VCall none Try.prog 73 #[.pointer w_0, .func (.func 74) #[] #[.pointer (some ⟨k_3, 0, none⟩)]] w1 (.tuple #[]) fun (w2 : World) =>
  R (.returned (.tuple #[])) w2
theorem sh_msg_writer_kind_ok (w_0 : Option Addr) (k_1 : Int) (w : World) (R : Ending → World → Prop) (h : sh_msg_writer_kind w_0 k_1 w R) : Calls Try.prog 29 #[.pointer w_0, .int .u8 k_1] w R :=
  calls_of_sh (args := [.pointer w_0, .int .u8 k_1]) (.two .auto .auto) Try.func29 (by kernel_rfl) (by kernel_rfl) (by kernel_rfl) h

/-- 30: (*buttery/msg.writer).num -/
def sh_msg_writer_num (w_0 : Option Addr) (n_1 : Int) (w : World) (R : Ending → World → Prop) : Prop :=
  VNw none w (.cells #[.int .i64 n_1] 3) fun (n_3 : Nat) (w1 : World) =>
  VCall none Try.prog 73 #[.pointer w_0, .func (.func 76) #[] #[.pointer (some ⟨n_3, 0, none⟩)]] w1 (.tuple #[]) fun (w2 : World) =>
  R (.returned (.tuple #[])) w2
theorem sh_msg_writer_num_ok (w_0 : Option Addr) (n_1 : Int) (w : World) (R : Ending → World → Prop) (h : sh_msg_writer_num w_0 n_1 w R) : Calls Try.prog 30 #[.pointer w_0, .int .i64 n_1] w R :=
  calls_of_sh (args := [.pointer w_0, .int .i64 n_1]) (.two .auto .auto) Try.func30 (by kernel_rfl) (by kernel_rfl) (by kernel_rfl) h

/-- 31: (*buttery/msg.writer).text -/
def sh_msg_writer_text (w_0 : Option Addr) (s_1 : ByteArray) (w : World) (R : Ending → World → Prop) : Prop :=
  VNw none w (.cells #[.string s_1] 9) fun (s_3 : Nat) (w1 : World) =>
  ∃ Φ1 : World → Prop, (
    VLd none w1 ⟨s_3, 0, none⟩ [CT.str] fun (v4 : ByteArray) =>
    VIf (decide (((v4.size : Nat) : Int) > 8192)) (
      VNN none w_0 fun (a8 : Addr) =>
      VSt none w1 (Addr.add a8 1) [.bool true] fun (w2 : World) =>
      Φ1 w2
    ) (
      Φ1 w1
    )
  ) ∧ ∀ (w3 : World), Φ1 w3 →
  VCall none Try.prog 73 #[.pointer w_0, .func (.func 78) #[] #[.pointer (some ⟨s_3, 0, none⟩)]] w3 (.tuple #[]) fun (w4 : World) =>
  R (.returned (.tuple #[])) w4
theorem sh_msg_writer_text_ok (w_0 : Option Addr) (s_1 : ByteArray) (w : World) (R : Ending → World → Prop) (h : sh_msg_writer_text w_0 s_1 w R) : Calls Try.prog 31 #[.pointer w_0, .string s_1] w R :=
  calls_of_sh (args := [.pointer w_0, .string s_1]) (.two .auto (.join [] (.two .auto (.two .auto .auto)) .auto)) Try.func31 (by kernel_rfl) (by kernel_rfl) (by kernel_rfl) h

/-- 32: (*buttery/msg.writer).flag -/
def sh_msg_writer_flag (w_0 : Option Addr) (v_1 : Bool) (w : World) (R : Ending → World → Prop) : Prop :=
  VNw none w (.cells #[.bool v_1] 4) fun (v_3 : Nat) (w1 : World) =>
  VCall none Try.prog 73 #[.pointer w_0, .func (.func 80) #[] #[.pointer (some ⟨v_3, 0, none⟩)]] w1 (.tuple #[]) fun (w2 : World) =>
  R (.returned (.tuple #[])) w2
theorem sh_msg_writer_flag_ok (w_0 : Option Addr) (v_1 : Bool) (w : World) (R : Ending → World → Prop) (h : sh_msg_writer_flag w_0 v_1 w R) : Calls Try.prog 32 #[.pointer w_0, .bool v_1] w R :=
  calls_of_sh (args := [.pointer w_0, .bool v_1]) (.two .auto .auto) Try.func32 (by kernel_rfl) (by kernel_rfl) (by kernel_rfl) h

/-- 33: (*buttery/msg.writer).result -/
def sh_msg_writer_result (w_0 : Option Addr) (r_1_0 : Int) (r_1_1 : Bool) (r_1_2 : ByteArray) (w : World) (R : Ending → World → Prop) : Prop :=
  VNw none w (.cells #[.int .u8 r_1_0, .bool r_1_1, .string r_1_2] 26) fun (r_3 : Nat) (w1 : World) =>
  VLd none w1 ⟨r_3, 0, none⟩ [CT.int .u8] fun (v6 : Int) =>
  VCall none Try.prog 29 #[.pointer w_0, .int .u8 v6] w1 (.tuple #[]) fun (w2 : World) =>
  VLd none w2 ⟨r_3, 1, none⟩ [CT.bool] fun (v10 : Bool) =>
  VCall none Try.prog 32 #[.pointer w_0, .bool v10] w2 (.tuple #[]) fun (w3 : World) =>
  VLd none w3 ⟨r_3, 2, none⟩ [CT.str] fun (v14 : ByteArray) =>
  VCall none Try.prog 31 #[.pointer w_0, .string v14] w3 (.tuple #[]) fun (w4 : World) =>
  R (.returned (.tuple #[])) w4
theorem sh_msg_writer_result_ok (w_0 : Option Addr) (r_1_0 : Int) (r_1_1 : Bool) (r_1_2 : ByteArray) (w : World) (R : Ending → World → Prop) (h : sh_msg_writer_result w_0 r_1_0 r_1_1 r_1_2 w R) : Calls Try.prog 33 #[.pointer w_0, .agg #[.int .u8 r_1_0, .bool r_1_1, .string r_1_2]] w R :=
  calls_of_sh (args := [.pointer w_0, .agg #[.int .u8 r_1_0, .bool r_1_1, .string r_1_2]]) (.two .auto (.two .auto (.two .auto .auto))) Try.func33 (by kernel_rfl) (by kernel_rfl) (by kernel_rfl) h

/-- 34: buttery/msg.list of buttery/api.Entry -/
def sh_msg_list (w_0 : Option Addr) (l_1 : Sl) (put_2 : Value) (w : World) (R : Ending → World → Prop) : Prop :=
  VNw none w (.cells #[.slice l_1.base l_1.len l_1.cap] 27) fun (l_4 : Nat) (w1 : World) =>
  VCall none Try.prog 73 #[.pointer w_0, .func (.func 82) #[] #[.pointer (some ⟨l_4, 0, none⟩)]] w1 (.tuple #[]) fun (w2 : World) =>
  VLd none w2 ⟨l_4, 0, none⟩ [CT.sl] fun (v11 : Sl) =>
  ∃ I1 : Nat → Int → World → Prop, (∃ k, I1 k 0 w2) ∧ ∀ k1 (x13 : Int) (w3 : World), I1 k1 x13 w3 →
  VIf (decide (x13 < ((v11.len : Nat) : Int))) (
    VIx none v11.base v11.len x13 fun (a15 : Addr) =>
    VLd none w3 (Addr.add a15 ((Int.toNat x13) * 4)) [CT.int .i64, CT.int .u8, CT.str, CT.sl] fun (v16_0 : Int) (v16_1 : Int) (v16_2 : ByteArray) (v16_3 : Sl) =>
    VNw none w3 (.cells #[.int .i64 0, .int .u8 0, .string ByteArray.empty, .slice none 0 0] 58) fun (x_7 : Nat) (w4 : World) =>
    VSt none w4 ⟨x_7, 0, none⟩ [.int .i64 v16_0, .int .u8 v16_1, .string v16_2, .slice v16_3.base v16_3.len v16_3.cap] fun (w5 : World) =>
    VNN none w_0 fun (a18 : Addr) =>
    VLd none w5 (Addr.add a18 1) [CT.bool] fun (v20 : Bool) =>
    VIf v20 (
      R (.returned (.tuple #[])) w5
    ) (
      VLd none w5 ⟨x_7, 0, none⟩ [CT.int .i64, CT.int .u8, CT.str, CT.sl] fun (v22_0 : Int) (v22_1 : Int) (v22_2 : ByteArray) (v22_3 : Sl) =>
      VDyn none Try.prog put_2 #[.agg #[.int .i64 v22_0, .int .u8 v22_1, .string v22_2, .slice v22_3.base v22_3.len v22_3.cap]] w5 (.tuple #[]) fun (w6 : World) =>
      ∃ k', k' < k1 ∧ I1 k' (IntKind.wrap .i64 (x13 + 1)) w6
    )
  ) (
    R (.returned (.tuple #[])) w3
  )
theorem sh_msg_list_ok (w_0 : Option Addr) (l_1 : Sl) (put_2 : Value) (w : World) (R : Ending → World → Prop) (h : sh_msg_list w_0 l_1 put_2 w R) : Calls Try.prog 34 #[.pointer w_0, .slice l_1.base l_1.len l_1.cap, put_2] w R :=
  calls_of_sh (args := [.pointer w_0, .slice l_1.base l_1.len l_1.cap, put_2]) (.two .auto (.two .auto (.two .auto (.one (.loop [(13, .int .i64 0)] (.two .auto (.two (.two .auto .auto) (.two (.one (.two .auto (.two (.two .auto (.two .auto .auto)) .auto))) .auto)))))))) Try.func34 (by kernel_rfl) (by kernel_rfl) (by kernel_rfl) h

/-- 35: buttery/msg.Encode$1 -/
def sh_msg_Encode_1 (e_0_0 : Int) (e_0_1 : Int) (e_0_2 : ByteArray) (e_0_3 : Sl) (cap0 : Addr) (w : World) (R : Ending → World → Prop) : Prop :=
  VNw none w (.cells #[.int .i64 e_0_0, .int .u8 e_0_1, .string e_0_2, .slice e_0_3.base e_0_3.len e_0_3.cap] 58) fun (e_2 : Nat) (w1 : World) =>
  VLd none w1 cap0 [CT.ptr] fun (v3 : Option Addr) =>
  VLd none w1 ⟨e_2, 0, none⟩ [CT.int .i64] fun (v5 : Int) =>
  VCall none Try.prog 30 #[.pointer v3, .int .i64 v5] w1 (.tuple #[]) fun (w2 : World) =>
  VLd none w2 cap0 [CT.ptr] fun (v7 : Option Addr) =>
  VLd none w2 ⟨e_2, 1, none⟩ [CT.int .u8] fun (v9 : Int) =>
  VCall none Try.prog 29 #[.pointer v7, .int .u8 v9] w2 (.tuple #[]) fun (w3 : World) =>
  VLd none w3 cap0 [CT.ptr] fun (v11 : Option Addr) =>
  VLd none w3 ⟨e_2, 2, none⟩ [CT.str] fun (v13 : ByteArray) =>
  VCall none Try.prog 31 #[.pointer v11, .string v13] w3 (.tuple #[]) fun (w4 : World) =>
  VLd none w4 cap0 [CT.ptr] fun (v15 : Option Addr) =>
  VLd none w4 ⟨e_2, 3, none⟩ [CT.sl] fun (v17 : Sl) =>
  VLd none w4 cap0 [CT.ptr] fun (v18 : Option Addr) =>
  VCall none Try.prog 36 #[.pointer v15, .slice v17.base v17.len v17.cap, .func (.func 30) #[.pointer v18] #[]] w4 (.tuple #[]) fun (w5 : World) =>
  R (.returned (.tuple #[])) w5
theorem sh_msg_Encode_1_ok (e_0_0 : Int) (e_0_1 : Int) (e_0_2 : ByteArray) (e_0_3 : Sl) (cap0 : Addr) (w : World) (R : Ending → World → Prop) (h : sh_msg_Encode_1 e_0_0 e_0_1 e_0_2 e_0_3 cap0 w R) : Calls Try.prog 35 #[.agg #[.int .i64 e_0_0, .int .u8 e_0_1, .string e_0_2, .slice e_0_3.base e_0_3.len e_0_3.cap], .pointer (some cap0)] w R :=
  calls_of_sh (args := [.agg #[.int .i64 e_0_0, .int .u8 e_0_1, .string e_0_2, .slice e_0_3.base e_0_3.len e_0_3.cap], .pointer (some cap0)]) (.two .auto (.two .auto (.two .auto (.two .auto .auto)))) Try.func35 (by kernel_rfl) (by kernel_rfl) (by kernel_rfl) h

/-- 36: buttery/msg.list of int -/
def sh_msg_list' (w_0 : Option Addr) (l_1 : Sl) (put_2 : Value) (w : World) (R : Ending → World → Prop) : Prop :=
  VNw none w (.cells #[.slice l_1.base l_1.len l_1.cap] 28) fun (l_4 : Nat) (w1 : World) =>
  VCall none Try.prog 73 #[.pointer w_0, .func (.func 83) #[] #[.pointer (some ⟨l_4, 0, none⟩)]] w1 (.tuple #[]) fun (w2 : World) =>
  VLd none w2 ⟨l_4, 0, none⟩ [CT.sl] fun (v11 : Sl) =>
  ∃ I1 : Nat → Int → World → Prop, (∃ k, I1 k 0 w2) ∧ ∀ k1 (x13 : Int) (w3 : World), I1 k1 x13 w3 →
  VIf (decide (x13 < ((v11.len : Nat) : Int))) (
    VIx none v11.base v11.len x13 fun (a15 : Addr) =>
    VLd none w3 (Addr.add a15 ((Int.toNat x13) * 1)) [CT.int .i64] fun (v16 : Int) =>
    VSet v16 fun (x_7 : Int) =>
    VNN none w_0 fun (a18 : Addr) =>
    VLd none w3 (Addr.add a18 1) [CT.bool] fun (v20 : Bool) =>
    VIf v20 (
      R (.returned (.tuple #[])) w3
    ) (
      VDyn none Try.prog put_2 #[.int .i64 x_7] w3 (.tuple #[]) fun (w4 : World) =>
      ∃ k', k' < k1 ∧ I1 k' (IntKind.wrap .i64 (x13 + 1)) w4
    )
  ) (
    R (.returned (.tuple #[])) w3
  )
theorem sh_msg_list'_ok (w_0 : Option Addr) (l_1 : Sl) (put_2 : Value) (w : World) (R : Ending → World → Prop) (h : sh_msg_list' w_0 l_1 put_2 w R) : Calls Try.prog 36 #[.pointer w_0, .slice l_1.base l_1.len l_1.cap, put_2] w R :=
  calls_of_sh (args := [.pointer w_0, .slice l_1.base l_1.len l_1.cap, put_2]) (.two .auto (.two .auto (.two .auto (.one (.loop [(13, .int .i64 0)] (.two .auto (.two (.two .auto .auto) (.two (.one (.two .auto (.two (.two .auto (.two .auto .auto)) .auto))) .auto)))))))) Try.func36 (by kernel_rfl) (by kernel_rfl) (by kernel_rfl) h

/-- 37: buttery/msg.list of buttery/api.Pair -/
def sh_msg_list'' (w_0 : Option Addr) (l_1 : Sl) (put_2 : Value) (w : World) (R : Ending → World → Prop) : Prop :=
  VNw none w (.cells #[.slice l_1.base l_1.len l_1.cap] 29) fun (l_4 : Nat) (w1 : World) =>
  VCall none Try.prog 73 #[.pointer w_0, .func (.func 84) #[] #[.pointer (some ⟨l_4, 0, none⟩)]] w1 (.tuple #[]) fun (w2 : World) =>
  VLd none w2 ⟨l_4, 0, none⟩ [CT.sl] fun (v11 : Sl) =>
  ∃ I1 : Nat → Int → World → Prop, (∃ k, I1 k 0 w2) ∧ ∀ k1 (x13 : Int) (w3 : World), I1 k1 x13 w3 →
  VIf (decide (x13 < ((v11.len : Nat) : Int))) (
    VIx none v11.base v11.len x13 fun (a15 : Addr) =>
    VLd none w3 (Addr.add a15 ((Int.toNat x13) * 2)) [CT.str, CT.str] fun (v16_0 : ByteArray) (v16_1 : ByteArray) =>
    VNw none w3 (.cells #[.string ByteArray.empty, .string ByteArray.empty] 52) fun (x_7 : Nat) (w4 : World) =>
    VSt none w4 ⟨x_7, 0, none⟩ [.string v16_0, .string v16_1] fun (w5 : World) =>
    VNN none w_0 fun (a18 : Addr) =>
    VLd none w5 (Addr.add a18 1) [CT.bool] fun (v20 : Bool) =>
    VIf v20 (
      R (.returned (.tuple #[])) w5
    ) (
      VLd none w5 ⟨x_7, 0, none⟩ [CT.str, CT.str] fun (v22_0 : ByteArray) (v22_1 : ByteArray) =>
      VDyn none Try.prog put_2 #[.agg #[.string v22_0, .string v22_1]] w5 (.tuple #[]) fun (w6 : World) =>
      ∃ k', k' < k1 ∧ I1 k' (IntKind.wrap .i64 (x13 + 1)) w6
    )
  ) (
    R (.returned (.tuple #[])) w3
  )
theorem sh_msg_list''_ok (w_0 : Option Addr) (l_1 : Sl) (put_2 : Value) (w : World) (R : Ending → World → Prop) (h : sh_msg_list'' w_0 l_1 put_2 w R) : Calls Try.prog 37 #[.pointer w_0, .slice l_1.base l_1.len l_1.cap, put_2] w R :=
  calls_of_sh (args := [.pointer w_0, .slice l_1.base l_1.len l_1.cap, put_2]) (.two .auto (.two .auto (.two .auto (.one (.loop [(13, .int .i64 0)] (.two .auto (.two (.two .auto .auto) (.two (.one (.two .auto (.two (.two .auto (.two .auto .auto)) .auto))) .auto)))))))) Try.func37 (by kernel_rfl) (by kernel_rfl) (by kernel_rfl) h

/-- 38: buttery/msg.Encode$2 -/
def sh_msg_Encode_2 (p_0_0 : ByteArray) (p_0_1 : ByteArray) (cap0 : Addr) (w : World) (R : Ending → World → Prop) : Prop :=
  VNw none w (.cells #[.string p_0_0, .string p_0_1] 52) fun (p_2 : Nat) (w1 : World) =>
  VLd none w1 cap0 [CT.ptr] fun (v3 : Option Addr) =>
  VLd none w1 ⟨p_2, 0, none⟩ [CT.str] fun (v5 : ByteArray) =>
  VCall none Try.prog 31 #[.pointer v3, .string v5] w1 (.tuple #[]) fun (w2 : World) =>
  VLd none w2 cap0 [CT.ptr] fun (v7 : Option Addr) =>
  VLd none w2 ⟨p_2, 1, none⟩ [CT.str] fun (v9 : ByteArray) =>
  VCall none Try.prog 31 #[.pointer v7, .string v9] w2 (.tuple #[]) fun (w3 : World) =>
  R (.returned (.tuple #[])) w3
theorem sh_msg_Encode_2_ok (p_0_0 : ByteArray) (p_0_1 : ByteArray) (cap0 : Addr) (w : World) (R : Ending → World → Prop) (h : sh_msg_Encode_2 p_0_0 p_0_1 cap0 w R) : Calls Try.prog 38 #[.agg #[.string p_0_0, .string p_0_1], .pointer (some cap0)] w R :=
  calls_of_sh (args := [.agg #[.string p_0_0, .string p_0_1], .pointer (some cap0)]) (.two .auto (.two .auto .auto)) Try.func38 (by kernel_rfl) (by kernel_rfl) (by kernel_rfl) h

/-- 39: buttery/msg.list of buttery/api.Last -/
def sh_msg_list''' (w_0 : Option Addr) (l_1 : Sl) (put_2 : Value) (w : World) (R : Ending → World → Prop) : Prop :=
  VNw none w (.cells #[.slice l_1.base l_1.len l_1.cap] 30) fun (l_4 : Nat) (w1 : World) =>
  VCall none Try.prog 73 #[.pointer w_0, .func (.func 85) #[] #[.pointer (some ⟨l_4, 0, none⟩)]] w1 (.tuple #[]) fun (w2 : World) =>
  VLd none w2 ⟨l_4, 0, none⟩ [CT.sl] fun (v11 : Sl) =>
  ∃ I1 : Nat → Int → World → Prop, (∃ k, I1 k 0 w2) ∧ ∀ k1 (x13 : Int) (w3 : World), I1 k1 x13 w3 →
  VIf (decide (x13 < ((v11.len : Nat) : Int))) (
    VIx none v11.base v11.len x13 fun (a15 : Addr) =>
    VLd none w3 (Addr.add a15 ((Int.toNat x13) * 5)) [CT.int .i64, CT.int .i64, CT.int .u8, CT.bool, CT.str] fun (v16_0 : Int) (v16_1 : Int) (v16_2 : Int) (v16_3 : Bool) (v16_4 : ByteArray) =>
    VNw none w3 (.cells #[.int .i64 0, .int .i64 0, .int .u8 0, .bool false, .string ByteArray.empty] 55) fun (x_7 : Nat) (w4 : World) =>
    VSt none w4 ⟨x_7, 0, none⟩ [.int .i64 v16_0, .int .i64 v16_1, .int .u8 v16_2, .bool v16_3, .string v16_4] fun (w5 : World) =>
    VNN none w_0 fun (a18 : Addr) =>
    VLd none w5 (Addr.add a18 1) [CT.bool] fun (v20 : Bool) =>
    VIf v20 (
      R (.returned (.tuple #[])) w5
    ) (
      VLd none w5 ⟨x_7, 0, none⟩ [CT.int .i64, CT.int .i64, CT.int .u8, CT.bool, CT.str] fun (v22_0 : Int) (v22_1 : Int) (v22_2 : Int) (v22_3 : Bool) (v22_4 : ByteArray) =>
      VDyn none Try.prog put_2 #[.agg #[.int .i64 v22_0, .int .i64 v22_1, .int .u8 v22_2, .bool v22_3, .string v22_4]] w5 (.tuple #[]) fun (w6 : World) =>
      ∃ k', k' < k1 ∧ I1 k' (IntKind.wrap .i64 (x13 + 1)) w6
    )
  ) (
    R (.returned (.tuple #[])) w3
  )
theorem sh_msg_list'''_ok (w_0 : Option Addr) (l_1 : Sl) (put_2 : Value) (w : World) (R : Ending → World → Prop) (h : sh_msg_list''' w_0 l_1 put_2 w R) : Calls Try.prog 39 #[.pointer w_0, .slice l_1.base l_1.len l_1.cap, put_2] w R :=
  calls_of_sh (args := [.pointer w_0, .slice l_1.base l_1.len l_1.cap, put_2]) (.two .auto (.two .auto (.two .auto (.one (.loop [(13, .int .i64 0)] (.two .auto (.two (.two .auto .auto) (.two (.one (.two .auto (.two (.two .auto (.two .auto .auto)) .auto))) .auto)))))))) Try.func39 (by kernel_rfl) (by kernel_rfl) (by kernel_rfl) h

/-- 40: buttery/msg.Encode$3 -/
def sh_msg_Encode_3 (l_0_0 : Int) (l_0_1 : Int) (l_0_2 : Int) (l_0_3 : Bool) (l_0_4 : ByteArray) (cap0 : Addr) (w : World) (R : Ending → World → Prop) : Prop :=
  VNw none w (.cells #[.int .i64 l_0_0, .int .i64 l_0_1, .int .u8 l_0_2, .bool l_0_3, .string l_0_4] 55) fun (l_2 : Nat) (w1 : World) =>
  VLd none w1 cap0 [CT.ptr] fun (v3 : Option Addr) =>
  VLd none w1 ⟨l_2, 0, none⟩ [CT.int .i64] fun (v5 : Int) =>
  VCall none Try.prog 30 #[.pointer v3, .int .i64 v5] w1 (.tuple #[]) fun (w2 : World) =>
  VLd none w2 cap0 [CT.ptr] fun (v7 : Option Addr) =>
  VLd none w2 ⟨l_2, 1, none⟩ [CT.int .i64] fun (v9 : Int) =>
  VCall none Try.prog 30 #[.pointer v7, .int .i64 v9] w2 (.tuple #[]) fun (w3 : World) =>
  VLd none w3 cap0 [CT.ptr] fun (v11 : Option Addr) =>
  VLd none w3 ⟨l_2, 2, none⟩ [CT.int .u8, CT.bool, CT.str] fun (v13_0 : Int) (v13_1 : Bool) (v13_2 : ByteArray) =>
  VCall none Try.prog 33 #[.pointer v11, .agg #[.int .u8 v13_0, .bool v13_1, .string v13_2]] w3 (.tuple #[]) fun (w4 : World) =>
  R (.returned (.tuple #[])) w4
theorem sh_msg_Encode_3_ok (l_0_0 : Int) (l_0_1 : Int) (l_0_2 : Int) (l_0_3 : Bool) (l_0_4 : ByteArray) (cap0 : Addr) (w : World) (R : Ending → World → Prop) (h : sh_msg_Encode_3 l_0_0 l_0_1 l_0_2 l_0_3 l_0_4 cap0 w R) : Calls Try.prog 40 #[.agg #[.int .i64 l_0_0, .int .i64 l_0_1, .int .u8 l_0_2, .bool l_0_3, .string l_0_4], .pointer (some cap0)] w R :=
  calls_of_sh (args := [.agg #[.int .i64 l_0_0, .int .i64 l_0_1, .int .u8 l_0_2, .bool l_0_3, .string l_0_4], .pointer (some cap0)]) (.two .auto (.two .auto (.two .auto .auto))) Try.func40 (by kernel_rfl) (by kernel_rfl) (by kernel_rfl) h

/-- 41: buttery/butteryref13.Size -/
def sh_butteryref13_Size (m_0_0 : Int) (m_0_1 : Int) (m_0_2 : Int) (m_0_3 : Int) (m_0_4 : Int) (m_0_5 : Int) (m_0_6 : Int) (m_0_7 : Int) (m_0_8 : ByteArray) (m_0_9 : ByteArray) (m_0_10 : ByteArray) (m_0_11 : Bool) (m_0_12 : Int) (m_0_13 : Int) (m_0_14 : Bool) (m_0_15 : ByteArray) (m_0_16 : Int) (m_0_17 : Int) (m_0_18 : Int) (m_0_19 : Int) (m_0_20 : Int) (m_0_21 : Bool) (m_0_22 : Sl) (m_0_23 : Sl) (m_0_24 : ByteArray) (m_0_25 : Int) (m_0_26 : Bool) (m_0_27 : Sl) (m_0_28 : Sl) (m_0_29 : Int) (m_0_30 : Int) (m_0_31 : Int) (m_0_32 : Int) (w : World) (R : Ending → World → Prop) : Prop :=
  VNw none w (.cells #[.int .u8 m_0_0, .int .i64 m_0_1, .int .i64 m_0_2, .int .i64 m_0_3, .int .i64 m_0_4, .int .i64 m_0_5, .int .i64 m_0_6, .int .u8 m_0_7, .string m_0_8, .string m_0_9, .string m_0_10, .bool m_0_11, .int .i64 m_0_12, .int .u8 m_0_13, .bool m_0_14, .string m_0_15, .int .i64 m_0_16, .int .i64 m_0_17, .int .i64 m_0_18, .int .i64 m_0_19, .int .i64 m_0_20, .bool m_0_21, .slice m_0_22.base m_0_22.len m_0_22.cap, .slice m_0_23.base m_0_23.len m_0_23.cap, .string m_0_24, .int .i64 m_0_25, .bool m_0_26, .slice m_0_27.base m_0_27.len m_0_27.cap, .slice m_0_28.base m_0_28.len m_0_28.cap, .int .u8 m_0_29, .int .i64 m_0_30, .int .i64 m_0_31, .int .i64 m_0_32] 34) fun (m_1 : Nat) (w1 : World) =>
  VLd none w1 ⟨m_1, 8, none⟩ [CT.str] fun (v9 : ByteArray) =>
  VLd none w1 ⟨m_1, 9, none⟩ [CT.str] fun (v13 : ByteArray) =>
  VLd none w1 ⟨m_1, 10, none⟩ [CT.str] fun (v18 : ByteArray) =>
  VLd none w1 ⟨m_1, 15, none⟩ [CT.str] fun (v23 : ByteArray) =>
  VLd none w1 ⟨m_1, 24, none⟩ [CT.str] fun (v27 : ByteArray) =>
  VLd none w1 ⟨m_1, 23, none⟩ [CT.sl] fun (v31 : Sl) =>
  VLd none w1 ⟨m_1, 27, none⟩ [CT.sl] fun (v35 : Sl) =>
  VLd none w1 ⟨m_1, 28, none⟩ [CT.sl] fun (v39 : Sl) =>
  VLd none w1 ⟨m_1, 22, none⟩ [CT.sl] fun (v43 : Sl) =>
  VSet (IntKind.wrap .i64 ((IntKind.wrap .i64 ((IntKind.wrap .i64 ((IntKind.wrap .i64 ((IntKind.wrap .i64 ((IntKind.wrap .i64 ((IntKind.wrap .i64 ((IntKind.wrap .i64 (((v9.size : Nat) : Int) + ((v13.size : Nat) : Int))) + ((v18.size : Nat) : Int))) + ((v23.size : Nat) : Int))) + ((v27.size : Nat) : Int))) + ((v31.len : Nat) : Int))) + ((v35.len : Nat) : Int))) + ((v39.len : Nat) : Int))) + ((v43.len : Nat) : Int))) fun (n_3 : Int) =>
  ∃ I1 : Nat → Int → Int → World → Prop, (∃ k, I1 k n_3 0 w1) ∧ ∀ k1 (n_3' : Int) (i_4 : Int) (w2 : World), I1 k1 n_3' i_4 w2 →
  VLd none w2 ⟨m_1, 27, none⟩ [CT.sl] fun (v48 : Sl) =>
  VIf ((decide (i_4 < ((v48.len : Nat) : Int))) && (decide (n_3' < 10000))) (
    ∀ (w3 : World), w3 = World.drew w2 →
    VLd none w3 ⟨m_1, 27, none⟩ [CT.sl] fun (v59 : Sl) =>
    VIx none v59.base v59.len i_4 fun (a61 : Addr) =>
    VLd none w3 (Addr.add a61 ((Int.toNat i_4) * 2)) [CT.str] fun (v63 : ByteArray) =>
    VLd none w3 ⟨m_1, 27, none⟩ [CT.sl] fun (v67 : Sl) =>
    VIx none v67.base v67.len i_4 fun (a69 : Addr) =>
    VLd none w3 (Addr.add (Addr.add a69 ((Int.toNat i_4) * 2)) 1) [CT.str] fun (v71 : ByteArray) =>
    VSet (IntKind.wrap .i64 ((IntKind.wrap .i64 (n_3' + ((v63.size : Nat) : Int))) + ((v71.size : Nat) : Int))) fun (n_3'' : Int) =>
    VSet (IntKind.wrap .i64 (i_4 + 1)) fun (i_4' : Int) =>
    ∃ k', k' < k1 ∧ I1 k' n_3'' i_4' w3
  ) (
    ∃ I2 : Nat → Int → Int → World → Prop, (∃ k, I2 k n_3' 0 w2) ∧ ∀ k2 (n_3_3 : Int) (i_5 : Int) (w4 : World), I2 k2 n_3_3 i_5 w4 →
    VLd none w4 ⟨m_1, 28, none⟩ [CT.sl] fun (v76 : Sl) =>
    VIf ((decide (i_5 < ((v76.len : Nat) : Int))) && (decide (n_3_3 < 10000))) (
      VLd none w4 ⟨m_1, 28, none⟩ [CT.sl] fun (v87 : Sl) =>
      VIx none v87.base v87.len i_5 fun (a89 : Addr) =>
      VLd none w4 (Addr.add (Addr.add a89 ((Int.toNat i_5) * 5)) 4) [CT.str] fun (v92 : ByteArray) =>
      VSet (IntKind.wrap .i64 (n_3_3 + ((v92.size : Nat) : Int))) fun (n_3_4 : Int) =>
      VSet (IntKind.wrap .i64 (i_5 + 1)) fun (i_5' : Int) =>
      ∃ k', k' < k2 ∧ I2 k' n_3_4 i_5' w4
    ) (
      ∃ I3 : Nat → Int → Int → World → Prop, (∃ k, I3 k n_3_3 0 w4) ∧ ∀ k3 (n_3_5 : Int) (i_6 : Int) (w5 : World), I3 k3 n_3_5 i_6 w5 →
      VLd none w5 ⟨m_1, 22, none⟩ [CT.sl] fun (v97 : Sl) =>
      VIf ((decide (i_6 < ((v97.len : Nat) : Int))) && (decide (n_3_5 < 10000))) (
        ∀ (w6 : World), w6 = World.drew w5 →
        VLd none w6 ⟨m_1, 22, none⟩ [CT.sl] fun (v108 : Sl) =>
        VIx none v108.base v108.len i_6 fun (a110 : Addr) =>
        VLd none w6 (Addr.add (Addr.add a110 ((Int.toNat i_6) * 4)) 2) [CT.str] fun (v112 : ByteArray) =>
        VLd none w6 ⟨m_1, 22, none⟩ [CT.sl] fun (v116 : Sl) =>
        VIx none v116.base v116.len i_6 fun (a118 : Addr) =>
        VLd none w6 (Addr.add (Addr.add a118 ((Int.toNat i_6) * 4)) 3) [CT.sl] fun (v120 : Sl) =>
        VSet (IntKind.wrap .i64 ((IntKind.wrap .i64 (n_3_5 + ((v112.size : Nat) : Int))) + ((v120.len : Nat) : Int))) fun (n_3_6 : Int) =>
        VSet (IntKind.wrap .i64 (i_6 + 1)) fun (i_6' : Int) =>
        ∃ k', k' < k3 ∧ I3 k' n_3_6 i_6' w6
      ) (
        VSet n_3_5 fun (v2 : Int) =>
        R (.returned (.int .i64 v2)) w5
      )
    )
  )
theorem sh_butteryref13_Size_ok (m_0_0 : Int) (m_0_1 : Int) (m_0_2 : Int) (m_0_3 : Int) (m_0_4 : Int) (m_0_5 : Int) (m_0_6 : Int) (m_0_7 : Int) (m_0_8 : ByteArray) (m_0_9 : ByteArray) (m_0_10 : ByteArray) (m_0_11 : Bool) (m_0_12 : Int) (m_0_13 : Int) (m_0_14 : Bool) (m_0_15 : ByteArray) (m_0_16 : Int) (m_0_17 : Int) (m_0_18 : Int) (m_0_19 : Int) (m_0_20 : Int) (m_0_21 : Bool) (m_0_22 : Sl) (m_0_23 : Sl) (m_0_24 : ByteArray) (m_0_25 : Int) (m_0_26 : Bool) (m_0_27 : Sl) (m_0_28 : Sl) (m_0_29 : Int) (m_0_30 : Int) (m_0_31 : Int) (m_0_32 : Int) (w : World) (R : Ending → World → Prop) (h : sh_butteryref13_Size m_0_0 m_0_1 m_0_2 m_0_3 m_0_4 m_0_5 m_0_6 m_0_7 m_0_8 m_0_9 m_0_10 m_0_11 m_0_12 m_0_13 m_0_14 m_0_15 m_0_16 m_0_17 m_0_18 m_0_19 m_0_20 m_0_21 m_0_22 m_0_23 m_0_24 m_0_25 m_0_26 m_0_27 m_0_28 m_0_29 m_0_30 m_0_31 m_0_32 w R) : Calls Try.prog 41 #[.agg #[.int .u8 m_0_0, .int .i64 m_0_1, .int .i64 m_0_2, .int .i64 m_0_3, .int .i64 m_0_4, .int .i64 m_0_5, .int .i64 m_0_6, .int .u8 m_0_7, .string m_0_8, .string m_0_9, .string m_0_10, .bool m_0_11, .int .i64 m_0_12, .int .u8 m_0_13, .bool m_0_14, .string m_0_15, .int .i64 m_0_16, .int .i64 m_0_17, .int .i64 m_0_18, .int .i64 m_0_19, .int .i64 m_0_20, .bool m_0_21, .slice m_0_22.base m_0_22.len m_0_22.cap, .slice m_0_23.base m_0_23.len m_0_23.cap, .string m_0_24, .int .i64 m_0_25, .bool m_0_26, .slice m_0_27.base m_0_27.len m_0_27.cap, .slice m_0_28.base m_0_28.len m_0_28.cap, .int .u8 m_0_29, .int .i64 m_0_30, .int .i64 m_0_31, .int .i64 m_0_32]] w R :=
  by
  apply calls_of_sh (P := Try.prog) (f := 41) (fn := Try.f41) (args := [.agg #[.int .u8 m_0_0, .int .i64 m_0_1, .int .i64 m_0_2, .int .i64 m_0_3, .int .i64 m_0_4, .int .i64 m_0_5, .int .i64 m_0_6, .int .u8 m_0_7, .string m_0_8, .string m_0_9, .string m_0_10, .bool m_0_11, .int .i64 m_0_12, .int .u8 m_0_13, .bool m_0_14, .string m_0_15, .int .i64 m_0_16, .int .i64 m_0_17, .int .i64 m_0_18, .int .i64 m_0_19, .int .i64 m_0_20, .bool m_0_21, .slice m_0_22.base m_0_22.len m_0_22.cap, .slice m_0_23.base m_0_23.len m_0_23.cap, .string m_0_24, .int .i64 m_0_25, .bool m_0_26, .slice m_0_27.base m_0_27.len m_0_27.cap, .slice m_0_28.base m_0_28.len m_0_28.cap, .int .u8 m_0_29, .int .i64 m_0_30, .int .i64 m_0_31, .int .i64 m_0_32]]) (w := w) (R := R) (.two .auto (.two .auto (.two (.two .auto (.one (.loop [(3, .int .i64 0), (4, .int .i64 0)] (.two (.two .auto (.two .auto .auto)) (.two (.one .auto) .auto))))) (.two (.two .auto (.one (.loop [(3, .int .i64 0), (5, .int .i64 0)] (.two (.two .auto (.two .auto .auto)) (.two (.one .auto) .auto))))) (.two (.two .auto (.one (.loop [(3, .int .i64 0), (6, .int .i64 0)] (.two (.two .auto (.two .auto .auto)) (.two (.one .auto) .auto))))) (.two .auto .auto)))))) Try.func41
  · kernel_rfl
  · kernel_rfl
  · kernel_rfl
  · exact h

/-- 42: buttery/butteryref13.kind -/
def sh_butteryref13_kind (b_0 : Sl) (k_1 : Int) (w : World) (R : Ending → World → Prop) : Prop :=
  VCall none Try.prog 47 #[.slice b_0.base b_0.len b_0.cap, .int .i64 (IntKind.wrap .i64 k_1)] w (.slice none 0 0) fun (r8 : Sl) (w1 : World) =>
  R (.returned (.slice r8.base r8.len r8.cap)) w1
theorem sh_butteryref13_kind_ok (b_0 : Sl) (k_1 : Int) (w : World) (R : Ending → World → Prop) (h : sh_butteryref13_kind b_0 k_1 w R) : Calls Try.prog 42 #[.slice b_0.base b_0.len b_0.cap, .int .u8 k_1] w R :=
  calls_of_sh (args := [.slice b_0.base b_0.len b_0.cap, .int .u8 k_1]) (.two .auto (.two .auto .auto)) Try.func42 (by kernel_rfl) (by kernel_rfl) (by kernel_rfl) h

/-- 43: buttery/butteryref13.num -/
def sh_butteryref13_num (b_0 : Sl) (n_1 : Int) (w : World) (R : Ending → World → Prop) : Prop :=
  VCall none Try.prog 86 #[.slice b_0.base b_0.len b_0.cap, .int .i64 n_1] w (.slice none 0 0) fun (r7 : Sl) (w1 : World) =>
  R (.returned (.slice r7.base r7.len r7.cap)) w1
theorem sh_butteryref13_num_ok (b_0 : Sl) (n_1 : Int) (w : World) (R : Ending → World → Prop) (h : sh_butteryref13_num b_0 n_1 w R) : Calls Try.prog 43 #[.slice b_0.base b_0.len b_0.cap, .int .i64 n_1] w R :=
  calls_of_sh (args := [.slice b_0.base b_0.len b_0.cap, .int .i64 n_1]) (.two .auto (.two .auto .auto)) Try.func43 (by kernel_rfl) (by kernel_rfl) (by kernel_rfl) h

/-- 44: buttery/butteryref01.Str -/
def sh_butteryref01_Str (b_0 : Sl) (s_1 : ByteArray) (w : World) (R : Ending → World → Prop) : Prop :=
  VCall none Try.prog 47 #[.slice b_0.base b_0.len b_0.cap, .int .i64 ((s_1.size : Nat) : Int)] w (.slice none 0 0) fun (r8 : Sl) (w1 : World) =>
  VBytes none w1 5 s_1 fun (b10 cb10 : Nat) (w2 : World) =>
  VCall none Try.prog 87 #[.slice r8.base r8.len r8.cap, .slice (some ⟨b10, 0, none⟩) s_1.size cb10] w2 (.slice none 0 0) fun (r11 : Sl) (w3 : World) =>
  R (.returned (.slice r11.base r11.len r11.cap)) w3
theorem sh_butteryref01_Str_ok (b_0 : Sl) (s_1 : ByteArray) (w : World) (R : Ending → World → Prop) (h : sh_butteryref01_Str b_0 s_1 w R) : Calls Try.prog 44 #[.slice b_0.base b_0.len b_0.cap, .string s_1] w R :=
  calls_of_sh (args := [.slice b_0.base b_0.len b_0.cap, .string s_1]) (.two .auto (.two .auto .auto)) Try.func44 (by kernel_rfl) (by kernel_rfl) (by kernel_rfl) h

/-- 45: buttery/butteryref01.Flag -/
def sh_butteryref01_Flag (b_0 : Sl) (v_1 : Bool) (w : World) (R : Ending → World → Prop) : Prop :=
  VIf v_1 (
    VNw none w (.cells #[.int .u8 1] 5) fun (b7 : Nat) (w1 : World) =>
    VCall none Try.prog 87 #[.slice b_0.base b_0.len b_0.cap, .slice (some ⟨b7, 0, none⟩) 1 1] w1 (.slice none 0 0) fun (r8 : Sl) (w2 : World) =>
    R (.returned (.slice r8.base r8.len r8.cap)) w2
  ) (
    VNw none w (.cells #[.int .u8 0] 5) fun (b10 : Nat) (w3 : World) =>
    VCall none Try.prog 87 #[.slice b_0.base b_0.len b_0.cap, .slice (some ⟨b10, 0, none⟩) 1 1] w3 (.slice none 0 0) fun (r11 : Sl) (w4 : World) =>
    R (.returned (.slice r11.base r11.len r11.cap)) w4
  )
theorem sh_butteryref01_Flag_ok (b_0 : Sl) (v_1 : Bool) (w : World) (R : Ending → World → Prop) (h : sh_butteryref01_Flag b_0 v_1 w R) : Calls Try.prog 45 #[.slice b_0.base b_0.len b_0.cap, .bool v_1] w R :=
  calls_of_sh (args := [.slice b_0.base b_0.len b_0.cap, .bool v_1]) (.two .auto (.two (.two .auto (.two (.two .auto .auto) .auto)) (.two .auto .auto))) Try.func45 (by kernel_rfl) (by kernel_rfl) (by kernel_rfl) h

/-- 46: buttery/butteryref13.result -/
def sh_butteryref13_result (b_0 : Sl) (r_1_0 : Int) (r_1_1 : Bool) (r_1_2 : ByteArray) (w : World) (R : Ending → World → Prop) : Prop :=
  VNw none w (.cells #[.int .u8 r_1_0, .bool r_1_1, .string r_1_2] 26) fun (r_3 : Nat) (w1 : World) =>
  VLd none w1 ⟨r_3, 0, none⟩ [CT.int .u8] fun (v7 : Int) =>
  VCall none Try.prog 42 #[.slice b_0.base b_0.len b_0.cap, .int .u8 v7] w1 (.slice none 0 0) fun (r8 : Sl) (w2 : World) =>
  VLd none w2 ⟨r_3, 1, none⟩ [CT.bool] fun (v11 : Bool) =>
  VCall none Try.prog 45 #[.slice r8.base r8.len r8.cap, .bool v11] w2 (.slice none 0 0) fun (r12 : Sl) (w3 : World) =>
  VLd none w3 ⟨r_3, 2, none⟩ [CT.str] fun (v15 : ByteArray) =>
  VCall none Try.prog 44 #[.slice r12.base r12.len r12.cap, .string v15] w3 (.slice none 0 0) fun (r16 : Sl) (w4 : World) =>
  R (.returned (.slice r16.base r16.len r16.cap)) w4
theorem sh_butteryref13_result_ok (b_0 : Sl) (r_1_0 : Int) (r_1_1 : Bool) (r_1_2 : ByteArray) (w : World) (R : Ending → World → Prop) (h : sh_butteryref13_result b_0 r_1_0 r_1_1 r_1_2 w R) : Calls Try.prog 46 #[.slice b_0.base b_0.len b_0.cap, .agg #[.int .u8 r_1_0, .bool r_1_1, .string r_1_2]] w R :=
  calls_of_sh (args := [.slice b_0.base b_0.len b_0.cap, .agg #[.int .u8 r_1_0, .bool r_1_1, .string r_1_2]]) (.two .auto (.two .auto (.two .auto (.two .auto .auto)))) Try.func46 (by kernel_rfl) (by kernel_rfl) (by kernel_rfl) h

/-- 47: buttery/butteryref01.Count -/
def sh_butteryref01_Count (b_0 : Sl) (n_1 : Int) (w : World) (R : Ending → World → Prop) : Prop :=
  VIf ((decide (n_1 < 0)) || (decide (n_1 > 2147483647))) (
    VCall none Try.prog 87 #[.slice b_0.base b_0.len b_0.cap, .slice none 0 0] w (.slice none 0 0) fun (r12 : Sl) (w1 : World) =>
    R (.returned (.slice r12.base r12.len r12.cap)) w1
  ) (
    VCall none Try.prog 88 #[.int .u64 (IntKind.wrap .u64 n_1)] w (.slice none 0 0) fun (r16 : Sl) (w2 : World) =>
    VCall none Try.prog 87 #[.slice b_0.base b_0.len b_0.cap, .slice r16.base r16.len r16.cap] w2 (.slice none 0 0) fun (r17 : Sl) (w3 : World) =>
    R (.returned (.slice r17.base r17.len r17.cap)) w3
  )
theorem sh_butteryref01_Count_ok (b_0 : Sl) (n_1 : Int) (w : World) (R : Ending → World → Prop) (h : sh_butteryref01_Count b_0 n_1 w R) : Calls Try.prog 47 #[.slice b_0.base b_0.len b_0.cap, .int .i64 n_1] w R :=
  calls_of_sh (args := [.slice b_0.base b_0.len b_0.cap, .int .i64 n_1]) (.two .auto (.two (.two .auto (.two (.two .auto .auto) .auto)) (.two .auto .auto))) Try.func47 (by kernel_rfl) (by kernel_rfl) (by kernel_rfl) h

/-- 48: buttery/butteryref13.numbers -/
def sh_butteryref13_numbers (b_0 : Sl) (l_1 : Sl) (w : World) (R : Ending → World → Prop) : Prop :=
  VCall none Try.prog 47 #[.slice b_0.base b_0.len b_0.cap, .int .i64 ((l_1.len : Nat) : Int)] w (.slice none 0 0) fun (r9 : Sl) (w1 : World) =>
  ∃ I1 : Nat → Sl → Int → World → Prop, (∃ k, I1 k r9 0 w1) ∧ ∀ k1 (b_0 : Sl) (i_5 : Int) (w2 : World), I1 k1 b_0 i_5 w2 →
  VIf (decide (i_5 < ((l_1.len : Nat) : Int))) (
    VIx none l_1.base l_1.len i_5 fun (a19 : Addr) =>
    VLd none w2 (Addr.add a19 ((Int.toNat i_5) * 1)) [CT.int .i64] fun (v20 : Int) =>
    VCall none Try.prog 43 #[.slice b_0.base b_0.len b_0.cap, .int .i64 v20] w2 (.slice none 0 0) fun (r21 : Sl) (w3 : World) =>
    VSet (IntKind.wrap .i64 (i_5 + 1)) fun (i_5' : Int) =>
    ∃ k', k' < k1 ∧ I1 k' r21 i_5' w3
  ) (
    R (.returned (.slice b_0.base b_0.len b_0.cap)) w2
  )
theorem sh_butteryref13_numbers_ok (b_0 : Sl) (l_1 : Sl) (w : World) (R : Ending → World → Prop) (h : sh_butteryref13_numbers b_0 l_1 w R) : Calls Try.prog 48 #[.slice b_0.base b_0.len b_0.cap, .slice l_1.base l_1.len l_1.cap] w R :=
  calls_of_sh (args := [.slice b_0.base b_0.len b_0.cap, .slice l_1.base l_1.len l_1.cap]) (.two .auto (.two .auto (.two (.two .auto (.one (.loop [(0, .slice none 0 0), (5, .int .i64 0)] (.two (.two .auto (.two .auto .auto)) (.two (.one .auto) .auto))))) (.two .auto .auto)))) Try.func48 (by kernel_rfl) (by kernel_rfl) (by kernel_rfl) h

/-- 49: buttery/code.NewReader -/
def sh_code_NewReader (b_0 : Sl) (w : World) (R : Ending → World → Prop) : Prop :=
  VCall none Try.prog 89 #[.slice b_0.base b_0.len b_0.cap] w (.slice none 0 0) fun (r4 : Sl) (w1 : World) =>
  VNw none w1 (.cells #[.slice r4.base r4.len r4.cap, .bool false] 120) fun (b6 : Nat) (w2 : World) =>
  VNw none w2 (.cells #[.pointer (some ⟨b6, 0, none⟩)] 122) fun (b8 : Nat) (w3 : World) =>
  R (.returned (.pointer (some ⟨b8, 0, none⟩))) w3
theorem sh_code_NewReader_ok (b_0 : Sl) (w : World) (R : Ending → World → Prop) (h : sh_code_NewReader b_0 w R) : Calls Try.prog 49 #[.slice b_0.base b_0.len b_0.cap] w R :=
  calls_of_sh (args := [.slice b_0.base b_0.len b_0.cap]) (.two .auto (.two .auto .auto)) Try.func49 (by kernel_rfl) (by kernel_rfl) (by kernel_rfl) h

/-- 50: (buttery/msg.reader).kind -/
def sh_msg_reader_kind (r_0_0 : Option Addr) (w : World) (R : Ending → World → Prop) : Prop :=
  VNw none w (.cells #[.pointer r_0_0] 90) fun (r_1 : Nat) (w1 : World) =>
  VLd none w1 ⟨r_1, 0, none⟩ [CT.ptr] fun (v4 : Option Addr) =>
  VCall none Try.prog 90 #[.pointer v4, .int .i64 255] w1 (.int .i64 0) fun (r5 : Int) (w2 : World) =>
  VSet (IntKind.wrap .u8 r5) fun (v2 : Int) =>
  R (.returned (.int .u8 v2)) w2
theorem sh_msg_reader_kind_ok (r_0_0 : Option Addr) (w : World) (R : Ending → World → Prop) (h : sh_msg_reader_kind r_0_0 w R) : Calls Try.prog 50 #[.agg #[.pointer r_0_0]] w R :=
  calls_of_sh (args := [.agg #[.pointer r_0_0]]) (.two .auto (.two .auto .auto)) Try.func50 (by kernel_rfl) (by kernel_rfl) (by kernel_rfl) h

/-- 51: (buttery/msg.reader).num -/
def sh_msg_reader_num (r_0_0 : Option Addr) (w : World) (R : Ending → World → Prop) : Prop :=
  VNw none w (.cells #[.pointer r_0_0] 90) fun (r_1 : Nat) (w1 : World) =>
  VLd none w1 ⟨r_1, 0, none⟩ [CT.ptr] fun (v4 : Option Addr) =>
  VCall none Try.prog 91 #[.pointer v4] w1 (.int .i64 0) fun (r5 : Int) (w2 : World) =>
  VSet r5 fun (v2 : Int) =>
  R (.returned (.int .i64 v2)) w2
theorem sh_msg_reader_num_ok (r_0_0 : Option Addr) (w : World) (R : Ending → World → Prop) (h : sh_msg_reader_num r_0_0 w R) : Calls Try.prog 51 #[.agg #[.pointer r_0_0]] w R :=
  calls_of_sh (args := [.agg #[.pointer r_0_0]]) (.two .auto (.two .auto .auto)) Try.func51 (by kernel_rfl) (by kernel_rfl) (by kernel_rfl) h

/-- 52: (buttery/msg.reader).text -/
def sh_msg_reader_text (r_0_0 : Option Addr) (w : World) (R : Ending → World → Prop) : Prop :=
  VNw none w (.cells #[.pointer r_0_0] 90) fun (r_1 : Nat) (w1 : World) =>
  VLd none w1 ⟨r_1, 0, none⟩ [CT.ptr] fun (v4 : Option Addr) =>
  VCall none Try.prog 92 #[.pointer v4, .int .i64 8192] w1 (.string ByteArray.empty) fun (r5 : ByteArray) (w2 : World) =>
  R (.returned (.string r5)) w2
theorem sh_msg_reader_text_ok (r_0_0 : Option Addr) (w : World) (R : Ending → World → Prop) (h : sh_msg_reader_text r_0_0 w R) : Calls Try.prog 52 #[.agg #[.pointer r_0_0]] w R :=
  calls_of_sh (args := [.agg #[.pointer r_0_0]]) (.two .auto (.two .auto .auto)) Try.func52 (by kernel_rfl) (by kernel_rfl) (by kernel_rfl) h

/-- 53: (*buttery/code.Reader).Flag -/
def sh_code_Reader_Flag (r_0 : Option Addr) (w : World) (R : Ending → World → Prop) : Prop :=
  VIf r_0.isNone (
    R (.returned (.bool false)) w
  ) (
    VCall none Try.prog 90 #[.pointer r_0, .int .i64 1] w (.int .i64 0) fun (r6 : Int) (w1 : World) =>
    R (.returned (.bool (r6 == 1))) w1
  )
theorem sh_code_Reader_Flag_ok (r_0 : Option Addr) (w : World) (R : Ending → World → Prop) (h : sh_code_Reader_Flag r_0 w R) : Calls Try.prog 53 #[.pointer r_0] w R :=
  calls_of_sh (args := [.pointer r_0]) (.two .auto (.two (.two .auto (.two (.two .auto .auto) .auto)) (.two .auto .auto))) Try.func53 (by kernel_rfl) (by kernel_rfl) (by kernel_rfl) h

/-- 54: (buttery/msg.reader).result -/
def sh_msg_reader_result (r_0_0 : Option Addr) (w : World) (R : Ending → World → Prop) : Prop :=
  VNw none w (.cells #[.pointer r_0_0] 90) fun (r_1 : Nat) (w1 : World) =>
  VNw none w1 (.cells #[.int .u8 0, .bool false, .string ByteArray.empty] 26) fun (b2 : Nat) (w2 : World) =>
  ∀ (w3 : World), w3 = World.drew w2 →
  VLd none w3 ⟨r_1, 0, none⟩ [CT.ptr] fun (v3 : Option Addr) =>
  VLd none w3 ⟨r_1, 0, none⟩ [CT.ptr] fun (v6 : Option Addr) =>
  VLd none w3 ⟨r_1, 0, none⟩ [CT.ptr] fun (v8 : Option Addr) =>
  VCall none Try.prog 50 #[.agg #[.pointer v3]] w3 (.int .u8 0) fun (r4 : Int) (w4 : World) =>
  Rd w4 ⟨r_1, 0, none⟩ [.pointer v8] ∧
  Rd w4 ⟨r_1, 0, none⟩ [.pointer v6] ∧
  VCall none Try.prog 53 #[.pointer v6] w4 (.bool false) fun (r7 : Bool) (w5 : World) =>
  Rd w5 ⟨r_1, 0, none⟩ [.pointer v8] ∧
  VCall none Try.prog 52 #[.agg #[.pointer v8]] w5 (.string ByteArray.empty) fun (r9 : ByteArray) (w6 : World) =>
  VSt none w6 ⟨b2, 0, none⟩ [.int .u8 r4, .bool r7, .string r9] fun (w7 : World) =>
  VLd none w7 ⟨b2, 0, none⟩ [CT.int .u8, CT.bool, CT.str] fun (res2_0 : Int) (res2_1 : Bool) (res2_2 : ByteArray) =>
  R (.returned (.agg #[.int .u8 res2_0, .bool res2_1, .string res2_2])) w7
theorem sh_msg_reader_result_ok (r_0_0 : Option Addr) (w : World) (R : Ending → World → Prop) (h : sh_msg_reader_result r_0_0 w R) : Calls Try.prog 54 #[.agg #[.pointer r_0_0]] w R :=
  calls_of_sh (args := [.agg #[.pointer r_0_0]]) (.two .auto (.two .auto .auto)) Try.func54 (by kernel_rfl) (by kernel_rfl) (by kernel_rfl) h

/-- 55: buttery/msg.items of buttery/api.Entry -/
def sh_msg_items (r_0_0 : Option Addr) (get_1 : Value) (w : World) (R : Ending → World → Prop) : Prop :=
  VNw none w (.cells #[.pointer r_0_0] 90) fun (r_2 : Nat) (w1 : World) =>
  VLd none w1 ⟨r_2, 0, none⟩ [CT.ptr] fun (v8 : Option Addr) =>
  VCall none Try.prog 90 #[.pointer v8, .int .i64 8192] w1 (.int .i64 0) fun (r9 : Int) (w2 : World) =>
  VSet r9 fun (n_6 : Int) =>
  ∃ I1 : Nat → Sl → Int → World → Prop, (∃ k, I1 k ⟨none, 0, 0⟩ n_6 w2) ∧ ∀ k1 (out_5 : Sl) (n_6' : Int) (w3 : World), I1 k1 out_5 n_6' w3 →
  VLd (some (decide (n_6' > 0))) w3 ⟨r_2, 0, none⟩ [CT.ptr] fun (v14 : Option Addr) =>
  VCall (some (decide (n_6' > 0))) Try.prog 93 #[.pointer v14] w3 (.bool false) fun (r15 : Bool) (w4 : World) =>
  VIf ((decide (n_6' > 0)) && r15) (
    VDyn none Try.prog get_1 #[] w4 (.agg #[.int .i64 0, .int .u8 0, .string ByteArray.empty, .slice none 0 0]) fun (r21_0 : Int) (r21_1 : Int) (r21_2 : ByteArray) (r21_3 : Sl) (w5 : World) =>
    VNw none w5 (.cells #[.int .i64 r21_0, .int .u8 r21_1, .string r21_2, .slice r21_3.base r21_3.len r21_3.cap] 58) fun (b22 : Nat) (w6 : World) =>
    VApp none w6 58 4 56 #[.int .i64 0, .int .u8 0, .string ByteArray.empty, .slice none 0 0] out_5.base out_5.len out_5.cap 1 (fun news => Seg w6 (some ⟨b22, 0, none⟩) 1 4 news) fun (l23 : Sl) (w7 : World) =>
    VSet (IntKind.wrap .i64 (n_6' - 1)) fun (n_6'' : Int) =>
    ∃ k', k' < k1 ∧ I1 k' l23 n_6'' w7
  ) (
    R (.returned (.slice out_5.base out_5.len out_5.cap)) w4
  )
theorem sh_msg_items_ok (r_0_0 : Option Addr) (get_1 : Value) (w : World) (R : Ending → World → Prop) (h : sh_msg_items r_0_0 get_1 w R) : Calls Try.prog 55 #[.agg #[.pointer r_0_0], get_1] w R :=
  calls_of_sh (args := [.agg #[.pointer r_0_0], get_1]) (.two .auto (.two .auto (.two (.two .auto (.one (.loop [(5, .slice none 0 0), (6, .int .i64 0)] (.two (.two .auto (.two .auto .auto)) (.two (.one .auto) .auto))))) (.two .auto .auto)))) Try.func55 (by kernel_rfl) (by kernel_rfl) (by kernel_rfl) h

/-- 56: buttery/msg.Decode$1 -/
def sh_msg_Decode_1 (cap0 : Addr) (w : World) (R : Ending → World → Prop) : Prop :=
  VNw none w (.cells #[.int .i64 0, .int .u8 0, .string ByteArray.empty, .slice none 0 0] 58) fun (b1 : Nat) (w1 : World) =>
  ∀ (w2 : World), w2 = World.drew w1 →
  VLd none w2 cap0 [CT.ptr] fun (v2 : Option Addr) =>
  VLd none w2 cap0 [CT.ptr] fun (v4 : Option Addr) =>
  VLd none w2 cap0 [CT.ptr] fun (v6 : Option Addr) =>
  VLd none w2 cap0 [CT.ptr] fun (v8 : Option Addr) =>
  VLd none w2 cap0 [CT.ptr] fun (v9 : Option Addr) =>
  VCall none Try.prog 51 #[.agg #[.pointer v2]] w2 (.int .i64 0) fun (r3 : Int) (w3 : World) =>
  Rd w3 cap0 [.pointer v9] ∧
  Rd w3 cap0 [.pointer v8] ∧
  Rd w3 cap0 [.pointer v6] ∧
  Rd w3 cap0 [.pointer v4] ∧
  VCall none Try.prog 50 #[.agg #[.pointer v4]] w3 (.int .u8 0) fun (r5 : Int) (w4 : World) =>
  Rd w4 cap0 [.pointer v9] ∧
  Rd w4 cap0 [.pointer v8] ∧
  Rd w4 cap0 [.pointer v6] ∧
  VCall none Try.prog 52 #[.agg #[.pointer v6]] w4 (.string ByteArray.empty) fun (r7 : ByteArray) (w5 : World) =>
  Rd w5 cap0 [.pointer v9] ∧
  Rd w5 cap0 [.pointer v8] ∧
  VCall none Try.prog 57 #[.agg #[.pointer v8], .func (.func 51) #[.agg #[.pointer v9]] #[]] w5 (.slice none 0 0) fun (r11 : Sl) (w6 : World) =>
  VSt none w6 ⟨b1, 0, none⟩ [.int .i64 r3, .int .u8 r5, .string r7, .slice r11.base r11.len r11.cap] fun (w7 : World) =>
  VLd none w7 ⟨b1, 0, none⟩ [CT.int .i64, CT.int .u8, CT.str, CT.sl] fun (res1_0 : Int) (res1_1 : Int) (res1_2 : ByteArray) (res1_3 : Sl) =>
  R (.returned (.agg #[.int .i64 res1_0, .int .u8 res1_1, .string res1_2, .slice res1_3.base res1_3.len res1_3.cap])) w7
theorem sh_msg_Decode_1_ok (cap0 : Addr) (w : World) (R : Ending → World → Prop) (h : sh_msg_Decode_1 cap0 w R) : Calls Try.prog 56 #[.pointer (some cap0)] w R :=
  calls_of_sh (args := [.pointer (some cap0)]) (.two .auto (.two .auto .auto)) Try.func56 (by kernel_rfl) (by kernel_rfl) (by kernel_rfl) h

/-- 57: buttery/msg.items of int -/
def sh_msg_items' (r_0_0 : Option Addr) (get_1 : Value) (w : World) (R : Ending → World → Prop) : Prop :=
  VNw none w (.cells #[.pointer r_0_0] 90) fun (r_2 : Nat) (w1 : World) =>
  VLd none w1 ⟨r_2, 0, none⟩ [CT.ptr] fun (v8 : Option Addr) =>
  VCall none Try.prog 90 #[.pointer v8, .int .i64 8192] w1 (.int .i64 0) fun (r9 : Int) (w2 : World) =>
  VSet r9 fun (n_6 : Int) =>
  ∃ I1 : Nat → Sl → Int → World → Prop, (∃ k, I1 k ⟨none, 0, 0⟩ n_6 w2) ∧ ∀ k1 (out_5 : Sl) (n_6' : Int) (w3 : World), I1 k1 out_5 n_6' w3 →
  VLd (some (decide (n_6' > 0))) w3 ⟨r_2, 0, none⟩ [CT.ptr] fun (v14 : Option Addr) =>
  VCall (some (decide (n_6' > 0))) Try.prog 93 #[.pointer v14] w3 (.bool false) fun (r15 : Bool) (w4 : World) =>
  VIf ((decide (n_6' > 0)) && r15) (
    VDyn none Try.prog get_1 #[] w4 (.int .i64 0) fun (r21 : Int) (w5 : World) =>
    VNw none w5 (.cells #[.int .i64 r21] 3) fun (b22 : Nat) (w6 : World) =>
    VApp none w6 3 1 8 #[.int .i64 0] out_5.base out_5.len out_5.cap 1 (fun news => Seg w6 (some ⟨b22, 0, none⟩) 1 1 news) fun (l23 : Sl) (w7 : World) =>
    VSet (IntKind.wrap .i64 (n_6' - 1)) fun (n_6'' : Int) =>
    ∃ k', k' < k1 ∧ I1 k' l23 n_6'' w7
  ) (
    R (.returned (.slice out_5.base out_5.len out_5.cap)) w4
  )
theorem sh_msg_items'_ok (r_0_0 : Option Addr) (get_1 : Value) (w : World) (R : Ending → World → Prop) (h : sh_msg_items' r_0_0 get_1 w R) : Calls Try.prog 57 #[.agg #[.pointer r_0_0], get_1] w R :=
  calls_of_sh (args := [.agg #[.pointer r_0_0], get_1]) (.two .auto (.two .auto (.two (.two .auto (.one (.loop [(5, .slice none 0 0), (6, .int .i64 0)] (.two (.two .auto (.two .auto .auto)) (.two (.one .auto) .auto))))) (.two .auto .auto)))) Try.func57 (by kernel_rfl) (by kernel_rfl) (by kernel_rfl) h

/-- 58: buttery/msg.items of buttery/api.Pair -/
def sh_msg_items'' (r_0_0 : Option Addr) (get_1 : Value) (w : World) (R : Ending → World → Prop) : Prop :=
  VNw none w (.cells #[.pointer r_0_0] 90) fun (r_2 : Nat) (w1 : World) =>
  VLd none w1 ⟨r_2, 0, none⟩ [CT.ptr] fun (v8 : Option Addr) =>
  VCall none Try.prog 90 #[.pointer v8, .int .i64 8192] w1 (.int .i64 0) fun (r9 : Int) (w2 : World) =>
  VSet r9 fun (n_6 : Int) =>
  ∃ I1 : Nat → Sl → Int → World → Prop, (∃ k, I1 k ⟨none, 0, 0⟩ n_6 w2) ∧ ∀ k1 (out_5 : Sl) (n_6' : Int) (w3 : World), I1 k1 out_5 n_6' w3 →
  VLd (some (decide (n_6' > 0))) w3 ⟨r_2, 0, none⟩ [CT.ptr] fun (v14 : Option Addr) =>
  VCall (some (decide (n_6' > 0))) Try.prog 93 #[.pointer v14] w3 (.bool false) fun (r15 : Bool) (w4 : World) =>
  VIf ((decide (n_6' > 0)) && r15) (
    VDyn none Try.prog get_1 #[] w4 (.agg #[.string ByteArray.empty, .string ByteArray.empty]) fun (r21_0 : ByteArray) (r21_1 : ByteArray) (w5 : World) =>
    VNw none w5 (.cells #[.string r21_0, .string r21_1] 52) fun (b22 : Nat) (w6 : World) =>
    VApp none w6 52 2 32 #[.string ByteArray.empty, .string ByteArray.empty] out_5.base out_5.len out_5.cap 1 (fun news => Seg w6 (some ⟨b22, 0, none⟩) 1 2 news) fun (l23 : Sl) (w7 : World) =>
    VSet (IntKind.wrap .i64 (n_6' - 1)) fun (n_6'' : Int) =>
    ∃ k', k' < k1 ∧ I1 k' l23 n_6'' w7
  ) (
    R (.returned (.slice out_5.base out_5.len out_5.cap)) w4
  )
theorem sh_msg_items''_ok (r_0_0 : Option Addr) (get_1 : Value) (w : World) (R : Ending → World → Prop) (h : sh_msg_items'' r_0_0 get_1 w R) : Calls Try.prog 58 #[.agg #[.pointer r_0_0], get_1] w R :=
  calls_of_sh (args := [.agg #[.pointer r_0_0], get_1]) (.two .auto (.two .auto (.two (.two .auto (.one (.loop [(5, .slice none 0 0), (6, .int .i64 0)] (.two (.two .auto (.two .auto .auto)) (.two (.one .auto) .auto))))) (.two .auto .auto)))) Try.func58 (by kernel_rfl) (by kernel_rfl) (by kernel_rfl) h

/-- 59: buttery/msg.Decode$2 -/
def sh_msg_Decode_2 (cap0 : Addr) (w : World) (R : Ending → World → Prop) : Prop :=
  VNw none w (.cells #[.string ByteArray.empty, .string ByteArray.empty] 52) fun (b1 : Nat) (w1 : World) =>
  ∀ (w2 : World), w2 = World.drew w1 →
  VLd none w2 cap0 [CT.ptr] fun (v2 : Option Addr) =>
  VLd none w2 cap0 [CT.ptr] fun (v4 : Option Addr) =>
  VCall none Try.prog 52 #[.agg #[.pointer v2]] w2 (.string ByteArray.empty) fun (r3 : ByteArray) (w3 : World) =>
  Rd w3 cap0 [.pointer v4] ∧
  VCall none Try.prog 52 #[.agg #[.pointer v4]] w3 (.string ByteArray.empty) fun (r5 : ByteArray) (w4 : World) =>
  VSt none w4 ⟨b1, 0, none⟩ [.string r3, .string r5] fun (w5 : World) =>
  VLd none w5 ⟨b1, 0, none⟩ [CT.str, CT.str] fun (res1_0 : ByteArray) (res1_1 : ByteArray) =>
  R (.returned (.agg #[.string res1_0, .string res1_1])) w5
theorem sh_msg_Decode_2_ok (cap0 : Addr) (w : World) (R : Ending → World → Prop) (h : sh_msg_Decode_2 cap0 w R) : Calls Try.prog 59 #[.pointer (some cap0)] w R :=
  calls_of_sh (args := [.pointer (some cap0)]) (.two .auto (.two .auto .auto)) Try.func59 (by kernel_rfl) (by kernel_rfl) (by kernel_rfl) h

/-- 60: buttery/msg.items of buttery/api.Last -/
def sh_msg_items''' (r_0_0 : Option Addr) (get_1 : Value) (w : World) (R : Ending → World → Prop) : Prop :=
  VNw none w (.cells #[.pointer r_0_0] 90) fun (r_2 : Nat) (w1 : World) =>
  VLd none w1 ⟨r_2, 0, none⟩ [CT.ptr] fun (v8 : Option Addr) =>
  VCall none Try.prog 90 #[.pointer v8, .int .i64 8192] w1 (.int .i64 0) fun (r9 : Int) (w2 : World) =>
  VSet r9 fun (n_6 : Int) =>
  ∃ I1 : Nat → Sl → Int → World → Prop, (∃ k, I1 k ⟨none, 0, 0⟩ n_6 w2) ∧ ∀ k1 (out_5 : Sl) (n_6' : Int) (w3 : World), I1 k1 out_5 n_6' w3 →
  VLd (some (decide (n_6' > 0))) w3 ⟨r_2, 0, none⟩ [CT.ptr] fun (v14 : Option Addr) =>
  VCall (some (decide (n_6' > 0))) Try.prog 93 #[.pointer v14] w3 (.bool false) fun (r15 : Bool) (w4 : World) =>
  VIf ((decide (n_6' > 0)) && r15) (
    VDyn none Try.prog get_1 #[] w4 (.agg #[.int .i64 0, .int .i64 0, .int .u8 0, .bool false, .string ByteArray.empty]) fun (r21_0 : Int) (r21_1 : Int) (r21_2 : Int) (r21_3 : Bool) (r21_4 : ByteArray) (w5 : World) =>
    VNw none w5 (.cells #[.int .i64 r21_0, .int .i64 r21_1, .int .u8 r21_2, .bool r21_3, .string r21_4] 55) fun (b22 : Nat) (w6 : World) =>
    VApp none w6 55 5 40 #[.int .i64 0, .int .i64 0, .int .u8 0, .bool false, .string ByteArray.empty] out_5.base out_5.len out_5.cap 1 (fun news => Seg w6 (some ⟨b22, 0, none⟩) 1 5 news) fun (l23 : Sl) (w7 : World) =>
    VSet (IntKind.wrap .i64 (n_6' - 1)) fun (n_6'' : Int) =>
    ∃ k', k' < k1 ∧ I1 k' l23 n_6'' w7
  ) (
    R (.returned (.slice out_5.base out_5.len out_5.cap)) w4
  )
theorem sh_msg_items'''_ok (r_0_0 : Option Addr) (get_1 : Value) (w : World) (R : Ending → World → Prop) (h : sh_msg_items''' r_0_0 get_1 w R) : Calls Try.prog 60 #[.agg #[.pointer r_0_0], get_1] w R :=
  calls_of_sh (args := [.agg #[.pointer r_0_0], get_1]) (.two .auto (.two .auto (.two (.two .auto (.one (.loop [(5, .slice none 0 0), (6, .int .i64 0)] (.two (.two .auto (.two .auto .auto)) (.two (.one .auto) .auto))))) (.two .auto .auto)))) Try.func60 (by kernel_rfl) (by kernel_rfl) (by kernel_rfl) h

/-- 61: buttery/msg.Decode$3 -/
def sh_msg_Decode_3 (cap0 : Addr) (w : World) (R : Ending → World → Prop) : Prop :=
  VNw none w (.cells #[.int .i64 0, .int .i64 0, .int .u8 0, .bool false, .string ByteArray.empty] 55) fun (b1 : Nat) (w1 : World) =>
  ∀ (w2 : World), w2 = World.drew w1 →
  VLd none w2 cap0 [CT.ptr] fun (v2 : Option Addr) =>
  VLd none w2 cap0 [CT.ptr] fun (v4 : Option Addr) =>
  VLd none w2 cap0 [CT.ptr] fun (v6 : Option Addr) =>
  VCall none Try.prog 51 #[.agg #[.pointer v2]] w2 (.int .i64 0) fun (r3 : Int) (w3 : World) =>
  Rd w3 cap0 [.pointer v6] ∧
  Rd w3 cap0 [.pointer v4] ∧
  VCall none Try.prog 51 #[.agg #[.pointer v4]] w3 (.int .i64 0) fun (r5 : Int) (w4 : World) =>
  Rd w4 cap0 [.pointer v6] ∧
  VCall none Try.prog 54 #[.agg #[.pointer v6]] w4 (.agg #[.int .u8 0, .bool false, .string ByteArray.empty]) fun (r7_0 : Int) (r7_1 : Bool) (r7_2 : ByteArray) (w5 : World) =>
  VSt none w5 ⟨b1, 0, none⟩ [.int .i64 r3, .int .i64 r5, .int .u8 r7_0, .bool r7_1, .string r7_2] fun (w6 : World) =>
  VLd none w6 ⟨b1, 0, none⟩ [CT.int .i64, CT.int .i64, CT.int .u8, CT.bool, CT.str] fun (res1_0 : Int) (res1_1 : Int) (res1_2 : Int) (res1_3 : Bool) (res1_4 : ByteArray) =>
  R (.returned (.agg #[.int .i64 res1_0, .int .i64 res1_1, .int .u8 res1_2, .bool res1_3, .string res1_4])) w6
theorem sh_msg_Decode_3_ok (cap0 : Addr) (w : World) (R : Ending → World → Prop) (h : sh_msg_Decode_3 cap0 w R) : Calls Try.prog 61 #[.pointer (some cap0)] w R :=
  calls_of_sh (args := [.pointer (some cap0)]) (.two .auto (.two .auto .auto)) Try.func61 (by kernel_rfl) (by kernel_rfl) (by kernel_rfl) h

/-- 62: (*buttery/code.Reader).Done -/
def sh_code_Reader_Done (r_0 : Option Addr) (w : World) (R : Ending → World → Prop) : Prop :=
  VCall none Try.prog 93 #[.pointer r_0] w (.bool false) fun (r4 : Bool) (w1 : World) =>
  VCall (some r4) Try.prog 94 #[.pointer r_0] w1 (.int .i64 0) fun (r7 : Int) (w2 : World) =>
  R (.returned (.bool (r4 && (r7 == 0)))) w2
theorem sh_code_Reader_Done_ok (r_0 : Option Addr) (w : World) (R : Ending → World → Prop) (h : sh_code_Reader_Done r_0 w R) : Calls Try.prog 62 #[.pointer r_0] w R :=
  calls_of_sh (args := [.pointer r_0]) (.two .auto (.two .auto .auto)) Try.func62 (by kernel_rfl) (by kernel_rfl) (by kernel_rfl) h

/-- 63: buttery/butteryref01.NewReader -/
def sh_butteryref01_NewReader (b_0 : Sl) (w : World) (R : Ending → World → Prop) : Prop :=
  VNw none w (.cells #[] 5) fun (b3 : Nat) (w1 : World) =>
  VApp none w1 5 1 1 #[.int .u8 0] (some ⟨b3, 0, none⟩) 0 0 b_0.len (fun news => Seg w1 b_0.base b_0.len 1 news) fun (l5 : Sl) (w2 : World) =>
  VNw none w2 (.cells #[.slice l5.base l5.len l5.cap, .bool false] 124) fun (b7 : Nat) (w3 : World) =>
  R (.returned (.pointer (some ⟨b7, 0, none⟩))) w3
theorem sh_butteryref01_NewReader_ok (b_0 : Sl) (w : World) (R : Ending → World → Prop) (h : sh_butteryref01_NewReader b_0 w R) : Calls Try.prog 63 #[.slice b_0.base b_0.len b_0.cap] w R :=
  calls_of_sh (args := [.slice b_0.base b_0.len b_0.cap]) (.two .auto (.two .auto .auto)) Try.func63 (by kernel_rfl) (by kernel_rfl) (by kernel_rfl) h

/-- 64: buttery/butteryref13.small -/
def sh_butteryref13_small (r_0 : Option Addr) (w : World) (R : Ending → World → Prop) : Prop :=
  VCall none Try.prog 69 #[.pointer r_0, .int .i64 255] w (.int .i64 0) fun (r4 : Int) (w1 : World) =>
  VSet (IntKind.wrap .u8 r4) fun (v2 : Int) =>
  R (.returned (.int .u8 v2)) w1
theorem sh_butteryref13_small_ok (r_0 : Option Addr) (w : World) (R : Ending → World → Prop) (h : sh_butteryref13_small r_0 w R) : Calls Try.prog 64 #[.pointer r_0] w R :=
  calls_of_sh (args := [.pointer r_0]) (.two .auto (.two .auto .auto)) Try.func64 (by kernel_rfl) (by kernel_rfl) (by kernel_rfl) h

/-- 65: (*buttery/butteryref01.Reader).Num -/
def sh_butteryref01_Reader_Num (r_0 : Option Addr) (w : World) (R : Ending → World → Prop) : Prop :=
  VCall none Try.prog 95 #[.pointer r_0] w (.int .u64 0) fun (r5 : Int) (w1 : World) =>
  VSet r5 fun (u_3 : Int) =>
  VNN none r_0 fun (a7 : Addr) =>
  VLd none w1 (Addr.add a7 1) [CT.bool] fun (v9 : Bool) =>
  VIf v9 (
    R (.returned (.int .i64 0)) w1
  ) (
    VIf ((Int.tmod u_3 2) == 0) (
      VSet (IntKind.wrap .i64 (IntKind.wrap .u64 (Int.tdiv u_3 2))) fun (v2 : Int) =>
      R (.returned (.int .i64 v2)) w1
    ) (
      VSet (IntKind.wrap .i64 ((IntKind.wrap .i64 (0 - (IntKind.wrap .i64 (IntKind.wrap .u64 (Int.tdiv u_3 2))))) - 1)) fun (v2' : Int) =>
      R (.returned (.int .i64 v2')) w1
    )
  )
theorem sh_butteryref01_Reader_Num_ok (r_0 : Option Addr) (w : World) (R : Ending → World → Prop) (h : sh_butteryref01_Reader_Num r_0 w R) : Calls Try.prog 65 #[.pointer r_0] w R :=
  calls_of_sh (args := [.pointer r_0]) (.two .auto (.two .auto (.two (.two .auto (.two (.two .auto .auto) .auto)) (.two (.two .auto (.two (.two .auto .auto) .auto)) (.two .auto .auto))))) Try.func65 (by kernel_rfl) (by kernel_rfl) (by kernel_rfl) h

/-- 66: (*buttery/butteryref01.Reader).Str -/
def sh_butteryref01_Reader_Str (r_0 : Option Addr) (most_1 : Int) (w : World) (R : Ending → World → Prop) : Prop :=
  VCall none Try.prog 69 #[.pointer r_0, .int .i64 most_1] w (.int .i64 0) fun (r9 : Int) (w1 : World) =>
  VSet r9 fun (n_5 : Int) =>
  VNN none r_0 fun (a11 : Addr) =>
  VLd none w1 (Addr.add a11 1) [CT.bool] fun (v13 : Bool) =>
  VNN (some (!v13)) r_0 fun (a17 : Addr) =>
  VLd (some (!v13)) w1 a17 [CT.sl] fun (v19 : Sl) =>
  VIf (v13 || (decide (n_5 > ((v19.len : Nat) : Int)))) (
    VCall none Try.prog 96 #[.pointer r_0] w1 (.tuple #[]) fun (w2 : World) =>
    R (.returned (.string (ByteArray.mk #[]))) w2
  ) (
    VNN none r_0 fun (a26 : Addr) =>
    VLd none w1 a26 [CT.sl] fun (v28 : Sl) =>
    VCk none ((0 : Int) ≤ 0 ∧ (0 : Int) ≤ n_5 ∧ (n_5 : Int) ≤ ((v28.cap : Nat) : Int)) (
      VStr none w1 (cutB v28.base v28.cap 1 0) ((Int.toNat n_5) - 0) fun (s31 : ByteArray) =>
      VNN none r_0 fun (a34 : Addr) =>
      VLd none w1 a34 [CT.sl] fun (v36 : Sl) =>
      VCk none ((0 : Int) ≤ n_5 ∧ (n_5 : Int) ≤ ((v36.len : Nat) : Int) ∧ (((v36.len : Nat) : Int) : Int) ≤ ((v36.cap : Nat) : Int)) (
        VNN none r_0 fun (a39 : Addr) =>
        VSt none w1 a39 [.slice (cutB v36.base v36.cap 1 (Int.toNat n_5)) (v36.len - (Int.toNat n_5)) (v36.cap - (Int.toNat n_5))] fun (w3 : World) =>
        R (.returned (.string s31)) w3
      )
    )
  )
theorem sh_butteryref01_Reader_Str_ok (r_0 : Option Addr) (most_1 : Int) (w : World) (R : Ending → World → Prop) (h : sh_butteryref01_Reader_Str r_0 most_1 w R) : Calls Try.prog 66 #[.pointer r_0, .int .i64 most_1] w R :=
  calls_of_sh (args := [.pointer r_0, .int .i64 most_1]) (.two .auto (.two .auto (.two (.two .auto (.two (.two .auto (.two .auto .auto)) .auto)) (.two .auto (.two .auto (.two .auto .auto)))))) Try.func66 (by kernel_rfl) (by kernel_rfl) (by kernel_rfl) h

/-- 67: (*buttery/butteryref01.Reader).Flag -/
def sh_butteryref01_Reader_Flag (r_0 : Option Addr) (w : World) (R : Ending → World → Prop) : Prop :=
  VCall none Try.prog 69 #[.pointer r_0, .int .i64 1] w (.int .i64 0) fun (r4 : Int) (w1 : World) =>
  R (.returned (.bool (r4 == 1))) w1
theorem sh_butteryref01_Reader_Flag_ok (r_0 : Option Addr) (w : World) (R : Ending → World → Prop) (h : sh_butteryref01_Reader_Flag r_0 w R) : Calls Try.prog 67 #[.pointer r_0] w R :=
  calls_of_sh (args := [.pointer r_0]) (.two .auto (.two .auto .auto)) Try.func67 (by kernel_rfl) (by kernel_rfl) (by kernel_rfl) h

/-- 68: buttery/butteryref13.told -/
def sh_butteryref13_told (r_0 : Option Addr) (w : World) (R : Ending → World → Prop) : Prop :=
  VNw none w (.cells #[.int .u8 0, .bool false, .string ByteArray.empty] 26) fun (b2 : Nat) (w1 : World) =>
  VCall none Try.prog 64 #[.pointer r_0] w1 (.int .u8 0) fun (r5 : Int) (w2 : World) =>
  VNw none w2 (.cells #[.int .u8 0, .bool false, .string ByteArray.empty] 26) fun (x_3 : Nat) (w3 : World) =>
  VSt none w3 ⟨x_3, 0, none⟩ [.int .u8 r5, .bool false, .string ByteArray.empty] fun (w4 : World) =>
  VCall none Try.prog 67 #[.pointer r_0] w4 (.bool false) fun (r8 : Bool) (w5 : World) =>
  VSt none w5 ⟨x_3, 1, none⟩ [.bool r8] fun (w6 : World) =>
  VCall none Try.prog 66 #[.pointer r_0, .int .i64 8192] w6 (.string ByteArray.empty) fun (r11 : ByteArray) (w7 : World) =>
  VSt none w7 ⟨x_3, 2, none⟩ [.string r11] fun (w8 : World) =>
  VLd none w8 ⟨x_3, 0, none⟩ [CT.int .u8, CT.bool, CT.str] fun (v13_0 : Int) (v13_1 : Bool) (v13_2 : ByteArray) =>
  VSt none w8 ⟨b2, 0, none⟩ [.int .u8 v13_0, .bool v13_1, .string v13_2] fun (w9 : World) =>
  VLd none w9 ⟨b2, 0, none⟩ [CT.int .u8, CT.bool, CT.str] fun (res2_0 : Int) (res2_1 : Bool) (res2_2 : ByteArray) =>
  R (.returned (.agg #[.int .u8 res2_0, .bool res2_1, .string res2_2])) w9
theorem sh_butteryref13_told_ok (r_0 : Option Addr) (w : World) (R : Ending → World → Prop) (h : sh_butteryref13_told r_0 w R) : Calls Try.prog 68 #[.pointer r_0] w R :=
  calls_of_sh (args := [.pointer r_0]) (.two .auto (.two .auto (.two .auto (.two .auto (.two .auto .auto))))) Try.func68 (by kernel_rfl) (by kernel_rfl) (by kernel_rfl) h

/-- 69: (*buttery/butteryref01.Reader).Count -/
def sh_butteryref01_Reader_Count (r_0 : Option Addr) (most_1 : Int) (w : World) (R : Ending → World → Prop) : Prop :=
  VCall none Try.prog 95 #[.pointer r_0] w (.int .u64 0) fun (r7 : Int) (w1 : World) =>
  VSet r7 fun (u_5 : Int) =>
  VNN none r_0 fun (a9 : Addr) =>
  VLd none w1 (Addr.add a9 1) [CT.bool] fun (v11 : Bool) =>
  VIf (((v11 || (decide (most_1 < 0))) || (decide (u_5 > 2147483647))) || (decide ((IntKind.wrap .i64 u_5) > most_1))) (
    VCall none Try.prog 96 #[.pointer r_0] w1 (.tuple #[]) fun (w2 : World) =>
    R (.returned (.int .i64 0)) w2
  ) (
    VSet (IntKind.wrap .i64 u_5) fun (v4 : Int) =>
    R (.returned (.int .i64 v4)) w1
  )
theorem sh_butteryref01_Reader_Count_ok (r_0 : Option Addr) (most_1 : Int) (w : World) (R : Ending → World → Prop) (h : sh_butteryref01_Reader_Count r_0 most_1 w R) : Calls Try.prog 69 #[.pointer r_0, .int .i64 most_1] w R :=
  calls_of_sh (args := [.pointer r_0, .int .i64 most_1]) (.two .auto (.two .auto (.two (.two .auto (.two (.two .auto (.two .auto .auto)) .auto)) (.two .auto .auto)))) Try.func69 (by kernel_rfl) (by kernel_rfl) (by kernel_rfl) h

/-- 70: (*buttery/butteryref01.Reader).OK -/
def sh_butteryref01_Reader_OK (r_0 : Option Addr) (w : World) (R : Ending → World → Prop) : Prop :=
  VNN none r_0 fun (a4 : Addr) =>
  VLd none w (Addr.add a4 1) [CT.bool] fun (v6 : Bool) =>
  R (.returned (.bool (!v6))) w
theorem sh_butteryref01_Reader_OK_ok (r_0 : Option Addr) (w : World) (R : Ending → World → Prop) (h : sh_butteryref01_Reader_OK r_0 w R) : Calls Try.prog 70 #[.pointer r_0] w R :=
  calls_of_sh (args := [.pointer r_0]) (.two .auto (.two .auto .auto)) Try.func70 (by kernel_rfl) (by kernel_rfl) (by kernel_rfl) h

/-- 71: buttery/butteryref13.list -/
def sh_butteryref13_list (r_0 : Option Addr) (w : World) (R : Ending → World → Prop) : Prop :=
  VCall none Try.prog 69 #[.pointer r_0, .int .i64 8192] w (.int .i64 0) fun (r7 : Int) (w1 : World) =>
  VSet r7 fun (n_4 : Int) =>
  ∃ I1 : Nat → Sl → Int → World → Prop, (∃ k, I1 k ⟨none, 0, 0⟩ 0 w1) ∧ ∀ k1 (out_3 : Sl) (i_5 : Int) (w2 : World), I1 k1 out_3 i_5 w2 →
  VCall (some (decide (i_5 < n_4))) Try.prog 70 #[.pointer r_0] w2 (.bool false) fun (r13 : Bool) (w3 : World) =>
  VIf ((decide (i_5 < n_4)) && r13) (
    VCall none Try.prog 65 #[.pointer r_0] w3 (.int .i64 0) fun (r19 : Int) (w4 : World) =>
    VNw none w4 (.cells #[.int .i64 r19] 3) fun (b20 : Nat) (w5 : World) =>
    VApp none w5 3 1 8 #[.int .i64 0] out_3.base out_3.len out_3.cap 1 (fun news => Seg w5 (some ⟨b20, 0, none⟩) 1 1 news) fun (l21 : Sl) (w6 : World) =>
    VSet (IntKind.wrap .i64 (i_5 + 1)) fun (i_5' : Int) =>
    ∃ k', k' < k1 ∧ I1 k' l21 i_5' w6
  ) (
    R (.returned (.slice out_3.base out_3.len out_3.cap)) w3
  )
theorem sh_butteryref13_list_ok (r_0 : Option Addr) (w : World) (R : Ending → World → Prop) (h : sh_butteryref13_list r_0 w R) : Calls Try.prog 71 #[.pointer r_0] w R :=
  calls_of_sh (args := [.pointer r_0]) (.two .auto (.two .auto (.two .auto (.two (.two .auto (.one (.loop [(3, .slice none 0 0), (5, .int .i64 0)] (.two (.two .auto (.two .auto .auto)) (.two (.one .auto) .auto))))) (.two .auto .auto))))) Try.func71 (by kernel_rfl) (by kernel_rfl) (by kernel_rfl) h

/-- 72: (*buttery/butteryref01.Reader).Done -/
def sh_butteryref01_Reader_Done (r_0 : Option Addr) (w : World) (R : Ending → World → Prop) : Prop :=
  VNN none r_0 fun (a4 : Addr) =>
  VLd none w (Addr.add a4 1) [CT.bool] fun (v6 : Bool) =>
  VNN (some (!v6)) r_0 fun (a10 : Addr) =>
  VLd (some (!v6)) w a10 [CT.sl] fun (v12 : Sl) =>
  R (.returned (.bool ((!v6) && (((v12.len : Nat) : Int) == 0)))) w
theorem sh_butteryref01_Reader_Done_ok (r_0 : Option Addr) (w : World) (R : Ending → World → Prop) (h : sh_butteryref01_Reader_Done r_0 w R) : Calls Try.prog 72 #[.pointer r_0] w R :=
  calls_of_sh (args := [.pointer r_0]) (.two .auto (.two .auto .auto)) Try.func72 (by kernel_rfl) (by kernel_rfl) (by kernel_rfl) h

/-- 73: (*buttery/msg.writer).add -/
def sh_msg_writer_add (w_0 : Option Addr) (put_1 : Value) (w : World) (R : Ending → World → Prop) : Prop :=
  VNN none w_0 fun (a5 : Addr) =>
  VLd none w (Addr.add a5 1) [CT.bool] fun (v7 : Bool) =>
  VIf v7 (
    R (.returned (.tuple #[])) w
  ) (
    VNN none w_0 fun (a11 : Addr) =>
    VLd none w a11 [CT.sl] fun (v13 : Sl) =>
    VDyn none Try.prog put_1 #[.slice v13.base v13.len v13.cap] w (.slice none 0 0) fun (r14 : Sl) (w1 : World) =>
    VNN none w_0 fun (a15 : Addr) =>
    VSt none w1 a15 [.slice r14.base r14.len r14.cap] fun (w2 : World) =>
    VNN none w_0 fun (a19 : Addr) =>
    VLd none w2 a19 [CT.sl] fun (v21 : Sl) =>
    VNN none w_0 fun (a24 : Addr) =>
    VSt none w2 (Addr.add a24 1) [.bool (decide (((v21.len : Nat) : Int) > 8192))] fun (w3 : World) =>
    R (.returned (.tuple #[])) w3
  )
theorem sh_msg_writer_add_ok (w_0 : Option Addr) (put_1 : Value) (w : World) (R : Ending → World → Prop) (h : sh_msg_writer_add w_0 put_1 w R) : Calls Try.prog 73 #[.pointer w_0, put_1] w R :=
  calls_of_sh (args := [.pointer w_0, put_1]) (.two (.two .auto (.two .auto .auto)) (.two .auto .auto)) Try.func73 (by kernel_rfl) (by kernel_rfl) (by kernel_rfl) h

/-- 74: (*buttery/msg.writer).kind$1 -/
def sh_msg_writer_kind_1 (b_0 : Sl) (cap0 : Addr) (w : World) (R : Ending → World → Prop) : Prop :=
  VLd none w cap0 [CT.int .u8] fun (v5 : Int) =>
  VCall none Try.prog 75 #[.slice b_0.base b_0.len b_0.cap, .int .i64 (IntKind.wrap .i64 v5)] w (.slice none 0 0) fun (r7 : Sl) (w1 : World) =>
  R (.returned (.slice r7.base r7.len r7.cap)) w1
theorem sh_msg_writer_kind_1_ok (b_0 : Sl) (cap0 : Addr) (w : World) (R : Ending → World → Prop) (h : sh_msg_writer_kind_1 b_0 cap0 w R) : Calls Try.prog 74 #[.slice b_0.base b_0.len b_0.cap, .pointer (some cap0)] w R :=
  calls_of_sh (args := [.slice b_0.base b_0.len b_0.cap, .pointer (some cap0)]) (.two .auto (.two .auto .auto)) Try.func74 (by kernel_rfl) (by kernel_rfl) (by kernel_rfl) h

/-- 75: buttery/code.Count -/
def sh_code_Count (b_0 : Sl) (n_1 : Int) (w : World) (R : Ending → World → Prop) : Prop :=
  VIf ((decide (n_1 < 0)) || (decide (n_1 > 2147483647))) (
    VCall none Try.prog 89 #[.slice b_0.base b_0.len b_0.cap] w (.slice none 0 0) fun (r12 : Sl) (w1 : World) =>
    R (.returned (.slice r12.base r12.len r12.cap)) w1
  ) (
    VCall none Try.prog 97 #[.slice b_0.base b_0.len b_0.cap, .int .u64 (IntKind.wrap .u64 n_1)] w (.slice none 0 0) fun (r16 : Sl) (w2 : World) =>
    R (.returned (.slice r16.base r16.len r16.cap)) w2
  )
theorem sh_code_Count_ok (b_0 : Sl) (n_1 : Int) (w : World) (R : Ending → World → Prop) (h : sh_code_Count b_0 n_1 w R) : Calls Try.prog 75 #[.slice b_0.base b_0.len b_0.cap, .int .i64 n_1] w R :=
  calls_of_sh (args := [.slice b_0.base b_0.len b_0.cap, .int .i64 n_1]) (.two .auto (.two (.two .auto (.two (.two .auto .auto) .auto)) (.two .auto .auto))) Try.func75 (by kernel_rfl) (by kernel_rfl) (by kernel_rfl) h

/-- 76: (*buttery/msg.writer).num$1 -/
def sh_msg_writer_num_1 (b_0 : Sl) (cap0 : Addr) (w : World) (R : Ending → World → Prop) : Prop :=
  VLd none w cap0 [CT.int .i64] fun (v5 : Int) =>
  VCall none Try.prog 77 #[.slice b_0.base b_0.len b_0.cap, .int .i64 v5] w (.slice none 0 0) fun (r6 : Sl) (w1 : World) =>
  R (.returned (.slice r6.base r6.len r6.cap)) w1
theorem sh_msg_writer_num_1_ok (b_0 : Sl) (cap0 : Addr) (w : World) (R : Ending → World → Prop) (h : sh_msg_writer_num_1 b_0 cap0 w R) : Calls Try.prog 76 #[.slice b_0.base b_0.len b_0.cap, .pointer (some cap0)] w R :=
  calls_of_sh (args := [.slice b_0.base b_0.len b_0.cap, .pointer (some cap0)]) (.two .auto (.two .auto .auto)) Try.func76 (by kernel_rfl) (by kernel_rfl) (by kernel_rfl) h

/-- 77: buttery/code.Num -/
def sh_code_Num (b_0 : Sl) (n_1 : Int) (w : World) (R : Ending → World → Prop) : Prop :=
  VCall none Try.prog 97 #[.slice b_0.base b_0.len b_0.cap, .int .u64 (bXor .u64 (IntKind.wrap .u64 ((IntKind.wrap .u64 n_1) * 2 ^ 1)) (IntKind.wrap .u64 (Int.fdiv n_1 (2 ^ 63))))] w (.slice none 0 0) fun (r13 : Sl) (w1 : World) =>
  R (.returned (.slice r13.base r13.len r13.cap)) w1
theorem sh_code_Num_ok (b_0 : Sl) (n_1 : Int) (w : World) (R : Ending → World → Prop) (h : sh_code_Num b_0 n_1 w R) : Calls Try.prog 77 #[.slice b_0.base b_0.len b_0.cap, .int .i64 n_1] w R :=
  calls_of_sh (args := [.slice b_0.base b_0.len b_0.cap, .int .i64 n_1]) (.two .auto (.two .auto .auto)) Try.func77 (by kernel_rfl) (by kernel_rfl) (by kernel_rfl) h

/-- 78: (*buttery/msg.writer).text$1 -/
def sh_msg_writer_text_1 (b_0 : Sl) (cap0 : Addr) (w : World) (R : Ending → World → Prop) : Prop :=
  VLd none w cap0 [CT.str] fun (v5 : ByteArray) =>
  VCall none Try.prog 79 #[.slice b_0.base b_0.len b_0.cap, .string v5] w (.slice none 0 0) fun (r6 : Sl) (w1 : World) =>
  R (.returned (.slice r6.base r6.len r6.cap)) w1
theorem sh_msg_writer_text_1_ok (b_0 : Sl) (cap0 : Addr) (w : World) (R : Ending → World → Prop) (h : sh_msg_writer_text_1 b_0 cap0 w R) : Calls Try.prog 78 #[.slice b_0.base b_0.len b_0.cap, .pointer (some cap0)] w R :=
  calls_of_sh (args := [.slice b_0.base b_0.len b_0.cap, .pointer (some cap0)]) (.two .auto (.two .auto .auto)) Try.func78 (by kernel_rfl) (by kernel_rfl) (by kernel_rfl) h

/-- 79: buttery/code.Str -/
def sh_code_Str (b_0 : Sl) (s_1 : ByteArray) (w : World) (R : Ending → World → Prop) : Prop :=
  VIf (decide (((s_1.size : Nat) : Int) > 2147483647)) (
    VCall none Try.prog 89 #[.slice b_0.base b_0.len b_0.cap] w (.slice none 0 0) fun (r9 : Sl) (w1 : World) =>
    R (.returned (.slice r9.base r9.len r9.cap)) w1
  ) (
    VCall none Try.prog 75 #[.slice b_0.base b_0.len b_0.cap, .int .i64 ((s_1.size : Nat) : Int)] w (.slice none 0 0) fun (r13 : Sl) (w2 : World) =>
    VApp none w2 5 1 1 #[.int .u8 0] r13.base r13.len r13.cap s_1.size (fun news => news = strCells s_1) fun (l15 : Sl) (w3 : World) =>
    R (.returned (.slice l15.base l15.len l15.cap)) w3
  )
theorem sh_code_Str_ok (b_0 : Sl) (s_1 : ByteArray) (w : World) (R : Ending → World → Prop) (h : sh_code_Str b_0 s_1 w R) : Calls Try.prog 79 #[.slice b_0.base b_0.len b_0.cap, .string s_1] w R :=
  calls_of_sh (args := [.slice b_0.base b_0.len b_0.cap, .string s_1]) (.two .auto (.two (.two .auto (.two (.two .auto .auto) .auto)) (.two .auto .auto))) Try.func79 (by kernel_rfl) (by kernel_rfl) (by kernel_rfl) h

/-- 80: (*buttery/msg.writer).flag$1 -/
def sh_msg_writer_flag_1 (b_0 : Sl) (cap0 : Addr) (w : World) (R : Ending → World → Prop) : Prop :=
  VLd none w cap0 [CT.bool] fun (v5 : Bool) =>
  VCall none Try.prog 81 #[.slice b_0.base b_0.len b_0.cap, .bool v5] w (.slice none 0 0) fun (r6 : Sl) (w1 : World) =>
  R (.returned (.slice r6.base r6.len r6.cap)) w1
theorem sh_msg_writer_flag_1_ok (b_0 : Sl) (cap0 : Addr) (w : World) (R : Ending → World → Prop) (h : sh_msg_writer_flag_1 b_0 cap0 w R) : Calls Try.prog 80 #[.slice b_0.base b_0.len b_0.cap, .pointer (some cap0)] w R :=
  calls_of_sh (args := [.slice b_0.base b_0.len b_0.cap, .pointer (some cap0)]) (.two .auto (.two .auto .auto)) Try.func80 (by kernel_rfl) (by kernel_rfl) (by kernel_rfl) h

/-- 81: buttery/code.Flag -/
def sh_code_Flag (b_0 : Sl) (v_1 : Bool) (w : World) (R : Ending → World → Prop) : Prop :=
  ∃ Φ1 : Int → World → Prop, (
    VIf v_1 (
      Φ1 1 w
    ) (
      Φ1 0 w
    )
  ) ∧ ∀ (n_5 : Int) (w1 : World), Φ1 n_5 w1 →
  VCall none Try.prog 75 #[.slice b_0.base b_0.len b_0.cap, .int .i64 n_5] w1 (.slice none 0 0) fun (r9 : Sl) (w2 : World) =>
  R (.returned (.slice r9.base r9.len r9.cap)) w2
theorem sh_code_Flag_ok (b_0 : Sl) (v_1 : Bool) (w : World) (R : Ending → World → Prop) (h : sh_code_Flag b_0 v_1 w R) : Calls Try.prog 81 #[.slice b_0.base b_0.len b_0.cap, .bool v_1] w R :=
  calls_of_sh (args := [.slice b_0.base b_0.len b_0.cap, .bool v_1]) (.two .auto (.two .auto (.join [(5, .int .i64 0)] (.two .auto (.two .auto .auto)) (.two .auto .auto)))) Try.func81 (by kernel_rfl) (by kernel_rfl) (by kernel_rfl) h

/-- 82: buttery/msg.list of buttery/api.Entry$1 -/
def sh_msg_list'''' (b_0 : Sl) (cap0 : Addr) (w : World) (R : Ending → World → Prop) : Prop :=
  VLd none w cap0 [CT.sl] fun (v5 : Sl) =>
  VCall none Try.prog 75 #[.slice b_0.base b_0.len b_0.cap, .int .i64 ((v5.len : Nat) : Int)] w (.slice none 0 0) fun (r7 : Sl) (w1 : World) =>
  R (.returned (.slice r7.base r7.len r7.cap)) w1
theorem sh_msg_list''''_ok (b_0 : Sl) (cap0 : Addr) (w : World) (R : Ending → World → Prop) (h : sh_msg_list'''' b_0 cap0 w R) : Calls Try.prog 82 #[.slice b_0.base b_0.len b_0.cap, .pointer (some cap0)] w R :=
  calls_of_sh (args := [.slice b_0.base b_0.len b_0.cap, .pointer (some cap0)]) (.two .auto (.two .auto .auto)) Try.func82 (by kernel_rfl) (by kernel_rfl) (by kernel_rfl) h

/-- 83: buttery/msg.list of int$1 -/
def sh_msg_list''''' (b_0 : Sl) (cap0 : Addr) (w : World) (R : Ending → World → Prop) : Prop :=
  VLd none w cap0 [CT.sl] fun (v5 : Sl) =>
  VCall none Try.prog 75 #[.slice b_0.base b_0.len b_0.cap, .int .i64 ((v5.len : Nat) : Int)] w (.slice none 0 0) fun (r7 : Sl) (w1 : World) =>
  R (.returned (.slice r7.base r7.len r7.cap)) w1
theorem sh_msg_list'''''_ok (b_0 : Sl) (cap0 : Addr) (w : World) (R : Ending → World → Prop) (h : sh_msg_list''''' b_0 cap0 w R) : Calls Try.prog 83 #[.slice b_0.base b_0.len b_0.cap, .pointer (some cap0)] w R :=
  calls_of_sh (args := [.slice b_0.base b_0.len b_0.cap, .pointer (some cap0)]) (.two .auto (.two .auto .auto)) Try.func83 (by kernel_rfl) (by kernel_rfl) (by kernel_rfl) h

/-- 84: buttery/msg.list of buttery/api.Pair$1 -/
def sh_msg_list'''''' (b_0 : Sl) (cap0 : Addr) (w : World) (R : Ending → World → Prop) : Prop :=
  VLd none w cap0 [CT.sl] fun (v5 : Sl) =>
  VCall none Try.prog 75 #[.slice b_0.base b_0.len b_0.cap, .int .i64 ((v5.len : Nat) : Int)] w (.slice none 0 0) fun (r7 : Sl) (w1 : World) =>
  R (.returned (.slice r7.base r7.len r7.cap)) w1
theorem sh_msg_list''''''_ok (b_0 : Sl) (cap0 : Addr) (w : World) (R : Ending → World → Prop) (h : sh_msg_list'''''' b_0 cap0 w R) : Calls Try.prog 84 #[.slice b_0.base b_0.len b_0.cap, .pointer (some cap0)] w R :=
  calls_of_sh (args := [.slice b_0.base b_0.len b_0.cap, .pointer (some cap0)]) (.two .auto (.two .auto .auto)) Try.func84 (by kernel_rfl) (by kernel_rfl) (by kernel_rfl) h

/-- 85: buttery/msg.list of buttery/api.Last$1 -/
def sh_msg_list''''''' (b_0 : Sl) (cap0 : Addr) (w : World) (R : Ending → World → Prop) : Prop :=
  VLd none w cap0 [CT.sl] fun (v5 : Sl) =>
  VCall none Try.prog 75 #[.slice b_0.base b_0.len b_0.cap, .int .i64 ((v5.len : Nat) : Int)] w (.slice none 0 0) fun (r7 : Sl) (w1 : World) =>
  R (.returned (.slice r7.base r7.len r7.cap)) w1
theorem sh_msg_list'''''''_ok (b_0 : Sl) (cap0 : Addr) (w : World) (R : Ending → World → Prop) (h : sh_msg_list''''''' b_0 cap0 w R) : Calls Try.prog 85 #[.slice b_0.base b_0.len b_0.cap, .pointer (some cap0)] w R :=
  calls_of_sh (args := [.slice b_0.base b_0.len b_0.cap, .pointer (some cap0)]) (.two .auto (.two .auto .auto)) Try.func85 (by kernel_rfl) (by kernel_rfl) (by kernel_rfl) h

/-- 86: buttery/butteryref01.Num -/
def sh_butteryref01_Num (b_0 : Sl) (n_1 : Int) (w : World) (R : Ending → World → Prop) : Prop :=
  VIf (decide (n_1 ≥ 0)) (
    VCall none Try.prog 88 #[.int .u64 (IntKind.wrap .u64 ((IntKind.wrap .u64 n_1) * 2))] w (.slice none 0 0) fun (r11 : Sl) (w1 : World) =>
    VCall none Try.prog 87 #[.slice b_0.base b_0.len b_0.cap, .slice r11.base r11.len r11.cap] w1 (.slice none 0 0) fun (r12 : Sl) (w2 : World) =>
    R (.returned (.slice r12.base r12.len r12.cap)) w2
  ) (
    VCall none Try.prog 88 #[.int .u64 (IntKind.wrap .u64 ((IntKind.wrap .u64 ((IntKind.wrap .u64 (IntKind.wrap .i64 (0 - (IntKind.wrap .i64 (n_1 + 1))))) * 2)) + 1))] w (.slice none 0 0) fun (r20 : Sl) (w3 : World) =>
    VCall none Try.prog 87 #[.slice b_0.base b_0.len b_0.cap, .slice r20.base r20.len r20.cap] w3 (.slice none 0 0) fun (r21 : Sl) (w4 : World) =>
    R (.returned (.slice r21.base r21.len r21.cap)) w4
  )
theorem sh_butteryref01_Num_ok (b_0 : Sl) (n_1 : Int) (w : World) (R : Ending → World → Prop) (h : sh_butteryref01_Num b_0 n_1 w R) : Calls Try.prog 86 #[.slice b_0.base b_0.len b_0.cap, .int .i64 n_1] w R :=
  calls_of_sh (args := [.slice b_0.base b_0.len b_0.cap, .int .i64 n_1]) (.two .auto (.two (.two .auto (.two (.two .auto .auto) .auto)) (.two .auto .auto))) Try.func86 (by kernel_rfl) (by kernel_rfl) (by kernel_rfl) h

/-- 87: buttery/butteryref01.with -/
def sh_butteryref01_with (b_0 : Sl) (c_1 : Sl) (w : World) (R : Ending → World → Prop) : Prop :=
  VNw none w (.cells #[] 5) fun (b6 : Nat) (w1 : World) =>
  VApp none w1 5 1 1 #[.int .u8 0] (some ⟨b6, 0, none⟩) 0 0 b_0.len (fun news => Seg w1 b_0.base b_0.len 1 news) fun (l8 : Sl) (w2 : World) =>
  VApp none w2 5 1 1 #[.int .u8 0] l8.base l8.len l8.cap c_1.len (fun news => Seg w2 c_1.base c_1.len 1 news) fun (l11 : Sl) (w3 : World) =>
  R (.returned (.slice l11.base l11.len l11.cap)) w3
theorem sh_butteryref01_with_ok (b_0 : Sl) (c_1 : Sl) (w : World) (R : Ending → World → Prop) (h : sh_butteryref01_with b_0 c_1 w R) : Calls Try.prog 87 #[.slice b_0.base b_0.len b_0.cap, .slice c_1.base c_1.len c_1.cap] w R :=
  calls_of_sh (args := [.slice b_0.base b_0.len b_0.cap, .slice c_1.base c_1.len c_1.cap]) (.two .auto (.two .auto (.two .auto .auto))) Try.func87 (by kernel_rfl) (by kernel_rfl) (by kernel_rfl) h

/-- 88: buttery/butteryref01.Uint -/
def sh_butteryref01_Uint (u_0 : Int) (w : World) (R : Ending → World → Prop) : Prop :=
  ∃ I1 : Nat → Int → Sl → World → Prop, (∃ k, I1 k u_0 ⟨none, 0, 0⟩ w) ∧ ∀ k1 (u_0 : Int) (out_3 : Sl) (w1 : World), I1 k1 u_0 out_3 w1 →
  VIf (decide (u_0 ≥ 128)) (
    VNw none w1 (.cells #[.int .u8 (IntKind.wrap .u8 (IntKind.wrap .u64 ((Int.tmod u_0 128) + 128)))] 5) fun (b11 : Nat) (w2 : World) =>
    VApp none w2 5 1 1 #[.int .u8 0] out_3.base out_3.len out_3.cap 1 (fun news => Seg w2 (some ⟨b11, 0, none⟩) 1 1 news) fun (l12 : Sl) (w3 : World) =>
    VSet (IntKind.wrap .u64 (Int.tdiv u_0 128)) fun (u_0' : Int) =>
    ∃ k', k' < k1 ∧ I1 k' u_0' l12 w3
  ) (
    VNw none w1 (.cells #[.int .u8 (IntKind.wrap .u8 u_0)] 5) fun (b18 : Nat) (w4 : World) =>
    VApp none w4 5 1 1 #[.int .u8 0] out_3.base out_3.len out_3.cap 1 (fun news => Seg w4 (some ⟨b18, 0, none⟩) 1 1 news) fun (l19 : Sl) (w5 : World) =>
    R (.returned (.slice l19.base l19.len l19.cap)) w5
  )
theorem sh_butteryref01_Uint_ok (u_0 : Int) (w : World) (R : Ending → World → Prop) (h : sh_butteryref01_Uint u_0 w R) : Calls Try.prog 88 #[.int .u64 u_0] w R :=
  calls_of_sh (args := [.int .u64 u_0]) (.two .auto (.two .auto (.two (.one (.loop [(0, .int .u64 0), (3, .slice none 0 0)] (.two (.two .auto (.two .auto .auto)) (.one (.two .auto .auto))))) (.two .auto .auto)))) Try.func88 (by kernel_rfl) (by kernel_rfl) (by kernel_rfl) h

/-- 89: bytes.Clone -/
def sh_bytes_Clone (b_0 : Sl) (w : World) (R : Ending → World → Prop) : Prop :=
  VIf b_0.base.isNone (
    R (.returned (.slice none 0 0)) w
  ) (
    VNw none w (.cells #[] 5) fun (b5 : Nat) (w1 : World) =>
    VApp none w1 5 1 1 #[.int .u8 0] (some ⟨b5, 0, none⟩) 0 0 b_0.len (fun news => Seg w1 b_0.base b_0.len 1 news) fun (l7 : Sl) (w2 : World) =>
    R (.returned (.slice l7.base l7.len l7.cap)) w2
  )
theorem sh_bytes_Clone_ok (b_0 : Sl) (w : World) (R : Ending → World → Prop) (h : sh_bytes_Clone b_0 w R) : Calls Try.prog 89 #[.slice b_0.base b_0.len b_0.cap] w R :=
  calls_of_sh (args := [.slice b_0.base b_0.len b_0.cap]) (.two .auto (.two (.two .auto (.two (.two .auto .auto) .auto)) (.two .auto .auto))) Try.func89 (by kernel_rfl) (by kernel_rfl) (by kernel_rfl) h

/-- 90: (*buttery/code.Reader).Count -/
def sh_code_Reader_Count (r_0 : Option Addr) (most_1 : Int) (w : World) (R : Ending → World → Prop) : Prop :=
  VIf r_0.isNone (
    R (.returned (.int .i64 0)) w
  ) (
    VCall none Try.prog 98 #[.pointer r_0] w (.tuple #[.int .u64 0, .bool false]) fun (r11_0 : Int) (r11_1 : Bool) (w1 : World) =>
    VSet r11_0 fun (u_5 : Int) =>
    VCall none Try.prog 99 #[.pointer r_0, .int .i64 (IntKind.wrap .i64 u_5), .bool (((r11_1 && (decide (most_1 ≥ 0))) && (decide (u_5 ≤ 2147483647))) && (decide ((IntKind.wrap .i64 u_5) ≤ most_1)))] w1 (.int .i64 0) fun (r32 : Int) (w2 : World) =>
    VSet r32 fun (v4 : Int) =>
    R (.returned (.int .i64 v4)) w2
  )
theorem sh_code_Reader_Count_ok (r_0 : Option Addr) (most_1 : Int) (w : World) (R : Ending → World → Prop) (h : sh_code_Reader_Count r_0 most_1 w R) : Calls Try.prog 90 #[.pointer r_0, .int .i64 most_1] w R :=
  calls_of_sh (args := [.pointer r_0, .int .i64 most_1]) (.two .auto (.two (.two .auto (.two (.two .auto .auto) .auto)) (.two .auto (.two .auto .auto)))) Try.func90 (by kernel_rfl) (by kernel_rfl) (by kernel_rfl) h

/-- 91: (*buttery/code.Reader).Num -/
def sh_code_Reader_Num (r_0 : Option Addr) (w : World) (R : Ending → World → Prop) : Prop :=
  VIf r_0.isNone (
    R (.returned (.int .i64 0)) w
  ) (
    VCall none Try.prog 98 #[.pointer r_0] w (.tuple #[.int .u64 0, .bool false]) fun (r9_0 : Int) (r9_1 : Bool) (w1 : World) =>
    VSet r9_0 fun (u_3 : Int) =>
    VCall none Try.prog 100 #[.pointer r_0, .int .i64 (bXor .i64 (IntKind.wrap .i64 (Int.fdiv u_3 (2 ^ 1))) (IntKind.wrap .i64 (0 - (IntKind.wrap .i64 (bAnd .u64 u_3 1))))), .bool r9_1] w1 (.int .i64 0) fun (r22 : Int) (w2 : World) =>
    VSet r22 fun (v2 : Int) =>
    R (.returned (.int .i64 v2)) w2
  )
theorem sh_code_Reader_Num_ok (r_0 : Option Addr) (w : World) (R : Ending → World → Prop) (h : sh_code_Reader_Num r_0 w R) : Calls Try.prog 91 #[.pointer r_0] w R :=
  calls_of_sh (args := [.pointer r_0]) (.two .auto (.two (.two .auto (.two (.two .auto .auto) .auto)) (.two .auto (.two .auto .auto)))) Try.func91 (by kernel_rfl) (by kernel_rfl) (by kernel_rfl) h

/-- 92: (*buttery/code.Reader).Str -/
def sh_code_Reader_Str (r_0 : Option Addr) (most_1 : Int) (w : World) (R : Ending → World → Prop) : Prop :=
  VIf r_0.isNone (
    R (.returned (.string (ByteArray.mk #[]))) w
  ) (
    VCall none Try.prog 90 #[.pointer r_0, .int .i64 most_1] w (.int .i64 0) fun (r10 : Int) (w1 : World) =>
    VSet r10 fun (n_5 : Int) =>
    VCall none Try.prog 93 #[.pointer r_0] w1 (.bool false) fun (r12 : Bool) (w2 : World) =>
    VNN (some (!(!r12))) r_0 fun (a17 : Addr) =>
    VLd (some (!(!r12))) w2 a17 [CT.ptr] fun (v19 : Option Addr) =>
    VNN (some (!(!r12))) v19 fun (a20 : Addr) =>
    VLd (some (!(!r12))) w2 a20 [CT.sl] fun (v22 : Sl) =>
    VIf ((!r12) || (decide (n_5 > ((v22.len : Nat) : Int)))) (
      VCall none Try.prog 101 #[.pointer r_0, .string (ByteArray.mk #[]), .bool false] w2 (.string ByteArray.empty) fun (r27 : ByteArray) (w3 : World) =>
      R (.returned (.string r27)) w3
    ) (
      VNN none r_0 fun (a30 : Addr) =>
      VLd none w2 a30 [CT.ptr] fun (v32 : Option Addr) =>
      VCall none Try.prog 102 #[.pointer v32, .int .i64 n_5] w2 (.slice none 0 0) fun (r34 : Sl) (w4 : World) =>
      VStr none w4 r34.base r34.len fun (s35 : ByteArray) =>
      VCall none Try.prog 101 #[.pointer r_0, .string s35, .bool true] w4 (.string ByteArray.empty) fun (r36 : ByteArray) (w5 : World) =>
      R (.returned (.string r36)) w5
    )
  )
theorem sh_code_Reader_Str_ok (r_0 : Option Addr) (most_1 : Int) (w : World) (R : Ending → World → Prop) (h : sh_code_Reader_Str r_0 most_1 w R) : Calls Try.prog 92 #[.pointer r_0, .int .i64 most_1] w R :=
  calls_of_sh (args := [.pointer r_0, .int .i64 most_1]) (.two .auto (.two (.two .auto (.two (.two .auto .auto) .auto)) (.two .auto (.two (.two .auto (.two (.two .auto .auto) .auto)) (.two .auto .auto))))) Try.func92 (by kernel_rfl) (by kernel_rfl) (by kernel_rfl) h

/-- 93: (*buttery/code.Reader).OK -/
def sh_code_Reader_OK (r_0 : Option Addr) (w : World) (R : Ending → World → Prop) : Prop :=
  VNN (some (!r_0.isNone)) r_0 fun (a7 : Addr) =>
  VLd (some (!r_0.isNone)) w a7 [CT.ptr] fun (v9 : Option Addr) =>
  VCall (some (!r_0.isNone)) Try.prog 103 #[.pointer v9] w (.bool false) fun (r10 : Bool) (w1 : World) =>
  R (.returned (.bool ((!r_0.isNone) && r10))) w1
theorem sh_code_Reader_OK_ok (r_0 : Option Addr) (w : World) (R : Ending → World → Prop) (h : sh_code_Reader_OK r_0 w R) : Calls Try.prog 93 #[.pointer r_0] w R :=
  calls_of_sh (args := [.pointer r_0]) (.two .auto (.two .auto .auto)) Try.func93 (by kernel_rfl) (by kernel_rfl) (by kernel_rfl) h

/-- 94: (*buttery/code.Reader).Left -/
def sh_code_Reader_Left (r_0 : Option Addr) (w : World) (R : Ending → World → Prop) : Prop :=
  VIf r_0.isNone (
    R (.returned (.int .i64 0)) w
  ) (
    VNN none r_0 fun (a6 : Addr) =>
    VLd none w a6 [CT.ptr] fun (v8 : Option Addr) =>
    VCall none Try.prog 104 #[.pointer v8] w (.int .i64 0) fun (r9 : Int) (w1 : World) =>
    VSet r9 fun (v2 : Int) =>
    R (.returned (.int .i64 v2)) w1
  )
theorem sh_code_Reader_Left_ok (r_0 : Option Addr) (w : World) (R : Ending → World → Prop) (h : sh_code_Reader_Left r_0 w R) : Calls Try.prog 94 #[.pointer r_0] w R :=
  calls_of_sh (args := [.pointer r_0]) (.two .auto (.two (.two .auto (.two (.two .auto .auto) .auto)) (.two .auto .auto))) Try.func94 (by kernel_rfl) (by kernel_rfl) (by kernel_rfl) h

/-- 95: (*buttery/butteryref01.Reader).uint -/
def sh_butteryref01_Reader_uint (r_0 : Option Addr) (w : World) (R : Ending → World → Prop) : Prop :=
  ∃ Φ1 : World → Prop, (
    ∃ I2 : Nat → Int → Int → Int → World → Prop, (∃ k, I2 k 0 1 0 w) ∧ ∀ k2 (u_3 : Int) (scale_4 : Int) (i_5 : Int) (w1 : World), I2 k2 u_3 scale_4 i_5 w1 →
    VNN none r_0 fun (a9 : Addr) =>
    VLd none w1 a9 [CT.sl] fun (v11 : Sl) =>
    VIf ((decide (i_5 < ((v11.len : Nat) : Int))) && (decide (i_5 < 10))) (
      VNN none r_0 fun (a21 : Addr) =>
      VLd none w1 a21 [CT.sl] fun (v23 : Sl) =>
      VIx none v23.base v23.len i_5 fun (a25 : Addr) =>
      VLd none w1 (Addr.add a25 ((Int.toNat i_5) * 1)) [CT.int .u8] fun (v26 : Int) =>
      VSet (IntKind.wrap .u64 v26) fun (c_6 : Int) =>
      VIf ((i_5 == 9) && (decide (c_6 > 1))) (
        Φ1 w1
      ) (
        VSet (IntKind.wrap .u64 (u_3 + (IntKind.wrap .u64 ((Int.tmod c_6 128) * scale_4)))) fun (u_3' : Int) =>
        VSet (IntKind.wrap .u64 (scale_4 * 128)) fun (scale_4' : Int) =>
        VIf (decide (c_6 ≥ 128)) (
          VSet (IntKind.wrap .i64 (i_5 + 1)) fun (i_5' : Int) =>
          ∃ k', k' < k2 ∧ I2 k' u_3' scale_4' i_5' w1
        ) (
          VIf ((decide (i_5 > 0)) && (c_6 == 0)) (
            Φ1 w1
          ) (
            VNN none r_0 fun (a52 : Addr) =>
            VLd none w1 a52 [CT.sl] fun (v54 : Sl) =>
            VCk none ((0 : Int) ≤ IntKind.wrap .i64 (i_5 + 1) ∧ (IntKind.wrap .i64 (i_5 + 1) : Int) ≤ ((v54.len : Nat) : Int) ∧ (((v54.len : Nat) : Int) : Int) ≤ ((v54.cap : Nat) : Int)) (
              VNN none r_0 fun (a58 : Addr) =>
              VSt none w1 a58 [.slice (cutB v54.base v54.cap 1 (Int.toNat (IntKind.wrap .i64 (i_5 + 1)))) (v54.len - (Int.toNat (IntKind.wrap .i64 (i_5 + 1)))) (v54.cap - (Int.toNat (IntKind.wrap .i64 (i_5 + 1))))] fun (w2 : World) =>
              VSet u_3' fun (v2 : Int) =>
              R (.returned (.int .u64 v2)) w2
            )
          )
        )
      )
    ) (
      Φ1 w1
    )
  ) ∧ ∀ (w3 : World), Φ1 w3 →
  VCall none Try.prog 96 #[.pointer r_0] w3 (.tuple #[]) fun (w4 : World) =>
  R (.returned (.int .u64 0)) w4
theorem sh_butteryref01_Reader_uint_ok (r_0 : Option Addr) (w : World) (R : Ending → World → Prop) (h : sh_butteryref01_Reader_uint r_0 w R) : Calls Try.prog 95 #[.pointer r_0] w R :=
  calls_of_sh (args := [.pointer r_0]) (.two .auto (.two .auto (.two .auto (.two (.two .auto (.bjoin [] (.loop [(3, .int .u64 0), (4, .int .u64 0), (5, .int .i64 0)] (.two (.two .auto (.two .auto .auto)) (.two (.one (.two .auto (.two (.two .auto (.two .auto .auto)) (.two .auto (.two .auto (.two (.two .auto (.two .auto .auto)) (.two (.two .auto (.two .auto .auto)) (.two .auto (.two .auto .auto))))))))) .auto))))) (.two .auto (.two .auto .auto)))))) Try.func95 (by kernel_rfl) (by kernel_rfl) (by kernel_rfl) h

/-- 96: (*buttery/butteryref01.Reader).fail -/
def sh_butteryref01_Reader_fail (r_0 : Option Addr) (w : World) (R : Ending → World → Prop) : Prop :=
  VNN none r_0 fun (a3 : Addr) =>
  VSt none w (Addr.add a3 1) [.bool true] fun (w1 : World) =>
  VNN none r_0 fun (a6 : Addr) =>
  VSt none w1 a6 [.slice none 0 0] fun (w2 : World) =>
  R (.returned (.tuple #[])) w2
theorem sh_butteryref01_Reader_fail_ok (r_0 : Option Addr) (w : World) (R : Ending → World → Prop) (h : sh_butteryref01_Reader_fail r_0 w R) : Calls Try.prog 96 #[.pointer r_0] w R :=
  calls_of_sh (args := [.pointer r_0]) (.two .auto .auto) Try.func96 (by kernel_rfl) (by kernel_rfl) (by kernel_rfl) h

/-- 97: buttery/code.uvarint -/
def sh_code_uvarint (b_0 : Sl) (u_1 : Int) (w : World) (R : Ending → World → Prop) : Prop :=
  VCall none Try.prog 89 #[.slice b_0.base b_0.len b_0.cap] w (.slice none 0 0) fun (r7 : Sl) (w1 : World) =>
  ∃ I1 : Nat → Int → Sl → World → Prop, (∃ k, I1 k u_1 r7 w1) ∧ ∀ k1 (u_1 : Int) (out_5 : Sl) (w2 : World), I1 k1 u_1 out_5 w2 →
  VIf (decide (u_1 > 127)) (
    VNw none w2 (.cells #[.int .u8 (bOr .u8 (IntKind.wrap .u8 u_1) 128)] 5) fun (b16 : Nat) (w3 : World) =>
    VApp none w3 5 1 1 #[.int .u8 0] out_5.base out_5.len out_5.cap 1 (fun news => Seg w3 (some ⟨b16, 0, none⟩) 1 1 news) fun (l17 : Sl) (w4 : World) =>
    VSet (Int.fdiv u_1 (2 ^ 7)) fun (u_1' : Int) =>
    ∃ k', k' < k1 ∧ I1 k' u_1' l17 w4
  ) (
    VNw none w2 (.cells #[.int .u8 (IntKind.wrap .u8 u_1)] 5) fun (b21 : Nat) (w5 : World) =>
    VApp none w5 5 1 1 #[.int .u8 0] out_5.base out_5.len out_5.cap 1 (fun news => Seg w5 (some ⟨b21, 0, none⟩) 1 1 news) fun (l22 : Sl) (w6 : World) =>
    R (.returned (.slice l22.base l22.len l22.cap)) w6
  )
theorem sh_code_uvarint_ok (b_0 : Sl) (u_1 : Int) (w : World) (R : Ending → World → Prop) (h : sh_code_uvarint b_0 u_1 w R) : Calls Try.prog 97 #[.slice b_0.base b_0.len b_0.cap, .int .u64 u_1] w R :=
  calls_of_sh (args := [.slice b_0.base b_0.len b_0.cap, .int .u64 u_1]) (.two .auto (.two .auto (.two (.one (.loop [(1, .int .u64 0), (5, .slice none 0 0)] (.two (.two .auto (.two .auto .auto)) (.two (.one .auto) .auto)))) (.two .auto .auto)))) Try.func97 (by kernel_rfl) (by kernel_rfl) (by kernel_rfl) h

/-- 98: (*buttery/code.Reader).uvarint -/
def sh_code_Reader_uvarint (r_0 : Option Addr) (w : World) (R : Ending → World → Prop) : Prop :=
  VCall none Try.prog 93 #[.pointer r_0] w (.bool false) fun (r7 : Bool) (w1 : World) =>
  VIf (!r7) (
    R (.returned (.tuple #[.int .u64 0, .bool false])) w1
  ) (
    VNN none r_0 fun (a11 : Addr) =>
    VLd none w1 a11 [CT.ptr] fun (v13 : Option Addr) =>
    VNN none v13 fun (a14 : Addr) =>
    VLd none w1 a14 [CT.sl] fun (v16 : Sl) =>
    VCall none Try.prog 105 #[.slice v16.base v16.len v16.cap] w1 (.tuple #[.int .u64 0, .int .i64 0]) fun (r17_0 : Int) (r17_1 : Int) (w2 : World) =>
    VSet r17_0 fun (u_4 : Int) =>
    VSet r17_1 fun (n_5 : Int) =>
    VNN (some ((!(decide (n_5 ≤ 0))) && (decide (n_5 > 1)))) r_0 fun (a27 : Addr) =>
    VLd (some ((!(decide (n_5 ≤ 0))) && (decide (n_5 > 1)))) w2 a27 [CT.ptr] fun (v29 : Option Addr) =>
    VNN (some ((!(decide (n_5 ≤ 0))) && (decide (n_5 > 1)))) v29 fun (a30 : Addr) =>
    VLd (some ((!(decide (n_5 ≤ 0))) && (decide (n_5 > 1)))) w2 a30 [CT.sl] fun (v32 : Sl) =>
    VIx (some ((!(decide (n_5 ≤ 0))) && (decide (n_5 > 1)))) v32.base v32.len (IntKind.wrap .i64 (n_5 - 1)) fun (a35 : Addr) =>
    VLd (some ((!(decide (n_5 ≤ 0))) && (decide (n_5 > 1)))) w2 (Addr.add a35 ((Int.toNat (IntKind.wrap .i64 (n_5 - 1))) * 1)) [CT.int .u8] fun (v36 : Int) =>
    VIf ((decide (n_5 ≤ 0)) || ((decide (n_5 > 1)) && (v36 == 0))) (
      R (.returned (.tuple #[.int .u64 0, .bool false])) w2
    ) (
      VNN none r_0 fun (a41 : Addr) =>
      VLd none w2 a41 [CT.ptr] fun (v43 : Option Addr) =>
      VCall none Try.prog 102 #[.pointer v43, .int .i64 n_5] w2 (.slice none 0 0) fun (r45 : Sl) (w3 : World) =>
      VSet u_4 fun (v2 : Int) =>
      R (.returned (.tuple #[.int .u64 v2, .bool true])) w3
    )
  )
theorem sh_code_Reader_uvarint_ok (r_0 : Option Addr) (w : World) (R : Ending → World → Prop) (h : sh_code_Reader_uvarint r_0 w R) : Calls Try.prog 98 #[.pointer r_0] w R :=
  calls_of_sh (args := [.pointer r_0]) (.two .auto (.two (.two .auto (.two (.two .auto .auto) .auto)) (.two .auto (.two (.two .auto (.two (.two .auto .auto) .auto)) (.two .auto (.two .auto .auto)))))) Try.func98 (by kernel_rfl) (by kernel_rfl) (by kernel_rfl) h

/-- 99: buttery/code.told of int -/
def sh_code_told (r_0 : Option Addr) (v_1 : Int) (ok_2 : Bool) (w : World) (R : Ending → World → Prop) : Prop :=
  ∃ Φ1 : World → Prop, (
    VIf (!ok_2) (
      VNN none r_0 fun (a11 : Addr) =>
      VLd none w a11 [CT.ptr] fun (v13 : Option Addr) =>
      VNN none v13 fun (a14 : Addr) =>
      VSt none w (Addr.add a14 1) [.bool true] fun (w1 : World) =>
      Φ1 w1
    ) (
      Φ1 w
    )
  ) ∧ ∀ (w2 : World), Φ1 w2 →
  VNN none r_0 fun (a17 : Addr) =>
  VLd none w2 a17 [CT.ptr] fun (v19 : Option Addr) =>
  VNN none v19 fun (a20 : Addr) =>
  VLd none w2 (Addr.add a20 1) [CT.bool] fun (v22 : Bool) =>
  VIf v22 (
    VSet 0 fun (v6 : Int) =>
    R (.returned (.int .i64 v6)) w2
  ) (
    VSet v_1 fun (v6' : Int) =>
    R (.returned (.int .i64 v6')) w2
  )
theorem sh_code_told_ok (r_0 : Option Addr) (v_1 : Int) (ok_2 : Bool) (w : World) (R : Ending → World → Prop) (h : sh_code_told r_0 v_1 ok_2 w R) : Calls Try.prog 99 #[.pointer r_0, .int .i64 v_1, .bool ok_2] w R :=
  calls_of_sh (args := [.pointer r_0, .int .i64 v_1, .bool ok_2]) (.two .auto (.join [] (.two .auto (.two .auto .auto)) (.two (.two .auto (.two (.two .auto (.two .auto .auto)) .auto)) (.two .auto .auto)))) Try.func99 (by kernel_rfl) (by kernel_rfl) (by kernel_rfl) h

/-- 100: buttery/code.told of int64 -/
def sh_code_told' (r_0 : Option Addr) (v_1 : Int) (ok_2 : Bool) (w : World) (R : Ending → World → Prop) : Prop :=
  ∃ Φ1 : World → Prop, (
    VIf (!ok_2) (
      VNN none r_0 fun (a11 : Addr) =>
      VLd none w a11 [CT.ptr] fun (v13 : Option Addr) =>
      VNN none v13 fun (a14 : Addr) =>
      VSt none w (Addr.add a14 1) [.bool true] fun (w1 : World) =>
      Φ1 w1
    ) (
      Φ1 w
    )
  ) ∧ ∀ (w2 : World), Φ1 w2 →
  VNN none r_0 fun (a17 : Addr) =>
  VLd none w2 a17 [CT.ptr] fun (v19 : Option Addr) =>
  VNN none v19 fun (a20 : Addr) =>
  VLd none w2 (Addr.add a20 1) [CT.bool] fun (v22 : Bool) =>
  VIf v22 (
    VSet 0 fun (v6 : Int) =>
    R (.returned (.int .i64 v6)) w2
  ) (
    VSet v_1 fun (v6' : Int) =>
    R (.returned (.int .i64 v6')) w2
  )
theorem sh_code_told'_ok (r_0 : Option Addr) (v_1 : Int) (ok_2 : Bool) (w : World) (R : Ending → World → Prop) (h : sh_code_told' r_0 v_1 ok_2 w R) : Calls Try.prog 100 #[.pointer r_0, .int .i64 v_1, .bool ok_2] w R :=
  calls_of_sh (args := [.pointer r_0, .int .i64 v_1, .bool ok_2]) (.two .auto (.join [] (.two .auto (.two .auto .auto)) (.two (.two .auto (.two (.two .auto (.two .auto .auto)) .auto)) (.two .auto .auto)))) Try.func100 (by kernel_rfl) (by kernel_rfl) (by kernel_rfl) h

/-- 101: buttery/code.told of string -/
def sh_code_told'' (r_0 : Option Addr) (v_1 : ByteArray) (ok_2 : Bool) (w : World) (R : Ending → World → Prop) : Prop :=
  ∃ Φ1 : World → Prop, (
    VIf (!ok_2) (
      VNN none r_0 fun (a11 : Addr) =>
      VLd none w a11 [CT.ptr] fun (v13 : Option Addr) =>
      VNN none v13 fun (a14 : Addr) =>
      VSt none w (Addr.add a14 1) [.bool true] fun (w1 : World) =>
      Φ1 w1
    ) (
      Φ1 w
    )
  ) ∧ ∀ (w2 : World), Φ1 w2 →
  VNN none r_0 fun (a17 : Addr) =>
  VLd none w2 a17 [CT.ptr] fun (v19 : Option Addr) =>
  VNN none v19 fun (a20 : Addr) =>
  VLd none w2 (Addr.add a20 1) [CT.bool] fun (v22 : Bool) =>
  VIf v22 (
    R (.returned (.string (ByteArray.mk #[]))) w2
  ) (
    R (.returned (.string v_1)) w2
  )
theorem sh_code_told''_ok (r_0 : Option Addr) (v_1 : ByteArray) (ok_2 : Bool) (w : World) (R : Ending → World → Prop) (h : sh_code_told'' r_0 v_1 ok_2 w R) : Calls Try.prog 101 #[.pointer r_0, .string v_1, .bool ok_2] w R :=
  calls_of_sh (args := [.pointer r_0, .string v_1, .bool ok_2]) (.two .auto (.join [] (.two .auto (.two .auto .auto)) (.two (.two .auto (.two (.two .auto (.two .auto .auto)) .auto)) (.two .auto .auto)))) Try.func101 (by kernel_rfl) (by kernel_rfl) (by kernel_rfl) h

/-- 102: (*buttery/code.rest).take -/
def sh_code_rest_take (r_0 : Option Addr) (n_1 : Int) (w : World) (R : Ending → World → Prop) : Prop :=
  VNN none r_0 fun (a7 : Addr) =>
  VLd none w a7 [CT.sl] fun (v9 : Sl) =>
  VCk none ((0 : Int) ≤ 0 ∧ (0 : Int) ≤ n_1 ∧ (n_1 : Int) ≤ ((v9.cap : Nat) : Int)) (
    VNN none r_0 fun (a14 : Addr) =>
    VLd none w a14 [CT.sl] fun (v16 : Sl) =>
    VCk none ((0 : Int) ≤ n_1 ∧ (n_1 : Int) ≤ ((v16.len : Nat) : Int) ∧ (((v16.len : Nat) : Int) : Int) ≤ ((v16.cap : Nat) : Int)) (
      VNN none r_0 fun (a19 : Addr) =>
      VSt none w a19 [.slice (cutB v16.base v16.cap 1 (Int.toNat n_1)) (v16.len - (Int.toNat n_1)) (v16.cap - (Int.toNat n_1))] fun (w1 : World) =>
      R (.returned (.slice (cutB v9.base v9.cap 1 0) ((Int.toNat n_1) - 0) (v9.cap - 0))) w1
    )
  )
theorem sh_code_rest_take_ok (r_0 : Option Addr) (n_1 : Int) (w : World) (R : Ending → World → Prop) (h : sh_code_rest_take r_0 n_1 w R) : Calls Try.prog 102 #[.pointer r_0, .int .i64 n_1] w R :=
  calls_of_sh (args := [.pointer r_0, .int .i64 n_1]) (.two .auto (.two .auto (.two .auto (.two .auto .auto)))) Try.func102 (by kernel_rfl) (by kernel_rfl) (by kernel_rfl) h

/-- 103: (*buttery/code.rest).OK -/
def sh_code_rest_OK (r_0 : Option Addr) (w : World) (R : Ending → World → Prop) : Prop :=
  VNN (some (!r_0.isNone)) r_0 fun (a7 : Addr) =>
  VLd (some (!r_0.isNone)) w (Addr.add a7 1) [CT.bool] fun (v9 : Bool) =>
  R (.returned (.bool ((!r_0.isNone) && (!v9)))) w
theorem sh_code_rest_OK_ok (r_0 : Option Addr) (w : World) (R : Ending → World → Prop) (h : sh_code_rest_OK r_0 w R) : Calls Try.prog 103 #[.pointer r_0] w R :=
  calls_of_sh (args := [.pointer r_0]) (.two .auto (.two .auto .auto)) Try.func103 (by kernel_rfl) (by kernel_rfl) (by kernel_rfl) h

/-- 104: (*buttery/code.rest).Left -/
def sh_code_rest_Left (r_0 : Option Addr) (w : World) (R : Ending → World → Prop) : Prop :=
  VNN (some (!r_0.isNone)) r_0 fun (a7 : Addr) =>
  VLd (some (!r_0.isNone)) w (Addr.add a7 1) [CT.bool] fun (v9 : Bool) =>
  VIf (r_0.isNone || v9) (
    R (.returned (.int .i64 0)) w
  ) (
    VNN none r_0 fun (a12 : Addr) =>
    VLd none w a12 [CT.sl] fun (v14 : Sl) =>
    VSet ((v14.len : Nat) : Int) fun (v2 : Int) =>
    R (.returned (.int .i64 v2)) w
  )
theorem sh_code_rest_Left_ok (r_0 : Option Addr) (w : World) (R : Ending → World → Prop) (h : sh_code_rest_Left r_0 w R) : Calls Try.prog 104 #[.pointer r_0] w R :=
  calls_of_sh (args := [.pointer r_0]) (.two .auto (.two (.two .auto (.two (.two .auto .auto) .auto)) (.two .auto .auto))) Try.func104 (by kernel_rfl) (by kernel_rfl) (by kernel_rfl) h

/-- 105: buttery/code.first -/
def sh_code_first (b_0 : Sl) (w : World) (R : Ending → World → Prop) : Prop :=
  ∃ I1 : Nat → Int → Int → World → Prop, (∃ k, I1 k 0 0 w) ∧ ∀ k1 (u_4 : Int) (x9 : Int) (w1 : World), I1 k1 u_4 x9 w1 →
  VIf (decide (x9 < ((b_0.len : Nat) : Int))) (
    VIx none b_0.base b_0.len x9 fun (a12 : Addr) =>
    VLd none w1 (Addr.add a12 ((Int.toNat x9) * 1)) [CT.int .u8] fun (v13 : Int) =>
    VSet x9 fun (i_5 : Int) =>
    VSet v13 fun (c_6 : Int) =>
    VIf ((i_5 == 10) || ((i_5 == 9) && (decide (c_6 > 1)))) (
      R (.returned (.tuple #[.int .u64 0, .int .i64 0])) w1
    ) (
      VCk none ((0 : Int) ≤ (IntKind.wrap .i64 (7 * i_5))) (
        VSet (bOr .u64 u_4 (IntKind.wrap .u64 ((IntKind.wrap .u64 (bAnd .u8 c_6 127)) * 2 ^ (min (Int.toNat (IntKind.wrap .i64 (7 * i_5))) (IntKind.bits .u64))))) fun (u_4' : Int) =>
        VIf (decide (c_6 < 128)) (
          VSet u_4' fun (v2 : Int) =>
          VSet (IntKind.wrap .i64 (i_5 + 1)) fun (v3 : Int) =>
          R (.returned (.tuple #[.int .u64 v2, .int .i64 v3])) w1
        ) (
          ∃ k', k' < k1 ∧ I1 k' u_4' (IntKind.wrap .i64 (x9 + 1)) w1
        )
      )
    )
  ) (
    R (.returned (.tuple #[.int .u64 0, .int .i64 0])) w1
  )
theorem sh_code_first_ok (b_0 : Sl) (w : World) (R : Ending → World → Prop) (h : sh_code_first b_0 w R) : Calls Try.prog 105 #[.slice b_0.base b_0.len b_0.cap] w R :=
  calls_of_sh (args := [.slice b_0.base b_0.len b_0.cap]) (.two .auto (.two .auto (.two (.two .auto (.one (.loop [(4, .int .u64 0), (9, .int .i64 0)] (.two .auto (.two (.two .auto .auto) (.two (.one (.two .auto (.two (.two .auto (.two (.two .auto .auto) .auto)) (.two .auto (.two .auto (.two (.two .auto .auto) .auto)))))) .auto)))))) (.two .auto .auto)))) Try.func105 (by kernel_rfl) (by kernel_rfl) (by kernel_rfl) h

end Go.Proofs.Ytodcdfelbphajaa
