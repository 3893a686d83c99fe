/-
  By program (own tool): what the code of each function asks, in plain text, and that it suffices (the kernel compares the two).
-/
import Derived.Test.YthpbkkjggnejcaaRows
import Derived.Test.YthpbkkjggnejcaaEngJ
import Derived.KernelRfl
namespace Go.Proofs.Ythpbkkjggnejcaa
open Go.RowKit
set_option maxRecDepth 100000

/-- 3: buttery/butterylaw11.PartsCut -/
def sh_butterylaw11_PartsCut (number_0 : Int) (msg_1 : Sl) (w : World) (R : Ending → World → Prop) : Prop :=
  VIf (decide (((msg_1.len : Nat) : Int) > 20000)) (
    R (.returned (.bool true)) w
  ) (
    VNw none w (.cells #[] 5) fun (b16 : Nat) (w1 : World) =>
    VApp none w1 5 1 1 #[.int .u8 0] (some ⟨b16, 0, none⟩) 0 0 msg_1.len (fun news => Seg w1 msg_1.base msg_1.len 1 news) fun (l18 : Sl) (w2 : World) =>
    ∃ I1 : Nat → Int → World → Prop, (∃ k, I1 k 0 w2) ∧ ∀ k1 (round_6 : Int) (w3 : World), I1 k1 round_6 w3 →
    VIf (decide (round_6 < 2)) (
      VCall none Try.prog 10 #[.int .i64 number_0, .slice l18.base l18.len l18.cap] w3 (.tuple #[.slice none 0 0, .int .i64 0]) fun (r26_0 : Sl) (r26_1 : Int) (w4 : World) =>
      VSet r26_1 fun (e_8 : Int) =>
      VStr none w4 msg_1.base msg_1.len fun (s32 : ByteArray) =>
      VCall none Try.prog 11 #[.int .i64 number_0, .string s32] w4 (.tuple #[.slice none 0 0, .int .i64 0]) fun (r33_0 : Sl) (r33_1 : Int) (w5 : World) =>
      VSet r33_1 fun (f_10 : Int) =>
      VStr (some (!((e_8 != f_10) || (((r26_0.len : Nat) : Int) != ((r33_0.len : Nat) : Int))))) w5 l18.base l18.len fun (s48 : ByteArray) =>
      VStr (some (!((e_8 != f_10) || (((r26_0.len : Nat) : Int) != ((r33_0.len : Nat) : Int))))) w5 msg_1.base msg_1.len fun (s50 : ByteArray) =>
      VIf (((e_8 != f_10) || (((r26_0.len : Nat) : Int) != ((r33_0.len : Nat) : Int))) || (!(s48.toList == s50.toList))) (
        R (.returned (.bool false)) w5
      ) (
        ∃ I2 : Nat → Int → World → Prop, (∃ k, I2 k 0 w5) ∧ ∀ k2 (i_11 : Int) (w6 : World), I2 k2 i_11 w6 →
        VIf (decide (i_11 < ((r26_0.len : Nat) : Int))) (
          ∀ (w7 : World), w7 = World.drew w6 →
          VIx none r26_0.base r26_0.len i_11 fun (a61 : Addr) =>
          VLd none w7 (Addr.add a61 ((Int.toNat i_11) * 1)) [CT.sl] fun (v62 : Sl) =>
          VStr none w7 v62.base v62.len fun (s63 : ByteArray) =>
          VIx none r33_0.base r33_0.len i_11 fun (a66 : Addr) =>
          VLd none w7 (Addr.add a66 ((Int.toNat i_11) * 1)) [CT.sl] fun (v67 : Sl) =>
          VStr none w7 v67.base v67.len fun (s68 : ByteArray) =>
          VIf (!(s63.toList == s68.toList)) (
            R (.returned (.bool false)) w7
          ) (
            ∃ I3 : Nat → Int → World → Prop, (∃ k, I3 k 0 w7) ∧ ∀ k3 (k_12 : Int) (w8 : World), I3 k3 k_12 w8 →
            VIx none r26_0.base r26_0.len i_11 fun (a73 : Addr) =>
            VLd none w8 (Addr.add a73 ((Int.toNat i_11) * 1)) [CT.sl] fun (v74 : Sl) =>
            VIf (decide (k_12 < ((v74.len : Nat) : Int))) (
              VIx none r26_0.base r26_0.len i_11 fun (a81 : Addr) =>
              VLd none w8 (Addr.add a81 ((Int.toNat i_11) * 1)) [CT.sl] fun (v82 : Sl) =>
              VIx none v82.base v82.len k_12 fun (a84 : Addr) =>
              VSt none w8 (Addr.add a84 ((Int.toNat k_12) * 1)) [.int .u8 9] fun (w9 : World) =>
              VSet (IntKind.wrap .i64 (k_12 + 1)) fun (k_12' : Int) =>
              ∃ k', k' < k3 ∧ I3 k' k_12' w9
            ) (
              VSet (IntKind.wrap .i64 (i_11 + 1)) fun (i_11' : Int) =>
              ∃ k', k' < k2 ∧ I2 k' i_11' w8
            )
          )
        ) (
          VSet (IntKind.wrap .i64 (round_6 + 1)) fun (round_6' : Int) =>
          ∃ k', k' < k1 ∧ I1 k' round_6' w6
        )
      )
    ) (
      R (.returned (.bool true)) w3
    )
  )
theorem sh_butterylaw11_PartsCut_ok (number_0 : Int) (msg_1 : Sl) (w : World) (R : Ending → World → Prop) (h : sh_butterylaw11_PartsCut number_0 msg_1 w R) : Calls Try.prog 3 #[.int .i64 number_0, .slice msg_1.base msg_1.len msg_1.cap] w R :=
  calls_of_sh (args := [.int .i64 number_0, .slice msg_1.base msg_1.len msg_1.cap]) (.two .auto (.two (.two .auto (.two (.two .auto .auto) .auto)) (.two .auto (.two (.two .auto (.one (.loop [(6, .int .i64 0)] (.two (.two .auto (.two .auto .auto)) (.two (.one (.two .auto (.two .auto (.two (.two .auto (.two (.two .auto .auto) .auto)) (.two .auto (.one (.loop [(11, .int .i64 0)] (.two (.two .auto (.two .auto .auto)) (.two (.one (.two (.two .auto (.two (.two .auto .auto) .auto)) (.two .auto (.one (.loop [(12, .int .i64 0)] (.two (.two .auto (.two .auto .auto)) (.two (.one .auto) .auto))))))) .auto))))))))) .auto))))) (.two .auto .auto))))) Try.func3 (by kernel_rfl) (by kernel_rfl) (by kernel_rfl) h

/-- 4: buttery/butterylaw11.PartsForms -/
def sh_butterylaw11_PartsForms (w : World) (R : Ending → World → Prop) : Prop :=
  VMk none w 5 1 1 #[.int .u8 0] 381 381 fun (b29 : Nat) (w1 : World) =>
  VStr none w1 (some ⟨b29, 0, none⟩) 381 fun (s30 : ByteArray) =>
  VNw none w1 (.cells #[.int .i64 21, .int .i64 22, .int .i64 212, .bool true, .int .i64 21, .int .i64 22, .int .i64 213, .bool false, .int .i64 21, .int .i64 23, .int .i64 380, .bool false, .int .i64 22, .int .i64 23, .int .i64 1, .bool false, .int .i64 1, .int .i64 2, .int .i64 0, .bool false, .int .i64 1, .int .i64 2, .int .i64 1, .bool true, .int .i64 1, .int .i64 2, .int .i64 380, .bool true, .int .i64 1, .int .i64 2, .int .i64 381, .bool false, .int .i64 0, .int .i64 2, .int .i64 379, .bool false, .int .i64 0, .int .i64 2, .int .i64 380, .bool true, .int .i64 0, .int .i64 1, .int .i64 0, .bool true, .int .i64 0, .int .i64 1, .int .i64 381, .bool false, .int .i64 1, .int .i64 1, .int .i64 5, .bool false, .int .i64 0, .int .i64 0, .int .i64 0, .bool false] 29) fun (b45 : Nat) (w2 : World) =>
  ∃ I1 : Nat → Int → World → Prop, (∃ k, I1 k 0 w2) ∧ ∀ k1 (x47 : Int) (w3 : World), I1 k1 x47 w3 →
  VIf (decide (x47 < ((14 : Nat) : Int))) (
    VIx none (some ⟨b45, 0, none⟩) 14 x47 fun (a49 : Addr) =>
    VLd none w3 (Addr.add a49 ((Int.toNat x47) * 4)) [CT.int .i64, CT.int .i64, CT.int .i64, CT.bool] fun (v50_0 : Int) (v50_1 : Int) (v50_2 : Int) (v50_3 : Bool) =>
    VNw none w3 (.cells #[.int .i64 0, .int .i64 0, .int .i64 0, .bool false] 29) fun (x_3 : Nat) (w4 : World) =>
    VSt none w4 ⟨x_3, 0, none⟩ [.int .i64 v50_0, .int .i64 v50_1, .int .i64 v50_2, .bool v50_3] fun (w5 : World) =>
    VCall none Try.prog 12 #[] w5 (.pointer none) fun (r51 : Option Addr) (w6 : World) =>
    ∀ (w7 : World), w7 = World.drew w6 →
    VLd none w7 ⟨x_3, 0, none⟩ [CT.int .i64] fun (v55 : Int) =>
    VLd none w7 ⟨x_3, 1, none⟩ [CT.int .i64] fun (v57 : Int) =>
    VLd none w7 ⟨x_3, 2, none⟩ [CT.int .i64] fun (v60 : Int) =>
    VCk none ((0 : Int) ≤ 0 ∧ (0 : Int) ≤ v60 ∧ (v60 : Int) ≤ ((s30.size : Nat) : Int)) (
      VCall none Try.prog 14 #[.int .i64 5, .int .i64 v55, .int .i64 v57, .string (ByteArray.extract s30 0 (Int.toNat v60))] w7 (.slice none 0 0) fun (r62 : Sl) (w8 : World) =>
      VCall none Try.prog 13 #[.pointer r51, .int .i64 1, .slice r62.base r62.len r62.cap] w8 (.tuple #[.slice none 0 0, .bool false, .int .i64 0]) fun (r63_0 : Sl) (r63_1 : Bool) (r63_2 : Int) (w9 : World) =>
      VSet r63_2 fun (e_7 : Int) =>
      VLd none w9 ⟨x_3, 3, none⟩ [CT.bool] fun (v70 : Bool) =>
      VIf ((!((e_7 == 0) == v70)) || ((e_7 != 0) && (e_7 != 4))) (
        R (.returned (.bool false)) w9
      ) (
        ∃ k', k' < k1 ∧ I1 k' (IntKind.wrap .i64 (x47 + 1)) w9
      )
    )
  ) (
    VMk none w3 5 1 1 #[.int .u8 0] 380 380 fun (b81 : Nat) (w10 : World) =>
    VIx none (some ⟨b81, 0, none⟩) 380 0 fun (a83 : Addr) =>
    VSt none w10 a83 [.int .u8 7] fun (w11 : World) =>
    VCall none Try.prog 12 #[] w11 (.pointer none) fun (r84 : Option Addr) (w12 : World) =>
    VStr none w12 (some ⟨b81, 0, none⟩) 380 fun (s88 : ByteArray) =>
    VCall none Try.prog 14 #[.int .i64 5, .int .i64 0, .int .i64 2, .string s88] w12 (.slice none 0 0) fun (r89 : Sl) (w13 : World) =>
    VCall none Try.prog 13 #[.pointer r84, .int .i64 1, .slice r89.base r89.len r89.cap] w13 (.tuple #[.slice none 0 0, .bool false, .int .i64 0]) fun (r90_0 : Sl) (r90_1 : Bool) (r90_2 : Int) (w14 : World) =>
    VSet r90_2 fun (e_12 : Int) =>
    VCk none ((0 : Int) ≤ 0 ∧ (0 : Int) ≤ 380 ∧ (380 : Int) ≤ ((s30.size : Nat) : Int)) (
      VCall none Try.prog 14 #[.int .i64 5, .int .i64 0, .int .i64 2, .string (ByteArray.extract s30 0 380)] w14 (.slice none 0 0) fun (r98 : Sl) (w15 : World) =>
      VCall none Try.prog 13 #[.pointer r84, .int .i64 1, .slice r98.base r98.len r98.cap] w15 (.tuple #[.slice none 0 0, .bool false, .int .i64 0]) fun (r99_0 : Sl) (r99_1 : Bool) (r99_2 : Int) (w16 : World) =>
      VSet r99_2 fun (f_15 : Int) =>
      VCall none Try.prog 14 #[.int .i64 5, .int .i64 1, .int .i64 2, .string (ByteArray.mk #[120])] w16 (.slice none 0 0) fun (r105 : Sl) (w17 : World) =>
      VCall none Try.prog 13 #[.pointer r84, .int .i64 1, .slice r105.base r105.len r105.cap] w17 (.tuple #[.slice none 0 0, .bool false, .int .i64 0]) fun (r106_0 : Sl) (r106_1 : Bool) (r106_2 : Int) (w18 : World) =>
      VSet r106_2 fun (g_18 : Int) =>
      VNw none w18 (.cells #[.int .u8 5, .int .u8 0, .int .u8 1, .int .u8 0] 5) fun (b111 : Nat) (w19 : World) =>
      VMark none w19 ⟨b111, 0, none⟩ fun (w20 : World) =>
      VCall none Try.prog 15 #[.int .u8 2, .slice (some ⟨b111, 0, none⟩) 4 4] w20 (.tuple #[.slice none 0 0, .int .i64 0]) fun (r113_0 : Sl) (r113_1 : Int) (w21 : World) =>
      VSet r113_1 fun (v20 : Int) =>
      VNw none w21 (.cells #[.int .u8 5, .int .u8 0, .int .u8 1, .int .u8 0] 5) fun (b117 : Nat) (w22 : World) =>
      VMark none w22 ⟨b117, 0, none⟩ fun (w23 : World) =>
      VCall none Try.prog 15 #[.int .u8 1, .slice (some ⟨b117, 0, none⟩) 4 4] w23 (.tuple #[.slice none 0 0, .int .i64 0]) fun (r119_0 : Sl) (r119_1 : Int) (w24 : World) =>
      VSet r119_1 fun (v22 : Int) =>
      VCall none Try.prog 13 #[.pointer r84, .int .i64 1, .slice r113_0.base r113_0.len r113_0.cap] w24 (.tuple #[.slice none 0 0, .bool false, .int .i64 0]) fun (r125_0 : Sl) (r125_1 : Bool) (r125_2 : Int) (w25 : World) =>
      VSet r125_2 fun (h_25 : Int) =>
      VCall none Try.prog 13 #[.pointer r84, .int .i64 1, .slice r119_0.base r119_0.len r119_0.cap] w25 (.tuple #[.slice none 0 0, .bool false, .int .i64 0]) fun (r132_0 : Sl) (r132_1 : Bool) (r132_2 : Int) (w26 : World) =>
      VSet r132_2 fun (i_28 : Int) =>
      VIx (some (((((((!r90_1) && (!r99_1)) && r106_1) && (e_12 == 0)) && (f_15 == 0)) && (g_18 == 0)) && (((r106_0.len : Nat) : Int) == 381))) r106_0.base r106_0.len 0 fun (a164 : Addr) =>
      VLd (some (((((((!r90_1) && (!r99_1)) && r106_1) && (e_12 == 0)) && (f_15 == 0)) && (g_18 == 0)) && (((r106_0.len : Nat) : Int) == 381))) w26 a164 [CT.int .u8] fun (v165 : Int) =>
      VIx (some ((((((((!r90_1) && (!r99_1)) && r106_1) && (e_12 == 0)) && (f_15 == 0)) && (g_18 == 0)) && (((r106_0.len : Nat) : Int) == 381)) && (v165 == 7))) r106_0.base r106_0.len 380 fun (a170 : Addr) =>
      VLd (some ((((((((!r90_1) && (!r99_1)) && r106_1) && (e_12 == 0)) && (f_15 == 0)) && (g_18 == 0)) && (((r106_0.len : Nat) : Int) == 381)) && (v165 == 7))) w26 (Addr.add a170 380) [CT.int .u8] fun (v171 : Int) =>
      R (.returned (.bool ((((((((((((!r90_1) && (!r99_1)) && r106_1) && (e_12 == 0)) && (f_15 == 0)) && (g_18 == 0)) && (((r106_0.len : Nat) : Int) == 381)) && (v165 == 7)) && (v171 == 120)) && (h_25 == 4)) && r132_1) && (i_28 == 0)))) w26
    )
  )
theorem sh_butterylaw11_PartsForms_ok (w : World) (R : Ending → World → Prop) (h : sh_butterylaw11_PartsForms w R) : Calls Try.prog 4 #[] w R :=
  calls_of_sh (args := []) (.two .auto (.two .auto (.two (.two .auto (.one (.loop [(47, .int .i64 0)] (.two .auto (.two (.two .auto .auto) (.two (.one (.two .auto (.two .auto (.two .auto (.two .auto (.two (.two .auto .auto) .auto)))))) .auto)))))) (.two .auto (.two .auto (.two .auto (.two .auto (.two .auto (.two .auto (.two .auto (.two .auto (.two .auto (.two .auto (.two .auto .auto)))))))))))))) Try.func4 (by kernel_rfl) (by kernel_rfl) (by kernel_rfl) h

/-- 5: buttery/butterylaw11.PartsTake -/
def sh_butterylaw11_PartsTake (l_0 : Sl) (w : World) (R : Ending → World → Prop) : Prop :=
  VIf (decide (((l_0.len : Nat) : Int) > 300)) (
    R (.returned (.bool true)) w
  ) (
    VCall none Try.prog 12 #[] w (.pointer none) fun (r19 : Option Addr) (w1 : World) =>
    VNw none w1 (.cells #[.slice none 0 0] 43) fun (b21 : Nat) (w2 : World) =>
    ∃ I1 : Nat → Int → World → Prop, (∃ k, I1 k 0 w2) ∧ ∀ k1 (i_5 : Int) (w3 : World), I1 k1 i_5 w3 →
    VIf (decide (i_5 < ((l_0.len : Nat) : Int))) (
      VIx none l_0.base l_0.len i_5 fun (a30 : Addr) =>
      VLd none w3 (Addr.add a30 ((Int.toNat i_5) * 7)) [CT.int .i64, CT.int .i64, CT.int .i64, CT.int .i64, CT.int .i64, CT.int .u8, CT.sl] fun (v31_0 : Int) (v31_1 : Int) (v31_2 : Int) (v31_3 : Int) (v31_4 : Int) (v31_5 : Int) (v31_6 : Sl) =>
      VCall none Try.prog 16 #[.agg #[.int .i64 v31_0, .int .i64 v31_1, .int .i64 v31_2, .int .i64 v31_3, .int .i64 v31_4, .int .u8 v31_5, .slice v31_6.base v31_6.len v31_6.cap]] w3 (.slice none 0 0) fun (r32 : Sl) (w4 : World) =>
      VNw none w4 (.cells #[] 5) fun (b33 : Nat) (w5 : World) =>
      VApp none w5 5 1 1 #[.int .u8 0] (some ⟨b33, 0, none⟩) 0 0 r32.len (fun news => Seg w5 r32.base r32.len 1 news) fun (l35 : Sl) (w6 : World) =>
      VIx none l_0.base l_0.len i_5 fun (a40 : Addr) =>
      VLd none w6 (Addr.add a40 ((Int.toNat i_5) * 7)) [CT.int .i64] fun (v42 : Int) =>
      VCall none Try.prog 13 #[.pointer r19, .int .i64 v42, .slice l35.base l35.len l35.cap] w6 (.tuple #[.slice none 0 0, .bool false, .int .i64 0]) fun (r44_0 : Sl) (r44_1 : Bool) (r44_2 : Int) (w7 : World) =>
      VSet r44_2 fun (e_10 : Int) =>
      VIx none l_0.base l_0.len i_5 fun (a52 : Addr) =>
      VLd none w7 (Addr.add a52 ((Int.toNat i_5) * 7)) [CT.int .i64] fun (v54 : Int) =>
      VCall none Try.prog 17 #[.pointer (some ⟨b21, 0, none⟩), .int .i64 v54, .slice r32.base r32.len r32.cap] w7 (.tuple #[.string ByteArray.empty, .bool false, .int .i64 0]) fun (r56_0 : ByteArray) (r56_1 : Bool) (r56_2 : Int) (w8 : World) =>
      VSet r56_2 fun (f_13 : Int) =>
      ∀ (w9 : World), w9 = World.drew w8 →
      VStr none w9 r44_0.base r44_0.len fun (s61 : ByteArray) =>
      VNN (some (!(((!(s61.toList == r56_0.toList)) || (!(r44_1 == r56_1))) || (e_10 != f_13)))) (some ⟨b21, 0, none⟩) fun (a78 : Addr) =>
      VLd (some (!(((!(s61.toList == r56_0.toList)) || (!(r44_1 == r56_1))) || (e_10 != f_13)))) w9 a78 [CT.sl] fun (v80 : Sl) =>
      VCall (some (!(((!(s61.toList == r56_0.toList)) || (!(r44_1 == r56_1))) || (e_10 != f_13)))) Try.prog 18 #[.pointer r19] w9 (.int .i64 0) fun (r76 : Int) (w10 : World) =>
      ((!(((!(s61.toList == r56_0.toList)) || (!(r44_1 == r56_1))) || (e_10 != f_13))) = true → Rd w10 a78 [.slice v80.base v80.len v80.cap]) ∧
      VStr (some (!((((!(s61.toList == r56_0.toList)) || (!(r44_1 == r56_1))) || (e_10 != f_13)) || (r76 != ((v80.len : Nat) : Int))))) w10 l35.base l35.len fun (s86 : ByteArray) =>
      VStr (some (!((((!(s61.toList == r56_0.toList)) || (!(r44_1 == r56_1))) || (e_10 != f_13)) || (r76 != ((v80.len : Nat) : Int))))) w10 r32.base r32.len fun (s88 : ByteArray) =>
      VIf (((((!(s61.toList == r56_0.toList)) || (!(r44_1 == r56_1))) || (e_10 != f_13)) || (r76 != ((v80.len : Nat) : Int))) || (!(s86.toList == s88.toList))) (
        R (.returned (.bool false)) w10
      ) (
        ∃ I2 : Nat → Int → World → Prop, (∃ k, I2 k 0 w10) ∧ ∀ k2 (k_14 : Int) (w11 : World), I2 k2 k_14 w11 →
        VIf (decide (k_14 < ((l35.len : Nat) : Int))) (
          VIx none l35.base l35.len k_14 fun (a99 : Addr) =>
          VSt none w11 (Addr.add a99 ((Int.toNat k_14) * 1)) [.int .u8 7] fun (w12 : World) =>
          VSet (IntKind.wrap .i64 (k_14 + 1)) fun (k_14' : Int) =>
          ∃ k', k' < k2 ∧ I2 k' k_14' w12
        ) (
          ∃ I3 : Nat → Int → World → Prop, (∃ k, I3 k 0 w11) ∧ ∀ k3 (k_15 : Int) (w13 : World), I3 k3 k_15 w13 →
          VIf (decide (k_15 < ((r44_0.len : Nat) : Int))) (
            VIx none r44_0.base r44_0.len k_15 fun (a108 : Addr) =>
            VSt none w13 (Addr.add a108 ((Int.toNat k_15) * 1)) [.int .u8 7] fun (w14 : World) =>
            VSet (IntKind.wrap .i64 (k_15 + 1)) fun (k_15' : Int) =>
            ∃ k', k' < k3 ∧ I3 k' k_15' w14
          ) (
            VSet (IntKind.wrap .i64 (i_5 + 1)) fun (i_5' : Int) =>
            ∃ k', k' < k1 ∧ I1 k' i_5' w13
          )
        )
      )
    ) (
      R (.returned (.bool true)) w3
    )
  )
theorem sh_butterylaw11_PartsTake_ok (l_0 : Sl) (w : World) (R : Ending → World → Prop) (h : sh_butterylaw11_PartsTake l_0 w R) : Calls Try.prog 5 #[.slice l_0.base l_0.len l_0.cap] w R :=
  calls_of_sh (args := [.slice l_0.base l_0.len l_0.cap]) (.two .auto (.two (.two .auto (.two (.two .auto .auto) .auto)) (.two .auto (.two .auto (.two (.two .auto (.one (.loop [(5, .int .i64 0)] (.two (.two .auto (.two .auto .auto)) (.two (.one (.two .auto (.two .auto (.two .auto (.two .auto (.two (.two .auto (.two (.two .auto .auto) .auto)) (.two (.two .auto (.one (.loop [(14, .int .i64 0)] (.two (.two .auto (.two .auto .auto)) (.two (.one .auto) .auto))))) (.two .auto (.one (.loop [(15, .int .i64 0)] (.two (.two .auto (.two .auto .auto)) (.two (.one .auto) .auto)))))))))))) .auto))))) (.two .auto .auto)))))) Try.func5 (by kernel_rfl) (by kernel_rfl) (by kernel_rfl) h

/-- 6: buttery/butterylaw11.PartsNames -/
def sh_butterylaw11_PartsNames (w : World) (R : Ending → World → Prop) : Prop :=
  VCall none Try.prog 19 #[] w (.bool false) fun (r39 : Bool) (w1 : World) =>
  VIf ((((((((((!r39) || false) || false) || false) || false) || false) || false) || false) || false) || false) (
    R (.returned (.bool false)) w1
  ) (
    VCall none Try.prog 10 #[.int .i64 (-1), .slice none 0 0] w1 (.tuple #[.slice none 0 0, .int .i64 0]) fun (r60_0 : Sl) (r60_1 : Int) (w2 : World) =>
    VSet r60_1 fun (a_2 : Int) =>
    VCall none Try.prog 10 #[.int .i64 2147483648, .slice none 0 0] w2 (.tuple #[.slice none 0 0, .int .i64 0]) fun (r64_0 : Sl) (r64_1 : Int) (w3 : World) =>
    VSet r64_1 fun (b_4 : Int) =>
    VMk none w3 5 1 1 #[.int .u8 0] 8193 8193 fun (b68 : Nat) (w4 : World) =>
    VCall none Try.prog 10 #[.int .i64 0, .slice (some ⟨b68, 0, none⟩) 8193 8193] w4 (.tuple #[.slice none 0 0, .int .i64 0]) fun (r69_0 : Sl) (r69_1 : Int) (w5 : World) =>
    VSet r69_1 fun (c_6 : Int) =>
    VMk none w5 5 1 1 #[.int .u8 0] 8192 8192 fun (b73 : Nat) (w6 : World) =>
    VCall none Try.prog 10 #[.int .i64 2147483647, .slice (some ⟨b73, 0, none⟩) 8192 8192] w6 (.tuple #[.slice none 0 0, .int .i64 0]) fun (r74_0 : Sl) (r74_1 : Int) (w7 : World) =>
    VSet r74_1 fun (d_8 : Int) =>
    VCall none Try.prog 10 #[.int .i64 0, .slice none 0 0] w7 (.tuple #[.slice none 0 0, .int .i64 0]) fun (r78_0 : Sl) (r78_1 : Int) (w8 : World) =>
    VSet r78_1 fun (e_10 : Int) =>
    VCall none Try.prog 12 #[] w8 (.pointer none) fun (r81 : Option Addr) (w9 : World) =>
    VNw none w9 (.cells #[.int .u8 120] 5) fun (b84 : Nat) (w10 : World) =>
    VMark none w10 ⟨b84, 0, none⟩ fun (w11 : World) =>
    VCall none Try.prog 13 #[.pointer r81, .int .i64 1, .slice (some ⟨b84, 0, none⟩) 1 1] w11 (.tuple #[.slice none 0 0, .bool false, .int .i64 0]) fun (r86_0 : Sl) (r86_1 : Bool) (r86_2 : Int) (w12 : World) =>
    VSet r86_2 fun (f_14 : Int) =>
    VIf ((((((((a_2 != 1) || (b_4 != 1)) || (c_6 != 40)) || (d_8 != 0)) || (((r74_0.len : Nat) : Int) != 22)) || (e_10 != 0)) || (((r78_0.len : Nat) : Int) != 1)) || (f_14 != 4)) (
      R (.returned (.bool false)) w12
    ) (
      VIx none r78_0.base r78_0.len 0 fun (a125 : Addr) =>
      VLd none w12 a125 [CT.sl] fun (v126 : Sl) =>
      VCall none Try.prog 13 #[.pointer r81, .int .i64 1, .slice v126.base v126.len v126.cap] w12 (.tuple #[.slice none 0 0, .bool false, .int .i64 0]) fun (r127_0 : Sl) (r127_1 : Bool) (r127_2 : Int) (w13 : World) =>
      VSet r127_2 fun (g_17 : Int) =>
      VNw none w13 (.cells #[] 5) fun (b131 : Nat) (w14 : World) =>
      VIx none r78_0.base r78_0.len 0 fun (a133 : Addr) =>
      VLd none w14 a133 [CT.sl] fun (v134 : Sl) =>
      VApp none w14 5 1 1 #[.int .u8 0] (some ⟨b131, 0, none⟩) 0 0 v134.len (fun news => Seg w14 v134.base v134.len 1 news) fun (l135 : Sl) (w15 : World) =>
      VIx none l135.base l135.len 3 fun (a137 : Addr) =>
      VSt none w15 (Addr.add a137 3) [.int .u8 77] fun (w16 : World) =>
      VCall none Try.prog 13 #[.pointer r81, .int .i64 1, .slice l135.base l135.len l135.cap] w16 (.tuple #[.slice none 0 0, .bool false, .int .i64 0]) fun (r141_0 : Sl) (r141_1 : Bool) (r141_2 : Int) (w17 : World) =>
      VSet r141_2 fun (h_21 : Int) =>
      VIx none r78_0.base r78_0.len 0 fun (a148 : Addr) =>
      VLd none w17 a148 [CT.sl] fun (v149 : Sl) =>
      VCall none Try.prog 13 #[.pointer none, .int .i64 1, .slice v149.base v149.len v149.cap] w17 (.tuple #[.slice none 0 0, .bool false, .int .i64 0]) fun (r150_0 : Sl) (r150_1 : Bool) (r150_2 : Int) (w18 : World) =>
      VSet r150_2 fun (i_25 : Int) =>
      VCall (some (!(((((!r127_1) || (g_17 != 0)) || (((r127_0.len : Nat) : Int) != 0)) || (h_21 != 30)) || (i_25 != 2)))) Try.prog 18 #[.pointer none] w18 (.int .i64 0) fun (r175 : Int) (w19 : World) =>
      VIf ((((((!r127_1) || (g_17 != 0)) || (((r127_0.len : Nat) : Int) != 0)) || (h_21 != 30)) || (i_25 != 2)) || (r175 != 0)) (
        R (.returned (.bool false)) w19
      ) (
        ∃ I1 : Nat → Int → World → Prop, (∃ k, I1 k 0 w19) ∧ ∀ k1 (k_26 : Int) (w20 : World), I1 k1 k_26 w20 →
        VIf (decide (k_26 < 17)) (
          VMk none w20 5 1 1 #[.int .u8 0] 400 400 fun (b184 : Nat) (w21 : World) =>
          VCall none Try.prog 10 #[.int .i64 k_26, .slice (some ⟨b184, 0, none⟩) 400 400] w21 (.tuple #[.slice none 0 0, .int .i64 0]) fun (r185_0 : Sl) (r185_1 : Int) (w22 : World) =>
          VSet r185_1 fun (v28 : Int) =>
          VIx none r185_0.base r185_0.len 0 fun (a190 : Addr) =>
          VLd none w22 a190 [CT.sl] fun (v191 : Sl) =>
          VCall none Try.prog 13 #[.pointer r81, .int .i64 1, .slice v191.base v191.len v191.cap] w22 (.tuple #[.slice none 0 0, .bool false, .int .i64 0]) fun (r192_0 : Sl) (r192_1 : Bool) (r192_2 : Int) (w23 : World) =>
          VSet (IntKind.wrap .i64 (k_26 + 1)) fun (k_26' : Int) =>
          ∃ k', k' < k1 ∧ I1 k' k_26' w23
        ) (
          VMk none w20 5 1 1 #[.int .u8 0] 400 400 fun (b194 : Nat) (w24 : World) =>
          VCall none Try.prog 10 #[.int .i64 0, .slice (some ⟨b194, 0, none⟩) 400 400] w24 (.tuple #[.slice none 0 0, .int .i64 0]) fun (r195_0 : Sl) (r195_1 : Int) (w25 : World) =>
          VSet r195_1 fun (v30 : Int) =>
          VMk none w25 5 1 1 #[.int .u8 0] 400 400 fun (b199 : Nat) (w26 : World) =>
          VCall none Try.prog 10 #[.int .i64 1, .slice (some ⟨b199, 0, none⟩) 400 400] w26 (.tuple #[.slice none 0 0, .int .i64 0]) fun (r200_0 : Sl) (r200_1 : Int) (w27 : World) =>
          VSet r200_1 fun (v32 : Int) =>
          VIx none r200_0.base r200_0.len 1 fun (a206 : Addr) =>
          VLd none w27 (Addr.add a206 1) [CT.sl] fun (v207 : Sl) =>
          VCall none Try.prog 13 #[.pointer r81, .int .i64 1, .slice v207.base v207.len v207.cap] w27 (.tuple #[.slice none 0 0, .bool false, .int .i64 0]) fun (r208_0 : Sl) (r208_1 : Bool) (r208_2 : Int) (w28 : World) =>
          VSet r208_2 fun (v35 : Int) =>
          VIx none r195_0.base r195_0.len 1 fun (a215 : Addr) =>
          VLd none w28 (Addr.add a215 1) [CT.sl] fun (v216 : Sl) =>
          VCall none Try.prog 13 #[.pointer r81, .int .i64 1, .slice v216.base v216.len v216.cap] w28 (.tuple #[.slice none 0 0, .bool false, .int .i64 0]) fun (r217_0 : Sl) (r217_1 : Bool) (r217_2 : Int) (w29 : World) =>
          VSet r217_2 fun (v38 : Int) =>
          VCall none Try.prog 18 #[.pointer r81] w29 (.int .i64 0) fun (r222 : Int) (w30 : World) =>
          R (.returned (.bool (((r222 == 16) && r208_1) && (!r217_1)))) w30
        )
      )
    )
  )
theorem sh_butterylaw11_PartsNames_ok (w : World) (R : Ending → World → Prop) (h : sh_butterylaw11_PartsNames w R) : Calls Try.prog 6 #[] w R :=
  calls_of_sh (args := []) (.two .auto (.two (.two .auto (.two (.two .auto .auto) .auto)) (.two .auto (.two .auto (.two .auto (.two .auto (.two .auto (.two .auto (.two .auto (.two (.two .auto (.two (.two .auto .auto) .auto)) (.two .auto (.two .auto (.two .auto (.two .auto (.two .auto (.two .auto (.two (.two .auto (.two (.two .auto .auto) .auto)) (.two (.two .auto (.one (.loop [(26, .int .i64 0)] (.two (.two .auto (.two .auto .auto)) (.two (.one (.two .auto .auto)) .auto))))) (.two .auto (.two .auto (.two .auto (.two .auto (.two .auto .auto))))))))))))))))))))))) Try.func6 (by kernel_rfl) (by kernel_rfl) (by kernel_rfl) h

/-- 7: buttery/butterylaw11.PartsWhole -/
def sh_butterylaw11_PartsWhole (msg_0 : Sl) (other_1 : Sl) (order_2 : Sl) (w : World) (R : Ending → World → Prop) : Prop :=
  VCall none Try.prog 19 #[] w (.bool false) fun (r19 : Bool) (w1 : World) =>
  VIf ((((!r19) || (decide (((msg_0.len : Nat) : Int) > 8192))) || (decide (((other_1.len : Nat) : Int) > 8192))) || (decide (((order_2.len : Nat) : Int) > 300))) (
    VCall none Try.prog 19 #[] w1 (.bool false) fun (r36 : Bool) (w2 : World) =>
    R (.returned (.bool r36)) w2
  ) (
    VCall none Try.prog 10 #[.int .i64 7, .slice msg_0.base msg_0.len msg_0.cap] w1 (.tuple #[.slice none 0 0, .int .i64 0]) fun (r39_0 : Sl) (r39_1 : Int) (w3 : World) =>
    VSet r39_1 fun (e_8 : Int) =>
    VCall none Try.prog 10 #[.int .i64 8, .slice other_1.base other_1.len other_1.cap] w3 (.tuple #[.slice none 0 0, .int .i64 0]) fun (r44_0 : Sl) (r44_1 : Int) (w4 : World) =>
    VSet r44_1 fun (f_10 : Int) =>
    VIf ((e_8 != 0) || (f_10 != 0)) (
      R (.returned (.bool false)) w4
    ) (
      VCall none Try.prog 12 #[] w4 (.pointer none) fun (r53 : Option Addr) (w5 : World) =>
      VMk none w5 4 1 1 #[.bool false] ((r39_0.len : Nat) : Int) ((r39_0.len : Nat) : Int) fun (b56 : Nat) (w6 : World) =>
      VSet ((r39_0.len : Nat) : Int) fun (left_13 : Int) =>
      ∃ I1 : Nat → Int → Int → World → Prop, (∃ k, I1 k left_13 0 w6) ∧ ∀ k1 (left_13' : Int) (i_14 : Int) (w7 : World), I1 k1 left_13' i_14 w7 →
      VIf ((decide (i_14 < (IntKind.wrap .i64 (((order_2.len : Nat) : Int) + ((r39_0.len : Nat) : Int))))) && (decide (left_13' > 0))) (
        ∃ Φ2 : Int → World → Prop, (
          VSet (IntKind.wrap .i64 (i_14 - ((order_2.len : Nat) : Int))) fun (k_15 : Int) =>
          ∃ Φ3 : Int → World → Prop, (
            VIf (decide (k_15 < 0)) (
              VIx none order_2.base order_2.len i_14 fun (a80 : Addr) =>
              VLd none w7 (Addr.add a80 ((Int.toNat i_14) * 1)) [CT.int .i64] fun (v81 : Int) =>
              VCk none (((IntKind.wrap .u64 (IntKind.wrap .i64 (((r39_0.len : Nat) : Int) + ((r44_0.len : Nat) : Int)))) : Int) ≠ 0) (
                VSet (IntKind.wrap .i64 (Int.tmod (IntKind.wrap .u64 v81) (IntKind.wrap .u64 (IntKind.wrap .i64 (((r39_0.len : Nat) : Int) + ((r44_0.len : Nat) : Int)))))) fun (k_15'' : Int) =>
                Φ3 k_15'' w7
              )
            ) (
              Φ3 k_15 w7
            )
          ) ∧ ∀ (k_15' : Int) (w8 : World), Φ3 k_15' w8 →
          VIf (decide (k_15' ≥ ((r39_0.len : Nat) : Int))) (
            VIx none r44_0.base r44_0.len (IntKind.wrap .i64 (k_15' - ((r39_0.len : Nat) : Int))) fun (a101 : Addr) =>
            VLd none w8 (Addr.add a101 ((Int.toNat (IntKind.wrap .i64 (k_15' - ((r39_0.len : Nat) : Int)))) * 1)) [CT.sl] fun (v102 : Sl) =>
            VCall none Try.prog 13 #[.pointer r53, .int .i64 1, .slice v102.base v102.len v102.cap] w8 (.tuple #[.slice none 0 0, .bool false, .int .i64 0]) fun (r103_0 : Sl) (r103_1 : Bool) (r103_2 : Int) (w9 : World) =>
            Φ2 left_13' w9
          ) (
            VIx none r39_0.base r39_0.len k_15' fun (a106 : Addr) =>
            VLd none w8 (Addr.add a106 ((Int.toNat k_15') * 1)) [CT.sl] fun (v107 : Sl) =>
            VIf (decide (((v107.len : Nat) : Int) > 400)) (
              R (.returned (.bool false)) w8
            ) (
              VIx none r39_0.base r39_0.len k_15' fun (a114 : Addr) =>
              VLd none w8 (Addr.add a114 ((Int.toNat k_15') * 1)) [CT.sl] fun (v115 : Sl) =>
              VCall none Try.prog 13 #[.pointer r53, .int .i64 1, .slice v115.base v115.len v115.cap] w8 (.tuple #[.slice none 0 0, .bool false, .int .i64 0]) fun (r116_0 : Sl) (r116_1 : Bool) (r116_2 : Int) (w10 : World) =>
              VSet r116_2 fun (g_18 : Int) =>
              ∃ Φ4 : Int → World → Prop, (
                VIx none (some ⟨b56, 0, none⟩) r39_0.len k_15' fun (a122 : Addr) =>
                VLd none w10 (Addr.add a122 ((Int.toNat k_15') * 1)) [CT.bool] fun (v123 : Bool) =>
                VIf (!v123) (
                  VIx none (some ⟨b56, 0, none⟩) r39_0.len k_15' fun (a127 : Addr) =>
                  VSt none w10 (Addr.add a127 ((Int.toNat k_15') * 1)) [.bool true] fun (w11 : World) =>
                  VSet (IntKind.wrap .i64 (left_13' - 1)) fun (left_13_4 : Int) =>
                  Φ4 left_13_4 w11
                ) (
                  Φ4 left_13' w10
                )
              ) ∧ ∀ (left_13_3 : Int) (w12 : World), Φ4 left_13_3 w12 →
              VStr (some ((!((g_18 != 0) || (!(r116_1 == (left_13_3 == 0))))) && r116_1)) w12 r116_0.base r116_0.len fun (s142 : ByteArray) =>
              VStr (some ((!((g_18 != 0) || (!(r116_1 == (left_13_3 == 0))))) && r116_1)) w12 msg_0.base msg_0.len fun (s144 : ByteArray) =>
              VIf ((((g_18 != 0) || (!(r116_1 == (left_13_3 == 0)))) || (r116_1 && (!(s142.toList == s144.toList)))) || ((!r116_1) && (((r116_0.len : Nat) : Int) != 0))) (
                R (.returned (.bool false)) w12
              ) (
                Φ2 left_13_3 w12
              )
            )
          )
        ) ∧ ∀ (left_13'' : Int) (w13 : World), Φ2 left_13'' w13 →
        VSet (IntKind.wrap .i64 (i_14 + 1)) fun (i_14' : Int) =>
        ∃ k', k' < k1 ∧ I1 k' left_13'' i_14' w13
      ) (
        VCall (some (left_13' == 0)) Try.prog 18 #[.pointer r53] w7 (.int .i64 0) fun (r161 : Int) (w14 : World) =>
        R (.returned (.bool ((left_13' == 0) && (decide (r161 ≤ 1))))) w14
      )
    )
  )
theorem sh_butterylaw11_PartsWhole_ok (msg_0 : Sl) (other_1 : Sl) (order_2 : Sl) (w : World) (R : Ending → World → Prop) (h : sh_butterylaw11_PartsWhole msg_0 other_1 order_2 w R) : Calls Try.prog 7 #[.slice msg_0.base msg_0.len msg_0.cap, .slice other_1.base other_1.len other_1.cap, .slice order_2.base order_2.len order_2.cap] w R :=
  calls_of_sh (args := [.slice msg_0.base msg_0.len msg_0.cap, .slice other_1.base other_1.len other_1.cap, .slice order_2.base order_2.len order_2.cap]) (.two .auto (.two (.two .auto (.two (.two .auto .auto) .auto)) (.two .auto (.two .auto (.two (.two .auto (.two (.two .auto .auto) .auto)) (.two .auto (.two .auto (.two .auto (.two (.two .auto (.one (.loop [(13, .int .i64 0), (14, .int .i64 0)] (.two (.two .auto (.two .auto .auto)) (.two (.bjoin [(13, .int .i64 0)] (.two .auto (.join [(15, .int .i64 0)] (.two .auto (.two .auto .auto)) (.two (.two .auto (.two (.two .auto .auto) .auto)) (.two (.two .auto (.two (.two .auto .auto) .auto)) (.two .auto (.join [(13, .int .i64 0)] (.two .auto (.two (.two .auto .auto) .auto)) (.two .auto (.two (.two .auto .auto) .auto))))))))) .auto))))) (.two .auto .auto)))))))))) Try.func7 (by kernel_rfl) (by kernel_rfl) (by kernel_rfl) h

/-- 8: buttery/butterylaw11.PartsApart -/
def sh_butterylaw11_PartsApart (a_0 : Sl) (b_1 : Sl) (same_2 : Bool) (w : World) (R : Ending → World → Prop) : Prop :=
  VCall none Try.prog 19 #[] w (.bool false) fun (r21 : Bool) (w1 : World) =>
  VIf (((!r21) || (decide (((a_0.len : Nat) : Int) > 8192))) || (decide (((b_1.len : Nat) : Int) > 8192))) (
    VCall none Try.prog 19 #[] w1 (.bool false) fun (r33 : Bool) (w2 : World) =>
    R (.returned (.bool r33)) w2
  ) (
    VCall none Try.prog 10 #[.int .i64 3, .slice a_0.base a_0.len a_0.cap] w1 (.tuple #[.slice none 0 0, .int .i64 0]) fun (r36_0 : Sl) (r36_1 : Int) (w3 : World) =>
    VSet r36_1 fun (e_8 : Int) =>
    ∃ Φ1 : Int → Int → World → Prop, (
      VIf same_2 (
        Φ1 4 1 w3
      ) (
        Φ1 3 2 w3
      )
    ) ∧ ∀ (number_9 : Int) (from_10 : Int) (w4 : World), Φ1 number_9 from_10 w4 →
    VCall none Try.prog 10 #[.int .i64 number_9, .slice b_1.base b_1.len b_1.cap] w4 (.tuple #[.slice none 0 0, .int .i64 0]) fun (r43_0 : Sl) (r43_1 : Int) (w5 : World) =>
    VSet r43_1 fun (f_12 : Int) =>
    VIf ((e_8 != 0) || (f_12 != 0)) (
      R (.returned (.bool false)) w5
    ) (
      VCall none Try.prog 12 #[] w5 (.pointer none) fun (r52 : Option Addr) (w6 : World) =>
      ∃ I2 : Nat → Int → World → Prop, (∃ k, I2 k 0 w6) ∧ ∀ k2 (i_14 : Int) (w7 : World), I2 k2 i_14 w7 →
      VIf ((decide (i_14 < ((r36_0.len : Nat) : Int))) || (decide (i_14 < ((r43_0.len : Nat) : Int)))) (
        ∃ Φ3 : World → Prop, (
          ∃ Φ4 : World → Prop, (
            VIf (decide (i_14 < ((r36_0.len : Nat) : Int))) (
              VIx none r36_0.base r36_0.len i_14 fun (a73 : Addr) =>
              VLd none w7 (Addr.add a73 ((Int.toNat i_14) * 1)) [CT.sl] fun (v74 : Sl) =>
              VCall none Try.prog 13 #[.pointer r52, .int .i64 1, .slice v74.base v74.len v74.cap] w7 (.tuple #[.slice none 0 0, .bool false, .int .i64 0]) fun (r75_0 : Sl) (r75_1 : Bool) (r75_2 : Int) (w8 : World) =>
              VSet r75_2 fun (g_17 : Int) =>
              VStr (some ((!((g_17 != 0) || (!(r75_1 == (i_14 == (IntKind.wrap .i64 (((r36_0.len : Nat) : Int) - 1))))))) && r75_1)) w8 r75_0.base r75_0.len fun (s94 : ByteArray) =>
              VStr (some ((!((g_17 != 0) || (!(r75_1 == (i_14 == (IntKind.wrap .i64 (((r36_0.len : Nat) : Int) - 1))))))) && r75_1)) w8 a_0.base a_0.len fun (s96 : ByteArray) =>
              VIf (((g_17 != 0) || (!(r75_1 == (i_14 == (IntKind.wrap .i64 (((r36_0.len : Nat) : Int) - 1)))))) || (r75_1 && (!(s94.toList == s96.toList)))) (
                R (.returned (.bool false)) w8
              ) (
                Φ4 w8
              )
            ) (
              Φ4 w7
            )
          ) ∧ ∀ (w9 : World), Φ4 w9 →
          VIf (decide (i_14 < ((r43_0.len : Nat) : Int))) (
            VIx none r43_0.base r43_0.len i_14 fun (a109 : Addr) =>
            VLd none w9 (Addr.add a109 ((Int.toNat i_14) * 1)) [CT.sl] fun (v110 : Sl) =>
            VCall none Try.prog 13 #[.pointer r52, .int .i64 from_10, .slice v110.base v110.len v110.cap] w9 (.tuple #[.slice none 0 0, .bool false, .int .i64 0]) fun (r111_0 : Sl) (r111_1 : Bool) (r111_2 : Int) (w10 : World) =>
            VSet r111_2 fun (g_20 : Int) =>
            VStr (some ((!((g_20 != 0) || (!(r111_1 == (i_14 == (IntKind.wrap .i64 (((r43_0.len : Nat) : Int) - 1))))))) && r111_1)) w10 r111_0.base r111_0.len fun (s130 : ByteArray) =>
            VStr (some ((!((g_20 != 0) || (!(r111_1 == (i_14 == (IntKind.wrap .i64 (((r43_0.len : Nat) : Int) - 1))))))) && r111_1)) w10 b_1.base b_1.len fun (s132 : ByteArray) =>
            VIf (((g_20 != 0) || (!(r111_1 == (i_14 == (IntKind.wrap .i64 (((r43_0.len : Nat) : Int) - 1)))))) || (r111_1 && (!(s130.toList == s132.toList)))) (
              R (.returned (.bool false)) w10
            ) (
              Φ3 w10
            )
          ) (
            Φ3 w9
          )
        ) ∧ ∀ (w11 : World), Φ3 w11 →
        VSet (IntKind.wrap .i64 (i_14 + 1)) fun (i_14' : Int) =>
        ∃ k', k' < k2 ∧ I2 k' i_14' w11
      ) (
        VCall none Try.prog 18 #[.pointer r52] w7 (.int .i64 0) fun (r137 : Int) (w12 : World) =>
        R (.returned (.bool (r137 == 0))) w12
      )
    )
  )
theorem sh_butterylaw11_PartsApart_ok (a_0 : Sl) (b_1 : Sl) (same_2 : Bool) (w : World) (R : Ending → World → Prop) (h : sh_butterylaw11_PartsApart a_0 b_1 same_2 w R) : Calls Try.prog 8 #[.slice a_0.base a_0.len a_0.cap, .slice b_1.base b_1.len b_1.cap, .bool same_2] w R :=
  calls_of_sh (args := [.slice a_0.base a_0.len a_0.cap, .slice b_1.base b_1.len b_1.cap, .bool same_2]) (.two .auto (.two (.two .auto (.two (.two .auto .auto) .auto)) (.two .auto (.two .auto (.two .auto (.join [(9, .int .i64 0), (10, .int .i64 0)] (.two .auto (.two (.two .auto .auto) .auto)) (.two .auto (.two (.two .auto (.two (.two .auto .auto) .auto)) (.two .auto (.two (.two .auto (.one (.loop [(14, .int .i64 0)] (.two (.two .auto (.two .auto .auto)) (.two (.bjoin [] (.join [] (.two .auto (.two (.two .auto (.two .auto (.two (.two .auto .auto) .auto))) .auto)) (.two .auto (.two (.two .auto (.two .auto (.two (.two .auto .auto) .auto))) .auto)))) .auto))))) (.two .auto .auto))))))))))) Try.func8 (by kernel_rfl) (by kernel_rfl) (by kernel_rfl) h

/-- 9: buttery/butterylaw11.PartsNothing -/
def sh_butterylaw11_PartsNothing (msg_0 : Sl) (junk_1 : Sl) (from_2 : Int) (w : World) (R : Ending → World → Prop) : Prop :=
  VCall none Try.prog 19 #[] w (.bool false) fun (r18 : Bool) (w1 : World) =>
  VIf (((!r18) || (decide (((msg_0.len : Nat) : Int) > 8192))) || (decide (((junk_1.len : Nat) : Int) > 1000))) (
    VCall none Try.prog 19 #[] w1 (.bool false) fun (r30 : Bool) (w2 : World) =>
    R (.returned (.bool r30)) w2
  ) (
    VCall none Try.prog 10 #[.int .i64 7, .slice msg_0.base msg_0.len msg_0.cap] w1 (.tuple #[.slice none 0 0, .int .i64 0]) fun (r33_0 : Sl) (r33_1 : Int) (w3 : World) =>
    VSet r33_1 fun (e_8 : Int) =>
    VIf (e_8 != 0) (
      R (.returned (.bool false)) w3
    ) (
      VCall none Try.prog 12 #[] w3 (.pointer none) fun (r38 : Option Addr) (w4 : World) =>
      ∃ I1 : Nat → Int → World → Prop, (∃ k, I1 k 0 w4) ∧ ∀ k1 (i_10 : Int) (w5 : World), I1 k1 i_10 w5 →
      VIf (decide (i_10 < ((r33_0.len : Nat) : Int))) (
        VCall none Try.prog 18 #[.pointer r38] w5 (.int .i64 0) fun (r46 : Int) (w6 : World) =>
        VSet r46 fun (n_11 : Int) =>
        VCall none Try.prog 13 #[.pointer r38, .int .i64 from_2, .slice junk_1.base junk_1.len junk_1.cap] w6 (.tuple #[.slice none 0 0, .bool false, .int .i64 0]) fun (r51_0 : Sl) (r51_1 : Bool) (r51_2 : Int) (w7 : World) =>
        VSet r51_2 fun (f_14 : Int) =>
        VCall (some (f_14 != 0)) Try.prog 18 #[.pointer r38] w7 (.int .i64 0) fun (r59 : Int) (w8 : World) =>
        VIf ((f_14 != 0) && (((r59 != n_11) || r51_1) || (((r51_0.len : Nat) : Int) != 0))) (
          R (.returned (.bool false)) w8
        ) (
          VIf (f_14 == 0) (
            R (.returned (.bool true)) w8
          ) (
            VIx none r33_0.base r33_0.len i_10 fun (a77 : Addr) =>
            VLd none w8 (Addr.add a77 ((Int.toNat i_10) * 1)) [CT.sl] fun (v78 : Sl) =>
            VCall none Try.prog 13 #[.pointer r38, .int .i64 1, .slice v78.base v78.len v78.cap] w8 (.tuple #[.slice none 0 0, .bool false, .int .i64 0]) fun (r79_0 : Sl) (r79_1 : Bool) (r79_2 : Int) (w9 : World) =>
            VSet r79_2 fun (g_17 : Int) =>
            VStr (some ((!((g_17 != 0) || (!(r79_1 == (i_10 == (IntKind.wrap .i64 (((r33_0.len : Nat) : Int) - 1))))))) && r79_1)) w9 r79_0.base r79_0.len fun (s98 : ByteArray) =>
            VStr (some ((!((g_17 != 0) || (!(r79_1 == (i_10 == (IntKind.wrap .i64 (((r33_0.len : Nat) : Int) - 1))))))) && r79_1)) w9 msg_0.base msg_0.len fun (s100 : ByteArray) =>
            VIf (((g_17 != 0) || (!(r79_1 == (i_10 == (IntKind.wrap .i64 (((r33_0.len : Nat) : Int) - 1)))))) || (r79_1 && (!(s98.toList == s100.toList)))) (
              R (.returned (.bool false)) w9
            ) (
              VSet (IntKind.wrap .i64 (i_10 + 1)) fun (i_10' : Int) =>
              ∃ k', k' < k1 ∧ I1 k' i_10' w9
            )
          )
        )
      ) (
        R (.returned (.bool true)) w5
      )
    )
  )
theorem sh_butterylaw11_PartsNothing_ok (msg_0 : Sl) (junk_1 : Sl) (from_2 : Int) (w : World) (R : Ending → World → Prop) (h : sh_butterylaw11_PartsNothing msg_0 junk_1 from_2 w R) : Calls Try.prog 9 #[.slice msg_0.base msg_0.len msg_0.cap, .slice junk_1.base junk_1.len junk_1.cap, .int .i64 from_2] w R :=
  calls_of_sh (args := [.slice msg_0.base msg_0.len msg_0.cap, .slice junk_1.base junk_1.len junk_1.cap, .int .i64 from_2]) (.two .auto (.two (.two .auto (.two (.two .auto .auto) .auto)) (.two .auto (.two (.two .auto (.two (.two .auto .auto) .auto)) (.two .auto (.two (.two .auto (.one (.loop [(10, .int .i64 0)] (.two (.two .auto (.two .auto .auto)) (.two (.one (.two .auto (.two .auto (.two (.two .auto (.two (.two .auto .auto) .auto)) (.two (.two .auto (.two (.two .auto .auto) .auto)) (.two .auto (.two .auto (.two (.two .auto .auto) .auto)))))))) .auto))))) (.two .auto .auto))))))) Try.func9 (by kernel_rfl) (by kernel_rfl) (by kernel_rfl) h

/-- 10: buttery/parts.Cut -/
def sh_parts_Cut (number_0 : Int) (msg_1 : Sl) (w : World) (R : Ending → World → Prop) : Prop :=
  VIf ((decide (number_0 < 0)) || (decide (number_0 > 2147483647))) (
    R (.returned (.tuple #[.slice none 0 0, .int .i64 1])) w
  ) (
    VIf (decide (((msg_1.len : Nat) : Int) > 8192)) (
      R (.returned (.tuple #[.slice none 0 0, .int .i64 40])) w
    ) (
      VCall none Try.prog 20 #[.int .i64 ((msg_1.len : Nat) : Int)] w (.int .i64 0) fun (r25 : Int) (w1 : World) =>
      VSet r25 fun (n_7 : Int) =>
      ∃ I1 : Nat → Sl → Int → World → Prop, (∃ k, I1 k ⟨none, 0, 0⟩ 0 w1) ∧ ∀ k1 (out_6 : Sl) (x27 : Int) (w2 : World), I1 k1 out_6 x27 w2 →
      VIf (decide (x27 < n_7)) (
        VSet x27 fun (i_8 : Int) =>
        VCall none Try.prog 21 #[.slice none 0 0, .int .i64 number_0] w2 (.slice none 0 0) fun (r31 : Sl) (w3 : World) =>
        VCall none Try.prog 21 #[.slice r31.base r31.len r31.cap, .int .i64 i_8] w3 (.slice none 0 0) fun (r33 : Sl) (w4 : World) =>
        VCall none Try.prog 21 #[.slice r33.base r33.len r33.cap, .int .i64 n_7] w4 (.slice none 0 0) fun (r35 : Sl) (w5 : World) =>
        VCk none ((0 : Int) ≤ IntKind.wrap .i64 (i_8 * 380) ∧ (IntKind.wrap .i64 (i_8 * 380) : Int) ≤ (if (IntKind.wrap .i64 ((IntKind.wrap .i64 (i_8 + 1)) * 380)) < ((msg_1.len : Nat) : Int) then IntKind.wrap .i64 ((IntKind.wrap .i64 (i_8 + 1)) * 380) else ((msg_1.len : Nat) : Int)) ∧ ((if (IntKind.wrap .i64 ((IntKind.wrap .i64 (i_8 + 1)) * 380)) < ((msg_1.len : Nat) : Int) then IntKind.wrap .i64 ((IntKind.wrap .i64 (i_8 + 1)) * 380) else ((msg_1.len : Nat) : Int)) : Int) ≤ ((msg_1.cap : Nat) : Int)) (
          VStr none w5 (cutB msg_1.base msg_1.cap 1 (Int.toNat (IntKind.wrap .i64 (i_8 * 380)))) ((Int.toNat (if (IntKind.wrap .i64 ((IntKind.wrap .i64 (i_8 + 1)) * 380)) < ((msg_1.len : Nat) : Int) then IntKind.wrap .i64 ((IntKind.wrap .i64 (i_8 + 1)) * 380) else ((msg_1.len : Nat) : Int))) - (Int.toNat (IntKind.wrap .i64 (i_8 * 380)))) fun (s48 : ByteArray) =>
          VCall none Try.prog 23 #[.slice r35.base r35.len r35.cap, .string s48] w5 (.slice none 0 0) fun (r49 : Sl) (w6 : World) =>
          VCall none Try.prog 22 #[.int .u8 1, .slice r49.base r49.len r49.cap] w6 (.tuple #[.slice none 0 0, .int .i64 0]) fun (r50_0 : Sl) (r50_1 : Int) (w7 : World) =>
          VSet r50_1 fun (e_11 : Int) =>
          VIf (e_11 != 0) (
            VSet e_11 fun (v5 : Int) =>
            R (.returned (.tuple #[.slice none 0 0, .int .i64 v5])) w7
          ) (
            VNw none w7 (.cells #[.slice r50_0.base r50_0.len r50_0.cap] 22) fun (b58 : Nat) (w8 : World) =>
            VApp none w8 22 1 24 #[.slice none 0 0] out_6.base out_6.len out_6.cap 1 (fun news => Seg w8 (some ⟨b58, 0, none⟩) 1 1 news) fun (l59 : Sl) (w9 : World) =>
            ∃ k', k' < k1 ∧ I1 k' l59 (IntKind.wrap .i64 (x27 + 1)) w9
          )
        )
      ) (
        R (.returned (.tuple #[.slice out_6.base out_6.len out_6.cap, .int .i64 0])) w2
      )
    )
  )
theorem sh_parts_Cut_ok (number_0 : Int) (msg_1 : Sl) (w : World) (R : Ending → World → Prop) (h : sh_parts_Cut number_0 msg_1 w R) : Calls Try.prog 10 #[.int .i64 number_0, .slice msg_1.base msg_1.len msg_1.cap] w R :=
  calls_of_sh (args := [.int .i64 number_0, .slice msg_1.base msg_1.len msg_1.cap]) (.two .auto (.two (.one (.two .auto (.two (.two .auto .auto) (.two .auto (.two (.two .auto .auto) .auto))))) (.two .auto (.two .auto (.two (.two .auto (.one (.loop [(6, .slice none 0 0), (27, .int .i64 0)] (.two .auto (.two (.two .auto .auto) (.two (.one (.two .auto (.two .auto (.two .auto (.two (.two .auto (.two (.two .auto .auto) .auto)) .auto))))) .auto)))))) (.two .auto .auto)))))) Try.func10 (by kernel_rfl) (by kernel_rfl) (by kernel_rfl) h

/-- 11: buttery/butteryref11.Cut -/
def sh_butteryref11_Cut (number_0 : Int) (msg_1 : ByteArray) (w : World) (R : Ending → World → Prop) : Prop :=
  VIf ((decide (number_0 < 0)) || (decide (number_0 > 2147483647))) (
    R (.returned (.tuple #[.slice none 0 0, .int .i64 1])) w
  ) (
    VIf (decide (((msg_1.size : Nat) : Int) > 8192)) (
      R (.returned (.tuple #[.slice none 0 0, .int .i64 40])) w
    ) (
      ∃ I1 : Nat → ByteArray → Sl → World → Prop, (∃ k, I1 k msg_1 ⟨none, 0, 0⟩ w) ∧ ∀ k1 (msg_1 : ByteArray) (pieces_6 : Sl) (w1 : World), I1 k1 msg_1 pieces_6 w1 →
      VIf (decide (((msg_1.size : Nat) : Int) > 380)) (
        VCk none ((0 : Int) ≤ 0 ∧ (0 : Int) ≤ 380 ∧ (380 : Int) ≤ ((msg_1.size : Nat) : Int)) (
          VNw none w1 (.cells #[.string (ByteArray.extract msg_1 0 380)] 9) fun (b24 : Nat) (w2 : World) =>
          VApp none w2 9 1 16 #[.string ByteArray.empty] pieces_6.base pieces_6.len pieces_6.cap 1 (fun news => Seg w2 (some ⟨b24, 0, none⟩) 1 1 news) fun (l25 : Sl) (w3 : World) =>
          VCk none ((0 : Int) ≤ 380 ∧ (380 : Int) ≤ ((msg_1.size : Nat) : Int) ∧ (((msg_1.size : Nat) : Int) : Int) ≤ ((msg_1.size : Nat) : Int)) (
            ∃ k', k' < k1 ∧ I1 k' (ByteArray.extract msg_1 380 msg_1.size) l25 w3
          )
        )
      ) (
        ∃ Φ2 : Sl → World → Prop, (
          VIf ((decide (((msg_1.size : Nat) : Int) > 0)) || (((pieces_6.len : Nat) : Int) == 0)) (
            VNw none w1 (.cells #[.string msg_1] 9) fun (b38 : Nat) (w4 : World) =>
            VApp none w4 9 1 16 #[.string ByteArray.empty] pieces_6.base pieces_6.len pieces_6.cap 1 (fun news => Seg w4 (some ⟨b38, 0, none⟩) 1 1 news) fun (l39 : Sl) (w5 : World) =>
            Φ2 l39 w5
          ) (
            Φ2 pieces_6 w1
          )
        ) ∧ ∀ (pieces_6' : Sl) (w6 : World), Φ2 pieces_6' w6 →
        ∃ I3 : Nat → Sl → Int → World → Prop, (∃ k, I3 k ⟨none, 0, 0⟩ 0 w6) ∧ ∀ k3 (out_7 : Sl) (i_8 : Int) (w7 : World), I3 k3 out_7 i_8 w7 →
        VIf (decide (i_8 < ((pieces_6'.len : Nat) : Int))) (
          VIx none pieces_6'.base pieces_6'.len i_8 fun (a53 : Addr) =>
          VLd none w7 (Addr.add a53 ((Int.toNat i_8) * 1)) [CT.str] fun (v54 : ByteArray) =>
          VCall none Try.prog 14 #[.int .i64 number_0, .int .i64 i_8, .int .i64 ((pieces_6'.len : Nat) : Int), .string v54] w7 (.slice none 0 0) fun (r55 : Sl) (w8 : World) =>
          VNw none w8 (.cells #[.slice r55.base r55.len r55.cap] 22) fun (b56 : Nat) (w9 : World) =>
          VApp none w9 22 1 24 #[.slice none 0 0] out_7.base out_7.len out_7.cap 1 (fun news => Seg w9 (some ⟨b56, 0, none⟩) 1 1 news) fun (l57 : Sl) (w10 : World) =>
          VSet (IntKind.wrap .i64 (i_8 + 1)) fun (i_8' : Int) =>
          ∃ k', k' < k3 ∧ I3 k' l57 i_8' w10
        ) (
          R (.returned (.tuple #[.slice out_7.base out_7.len out_7.cap, .int .i64 0])) w7
        )
      )
    )
  )
theorem sh_butteryref11_Cut_ok (number_0 : Int) (msg_1 : ByteArray) (w : World) (R : Ending → World → Prop) (h : sh_butteryref11_Cut number_0 msg_1 w R) : Calls Try.prog 11 #[.int .i64 number_0, .string msg_1] w R :=
  calls_of_sh (args := [.int .i64 number_0, .string msg_1]) (.two .auto (.two (.two .auto (.two (.two .auto .auto) .auto)) (.two (.two .auto (.two (.two .auto .auto) .auto)) (.two .auto (.two (.one (.loop [(1, .string ByteArray.empty), (6, .slice none 0 0)] (.two (.two .auto (.two .auto .auto)) (.one (.two .auto .auto))))) (.join [(6, .slice none 0 0)] (.two .auto (.two .auto .auto)) (.two .auto (.two (.two .auto (.one (.loop [(7, .slice none 0 0), (8, .int .i64 0)] (.two (.two .auto (.two .auto .auto)) (.two (.one .auto) .auto))))) (.two .auto .auto))))))))) Try.func11 (by kernel_rfl) (by kernel_rfl) (by kernel_rfl) h

/-- 12: buttery/parts.New -/
def sh_parts_New (w : World) (R : Ending → World → Prop) : Prop :=
  VNw none w (.map #[] 0) fun (b1 : Nat) (w1 : World) =>
  VNw none w1 (.cells #[.map (some b1), .slice none 0 0] 64) fun (b3 : Nat) (w2 : World) =>
  R (.returned (.pointer (some ⟨b3, 0, none⟩))) w2
theorem sh_parts_New_ok (w : World) (R : Ending → World → Prop) (h : sh_parts_New w R) : Calls Try.prog 12 #[] w R :=
  calls_of_sh (args := []) (.two .auto (.two .auto .auto)) Try.func12 (by kernel_rfl) (by kernel_rfl) (by kernel_rfl) h

/-- 13: (*buttery/parts.Joiner).Take -/
def sh_parts_Joiner_Take (j_0 : Option Addr) (from_1 : Int) (packet_2 : Sl) (w : World) (R : Ending → World → Prop) : Prop :=
  VIf j_0.isNone (
    R (.returned (.tuple #[.slice none 0 0, .bool false, .int .i64 2])) w
  ) (
    VCall none Try.prog 24 #[.slice packet_2.base packet_2.len packet_2.cap] w (.tuple #[.agg #[.int .i64 0, .int .i64 0, .int .i64 0, .string ByteArray.empty], .int .i64 0]) fun (r20_0 : Int) (r20_1 : Int) (r20_2 : Int) (r20_3 : ByteArray) (r20_4 : Int) (w1 : World) =>
    VNw none w1 (.cells #[.int .i64 0, .int .i64 0, .int .i64 0, .string ByteArray.empty] 66) fun (p_9 : Nat) (w2 : World) =>
    VSt none w2 ⟨p_9, 0, none⟩ [.int .i64 r20_0, .int .i64 r20_1, .int .i64 r20_2, .string r20_3] fun (w3 : World) =>
    VSet r20_4 fun (e_10 : Int) =>
    VIf (e_10 != 0) (
      VSet e_10 fun (v8 : Int) =>
      R (.returned (.tuple #[.slice none 0 0, .bool false, .int .i64 v8])) w3
    ) (
      VLd none w3 ⟨p_9, 0, none⟩ [CT.int .i64] fun (v28 : Int) =>
      VNw none w3 (.cells #[.int .i64 0, .int .i64 0] 69) fun (who_11 : Nat) (w4 : World) =>
      VSt none w4 ⟨who_11, 0, none⟩ [.int .i64 from_1, .int .i64 v28] fun (w5 : World) =>
      ∀ (w6 : World), w6 = World.drew w5 →
      VNN none j_0 fun (a31 : Addr) =>
      VLd none w6 a31 [CT.mp] fun (v33 : Option Nat) =>
      VLd none w6 ⟨who_11, 0, none⟩ [CT.int .i64, CT.int .i64] fun (v34_0 : Int) (v34_1 : Int) =>
      VRun none Try.prog (Instr.lookup 61 (.map v33) (.agg #[.int .i64 v34_0, .int .i64 v34_1]) false) w6 (.pointer none) fun (e35 : Option Addr) (w7 : World) =>
      ∃ Φ1 : Option Addr → World → Prop, (
        ∀ (w8 : World), w8 = World.drew w7 →
        VNN (some (!e35.isNone)) e35 fun (a40 : Addr) =>
        VLd (some (!e35.isNone)) w8 a40 [CT.sl] fun (v42 : Sl) =>
        VLd (some (!e35.isNone)) w8 ⟨p_9, 2, none⟩ [CT.int .i64] fun (v45 : Int) =>
        VIf ((!e35.isNone) && (((v42.len : Nat) : Int) != v45)) (
          VLd none w8 ⟨who_11, 0, none⟩ [CT.int .i64, CT.int .i64] fun (v49_0 : Int) (v49_1 : Int) =>
          VCall none Try.prog 25 #[.pointer j_0, .agg #[.int .i64 v49_0, .int .i64 v49_1]] w8 (.tuple #[]) fun (w9 : World) =>
          Φ1 none w9
        ) (
          Φ1 e35 w8
        )
      ) ∧ ∀ (w_12 : Option Addr) (w10 : World), Φ1 w_12 w10 →
      VLd none w10 ⟨p_9, 2, none⟩ [CT.int .i64] fun (v52 : Int) =>
      VIf (v52 == 1) (
        VLd none w10 ⟨p_9, 3, none⟩ [CT.str] fun (v55 : ByteArray) =>
        VBytes none w10 5 v55 fun (b56 cb56 : Nat) (w11 : World) =>
        R (.returned (.tuple #[.slice (some ⟨b56, 0, none⟩) v55.size cb56, .bool true, .int .i64 0])) w11
      ) (
        ∃ Φ2 : Option Addr → World → Prop, (
          VIf w_12.isNone (
            VLd none w10 ⟨who_11, 0, none⟩ [CT.int .i64, CT.int .i64] fun (v60_0 : Int) (v60_1 : Int) =>
            VLd none w10 ⟨p_9, 2, none⟩ [CT.int .i64] fun (v62 : Int) =>
            VCall none Try.prog 26 #[.pointer j_0, .agg #[.int .i64 v60_0, .int .i64 v60_1], .int .i64 v62] w10 (.pointer none) fun (r63 : Option Addr) (w12 : World) =>
            Φ2 r63 w12
          ) (
            Φ2 w_12 w10
          )
        ) ∧ ∀ (w_12' : Option Addr) (w13 : World), Φ2 w_12' w13 →
        ∃ Φ3 : World → Prop, (
          ∀ (w14 : World), w14 = World.drew w13 →
          VNN none w_12' fun (a65 : Addr) =>
          VLd none w14 (Addr.add a65 1) [CT.sl] fun (v67 : Sl) =>
          VLd none w14 ⟨p_9, 1, none⟩ [CT.int .i64] fun (v69 : Int) =>
          VIx none v67.base v67.len v69 fun (a70 : Addr) =>
          VLd none w14 (Addr.add a70 ((Int.toNat v69) * 1)) [CT.bool] fun (v71 : Bool) =>
          VIf (!v71) (
            ∀ (w15 : World), w15 = World.drew w14 →
            VNN none w_12' fun (a74 : Addr) =>
            VLd none w15 a74 [CT.sl] fun (v76 : Sl) =>
            VLd none w15 ⟨p_9, 1, none⟩ [CT.int .i64] fun (v78 : Int) =>
            VNN none w_12' fun (a80 : Addr) =>
            VLd none w15 (Addr.add a80 1) [CT.sl] fun (v82 : Sl) =>
            VLd none w15 ⟨p_9, 1, none⟩ [CT.int .i64] fun (v84 : Int) =>
            VLd none w15 ⟨p_9, 3, none⟩ [CT.str] fun (v86 : ByteArray) =>
            VIx none v76.base v76.len v78 fun (a87 : Addr) =>
            VSt none w15 (Addr.add a87 ((Int.toNat v78) * 1)) [.string v86] fun (w16 : World) =>
            Rd w16 ⟨p_9, 1, none⟩ [.int .i64 v84] ∧
            VIx none v82.base v82.len v84 fun (a88 : Addr) =>
            VSt none w16 (Addr.add a88 ((Int.toNat v84) * 1)) [.bool true] fun (w17 : World) =>
            VNN none w_12' fun (a90 : Addr) =>
            VLd none w17 (Addr.add a90 2) [CT.int .i64] fun (v92 : Int) =>
            VNN none w_12' fun (a94 : Addr) =>
            VSt none w17 (Addr.add a94 2) [.int .i64 (IntKind.wrap .i64 (v92 - 1))] fun (w18 : World) =>
            Φ3 w18
          ) (
            Φ3 w14
          )
        ) ∧ ∀ (w19 : World), Φ3 w19 →
        VNN none w_12' fun (a97 : Addr) =>
        VLd none w19 (Addr.add a97 2) [CT.int .i64] fun (v99 : Int) =>
        VIf (decide (v99 > 0)) (
          R (.returned (.tuple #[.slice none 0 0, .bool false, .int .i64 0])) w19
        ) (
          VLd none w19 ⟨who_11, 0, none⟩ [CT.int .i64, CT.int .i64] fun (v102_0 : Int) (v102_1 : Int) =>
          VCall none Try.prog 25 #[.pointer j_0, .agg #[.int .i64 v102_0, .int .i64 v102_1]] w19 (.tuple #[]) fun (w20 : World) =>
          ∀ (w21 : World), w21 = World.drew w20 →
          VLd none w21 ⟨p_9, 2, none⟩ [CT.int .i64] fun (v105 : Int) =>
          VNN none w_12' fun (a109 : Addr) =>
          VLd none w21 a109 [CT.sl] fun (v111 : Sl) =>
          VLd none w21 ⟨p_9, 2, none⟩ [CT.int .i64] fun (v113 : Int) =>
          VIx none v111.base v111.len (IntKind.wrap .i64 (v113 - 1)) fun (a115 : Addr) =>
          VLd none w21 (Addr.add a115 ((Int.toNat (IntKind.wrap .i64 (v113 - 1))) * 1)) [CT.str] fun (v116 : ByteArray) =>
          VMk none w21 5 1 1 #[.int .u8 0] (IntKind.wrap .i64 ((IntKind.wrap .i64 ((IntKind.wrap .i64 (v105 - 1)) * 380)) + ((v116.size : Nat) : Int))) (IntKind.wrap .i64 ((IntKind.wrap .i64 ((IntKind.wrap .i64 (v105 - 1)) * 380)) + ((v116.size : Nat) : Int))) fun (b119 : Nat) (w22 : World) =>
          VNN none w_12' fun (a121 : Addr) =>
          VLd none w22 a121 [CT.sl] fun (v123 : Sl) =>
          ∃ I4 : Nat → Int → World → Prop, (∃ k, I4 k 0 w22) ∧ ∀ k4 (x125 : Int) (w23 : World), I4 k4 x125 w23 →
          VIf (decide (x125 < ((v123.len : Nat) : Int))) (
            VIx none v123.base v123.len x125 fun (a128 : Addr) =>
            VLd none w23 (Addr.add a128 ((Int.toNat x125) * 1)) [CT.str] fun (v129 : ByteArray) =>
            VSet x125 fun (i_14 : Int) =>
            VCk none ((0 : Int) ≤ IntKind.wrap .i64 (i_14 * 380) ∧ (IntKind.wrap .i64 (i_14 * 380) : Int) ≤ (((Int.toNat (IntKind.wrap .i64 ((IntKind.wrap .i64 ((IntKind.wrap .i64 (v105 - 1)) * 380)) + ((v116.size : Nat) : Int)))) : Nat) : Int) ∧ ((((Int.toNat (IntKind.wrap .i64 ((IntKind.wrap .i64 ((IntKind.wrap .i64 (v105 - 1)) * 380)) + ((v116.size : Nat) : Int)))) : Nat) : Int) : Int) ≤ (((Int.toNat (IntKind.wrap .i64 ((IntKind.wrap .i64 ((IntKind.wrap .i64 (v105 - 1)) * 380)) + ((v116.size : Nat) : Int)))) : Nat) : Int)) (
              VCopy none w23 1 (cutB (some ⟨b119, 0, none⟩) (Int.toNat (IntKind.wrap .i64 ((IntKind.wrap .i64 ((IntKind.wrap .i64 (v105 - 1)) * 380)) + ((v116.size : Nat) : Int)))) 1 (Int.toNat (IntKind.wrap .i64 (i_14 * 380)))) ((Int.toNat (IntKind.wrap .i64 ((IntKind.wrap .i64 ((IntKind.wrap .i64 (v105 - 1)) * 380)) + ((v116.size : Nat) : Int)))) - (Int.toNat (IntKind.wrap .i64 (i_14 * 380)))) v129.size (fun news => news = (strCells v129).take (Nat.min v129.size ((Int.toNat (IntKind.wrap .i64 ((IntKind.wrap .i64 ((IntKind.wrap .i64 (v105 - 1)) * 380)) + ((v116.size : Nat) : Int)))) - (Int.toNat (IntKind.wrap .i64 (i_14 * 380)))))) fun (w24 : World) =>
              ∃ k', k' < k4 ∧ I4 k' (IntKind.wrap .i64 (x125 + 1)) w24
            )
          ) (
            R (.returned (.tuple #[.slice (some ⟨b119, 0, none⟩) (Int.toNat (IntKind.wrap .i64 ((IntKind.wrap .i64 ((IntKind.wrap .i64 (v105 - 1)) * 380)) + ((v116.size : Nat) : Int)))) (Int.toNat (IntKind.wrap .i64 ((IntKind.wrap .i64 ((IntKind.wrap .i64 (v105 - 1)) * 380)) + ((v116.size : Nat) : Int)))), .bool true, .int .i64 0])) w23
          )
        )
      )
    )
  )
theorem sh_parts_Joiner_Take_ok (j_0 : Option Addr) (from_1 : Int) (packet_2 : Sl) (w : World) (R : Ending → World → Prop) (h : sh_parts_Joiner_Take j_0 from_1 packet_2 w R) : Calls Try.prog 13 #[.pointer j_0, .int .i64 from_1, .slice packet_2.base packet_2.len packet_2.cap] w R :=
  calls_of_sh (args := [.pointer j_0, .int .i64 from_1, .slice packet_2.base packet_2.len packet_2.cap]) (.two .auto (.two (.two .auto (.two (.two .auto .auto) .auto)) (.two .auto (.two (.two .auto (.two (.two .auto .auto) .auto)) (.two .auto (.two .auto (.join [(12, .pointer none)] (.two .auto (.two (.two .auto .auto) .auto)) (.two (.two .auto (.two (.two .auto .auto) .auto)) (.join [(12, .pointer none)] (.two .auto (.two .auto .auto)) (.join [] (.two .auto (.two (.two .auto .auto) .auto)) (.two (.two .auto (.two (.two .auto .auto) .auto)) (.two .auto (.two .auto (.two (.two .auto (.one (.loop [(125, .int .i64 0)] (.two .auto (.two (.two .auto .auto) (.two (.one (.two .auto .auto)) .auto)))))) (.two .auto .auto))))))))))))))) Try.func13 (by kernel_rfl) (by kernel_rfl) (by kernel_rfl) h

/-- 14: buttery/butteryref11.Packet -/
def sh_butteryref11_Packet (number_0 : Int) (place_1 : Int) (count_2 : Int) (data_3 : ByteArray) (w : World) (R : Ending → World → Prop) : Prop :=
  VCall none Try.prog 28 #[.slice none 0 0, .int .i64 number_0] w (.slice none 0 0) fun (r13 : Sl) (w1 : World) =>
  VCall none Try.prog 28 #[.slice r13.base r13.len r13.cap, .int .i64 place_1] w1 (.slice none 0 0) fun (r15 : Sl) (w2 : World) =>
  VCall none Try.prog 28 #[.slice r15.base r15.len r15.cap, .int .i64 count_2] w2 (.slice none 0 0) fun (r17 : Sl) (w3 : World) =>
  VCall none Try.prog 27 #[.slice r17.base r17.len r17.cap, .string data_3] w3 (.slice none 0 0) fun (r19 : Sl) (w4 : World) =>
  VCall none Try.prog 15 #[.int .u8 1, .slice r19.base r19.len r19.cap] w4 (.tuple #[.slice none 0 0, .int .i64 0]) fun (r22_0 : Sl) (r22_1 : Int) (w5 : World) =>
  VSet r22_1 fun (v11 : Int) =>
  R (.returned (.slice r22_0.base r22_0.len r22_0.cap)) w5
theorem sh_butteryref11_Packet_ok (number_0 : Int) (place_1 : Int) (count_2 : Int) (data_3 : ByteArray) (w : World) (R : Ending → World → Prop) (h : sh_butteryref11_Packet number_0 place_1 count_2 data_3 w R) : Calls Try.prog 14 #[.int .i64 number_0, .int .i64 place_1, .int .i64 count_2, .string data_3] w R :=
  calls_of_sh (args := [.int .i64 number_0, .int .i64 place_1, .int .i64 count_2, .string data_3]) (.two .auto (.two .auto (.two .auto (.two .auto .auto)))) Try.func14 (by kernel_rfl) (by kernel_rfl) (by kernel_rfl) h

/-- 15: buttery/butteryref02.Seal -/
def sh_butteryref02_Seal (kind_0 : Int) (body_1 : Sl) (w : World) (R : Ending → World → Prop) : Prop :=
  VIf (decide (((body_1.len : Nat) : Int) > 8192)) (
    R (.returned (.tuple #[.slice none 0 0, .int .i64 40])) w
  ) (
    VNw none w (.cells #[.int .u8 kind_0, .int .u8 (IntKind.wrap .u8 (Int.tmod ((body_1.len : Nat) : Int) 256)), .int .u8 (IntKind.wrap .u8 (IntKind.wrap .i64 (Int.tdiv ((body_1.len : Nat) : Int) 256)))] 5) fun (b20 : Nat) (w1 : World) =>
    VApp none w1 5 1 1 #[.int .u8 0] (some ⟨b20, 0, none⟩) 3 3 body_1.len (fun news => Seg w1 body_1.base body_1.len 1 news) fun (l23 : Sl) (w2 : World) =>
    VCall none Try.prog 29 #[.slice l23.base l23.len l23.cap] w2 (.int .u32 0) fun (r25 : Int) (w3 : World) =>
    VSet r25 fun (s_7 : Int) =>
    VNw none w3 (.cells #[.int .u8 (IntKind.wrap .u8 s_7), .int .u8 (IntKind.wrap .u8 (Int.fdiv s_7 (2 ^ 8))), .int .u8 (IntKind.wrap .u8 (Int.fdiv s_7 (2 ^ 16))), .int .u8 (IntKind.wrap .u8 (Int.fdiv s_7 (2 ^ 24)))] 5) fun (b38 : Nat) (w4 : World) =>
    VApp none w4 5 1 1 #[.int .u8 0] l23.base l23.len l23.cap 4 (fun news => Seg w4 (some ⟨b38, 0, none⟩) 4 1 news) fun (l39 : Sl) (w5 : World) =>
    R (.returned (.tuple #[.slice l39.base l39.len l39.cap, .int .i64 0])) w5
  )
theorem sh_butteryref02_Seal_ok (kind_0 : Int) (body_1 : Sl) (w : World) (R : Ending → World → Prop) (h : sh_butteryref02_Seal kind_0 body_1 w R) : Calls Try.prog 15 #[.int .u8 kind_0, .slice body_1.base body_1.len body_1.cap] w R :=
  calls_of_sh (args := [.int .u8 kind_0, .slice body_1.base body_1.len body_1.cap]) (.two .auto (.two (.two .auto (.two (.two .auto .auto) .auto)) (.two .auto (.two .auto (.two .auto (.two .auto .auto)))))) Try.func15 (by kernel_rfl) (by kernel_rfl) (by kernel_rfl) h

/-- 16: buttery/butterylaw11.packet -/
def sh_butterylaw11_packet (c_0_0 : Int) (c_0_1 : Int) (c_0_2 : Int) (c_0_3 : Int) (c_0_4 : Int) (c_0_5 : Int) (c_0_6 : Sl) (w : World) (R : Ending → World → Prop) : Prop :=
  VNw none w (.cells #[.int .i64 c_0_0, .int .i64 c_0_1, .int .i64 c_0_2, .int .i64 c_0_3, .int .i64 c_0_4, .int .u8 c_0_5, .slice c_0_6.base c_0_6.len c_0_6.cap] 46) fun (c_1 : Nat) (w1 : World) =>
  VLd none w1 ⟨c_1, 6, none⟩ [CT.sl] fun (v6 : Sl) =>
  VIf (decide (((v6.len : Nat) : Int) > 0)) (
    VLd none w1 ⟨c_1, 6, none⟩ [CT.sl] fun (v10 : Sl) =>
    R (.returned (.slice v10.base v10.len v10.cap)) w1
  ) (
    VLd none w1 ⟨c_1, 4, none⟩ [CT.int .i64] fun (v12 : Int) =>
    VMk none w1 5 1 1 #[.int .u8 0] (IntKind.wrap .i64 (Int.tmod (IntKind.wrap .u64 v12) 400)) (IntKind.wrap .i64 (Int.tmod (IntKind.wrap .u64 v12) 400)) fun (b16 : Nat) (w2 : World) =>
    ∃ I1 : Nat → Int → World → Prop, (∃ k, I1 k 0 w2) ∧ ∀ k1 (i_4 : Int) (w3 : World), I1 k1 i_4 w3 →
    VIf (decide (i_4 < (((Int.toNat (IntKind.wrap .i64 (Int.tmod (IntKind.wrap .u64 v12) 400))) : Nat) : Int))) (
      VLd none w3 ⟨c_1, 5, none⟩ [CT.int .u8] fun (v26 : Int) =>
      VIx none (some ⟨b16, 0, none⟩) (Int.toNat (IntKind.wrap .i64 (Int.tmod (IntKind.wrap .u64 v12) 400))) i_4 fun (a27 : Addr) =>
      VSt none w3 (Addr.add a27 ((Int.toNat i_4) * 1)) [.int .u8 v26] fun (w4 : World) =>
      VSet (IntKind.wrap .i64 (i_4 + 1)) fun (i_4' : Int) =>
      ∃ k', k' < k1 ∧ I1 k' i_4' w4
    ) (
      VLd none w3 ⟨c_1, 1, none⟩ [CT.int .i64] fun (v29 : Int) =>
      VLd none w3 ⟨c_1, 2, none⟩ [CT.int .i64] fun (v31 : Int) =>
      VLd none w3 ⟨c_1, 3, none⟩ [CT.int .i64] fun (v33 : Int) =>
      VStr none w3 (some ⟨b16, 0, none⟩) (Int.toNat (IntKind.wrap .i64 (Int.tmod (IntKind.wrap .u64 v12) 400))) fun (s35 : ByteArray) =>
      VCall none Try.prog 14 #[.int .i64 v29, .int .i64 v31, .int .i64 v33, .string s35] w3 (.slice none 0 0) fun (r36 : Sl) (w5 : World) =>
      R (.returned (.slice r36.base r36.len r36.cap)) w5
    )
  )
theorem sh_butterylaw11_packet_ok (c_0_0 : Int) (c_0_1 : Int) (c_0_2 : Int) (c_0_3 : Int) (c_0_4 : Int) (c_0_5 : Int) (c_0_6 : Sl) (w : World) (R : Ending → World → Prop) (h : sh_butterylaw11_packet c_0_0 c_0_1 c_0_2 c_0_3 c_0_4 c_0_5 c_0_6 w R) : Calls Try.prog 16 #[.agg #[.int .i64 c_0_0, .int .i64 c_0_1, .int .i64 c_0_2, .int .i64 c_0_3, .int .i64 c_0_4, .int .u8 c_0_5, .slice c_0_6.base c_0_6.len c_0_6.cap]] w R :=
  calls_of_sh (args := [.agg #[.int .i64 c_0_0, .int .i64 c_0_1, .int .i64 c_0_2, .int .i64 c_0_3, .int .i64 c_0_4, .int .u8 c_0_5, .slice c_0_6.base c_0_6.len c_0_6.cap]]) (.two .auto (.two (.two .auto (.two (.two .auto .auto) .auto)) (.two .auto (.two (.two .auto (.one (.loop [(4, .int .i64 0)] (.two (.two .auto (.two .auto .auto)) (.two (.one .auto) .auto))))) (.two .auto .auto))))) Try.func16 (by kernel_rfl) (by kernel_rfl) (by kernel_rfl) h

/-- 17: (*buttery/butteryref11.Joiner).Take -/
def sh_butteryref11_Joiner_Take (j_0 : Option Addr) (from_1 : Int) (packet_2 : Sl) (w : World) (R : Ending → World → Prop) : Prop :=
  VCall none Try.prog 30 #[.slice packet_2.base packet_2.len packet_2.cap] w (.tuple #[.agg #[.int .i64 0, .int .i64 0, .int .i64 0, .string ByteArray.empty], .int .i64 0]) fun (r18_0 : Int) (r18_1 : Int) (r18_2 : Int) (r18_3 : ByteArray) (r18_4 : Int) (w1 : World) =>
  VNw none w1 (.cells #[.int .i64 0, .int .i64 0, .int .i64 0, .string ByteArray.empty] 78) fun (p_9 : Nat) (w2 : World) =>
  VSt none w2 ⟨p_9, 0, none⟩ [.int .i64 r18_0, .int .i64 r18_1, .int .i64 r18_2, .string r18_3] fun (w3 : World) =>
  VSet r18_4 fun (e_10 : Int) =>
  VIf (e_10 != 0) (
    VSet e_10 fun (v8 : Int) =>
    R (.returned (.tuple #[.string (ByteArray.mk #[]), .bool false, .int .i64 v8])) w3
  ) (
    ∃ I1 : Nat → Int → Int → World → Prop, (∃ k, I1 k (-1) 0 w3) ∧ ∀ k1 (at_11 : Int) (i_12 : Int) (w4 : World), I1 k1 at_11 i_12 w4 →
    VNN none j_0 fun (a26 : Addr) =>
    VLd none w4 a26 [CT.sl] fun (v28 : Sl) =>
    VIf (decide (i_12 < ((v28.len : Nat) : Int))) (
      ∃ Φ2 : Int → World → Prop, (
        ∀ (w5 : World), w5 = World.drew w4 →
        VNN none j_0 fun (a34 : Addr) =>
        VLd none w5 a34 [CT.sl] fun (v36 : Sl) =>
        VIx none v36.base v36.len i_12 fun (a38 : Addr) =>
        VLd none w5 (Addr.add a38 ((Int.toNat i_12) * 4)) [CT.int .i64] fun (v40 : Int) =>
        VNN (some (v40 == from_1)) j_0 fun (a45 : Addr) =>
        VLd (some (v40 == from_1)) w5 a45 [CT.sl] fun (v47 : Sl) =>
        VIx (some (v40 == from_1)) v47.base v47.len i_12 fun (a49 : Addr) =>
        VLd (some (v40 == from_1)) w5 (Addr.add (Addr.add a49 ((Int.toNat i_12) * 4)) 1) [CT.int .i64] fun (v51 : Int) =>
        VLd (some (v40 == from_1)) w5 ⟨p_9, 0, none⟩ [CT.int .i64] fun (v53 : Int) =>
        VIf ((v40 == from_1) && (v51 == v53)) (
          VSet i_12 fun (at_11'' : Int) =>
          Φ2 at_11'' w5
        ) (
          Φ2 at_11 w5
        )
      ) ∧ ∀ (at_11' : Int) (w6 : World), Φ2 at_11' w6 →
      VSet (IntKind.wrap .i64 (i_12 + 1)) fun (i_12' : Int) =>
      ∃ k', k' < k1 ∧ I1 k' at_11' i_12' w6
    ) (
      ∃ Φ3 : Int → World → Prop, (
        ∀ (w7 : World), w7 = World.drew w4 →
        VNN (some (decide (at_11 ≥ 0))) j_0 fun (a61 : Addr) =>
        VLd (some (decide (at_11 ≥ 0))) w7 a61 [CT.sl] fun (v63 : Sl) =>
        VIx (some (decide (at_11 ≥ 0))) v63.base v63.len at_11 fun (a65 : Addr) =>
        VLd (some (decide (at_11 ≥ 0))) w7 (Addr.add (Addr.add a65 ((Int.toNat at_11) * 4)) 2) [CT.sl] fun (v67 : Sl) =>
        VLd (some (decide (at_11 ≥ 0))) w7 ⟨p_9, 2, none⟩ [CT.int .i64] fun (v70 : Int) =>
        VIf ((decide (at_11 ≥ 0)) && (((v67.len : Nat) : Int) != v70)) (
          VCall none Try.prog 31 #[.pointer j_0, .int .i64 at_11] w7 (.tuple #[]) fun (w8 : World) =>
          Φ3 (-1) w8
        ) (
          Φ3 at_11 w7
        )
      ) ∧ ∀ (at_11_3 : Int) (w9 : World), Φ3 at_11_3 w9 →
      VLd none w9 ⟨p_9, 2, none⟩ [CT.int .i64] fun (v77 : Int) =>
      VIf (v77 == 1) (
        VLd none w9 ⟨p_9, 3, none⟩ [CT.str] fun (v80 : ByteArray) =>
        R (.returned (.tuple #[.string v80, .bool true, .int .i64 0])) w9
      ) (
        ∃ Φ4 : Int → World → Prop, (
          VIf (decide (at_11_3 < 0)) (
            ∃ Φ5 : World → Prop, (
              VNN none j_0 fun (a84 : Addr) =>
              VLd none w9 a84 [CT.sl] fun (v86 : Sl) =>
              VIf (((v86.len : Nat) : Int) == 16) (
                VCall none Try.prog 31 #[.pointer j_0, .int .i64 0] w9 (.tuple #[]) fun (w10 : World) =>
                Φ5 w10
              ) (
                Φ5 w9
              )
            ) ∧ ∀ (w11 : World), Φ5 w11 →
            VNN none j_0 fun (a92 : Addr) =>
            VLd none w11 a92 [CT.sl] fun (v94 : Sl) =>
            VSet ((v94.len : Nat) : Int) fun (at_11_5 : Int) =>
            ∃ Φ6 : World → Prop, (
              ∀ (w12 : World), w12 = World.drew w11 →
              VNN none j_0 fun (a98 : Addr) =>
              VLd none w12 a98 [CT.sl] fun (v100 : Sl) =>
              VLd none w12 ⟨p_9, 0, none⟩ [CT.int .i64] fun (v103 : Int) =>
              VLd none w12 ⟨p_9, 2, none⟩ [CT.int .i64] fun (v105 : Int) =>
              VLd none w12 ⟨p_9, 2, none⟩ [CT.int .i64] fun (v108 : Int) =>
              (
                VMk none w12 9 1 16 #[.string ByteArray.empty] v105 v105 fun (b106 : Nat) (w13 : World) =>
                Rd w13 ⟨p_9, 2, none⟩ [.int .i64 v108] ∧
                Rd w13 ⟨p_9, 0, none⟩ [.int .i64 v103] ∧
                Rd w13 a98 [.slice v100.base v100.len v100.cap] ∧
                VMk none w13 4 1 1 #[.bool false] v108 v108 fun (b109 : Nat) (w14 : World) =>
                Rd w14 ⟨p_9, 0, none⟩ [.int .i64 v103] ∧
                Rd w14 a98 [.slice v100.base v100.len v100.cap] ∧
                VNw none w14 (.cells #[.int .i64 from_1, .int .i64 v103, .slice (some ⟨b106, 0, none⟩) (Int.toNat v105) (Int.toNat v105), .slice (some ⟨b109, 0, none⟩) (Int.toNat v108) (Int.toNat v108)] 82) fun (b111 : Nat) (w15 : World) =>
                Rd w15 a98 [.slice v100.base v100.len v100.cap] ∧
                VApp none w15 82 4 64 #[.int .i64 0, .int .i64 0, .slice none 0 0, .slice none 0 0] v100.base v100.len v100.cap 1 (fun news => Seg w15 (some ⟨b111, 0, none⟩) 1 4 news) fun (l112 : Sl) (w16 : World) =>
                VNN none j_0 fun (a113 : Addr) =>
                VSt none w16 a113 [.slice l112.base l112.len l112.cap] fun (w17 : World) =>
                Φ6 w17
              ) ∧ (
                VMk none w12 4 1 1 #[.bool false] v108 v108 fun (b109 : Nat) (w18 : World) =>
                Rd w18 ⟨p_9, 2, none⟩ [.int .i64 v105] ∧
                Rd w18 ⟨p_9, 0, none⟩ [.int .i64 v103] ∧
                Rd w18 a98 [.slice v100.base v100.len v100.cap] ∧
                VMk none w18 9 1 16 #[.string ByteArray.empty] v105 v105 fun (b106 : Nat) (w19 : World) =>
                Rd w19 ⟨p_9, 0, none⟩ [.int .i64 v103] ∧
                Rd w19 a98 [.slice v100.base v100.len v100.cap] ∧
                VNw none w19 (.cells #[.int .i64 from_1, .int .i64 v103, .slice (some ⟨b106, 0, none⟩) (Int.toNat v105) (Int.toNat v105), .slice (some ⟨b109, 0, none⟩) (Int.toNat v108) (Int.toNat v108)] 82) fun (b111 : Nat) (w20 : World) =>
                Rd w20 a98 [.slice v100.base v100.len v100.cap] ∧
                VApp none w20 82 4 64 #[.int .i64 0, .int .i64 0, .slice none 0 0, .slice none 0 0] v100.base v100.len v100.cap 1 (fun news => Seg w20 (some ⟨b111, 0, none⟩) 1 4 news) fun (l112 : Sl) (w21 : World) =>
                VNN none j_0 fun (a113 : Addr) =>
                VSt none w21 a113 [.slice l112.base l112.len l112.cap] fun (w22 : World) =>
                Φ6 w22
              )
            ) ∧ ∀ (w23 : World), Φ6 w23 →
            Φ4 at_11_5 w23
          ) (
            Φ4 at_11_3 w9
          )
        ) ∧ ∀ (at_11_4 : Int) (w24 : World), Φ4 at_11_4 w24 →
        VNN none j_0 fun (a116 : Addr) =>
        VLd none w24 a116 [CT.sl] fun (v118 : Sl) =>
        VIx none v118.base v118.len at_11_4 fun (a120 : Addr) =>
        VLd none w24 (Addr.add a120 ((Int.toNat at_11_4) * 4)) [CT.int .i64, CT.int .i64, CT.sl, CT.sl] fun (v121_0 : Int) (v121_1 : Int) (v121_2 : Sl) (v121_3 : Sl) =>
        VNw none w24 (.cells #[.int .i64 0, .int .i64 0, .slice none 0 0, .slice none 0 0] 82) fun (k_13 : Nat) (w25 : World) =>
        VSt none w25 ⟨k_13, 0, none⟩ [.int .i64 v121_0, .int .i64 v121_1, .slice v121_2.base v121_2.len v121_2.cap, .slice v121_3.base v121_3.len v121_3.cap] fun (w26 : World) =>
        ∃ Φ7 : World → Prop, (
          VLd none w26 ⟨k_13, 3, none⟩ [CT.sl] fun (v123 : Sl) =>
          VLd none w26 ⟨p_9, 1, none⟩ [CT.int .i64] fun (v125 : Int) =>
          VIx none v123.base v123.len v125 fun (a126 : Addr) =>
          VLd none w26 (Addr.add a126 ((Int.toNat v125) * 1)) [CT.bool] fun (v127 : Bool) =>
          VIf (!v127) (
            VLd none w26 ⟨k_13, 3, none⟩ [CT.sl] fun (v130 : Sl) =>
            VLd none w26 ⟨p_9, 1, none⟩ [CT.int .i64] fun (v132 : Int) =>
            VIx none v130.base v130.len v132 fun (a133 : Addr) =>
            VSt none w26 (Addr.add a133 ((Int.toNat v132) * 1)) [.bool true] fun (w27 : World) =>
            VLd none w27 ⟨k_13, 2, none⟩ [CT.sl] fun (v135 : Sl) =>
            VLd none w27 ⟨p_9, 1, none⟩ [CT.int .i64] fun (v137 : Int) =>
            VLd none w27 ⟨p_9, 3, none⟩ [CT.str] fun (v139 : ByteArray) =>
            VIx none v135.base v135.len v137 fun (a140 : Addr) =>
            VSt none w27 (Addr.add a140 ((Int.toNat v137) * 1)) [.string v139] fun (w28 : World) =>
            Φ7 w28
          ) (
            Φ7 w26
          )
        ) ∧ ∀ (w29 : World), Φ7 w29 →
        ∃ I8 : Nat → ByteArray → Int → World → Prop, (∃ k, I8 k (ByteArray.mk #[]) 0 w29) ∧ ∀ k8 (s_14 : ByteArray) (i_15 : Int) (w30 : World), I8 k8 s_14 i_15 w30 →
        VLd none w30 ⟨k_13, 2, none⟩ [CT.sl] fun (v143 : Sl) =>
        VIf (decide (i_15 < ((v143.len : Nat) : Int))) (
          VLd none w30 ⟨k_13, 3, none⟩ [CT.sl] fun (v149 : Sl) =>
          VIx none v149.base v149.len i_15 fun (a151 : Addr) =>
          VLd none w30 (Addr.add a151 ((Int.toNat i_15) * 1)) [CT.bool] fun (v152 : Bool) =>
          VIf (!v152) (
            R (.returned (.tuple #[.string (ByteArray.mk #[]), .bool false, .int .i64 0])) w30
          ) (
            VLd none w30 ⟨k_13, 2, none⟩ [CT.sl] fun (v156 : Sl) =>
            VIx none v156.base v156.len i_15 fun (a158 : Addr) =>
            VLd none w30 (Addr.add a158 ((Int.toNat i_15) * 1)) [CT.str] fun (v159 : ByteArray) =>
            VCk none (s_14.size + v159.size ≤ 9223372036854775807) (
              VSet (IntKind.wrap .i64 (i_15 + 1)) fun (i_15' : Int) =>
              ∃ k', k' < k8 ∧ I8 k' (s_14 ++ v159) i_15' w30
            )
          )
        ) (
          VCall none Try.prog 31 #[.pointer j_0, .int .i64 at_11_4] w30 (.tuple #[]) fun (w31 : World) =>
          R (.returned (.tuple #[.string s_14, .bool true, .int .i64 0])) w31
        )
      )
    )
  )
theorem sh_butteryref11_Joiner_Take_ok (j_0 : Option Addr) (from_1 : Int) (packet_2 : Sl) (w : World) (R : Ending → World → Prop) (h : sh_butteryref11_Joiner_Take j_0 from_1 packet_2 w R) : Calls Try.prog 17 #[.pointer j_0, .int .i64 from_1, .slice packet_2.base packet_2.len packet_2.cap] w R :=
  calls_of_sh (args := [.pointer j_0, .int .i64 from_1, .slice packet_2.base packet_2.len packet_2.cap]) (.two .auto (.two .auto (.two (.two .auto (.two (.two .auto .auto) .auto)) (.two .auto (.two (.two .auto (.one (.loop [(11, .int .i64 0), (12, .int .i64 0)] (.two (.two .auto (.two .auto .auto)) (.two (.bjoin [(11, .int .i64 0)] (.two .auto (.two .auto .auto))) .auto))))) (.join [(11, .int .i64 0)] (.two .auto (.two (.two .auto .auto) .auto)) (.two (.two .auto (.two (.two .auto .auto) .auto)) (.join [(11, .int .i64 0)] (.two .auto (.two (.join [] (.two .auto (.two .auto .auto)) (.two .auto (.bjoin [] .auto))) .auto)) (.two .auto (.join [] (.two .auto (.two (.two .auto .auto) .auto)) (.two .auto (.two (.two .auto (.one (.loop [(14, .string ByteArray.empty), (15, .int .i64 0)] (.two (.two .auto (.two .auto .auto)) (.two (.one (.two (.two .auto (.two (.two .auto .auto) .auto)) .auto)) .auto))))) (.two .auto (.two .auto .auto)))))))))))))) Try.func17 (by kernel_rfl) (by kernel_rfl) (by kernel_rfl) h

/-- 18: (*buttery/parts.Joiner).Len -/
def sh_parts_Joiner_Len (j_0 : Option Addr) (w : World) (R : Ending → World → Prop) : Prop :=
  VIf j_0.isNone (
    R (.returned (.int .i64 0)) w
  ) (
    VNN none j_0 fun (a6 : Addr) =>
    VLd none w (Addr.add a6 1) [CT.sl] fun (v8 : Sl) =>
    VSet ((v8.len : Nat) : Int) fun (v2 : Int) =>
    R (.returned (.int .i64 v2)) w
  )
theorem sh_parts_Joiner_Len_ok (j_0 : Option Addr) (w : World) (R : Ending → World → Prop) (h : sh_parts_Joiner_Len j_0 w R) : Calls Try.prog 18 #[.pointer j_0] w R :=
  calls_of_sh (args := [.pointer j_0]) (.two .auto (.two (.two .auto (.two (.two .auto .auto) .auto)) (.two .auto .auto))) Try.func18 (by kernel_rfl) (by kernel_rfl) (by kernel_rfl) h

/-- 19: buttery/butterylaw11.works -/
def sh_butterylaw11_works (w : World) (R : Ending → World → Prop) : Prop :=
  VMk none w 5 1 1 #[.int .u8 0] 381 381 fun (b14 : Nat) (w1 : World) =>
  VCall none Try.prog 10 #[.int .i64 5, .slice (some ⟨b14, 0, none⟩) 381 381] w1 (.tuple #[.slice none 0 0, .int .i64 0]) fun (r15_0 : Sl) (r15_1 : Int) (w2 : World) =>
  VSet r15_1 fun (e_2 : Int) =>
  VCall none Try.prog 12 #[] w2 (.pointer none) fun (r18 : Option Addr) (w3 : World) =>
  VIf ((e_2 != 0) || (((r15_0.len : Nat) : Int) != 2)) (
    R (.returned (.bool false)) w3
  ) (
    VIx none r15_0.base r15_0.len 1 fun (a29 : Addr) =>
    VLd none w3 (Addr.add a29 1) [CT.sl] fun (v30 : Sl) =>
    VCall none Try.prog 13 #[.pointer r18, .int .i64 1, .slice v30.base v30.len v30.cap] w3 (.tuple #[.slice none 0 0, .bool false, .int .i64 0]) fun (r31_0 : Sl) (r31_1 : Bool) (r31_2 : Int) (w4 : World) =>
    VSet r31_2 fun (e_2' : Int) =>
    VIx none r15_0.base r15_0.len 0 fun (a38 : Addr) =>
    VLd none w4 a38 [CT.sl] fun (v39 : Sl) =>
    VCall none Try.prog 13 #[.pointer r18, .int .i64 2, .slice v39.base v39.len v39.cap] w4 (.tuple #[.slice none 0 0, .bool false, .int .i64 0]) fun (r40_0 : Sl) (r40_1 : Bool) (r40_2 : Int) (w5 : World) =>
    VSet r40_2 fun (f_8 : Int) =>
    VCall none Try.prog 18 #[.pointer r18] w5 (.int .i64 0) fun (r45 : Int) (w6 : World) =>
    VSet r45 fun (n_9 : Int) =>
    VIx none r15_0.base r15_0.len 0 fun (a49 : Addr) =>
    VLd none w6 a49 [CT.sl] fun (v50 : Sl) =>
    VCall none Try.prog 13 #[.pointer r18, .int .i64 1, .slice v50.base v50.len v50.cap] w6 (.tuple #[.slice none 0 0, .bool false, .int .i64 0]) fun (r51_0 : Sl) (r51_1 : Bool) (r51_2 : Int) (w7 : World) =>
    VSet r51_2 fun (g_12 : Int) =>
    VCall (some ((((((((e_2' == 0) && (f_8 == 0)) && (g_12 == 0)) && (!r31_1)) && (!r40_1)) && (n_9 == 2)) && r51_1) && (((r51_0.len : Nat) : Int) == 381))) Try.prog 18 #[.pointer r18] w7 (.int .i64 0) fun (r87 : Int) (w8 : World) =>
    R (.returned (.bool (((((((((e_2' == 0) && (f_8 == 0)) && (g_12 == 0)) && (!r31_1)) && (!r40_1)) && (n_9 == 2)) && r51_1) && (((r51_0.len : Nat) : Int) == 381)) && (r87 == 1)))) w8
  )
theorem sh_butterylaw11_works_ok (w : World) (R : Ending → World → Prop) (h : sh_butterylaw11_works w R) : Calls Try.prog 19 #[] w R :=
  calls_of_sh (args := []) (.two .auto (.two .auto (.two .auto (.two (.two .auto (.two (.two .auto .auto) .auto)) (.two .auto (.two .auto (.two .auto (.two .auto (.two .auto .auto))))))))) Try.func19 (by kernel_rfl) (by kernel_rfl) (by kernel_rfl) h

/-- 20: buttery/parts.count -/
def sh_parts_count (n_0 : Int) (w : World) (R : Ending → World → Prop) : Prop :=
  VSet (if (IntKind.wrap .i64 (Int.tdiv (IntKind.wrap .i64 ((IntKind.wrap .i64 (n_0 + 380)) - 1)) 380)) > 1 then IntKind.wrap .i64 (Int.tdiv (IntKind.wrap .i64 ((IntKind.wrap .i64 (n_0 + 380)) - 1)) 380) else 1) fun (v2 : Int) =>
  R (.returned (.int .i64 v2)) w
theorem sh_parts_count_ok (n_0 : Int) (w : World) (R : Ending → World → Prop) (h : sh_parts_count n_0 w R) : Calls Try.prog 20 #[.int .i64 n_0] w R :=
  calls_of_sh (args := [.int .i64 n_0]) (.two .auto (.two .auto .auto)) Try.func20 (by kernel_rfl) (by kernel_rfl) (by kernel_rfl) h

/-- 21: buttery/code.Count -/
def sh_code_Count (b_0 : Sl) (n_1 : Int) (w : World) (R : Ending → World → Prop) : Prop :=
  VIf ((decide (n_1 < 0)) || (decide (n_1 > 2147483647))) (
    VCall none Try.prog 32 #[.slice b_0.base b_0.len b_0.cap] w (.slice none 0 0) fun (r12 : Sl) (w1 : World) =>
    R (.returned (.slice r12.base r12.len r12.cap)) w1
  ) (
    VCall none Try.prog 33 #[.slice b_0.base b_0.len b_0.cap, .int .u64 (IntKind.wrap .u64 n_1)] w (.slice none 0 0) fun (r16 : Sl) (w2 : World) =>
    R (.returned (.slice r16.base r16.len r16.cap)) w2
  )
theorem sh_code_Count_ok (b_0 : Sl) (n_1 : Int) (w : World) (R : Ending → World → Prop) (h : sh_code_Count b_0 n_1 w R) : Calls Try.prog 21 #[.slice b_0.base b_0.len b_0.cap, .int .i64 n_1] w R :=
  calls_of_sh (args := [.slice b_0.base b_0.len b_0.cap, .int .i64 n_1]) (.two .auto (.two (.two .auto (.two (.two .auto .auto) .auto)) (.two .auto .auto))) Try.func21 (by kernel_rfl) (by kernel_rfl) (by kernel_rfl) h

/-- 22: buttery/seal.Seal -/
def sh_seal_Seal (kind_0 : Int) (body_1 : Sl) (w : World) (R : Ending → World → Prop) : Prop :=
  VSet ((body_1.len : Nat) : Int) fun (n_6 : Int) =>
  VIf (decide (n_6 > 8192)) (
    R (.returned (.tuple #[.slice none 0 0, .int .i64 40])) w
  ) (
    VNw none w (.cells #[.int .u8 kind_0, .int .u8 (IntKind.wrap .u8 n_6), .int .u8 (IntKind.wrap .u8 (Int.fdiv n_6 (2 ^ 8)))] 5) fun (b18 : Nat) (w1 : World) =>
    VApp none w1 5 1 1 #[.int .u8 0] (some ⟨b18, 0, none⟩) 3 3 body_1.len (fun news => Seg w1 body_1.base body_1.len 1 news) fun (l20 : Sl) (w2 : World) =>
    VCall none Try.prog 35 #[.slice l20.base l20.len l20.cap] w2 (.int .u32 0) fun (r23 : Int) (w3 : World) =>
    VCall none Try.prog 34 #[.int .u32 r23] w3 (.slice none 0 0) fun (r24 : Sl) (w4 : World) =>
    VApp none w4 5 1 1 #[.int .u8 0] l20.base l20.len l20.cap r24.len (fun news => Seg w4 r24.base r24.len 1 news) fun (l25 : Sl) (w5 : World) =>
    R (.returned (.tuple #[.slice l25.base l25.len l25.cap, .int .i64 0])) w5
  )
theorem sh_seal_Seal_ok (kind_0 : Int) (body_1 : Sl) (w : World) (R : Ending → World → Prop) (h : sh_seal_Seal kind_0 body_1 w R) : Calls Try.prog 22 #[.int .u8 kind_0, .slice body_1.base body_1.len body_1.cap] w R :=
  calls_of_sh (args := [.int .u8 kind_0, .slice body_1.base body_1.len body_1.cap]) (.two .auto (.two .auto (.two (.two .auto (.two (.two .auto .auto) .auto)) (.two .auto (.two .auto .auto))))) Try.func22 (by kernel_rfl) (by kernel_rfl) (by kernel_rfl) h

/-- 23: buttery/code.Str -/
def sh_code_Str (b_0 : Sl) (s_1 : ByteArray) (w : World) (R : Ending → World → Prop) : Prop :=
  VIf (decide (((s_1.size : Nat) : Int) > 2147483647)) (
    VCall none Try.prog 32 #[.slice b_0.base b_0.len b_0.cap] w (.slice none 0 0) fun (r9 : Sl) (w1 : World) =>
    R (.returned (.slice r9.base r9.len r9.cap)) w1
  ) (
    VCall none Try.prog 21 #[.slice b_0.base b_0.len b_0.cap, .int .i64 ((s_1.size : Nat) : Int)] w (.slice none 0 0) fun (r13 : Sl) (w2 : World) =>
    VApp none w2 5 1 1 #[.int .u8 0] r13.base r13.len r13.cap s_1.size (fun news => news = strCells s_1) fun (l15 : Sl) (w3 : World) =>
    R (.returned (.slice l15.base l15.len l15.cap)) w3
  )
theorem sh_code_Str_ok (b_0 : Sl) (s_1 : ByteArray) (w : World) (R : Ending → World → Prop) (h : sh_code_Str b_0 s_1 w R) : Calls Try.prog 23 #[.slice b_0.base b_0.len b_0.cap, .string s_1] w R :=
  calls_of_sh (args := [.slice b_0.base b_0.len b_0.cap, .string s_1]) (.two .auto (.two (.two .auto (.two (.two .auto .auto) .auto)) (.two .auto .auto))) Try.func23 (by kernel_rfl) (by kernel_rfl) (by kernel_rfl) h

/-- 24: buttery/parts.read -/
def sh_parts_read (packet_0 : Sl) (w : World) (R : Ending → World → Prop) : Prop :=
  VNw none w (.cells #[.int .i64 0, .int .i64 0, .int .i64 0, .string ByteArray.empty] 66) fun (b2 : Nat) (w1 : World) =>
  VCall none Try.prog 36 #[.slice packet_0.base packet_0.len packet_0.cap] w1 (.tuple #[.int .u8 0, .slice none 0 0, .int .i64 0]) fun (r12_0 : Int) (r12_1 : Sl) (r12_2 : Int) (w2 : World) =>
  VSet r12_0 fun (k_4 : Int) =>
  VSet r12_2 fun (e_6 : Int) =>
  VIf (e_6 != 0) (
    VSt none w2 ⟨b2, 0, none⟩ [.int .i64 0, .int .i64 0, .int .i64 0, .string ByteArray.empty] fun (w3 : World) =>
    VSet e_6 fun (v3 : Int) =>
    VLd none w3 ⟨b2, 0, none⟩ [CT.int .i64, CT.int .i64, CT.int .i64, CT.str] fun (res2_0 : Int) (res2_1 : Int) (res2_2 : Int) (res2_3 : ByteArray) =>
    R (.returned (.tuple #[.agg #[.int .i64 res2_0, .int .i64 res2_1, .int .i64 res2_2, .string res2_3], .int .i64 v3])) w3
  ) (
    VCall none Try.prog 37 #[.slice r12_1.base r12_1.len r12_1.cap] w2 (.pointer none) fun (r21 : Option Addr) (w4 : World) =>
    VCall none Try.prog 38 #[.pointer r21, .int .i64 2147483647] w4 (.int .i64 0) fun (r23 : Int) (w5 : World) =>
    VCall none Try.prog 38 #[.pointer r21, .int .i64 21] w5 (.int .i64 0) fun (r25 : Int) (w6 : World) =>
    VCall none Try.prog 38 #[.pointer r21, .int .i64 22] w6 (.int .i64 0) fun (r27 : Int) (w7 : World) =>
    VCall none Try.prog 39 #[.pointer r21, .int .i64 380] w7 (.string ByteArray.empty) fun (r29 : ByteArray) (w8 : World) =>
    VNw none w8 (.cells #[.int .i64 0, .int .i64 0, .int .i64 0, .string ByteArray.empty] 66) fun (p_8 : Nat) (w9 : World) =>
    VSt none w9 ⟨p_8, 0, none⟩ [.int .i64 r23, .int .i64 r25, .int .i64 r27, .string r29] fun (w10 : World) =>
    VLd none w10 ⟨p_8, 1, none⟩ [CT.int .i64] fun (v32 : Int) =>
    VLd none w10 ⟨p_8, 2, none⟩ [CT.int .i64] fun (v34 : Int) =>
    VCall (some (!(k_4 != 1))) Try.prog 40 #[.pointer r21] w10 (.bool false) fun (r42 : Bool) (w11 : World) =>
    VLd (some (!((k_4 != 1) || (!r42)))) w11 ⟨p_8, 1, none⟩ [CT.int .i64] fun (v47 : Int) =>
    VLd (some (!((k_4 != 1) || (!r42)))) w11 ⟨p_8, 2, none⟩ [CT.int .i64] fun (v49 : Int) =>
    VIf (((k_4 != 1) || (!r42)) || (decide (v47 ≥ v49))) (
      VSt none w11 ⟨b2, 0, none⟩ [.int .i64 0, .int .i64 0, .int .i64 0, .string ByteArray.empty] fun (w12 : World) =>
      VLd none w12 ⟨b2, 0, none⟩ [CT.int .i64, CT.int .i64, CT.int .i64, CT.str] fun (res2_0 : Int) (res2_1 : Int) (res2_2 : Int) (res2_3 : ByteArray) =>
      R (.returned (.tuple #[.agg #[.int .i64 res2_0, .int .i64 res2_1, .int .i64 res2_2, .string res2_3], .int .i64 4])) w12
    ) (
      VLd (some (!(v32 == (IntKind.wrap .i64 (v34 - 1))))) w11 ⟨p_8, 3, none⟩ [CT.str] fun (v58 : ByteArray) =>
      VLd (some ((!((!(v32 == (IntKind.wrap .i64 (v34 - 1)))) && (decide (((v58.size : Nat) : Int) < 380)))) && (v32 == (IntKind.wrap .i64 (v34 - 1))))) w11 ⟨p_8, 3, none⟩ [CT.str] fun (v66 : ByteArray) =>
      VLd (some ((!((!(v32 == (IntKind.wrap .i64 (v34 - 1)))) && (decide (((v58.size : Nat) : Int) < 380)))) && ((v32 == (IntKind.wrap .i64 (v34 - 1))) && (v66.toList == (ByteArray.mk #[]).toList)))) w11 ⟨p_8, 2, none⟩ [CT.int .i64] fun (v71 : Int) =>
      VLd (some (!(((!(v32 == (IntKind.wrap .i64 (v34 - 1)))) && (decide (((v58.size : Nat) : Int) < 380))) || (((v32 == (IntKind.wrap .i64 (v34 - 1))) && (v66.toList == (ByteArray.mk #[]).toList)) && (decide (v71 > 1)))))) w11 ⟨p_8, 1, none⟩ [CT.int .i64] fun (v77 : Int) =>
      VLd (some (!(((!(v32 == (IntKind.wrap .i64 (v34 - 1)))) && (decide (((v58.size : Nat) : Int) < 380))) || (((v32 == (IntKind.wrap .i64 (v34 - 1))) && (v66.toList == (ByteArray.mk #[]).toList)) && (decide (v71 > 1)))))) w11 ⟨p_8, 3, none⟩ [CT.str] fun (v80 : ByteArray) =>
      VIf ((((!(v32 == (IntKind.wrap .i64 (v34 - 1)))) && (decide (((v58.size : Nat) : Int) < 380))) || (((v32 == (IntKind.wrap .i64 (v34 - 1))) && (v66.toList == (ByteArray.mk #[]).toList)) && (decide (v71 > 1)))) || (decide ((IntKind.wrap .i64 ((IntKind.wrap .i64 (v77 * 380)) + ((v80.size : Nat) : Int))) > 8192))) (
        VSt none w11 ⟨b2, 0, none⟩ [.int .i64 0, .int .i64 0, .int .i64 0, .string ByteArray.empty] fun (w13 : World) =>
        VLd none w13 ⟨b2, 0, none⟩ [CT.int .i64, CT.int .i64, CT.int .i64, CT.str] fun (res2_0 : Int) (res2_1 : Int) (res2_2 : Int) (res2_3 : ByteArray) =>
        R (.returned (.tuple #[.agg #[.int .i64 res2_0, .int .i64 res2_1, .int .i64 res2_2, .string res2_3], .int .i64 4])) w13
      ) (
        VLd none w11 ⟨p_8, 0, none⟩ [CT.int .i64, CT.int .i64, CT.int .i64, CT.str] fun (v86_0 : Int) (v86_1 : Int) (v86_2 : Int) (v86_3 : ByteArray) =>
        VSt none w11 ⟨b2, 0, none⟩ [.int .i64 v86_0, .int .i64 v86_1, .int .i64 v86_2, .string v86_3] fun (w14 : World) =>
        VLd none w14 ⟨b2, 0, none⟩ [CT.int .i64, CT.int .i64, CT.int .i64, CT.str] fun (res2_0 : Int) (res2_1 : Int) (res2_2 : Int) (res2_3 : ByteArray) =>
        R (.returned (.tuple #[.agg #[.int .i64 res2_0, .int .i64 res2_1, .int .i64 res2_2, .string res2_3], .int .i64 0])) w14
      )
    )
  )
theorem sh_parts_read_ok (packet_0 : Sl) (w : World) (R : Ending → World → Prop) (h : sh_parts_read packet_0 w R) : Calls Try.prog 24 #[.slice packet_0.base packet_0.len packet_0.cap] w R :=
  calls_of_sh (args := [.slice packet_0.base packet_0.len packet_0.cap]) (.two .auto (.two .auto (.two (.two .auto (.two (.two .auto .auto) .auto)) (.two .auto (.two .auto (.two .auto (.two (.one (.two .auto (.two (.two .auto .auto) (.two .auto (.two (.two .auto .auto) .auto))))) (.two .auto .auto)))))))) Try.func24 (by kernel_rfl) (by kernel_rfl) (by kernel_rfl) h

/-- 25: (*buttery/parts.Joiner).forget -/
def sh_parts_Joiner_forget (j_0 : Option Addr) (who_1_0 : Int) (who_1_1 : Int) (w : World) (R : Ending → World → Prop) : Prop :=
  VNw none w (.cells #[.int .i64 who_1_0, .int .i64 who_1_1] 69) fun (who_3 : Nat) (w1 : World) =>
  ∀ (w2 : World), w2 = World.drew w1 →
  VNN none j_0 fun (a5 : Addr) =>
  VLd none w2 a5 [CT.mp] fun (v7 : Option Nat) =>
  VLd none w2 ⟨who_3, 0, none⟩ [CT.int .i64, CT.int .i64] fun (v8_0 : Int) (v8_1 : Int) =>
  VRun none Try.prog (Builtin.delete_ #[61, 69] 0 #[.map v7, .agg #[.int .i64 v8_0, .int .i64 v8_1]]) w2 (.tuple #[]) fun (w3 : World) =>
  VNN none j_0 fun (a11 : Addr) =>
  VLd none w3 (Addr.add a11 1) [CT.sl] fun (v13 : Sl) =>
  VCall none Try.prog 41 #[.slice v13.base v13.len v13.cap, .func (.func 42) #[] #[.pointer (some ⟨who_3, 0, none⟩)]] w3 (.slice none 0 0) fun (r15 : Sl) (w4 : World) =>
  VNN none j_0 fun (a16 : Addr) =>
  VSt none w4 (Addr.add a16 1) [.slice r15.base r15.len r15.cap] fun (w5 : World) =>
  R (.returned (.tuple #[])) w5
theorem sh_parts_Joiner_forget_ok (j_0 : Option Addr) (who_1_0 : Int) (who_1_1 : Int) (w : World) (R : Ending → World → Prop) (h : sh_parts_Joiner_forget j_0 who_1_0 who_1_1 w R) : Calls Try.prog 25 #[.pointer j_0, .agg #[.int .i64 who_1_0, .int .i64 who_1_1]] w R :=
  calls_of_sh (args := [.pointer j_0, .agg #[.int .i64 who_1_0, .int .i64 who_1_1]]) (.two .auto (.two .auto .auto)) Try.func25 (by kernel_rfl) (by kernel_rfl) (by kernel_rfl) h

/-- 26: (*buttery/parts.Joiner).begin -/
def sh_parts_Joiner_begin (j_0 : Option Addr) (who_1_0 : Int) (who_1_1 : Int) (n_2 : Int) (w : World) (R : Ending → World → Prop) : Prop :=
  VNw none w (.cells #[.int .i64 who_1_0, .int .i64 who_1_1] 69) fun (who_4 : Nat) (w1 : World) =>
  ∃ Φ1 : World → Prop, (
    VNN none j_0 fun (a9 : Addr) =>
    VLd none w1 (Addr.add a9 1) [CT.sl] fun (v11 : Sl) =>
    VIf (((v11.len : Nat) : Int) == 16) (
      VNN none j_0 fun (a16 : Addr) =>
      VLd none w1 (Addr.add a16 1) [CT.sl] fun (v18 : Sl) =>
      VIx none v18.base v18.len 0 fun (a19 : Addr) =>
      VLd none w1 a19 [CT.int .i64, CT.int .i64] fun (v20_0 : Int) (v20_1 : Int) =>
      VCall none Try.prog 25 #[.pointer j_0, .agg #[.int .i64 v20_0, .int .i64 v20_1]] w1 (.tuple #[]) fun (w2 : World) =>
      Φ1 w2
    ) (
      Φ1 w1
    )
  ) ∧ ∀ (w3 : World), Φ1 w3 →
  ∃ Φ2 : Option Addr → World → Prop, (
    ∀ (w4 : World), w4 = World.drew w3 →
    (
      VMk none w4 9 1 16 #[.string ByteArray.empty] n_2 n_2 fun (b23 : Nat) (w5 : World) =>
      VMk none w5 4 1 1 #[.bool false] n_2 n_2 fun (b25 : Nat) (w6 : World) =>
      VNw none w6 (.cells #[.slice (some ⟨b23, 0, none⟩) (Int.toNat n_2) (Int.toNat n_2), .slice (some ⟨b25, 0, none⟩) (Int.toNat n_2) (Int.toNat n_2), .int .i64 n_2] 72) fun (b28 : Nat) (w7 : World) =>
      Φ2 (some ⟨b28, 0, none⟩) w7
    ) ∧ (
      VMk none w4 4 1 1 #[.bool false] n_2 n_2 fun (b25 : Nat) (w8 : World) =>
      VMk none w8 9 1 16 #[.string ByteArray.empty] n_2 n_2 fun (b23 : Nat) (w9 : World) =>
      VNw none w9 (.cells #[.slice (some ⟨b23, 0, none⟩) (Int.toNat n_2) (Int.toNat n_2), .slice (some ⟨b25, 0, none⟩) (Int.toNat n_2) (Int.toNat n_2), .int .i64 n_2] 72) fun (b28 : Nat) (w10 : World) =>
      Φ2 (some ⟨b28, 0, none⟩) w10
    )
  ) ∧ ∀ (w_7 : Option Addr) (w11 : World), Φ2 w_7 w11 →
  ∀ (w12 : World), w12 = World.drew w11 →
  VNN none j_0 fun (a30 : Addr) =>
  VLd none w12 a30 [CT.mp] fun (v32 : Option Nat) =>
  VLd none w12 ⟨who_4, 0, none⟩ [CT.int .i64, CT.int .i64] fun (v33_0 : Int) (v33_1 : Int) =>
  VRunU none Try.prog (Instr.mapUpdate 61 (.map v32) (.agg #[.int .i64 v33_0, .int .i64 v33_1]) (.pointer w_7)) w12 fun (w13 : World) =>
  ∀ (w14 : World), w14 = World.drew w13 →
  VNN none j_0 fun (a37 : Addr) =>
  VLd none w14 (Addr.add a37 1) [CT.sl] fun (v39 : Sl) =>
  VLd none w14 ⟨who_4, 0, none⟩ [CT.int .i64, CT.int .i64] fun (v40_0 : Int) (v40_1 : Int) =>
  VNw none w14 (.cells #[.int .i64 v40_0, .int .i64 v40_1] 69) fun (b41 : Nat) (w15 : World) =>
  Rd w15 (Addr.add a37 1) [.slice v39.base v39.len v39.cap] ∧
  VApp none w15 69 2 16 #[.int .i64 0, .int .i64 0] v39.base v39.len v39.cap 1 (fun news => Seg w15 (some ⟨b41, 0, none⟩) 1 2 news) fun (l42 : Sl) (w16 : World) =>
  VNN none j_0 fun (a43 : Addr) =>
  VSt none w16 (Addr.add a43 1) [.slice l42.base l42.len l42.cap] fun (w17 : World) =>
  R (.returned (.pointer w_7)) w17
theorem sh_parts_Joiner_begin_ok (j_0 : Option Addr) (who_1_0 : Int) (who_1_1 : Int) (n_2 : Int) (w : World) (R : Ending → World → Prop) (h : sh_parts_Joiner_begin j_0 who_1_0 who_1_1 n_2 w R) : Calls Try.prog 26 #[.pointer j_0, .agg #[.int .i64 who_1_0, .int .i64 who_1_1], .int .i64 n_2] w R :=
  calls_of_sh (args := [.pointer j_0, .agg #[.int .i64 who_1_0, .int .i64 who_1_1], .int .i64 n_2]) (.two .auto (.join [] (.two .auto (.two .auto .auto)) (.two (.bjoin [(7, .pointer none)] .auto) (.two .auto (.two .auto (.two .auto .auto)))))) Try.func26 (by kernel_rfl) (by kernel_rfl) (by kernel_rfl) h

/-- 27: buttery/butteryref01.Str -/
def sh_butteryref01_Str (b_0 : Sl) (s_1 : ByteArray) (w : World) (R : Ending → World → Prop) : Prop :=
  VCall none Try.prog 28 #[.slice b_0.base b_0.len b_0.cap, .int .i64 ((s_1.size : Nat) : Int)] w (.slice none 0 0) fun (r8 : Sl) (w1 : World) =>
  VBytes none w1 5 s_1 fun (b10 cb10 : Nat) (w2 : World) =>
  VCall none Try.prog 43 #[.slice r8.base r8.len r8.cap, .slice (some ⟨b10, 0, none⟩) s_1.size cb10] w2 (.slice none 0 0) fun (r11 : Sl) (w3 : World) =>
  R (.returned (.slice r11.base r11.len r11.cap)) w3
theorem sh_butteryref01_Str_ok (b_0 : Sl) (s_1 : ByteArray) (w : World) (R : Ending → World → Prop) (h : sh_butteryref01_Str b_0 s_1 w R) : Calls Try.prog 27 #[.slice b_0.base b_0.len b_0.cap, .string s_1] w R :=
  calls_of_sh (args := [.slice b_0.base b_0.len b_0.cap, .string s_1]) (.two .auto (.two .auto .auto)) Try.func27 (by kernel_rfl) (by kernel_rfl) (by kernel_rfl) h

/-- 28: buttery/butteryref01.Count -/
def sh_butteryref01_Count (b_0 : Sl) (n_1 : Int) (w : World) (R : Ending → World → Prop) : Prop :=
  VIf ((decide (n_1 < 0)) || (decide (n_1 > 2147483647))) (
    VCall none Try.prog 43 #[.slice b_0.base b_0.len b_0.cap, .slice none 0 0] w (.slice none 0 0) fun (r12 : Sl) (w1 : World) =>
    R (.returned (.slice r12.base r12.len r12.cap)) w1
  ) (
    VCall none Try.prog 44 #[.int .u64 (IntKind.wrap .u64 n_1)] w (.slice none 0 0) fun (r16 : Sl) (w2 : World) =>
    VCall none Try.prog 43 #[.slice b_0.base b_0.len b_0.cap, .slice r16.base r16.len r16.cap] w2 (.slice none 0 0) fun (r17 : Sl) (w3 : World) =>
    R (.returned (.slice r17.base r17.len r17.cap)) w3
  )
theorem sh_butteryref01_Count_ok (b_0 : Sl) (n_1 : Int) (w : World) (R : Ending → World → Prop) (h : sh_butteryref01_Count b_0 n_1 w R) : Calls Try.prog 28 #[.slice b_0.base b_0.len b_0.cap, .int .i64 n_1] w R :=
  calls_of_sh (args := [.slice b_0.base b_0.len b_0.cap, .int .i64 n_1]) (.two .auto (.two (.two .auto (.two (.two .auto .auto) .auto)) (.two .auto .auto))) Try.func28 (by kernel_rfl) (by kernel_rfl) (by kernel_rfl) h

/-- 29: buttery/butteryref02.Sum -/
def sh_butteryref02_Sum (b_0 : Sl) (w : World) (R : Ending → World → Prop) : Prop :=
  VCall none Try.prog 45 #[.int .u32 4294967295, .slice b_0.base b_0.len b_0.cap] w (.int .u32 0) fun (r4 : Int) (w1 : World) =>
  VSet (bXor .u32 (IntKind.max .u32) r4) fun (v2 : Int) =>
  R (.returned (.int .u32 v2)) w1
theorem sh_butteryref02_Sum_ok (b_0 : Sl) (w : World) (R : Ending → World → Prop) (h : sh_butteryref02_Sum b_0 w R) : Calls Try.prog 29 #[.slice b_0.base b_0.len b_0.cap] w R :=
  calls_of_sh (args := [.slice b_0.base b_0.len b_0.cap]) (.two .auto (.two .auto .auto)) Try.func29 (by kernel_rfl) (by kernel_rfl) (by kernel_rfl) h

/-- 30: buttery/butteryref11.Read -/
def sh_butteryref11_Read (packet_0 : Sl) (w : World) (R : Ending → World → Prop) : Prop :=
  VNw none w (.cells #[.int .i64 0, .int .i64 0, .int .i64 0, .string ByteArray.empty] 78) fun (b2 : Nat) (w1 : World) =>
  VCall none Try.prog 46 #[.slice packet_0.base packet_0.len packet_0.cap] w1 (.tuple #[.int .u8 0, .slice none 0 0, .int .i64 0]) fun (r12_0 : Int) (r12_1 : Sl) (r12_2 : Int) (w2 : World) =>
  VSet r12_0 fun (kind_4 : Int) =>
  VSet r12_2 fun (e_6 : Int) =>
  VIf (e_6 != 0) (
    VSt none w2 ⟨b2, 0, none⟩ [.int .i64 0, .int .i64 0, .int .i64 0, .string ByteArray.empty] fun (w3 : World) =>
    VSet e_6 fun (v3 : Int) =>
    VLd none w3 ⟨b2, 0, none⟩ [CT.int .i64, CT.int .i64, CT.int .i64, CT.str] fun (res2_0 : Int) (res2_1 : Int) (res2_2 : Int) (res2_3 : ByteArray) =>
    R (.returned (.tuple #[.agg #[.int .i64 res2_0, .int .i64 res2_1, .int .i64 res2_2, .string res2_3], .int .i64 v3])) w3
  ) (
    VCall none Try.prog 47 #[.slice r12_1.base r12_1.len r12_1.cap] w2 (.pointer none) fun (r21 : Option Addr) (w4 : World) =>
    VCall none Try.prog 48 #[.pointer r21, .int .i64 2147483647] w4 (.int .i64 0) fun (r23 : Int) (w5 : World) =>
    VNw none w5 (.cells #[.int .i64 0, .int .i64 0, .int .i64 0, .string ByteArray.empty] 78) fun (p_8 : Nat) (w6 : World) =>
    VSt none w6 ⟨p_8, 0, none⟩ [.int .i64 r23, .int .i64 0, .int .i64 0, .string ByteArray.empty] fun (w7 : World) =>
    VCall none Try.prog 48 #[.pointer r21, .int .i64 1048576] w7 (.int .i64 0) fun (r26 : Int) (w8 : World) =>
    VSt none w8 ⟨p_8, 1, none⟩ [.int .i64 r26] fun (w9 : World) =>
    VCall none Try.prog 48 #[.pointer r21, .int .i64 1048576] w9 (.int .i64 0) fun (r29 : Int) (w10 : World) =>
    VSt none w10 ⟨p_8, 2, none⟩ [.int .i64 r29] fun (w11 : World) =>
    VCall none Try.prog 49 #[.pointer r21, .int .i64 1048576] w11 (.string ByteArray.empty) fun (r32 : ByteArray) (w12 : World) =>
    VSt none w12 ⟨p_8, 3, none⟩ [.string r32] fun (w13 : World) =>
    VCall (some (!(kind_4 != 1))) Try.prog 50 #[.pointer r21] w13 (.bool false) fun (r38 : Bool) (w14 : World) =>
    VLd (some (!((kind_4 != 1) || (!r38)))) w14 ⟨p_8, 2, none⟩ [CT.int .i64] fun (v43 : Int) =>
    VLd (some (!(((kind_4 != 1) || (!r38)) || (decide (v43 < 1))))) w14 ⟨p_8, 2, none⟩ [CT.int .i64] fun (v48 : Int) =>
    VLd (some (!((((kind_4 != 1) || (!r38)) || (decide (v43 < 1))) || (decide (v48 > 22))))) w14 ⟨p_8, 1, none⟩ [CT.int .i64] fun (v53 : Int) =>
    VLd (some (!((((kind_4 != 1) || (!r38)) || (decide (v43 < 1))) || (decide (v48 > 22))))) w14 ⟨p_8, 2, none⟩ [CT.int .i64] fun (v55 : Int) =>
    VIf (((((kind_4 != 1) || (!r38)) || (decide (v43 < 1))) || (decide (v48 > 22))) || (decide (v53 ≥ v55))) (
      VSt none w14 ⟨b2, 0, none⟩ [.int .i64 0, .int .i64 0, .int .i64 0, .string ByteArray.empty] fun (w15 : World) =>
      VLd none w15 ⟨b2, 0, none⟩ [CT.int .i64, CT.int .i64, CT.int .i64, CT.str] fun (res2_0 : Int) (res2_1 : Int) (res2_2 : Int) (res2_3 : ByteArray) =>
      R (.returned (.tuple #[.agg #[.int .i64 res2_0, .int .i64 res2_1, .int .i64 res2_2, .string res2_3], .int .i64 4])) w15
    ) (
      VLd none w14 ⟨p_8, 3, none⟩ [CT.str] fun (v60 : ByteArray) =>
      VSet ((v60.size : Nat) : Int) fun (n_9 : Int) =>
      VLd (some (!(decide (n_9 > 380)))) w14 ⟨p_8, 1, none⟩ [CT.int .i64] fun (v66 : Int) =>
      VLd (some (!(decide (n_9 > 380)))) w14 ⟨p_8, 2, none⟩ [CT.int .i64] fun (v68 : Int) =>
      VLd (some (!((decide (n_9 > 380)) || ((decide (v66 < (IntKind.wrap .i64 (v68 - 1)))) && (n_9 != 380))))) w14 ⟨p_8, 2, none⟩ [CT.int .i64] fun (v78 : Int) =>
      VLd (some (!(((decide (n_9 > 380)) || ((decide (v66 < (IntKind.wrap .i64 (v68 - 1)))) && (n_9 != 380))) || ((decide (v78 > 1)) && (n_9 == 0))))) w14 ⟨p_8, 1, none⟩ [CT.int .i64] fun (v87 : Int) =>
      VIf ((((decide (n_9 > 380)) || ((decide (v66 < (IntKind.wrap .i64 (v68 - 1)))) && (n_9 != 380))) || ((decide (v78 > 1)) && (n_9 == 0))) || (decide ((IntKind.wrap .i64 ((IntKind.wrap .i64 (v87 * 380)) + n_9)) > 8192))) (
        VSt none w14 ⟨b2, 0, none⟩ [.int .i64 0, .int .i64 0, .int .i64 0, .string ByteArray.empty] fun (w16 : World) =>
        VLd none w16 ⟨b2, 0, none⟩ [CT.int .i64, CT.int .i64, CT.int .i64, CT.str] fun (res2_0 : Int) (res2_1 : Int) (res2_2 : Int) (res2_3 : ByteArray) =>
        R (.returned (.tuple #[.agg #[.int .i64 res2_0, .int .i64 res2_1, .int .i64 res2_2, .string res2_3], .int .i64 4])) w16
      ) (
        VLd none w14 ⟨p_8, 0, none⟩ [CT.int .i64, CT.int .i64, CT.int .i64, CT.str] fun (v94_0 : Int) (v94_1 : Int) (v94_2 : Int) (v94_3 : ByteArray) =>
        VSt none w14 ⟨b2, 0, none⟩ [.int .i64 v94_0, .int .i64 v94_1, .int .i64 v94_2, .string v94_3] fun (w17 : World) =>
        VLd none w17 ⟨b2, 0, none⟩ [CT.int .i64, CT.int .i64, CT.int .i64, CT.str] fun (res2_0 : Int) (res2_1 : Int) (res2_2 : Int) (res2_3 : ByteArray) =>
        R (.returned (.tuple #[.agg #[.int .i64 res2_0, .int .i64 res2_1, .int .i64 res2_2, .string res2_3], .int .i64 0])) w17
      )
    )
  )
theorem sh_butteryref11_Read_ok (packet_0 : Sl) (w : World) (R : Ending → World → Prop) (h : sh_butteryref11_Read packet_0 w R) : Calls Try.prog 30 #[.slice packet_0.base packet_0.len packet_0.cap] w R :=
  calls_of_sh (args := [.slice packet_0.base packet_0.len packet_0.cap]) (.two .auto (.two .auto (.two (.two .auto (.two (.two .auto .auto) .auto)) (.two .auto (.two .auto (.two .auto (.two .auto (.two .auto (.two (.two .auto (.two (.two .auto .auto) .auto)) (.two .auto (.two (.two .auto (.two (.two .auto .auto) .auto)) (.two .auto .auto)))))))))))) Try.func30 (by kernel_rfl) (by kernel_rfl) (by kernel_rfl) h

/-- 31: (*buttery/butteryref11.Joiner).drop -/
def sh_butteryref11_Joiner_drop (j_0 : Option Addr) (at_1 : Int) (w : World) (R : Ending → World → Prop) : Prop :=
  VNN none j_0 fun (a7 : Addr) =>
  VLd none w a7 [CT.sl] fun (v9 : Sl) =>
  VCk none ((0 : Int) ≤ 0 ∧ (0 : Int) ≤ at_1 ∧ (at_1 : Int) ≤ ((v9.cap : Nat) : Int)) (
    VApp none w 82 4 64 #[.int .i64 0, .int .i64 0, .slice none 0 0, .slice none 0 0] none 0 0 ((Int.toNat at_1) - 0) (fun news => Seg w (cutB v9.base v9.cap 4 0) ((Int.toNat at_1) - 0) 4 news) fun (l12 : Sl) (w1 : World) =>
    VNN none j_0 fun (a16 : Addr) =>
    VLd none w1 a16 [CT.sl] fun (v18 : Sl) =>
    VCk none ((0 : Int) ≤ IntKind.wrap .i64 (at_1 + 1) ∧ (IntKind.wrap .i64 (at_1 + 1) : Int) ≤ ((v18.len : Nat) : Int) ∧ (((v18.len : Nat) : Int) : Int) ≤ ((v18.cap : Nat) : Int)) (
      VApp none w1 82 4 64 #[.int .i64 0, .int .i64 0, .slice none 0 0, .slice none 0 0] l12.base l12.len l12.cap (v18.len - (Int.toNat (IntKind.wrap .i64 (at_1 + 1)))) (fun news => Seg w1 (cutB v18.base v18.cap 4 (Int.toNat (IntKind.wrap .i64 (at_1 + 1)))) (v18.len - (Int.toNat (IntKind.wrap .i64 (at_1 + 1)))) 4 news) fun (l22 : Sl) (w2 : World) =>
      VNN none j_0 fun (a23 : Addr) =>
      VSt none w2 a23 [.slice l22.base l22.len l22.cap] fun (w3 : World) =>
      R (.returned (.tuple #[])) w3
    )
  )
theorem sh_butteryref11_Joiner_drop_ok (j_0 : Option Addr) (at_1 : Int) (w : World) (R : Ending → World → Prop) (h : sh_butteryref11_Joiner_drop j_0 at_1 w R) : Calls Try.prog 31 #[.pointer j_0, .int .i64 at_1] w R :=
  calls_of_sh (args := [.pointer j_0, .int .i64 at_1]) (.two .auto (.two .auto .auto)) Try.func31 (by kernel_rfl) (by kernel_rfl) (by kernel_rfl) h

/-- 32: bytes.Clone -/
def sh_bytes_Clone (b_0 : Sl) (w : World) (R : Ending → World → Prop) : Prop :=
  VIf b_0.base.isNone (
    R (.returned (.slice none 0 0)) w
  ) (
    VNw none w (.cells #[] 5) fun (b5 : Nat) (w1 : World) =>
    VApp none w1 5 1 1 #[.int .u8 0] (some ⟨b5, 0, none⟩) 0 0 b_0.len (fun news => Seg w1 b_0.base b_0.len 1 news) fun (l7 : Sl) (w2 : World) =>
    R (.returned (.slice l7.base l7.len l7.cap)) w2
  )
theorem sh_bytes_Clone_ok (b_0 : Sl) (w : World) (R : Ending → World → Prop) (h : sh_bytes_Clone b_0 w R) : Calls Try.prog 32 #[.slice b_0.base b_0.len b_0.cap] w R :=
  calls_of_sh (args := [.slice b_0.base b_0.len b_0.cap]) (.two .auto (.two (.two .auto (.two (.two .auto .auto) .auto)) (.two .auto .auto))) Try.func32 (by kernel_rfl) (by kernel_rfl) (by kernel_rfl) h

/-- 33: buttery/code.uvarint -/
def sh_code_uvarint (b_0 : Sl) (u_1 : Int) (w : World) (R : Ending → World → Prop) : Prop :=
  VCall none Try.prog 32 #[.slice b_0.base b_0.len b_0.cap] w (.slice none 0 0) fun (r7 : Sl) (w1 : World) =>
  ∃ I1 : Nat → Int → Sl → World → Prop, (∃ k, I1 k u_1 r7 w1) ∧ ∀ k1 (u_1 : Int) (out_5 : Sl) (w2 : World), I1 k1 u_1 out_5 w2 →
  VIf (decide (u_1 > 127)) (
    VNw none w2 (.cells #[.int .u8 (bOr .u8 (IntKind.wrap .u8 u_1) 128)] 5) fun (b16 : Nat) (w3 : World) =>
    VApp none w3 5 1 1 #[.int .u8 0] out_5.base out_5.len out_5.cap 1 (fun news => Seg w3 (some ⟨b16, 0, none⟩) 1 1 news) fun (l17 : Sl) (w4 : World) =>
    VSet (Int.fdiv u_1 (2 ^ 7)) fun (u_1' : Int) =>
    ∃ k', k' < k1 ∧ I1 k' u_1' l17 w4
  ) (
    VNw none w2 (.cells #[.int .u8 (IntKind.wrap .u8 u_1)] 5) fun (b21 : Nat) (w5 : World) =>
    VApp none w5 5 1 1 #[.int .u8 0] out_5.base out_5.len out_5.cap 1 (fun news => Seg w5 (some ⟨b21, 0, none⟩) 1 1 news) fun (l22 : Sl) (w6 : World) =>
    R (.returned (.slice l22.base l22.len l22.cap)) w6
  )
theorem sh_code_uvarint_ok (b_0 : Sl) (u_1 : Int) (w : World) (R : Ending → World → Prop) (h : sh_code_uvarint b_0 u_1 w R) : Calls Try.prog 33 #[.slice b_0.base b_0.len b_0.cap, .int .u64 u_1] w R :=
  calls_of_sh (args := [.slice b_0.base b_0.len b_0.cap, .int .u64 u_1]) (.two .auto (.two .auto (.two (.one (.loop [(1, .int .u64 0), (5, .slice none 0 0)] (.two (.two .auto (.two .auto .auto)) (.two (.one .auto) .auto)))) (.two .auto .auto)))) Try.func33 (by kernel_rfl) (by kernel_rfl) (by kernel_rfl) h

/-- 34: buttery/seal.four -/
def sh_seal_four (n_0 : Int) (w : World) (R : Ending → World → Prop) : Prop :=
  ∃ I1 : Nat → Sl → Int → World → Prop, (∃ k, I1 k ⟨none, 0, 0⟩ 0 w) ∧ ∀ k1 (out_3 : Sl) (x5 : Int) (w1 : World), I1 k1 out_3 x5 w1 →
  VIf (decide (x5 < 4)) (
    VSet x5 fun (i_4 : Int) =>
    VCk none ((0 : Int) ≤ (IntKind.wrap .i64 (8 * i_4))) (
      VNw none w1 (.cells #[.int .u8 (IntKind.wrap .u8 (Int.fdiv n_0 (2 ^ (min (Int.toNat (IntKind.wrap .i64 (8 * i_4))) (IntKind.bits .u32)))))] 5) fun (b14 : Nat) (w2 : World) =>
      VApp none w2 5 1 1 #[.int .u8 0] out_3.base out_3.len out_3.cap 1 (fun news => Seg w2 (some ⟨b14, 0, none⟩) 1 1 news) fun (l15 : Sl) (w3 : World) =>
      ∃ k', k' < k1 ∧ I1 k' l15 (IntKind.wrap .i64 (x5 + 1)) w3
    )
  ) (
    R (.returned (.slice out_3.base out_3.len out_3.cap)) w1
  )
theorem sh_seal_four_ok (n_0 : Int) (w : World) (R : Ending → World → Prop) (h : sh_seal_four n_0 w R) : Calls Try.prog 34 #[.int .u32 n_0] w R :=
  calls_of_sh (args := [.int .u32 n_0]) (.two .auto (.two .auto (.two (.two .auto (.one (.loop [(3, .slice none 0 0), (5, .int .i64 0)] (.two .auto (.two (.two .auto .auto) (.two (.one (.two .auto .auto)) .auto)))))) (.two .auto .auto)))) Try.func34 (by kernel_rfl) (by kernel_rfl) (by kernel_rfl) h

/-- 35: buttery/seal.Sum -/
def sh_seal_Sum (b_0 : Sl) (w : World) (R : Ending → World → Prop) : Prop :=
  VCall none Try.prog 51 #[.int .u32 4294967295] w (.nilFunc) fun (r3 : Value) (w1 : World) =>
  VDyn none Try.prog r3 #[.slice b_0.base b_0.len b_0.cap] w1 (.int .u32 0) fun (r5 : Int) (w2 : World) =>
  VSet r5 fun (v2 : Int) =>
  R (.returned (.int .u32 v2)) w2
theorem sh_seal_Sum_ok (b_0 : Sl) (w : World) (R : Ending → World → Prop) (h : sh_seal_Sum b_0 w R) : Calls Try.prog 35 #[.slice b_0.base b_0.len b_0.cap] w R :=
  calls_of_sh (args := [.slice b_0.base b_0.len b_0.cap]) (.two .auto (.two .auto .auto)) Try.func35 (by kernel_rfl) (by kernel_rfl) (by kernel_rfl) h

/-- 36: buttery/seal.Open -/
def sh_seal_Open (b_0 : Sl) (w : World) (R : Ending → World → Prop) : Prop :=
  VSet (IntKind.wrap .i64 (((b_0.len : Nat) : Int) - 4)) fun (n_5 : Int) =>
  ∀ (w1 : World), w1 = World.drew w →
  VIx (some (!((decide (n_5 < 3)) || (decide ((IntKind.wrap .i64 (n_5 - 3)) > 8192))))) b_0.base b_0.len 1 fun (a18 : Addr) =>
  VLd (some (!((decide (n_5 < 3)) || (decide ((IntKind.wrap .i64 (n_5 - 3)) > 8192))))) w1 (Addr.add a18 1) [CT.int .u8] fun (v19 : Int) =>
  VIx (some (!((decide (n_5 < 3)) || (decide ((IntKind.wrap .i64 (n_5 - 3)) > 8192))))) b_0.base b_0.len 2 fun (a22 : Addr) =>
  VLd (some (!((decide (n_5 < 3)) || (decide ((IntKind.wrap .i64 (n_5 - 3)) > 8192))))) w1 (Addr.add a22 2) [CT.int .u8] fun (v23 : Int) =>
  VIf (((decide (n_5 < 3)) || (decide ((IntKind.wrap .i64 (n_5 - 3)) > 8192))) || ((bOr .i64 (IntKind.wrap .i64 v19) (IntKind.wrap .i64 ((IntKind.wrap .i64 v23) * 2 ^ 8))) != (IntKind.wrap .i64 (n_5 - 3)))) (
    R (.returned (.tuple #[.int .u8 0, .slice none 0 0, .int .i64 4])) w1
  ) (
    ∀ (w2 : World), w2 = World.drew w1 →
    VCk none ((0 : Int) ≤ n_5 ∧ (n_5 : Int) ≤ ((b_0.len : Nat) : Int) ∧ (((b_0.len : Nat) : Int) : Int) ≤ ((b_0.cap : Nat) : Int)) (
      VCk none ((0 : Int) ≤ 0 ∧ (0 : Int) ≤ n_5 ∧ (n_5 : Int) ≤ ((b_0.cap : Nat) : Int)) (
        VCall none Try.prog 35 #[.slice (cutB b_0.base b_0.cap 1 0) ((Int.toNat n_5) - 0) (b_0.cap - 0)] w2 (.int .u32 0) fun (r37 : Int) (w3 : World) =>
        VCall none Try.prog 34 #[.int .u32 r37] w3 (.slice none 0 0) fun (r38 : Sl) (w4 : World) =>
        VCall none Try.prog 52 #[.slice (cutB b_0.base b_0.cap 1 (Int.toNat n_5)) (b_0.len - (Int.toNat n_5)) (b_0.cap - (Int.toNat n_5)), .slice r38.base r38.len r38.cap] w4 (.bool false) fun (r39 : Bool) (w5 : World) =>
        VIf (!r39) (
          R (.returned (.tuple #[.int .u8 0, .slice none 0 0, .int .i64 30])) w5
        ) (
          ∀ (w6 : World), w6 = World.drew w5 →
          VIx none b_0.base b_0.len 0 fun (a42 : Addr) =>
          VLd none w6 a42 [CT.int .u8] fun (v43 : Int) =>
          VCk none ((0 : Int) ≤ 3 ∧ (3 : Int) ≤ n_5 ∧ (n_5 : Int) ≤ ((b_0.cap : Nat) : Int)) (
            VCall none Try.prog 53 #[.slice (cutB b_0.base b_0.cap 1 3) ((Int.toNat n_5) - 3) (b_0.cap - 3)] w6 (.slice none 0 0) fun (r47 : Sl) (w7 : World) =>
            Rd w7 a42 [.int .u8 v43] ∧
            VSet v43 fun (v2 : Int) =>
            R (.returned (.tuple #[.int .u8 v2, .slice r47.base r47.len r47.cap, .int .i64 0])) w7
          )
        )
      )
    )
  )
theorem sh_seal_Open_ok (b_0 : Sl) (w : World) (R : Ending → World → Prop) (h : sh_seal_Open b_0 w R) : Calls Try.prog 36 #[.slice b_0.base b_0.len b_0.cap] w R :=
  calls_of_sh (args := [.slice b_0.base b_0.len b_0.cap]) (.two .auto (.two .auto (.two (.two .auto (.two (.two .auto .auto) .auto)) (.two (.two .auto (.two (.two .auto .auto) .auto)) (.two .auto .auto))))) Try.func36 (by kernel_rfl) (by kernel_rfl) (by kernel_rfl) h

/-- 37: buttery/code.NewReader -/
def sh_code_NewReader (b_0 : Sl) (w : World) (R : Ending → World → Prop) : Prop :=
  VCall none Try.prog 32 #[.slice b_0.base b_0.len b_0.cap] w (.slice none 0 0) fun (r4 : Sl) (w1 : World) =>
  VNw none w1 (.cells #[.slice r4.base r4.len r4.cap, .bool false] 104) fun (b6 : Nat) (w2 : World) =>
  VNw none w2 (.cells #[.pointer (some ⟨b6, 0, none⟩)] 106) fun (b8 : Nat) (w3 : World) =>
  R (.returned (.pointer (some ⟨b8, 0, none⟩))) w3
theorem sh_code_NewReader_ok (b_0 : Sl) (w : World) (R : Ending → World → Prop) (h : sh_code_NewReader b_0 w R) : Calls Try.prog 37 #[.slice b_0.base b_0.len b_0.cap] w R :=
  calls_of_sh (args := [.slice b_0.base b_0.len b_0.cap]) (.two .auto (.two .auto .auto)) Try.func37 (by kernel_rfl) (by kernel_rfl) (by kernel_rfl) h

/-- 38: (*buttery/code.Reader).Count -/
def sh_code_Reader_Count (r_0 : Option Addr) (most_1 : Int) (w : World) (R : Ending → World → Prop) : Prop :=
  VIf r_0.isNone (
    R (.returned (.int .i64 0)) w
  ) (
    VCall none Try.prog 54 #[.pointer r_0] w (.tuple #[.int .u64 0, .bool false]) fun (r11_0 : Int) (r11_1 : Bool) (w1 : World) =>
    VSet r11_0 fun (u_5 : Int) =>
    VCall none Try.prog 55 #[.pointer r_0, .int .i64 (IntKind.wrap .i64 u_5), .bool (((r11_1 && (decide (most_1 ≥ 0))) && (decide (u_5 ≤ 2147483647))) && (decide ((IntKind.wrap .i64 u_5) ≤ most_1)))] w1 (.int .i64 0) fun (r32 : Int) (w2 : World) =>
    VSet r32 fun (v4 : Int) =>
    R (.returned (.int .i64 v4)) w2
  )
theorem sh_code_Reader_Count_ok (r_0 : Option Addr) (most_1 : Int) (w : World) (R : Ending → World → Prop) (h : sh_code_Reader_Count r_0 most_1 w R) : Calls Try.prog 38 #[.pointer r_0, .int .i64 most_1] w R :=
  calls_of_sh (args := [.pointer r_0, .int .i64 most_1]) (.two .auto (.two (.two .auto (.two (.two .auto .auto) .auto)) (.two .auto (.two .auto .auto)))) Try.func38 (by kernel_rfl) (by kernel_rfl) (by kernel_rfl) h

/-- 39: (*buttery/code.Reader).Str -/
def sh_code_Reader_Str (r_0 : Option Addr) (most_1 : Int) (w : World) (R : Ending → World → Prop) : Prop :=
  VIf r_0.isNone (
    R (.returned (.string (ByteArray.mk #[]))) w
  ) (
    VCall none Try.prog 38 #[.pointer r_0, .int .i64 most_1] w (.int .i64 0) fun (r10 : Int) (w1 : World) =>
    VSet r10 fun (n_5 : Int) =>
    VCall none Try.prog 56 #[.pointer r_0] w1 (.bool false) fun (r12 : Bool) (w2 : World) =>
    VNN (some (!(!r12))) r_0 fun (a17 : Addr) =>
    VLd (some (!(!r12))) w2 a17 [CT.ptr] fun (v19 : Option Addr) =>
    VNN (some (!(!r12))) v19 fun (a20 : Addr) =>
    VLd (some (!(!r12))) w2 a20 [CT.sl] fun (v22 : Sl) =>
    VIf ((!r12) || (decide (n_5 > ((v22.len : Nat) : Int)))) (
      VCall none Try.prog 57 #[.pointer r_0, .string (ByteArray.mk #[]), .bool false] w2 (.string ByteArray.empty) fun (r27 : ByteArray) (w3 : World) =>
      R (.returned (.string r27)) w3
    ) (
      VNN none r_0 fun (a30 : Addr) =>
      VLd none w2 a30 [CT.ptr] fun (v32 : Option Addr) =>
      VCall none Try.prog 58 #[.pointer v32, .int .i64 n_5] w2 (.slice none 0 0) fun (r34 : Sl) (w4 : World) =>
      VStr none w4 r34.base r34.len fun (s35 : ByteArray) =>
      VCall none Try.prog 57 #[.pointer r_0, .string s35, .bool true] w4 (.string ByteArray.empty) fun (r36 : ByteArray) (w5 : World) =>
      R (.returned (.string r36)) w5
    )
  )
theorem sh_code_Reader_Str_ok (r_0 : Option Addr) (most_1 : Int) (w : World) (R : Ending → World → Prop) (h : sh_code_Reader_Str r_0 most_1 w R) : Calls Try.prog 39 #[.pointer r_0, .int .i64 most_1] w R :=
  calls_of_sh (args := [.pointer r_0, .int .i64 most_1]) (.two .auto (.two (.two .auto (.two (.two .auto .auto) .auto)) (.two .auto (.two (.two .auto (.two (.two .auto .auto) .auto)) (.two .auto .auto))))) Try.func39 (by kernel_rfl) (by kernel_rfl) (by kernel_rfl) h

/-- 40: (*buttery/code.Reader).Done -/
def sh_code_Reader_Done (r_0 : Option Addr) (w : World) (R : Ending → World → Prop) : Prop :=
  VCall none Try.prog 56 #[.pointer r_0] w (.bool false) fun (r4 : Bool) (w1 : World) =>
  VCall (some r4) Try.prog 59 #[.pointer r_0] w1 (.int .i64 0) fun (r7 : Int) (w2 : World) =>
  R (.returned (.bool (r4 && (r7 == 0)))) w2
theorem sh_code_Reader_Done_ok (r_0 : Option Addr) (w : World) (R : Ending → World → Prop) (h : sh_code_Reader_Done r_0 w R) : Calls Try.prog 40 #[.pointer r_0] w R :=
  calls_of_sh (args := [.pointer r_0]) (.two .auto (.two .auto .auto)) Try.func40 (by kernel_rfl) (by kernel_rfl) (by kernel_rfl) h

/-- 41: slices.DeleteFunc of  of  of 2int, of 2int -/
def sh_slices_DeleteFunc (s_0 : Sl) (del_1 : Value) (w : World) (R : Ending → World → Prop) : Prop :=
  VCall none Try.prog 60 #[.slice s_0.base s_0.len s_0.cap, del_1] w (.int .i64 0) fun (r10 : Int) (w1 : World) =>
  VSet r10 fun (i_5 : Int) =>
  VIf (i_5 == (-1)) (
    R (.returned (.slice s_0.base s_0.len s_0.cap)) w1
  ) (
    VSet (IntKind.wrap .i64 (i_5 + 1)) fun (j_6 : Int) =>
    ∃ I1 : Nat → Int → Int → World → Prop, (∃ k, I1 k i_5 j_6 w1) ∧ ∀ k1 (i_5' : Int) (j_6' : Int) (w2 : World), I1 k1 i_5' j_6' w2 →
    VIf (decide (j_6' < ((s_0.len : Nat) : Int))) (
      ∃ Φ2 : Int → World → Prop, (
        VIx none s_0.base s_0.len j_6' fun (a24 : Addr) =>
        VLd none w2 (Addr.add a24 ((Int.toNat j_6') * 2)) [CT.int .i64, CT.int .i64] fun (v25_0 : Int) (v25_1 : Int) =>
        VNw none w2 (.cells #[.int .i64 0, .int .i64 0] 69) fun (v_7 : Nat) (w3 : World) =>
        VSt none w3 ⟨v_7, 0, none⟩ [.int .i64 v25_0, .int .i64 v25_1] fun (w4 : World) =>
        VLd none w4 ⟨v_7, 0, none⟩ [CT.int .i64, CT.int .i64] fun (v27_0 : Int) (v27_1 : Int) =>
        VDyn none Try.prog del_1 #[.agg #[.int .i64 v27_0, .int .i64 v27_1]] w4 (.bool false) fun (r28 : Bool) (w5 : World) =>
        VIf (!r28) (
          VLd none w5 ⟨v_7, 0, none⟩ [CT.int .i64, CT.int .i64] fun (v32_0 : Int) (v32_1 : Int) =>
          VIx none s_0.base s_0.len i_5' fun (a33 : Addr) =>
          VSt none w5 (Addr.add a33 ((Int.toNat i_5') * 2)) [.int .i64 v32_0, .int .i64 v32_1] fun (w6 : World) =>
          VSet (IntKind.wrap .i64 (i_5' + 1)) fun (i_5_3 : Int) =>
          Φ2 i_5_3 w6
        ) (
          Φ2 i_5' w5
        )
      ) ∧ ∀ (i_5'' : Int) (w7 : World), Φ2 i_5'' w7 →
      VSet (IntKind.wrap .i64 (j_6' + 1)) fun (j_6'' : Int) =>
      ∃ k', k' < k1 ∧ I1 k' i_5'' j_6'' w7
    ) (
      VCk none ((0 : Int) ≤ i_5' ∧ (i_5' : Int) ≤ ((s_0.len : Nat) : Int) ∧ (((s_0.len : Nat) : Int) : Int) ≤ ((s_0.cap : Nat) : Int)) (
        VRun none Try.prog (Builtin.clear_ #[62] 0 #[.slice (cutB s_0.base s_0.cap 2 (Int.toNat i_5')) (s_0.len - (Int.toNat i_5')) (s_0.cap - (Int.toNat i_5'))]) w2 (.tuple #[]) fun (w8 : World) =>
        VCk none ((0 : Int) ≤ 0 ∧ (0 : Int) ≤ i_5' ∧ (i_5' : Int) ≤ ((s_0.cap : Nat) : Int)) (
          R (.returned (.slice (cutB s_0.base s_0.cap 2 0) ((Int.toNat i_5') - 0) (s_0.cap - 0))) w8
        )
      )
    )
  )
theorem sh_slices_DeleteFunc_ok (s_0 : Sl) (del_1 : Value) (w : World) (R : Ending → World → Prop) (h : sh_slices_DeleteFunc s_0 del_1 w R) : Calls Try.prog 41 #[.slice s_0.base s_0.len s_0.cap, del_1] w R :=
  calls_of_sh (args := [.slice s_0.base s_0.len s_0.cap, del_1]) (.two .auto (.two .auto (.two (.two .auto (.two (.two .auto .auto) .auto)) (.two (.two .auto (.one (.loop [(5, .int .i64 0), (6, .int .i64 0)] (.two (.two .auto (.two .auto .auto)) (.two (.bjoin [(5, .int .i64 0)] (.two .auto (.two .auto (.two (.two .auto .auto) .auto)))) .auto))))) (.two .auto (.two .auto .auto)))))) Try.func41 (by kernel_rfl) (by kernel_rfl) (by kernel_rfl) h

/-- 42: (*buttery/parts.Joiner).forget$1 -/
def sh_parts_Joiner_forget_1 (x_0_0 : Int) (x_0_1 : Int) (cap0 : Addr) (w : World) (R : Ending → World → Prop) : Prop :=
  VNw none w (.cells #[.int .i64 x_0_0, .int .i64 x_0_1] 69) fun (x_2 : Nat) (w1 : World) =>
  VLd none w1 ⟨x_2, 0, none⟩ [CT.int .i64, CT.int .i64] fun (v4_0 : Int) (v4_1 : Int) =>
  VLd none w1 cap0 [CT.int .i64, CT.int .i64] fun (v5_0 : Int) (v5_1 : Int) =>
  R (.returned (.bool ((v4_0 == v5_0) && (v4_1 == v5_1)))) w1
theorem sh_parts_Joiner_forget_1_ok (x_0_0 : Int) (x_0_1 : Int) (cap0 : Addr) (w : World) (R : Ending → World → Prop) (h : sh_parts_Joiner_forget_1 x_0_0 x_0_1 cap0 w R) : Calls Try.prog 42 #[.agg #[.int .i64 x_0_0, .int .i64 x_0_1], .pointer (some cap0)] w R :=
  calls_of_sh (args := [.agg #[.int .i64 x_0_0, .int .i64 x_0_1], .pointer (some cap0)]) (.two .auto (.two .auto .auto)) Try.func42 (by kernel_rfl) (by kernel_rfl) (by kernel_rfl) h

/-- 43: buttery/butteryref01.with -/
def sh_butteryref01_with (b_0 : Sl) (c_1 : Sl) (w : World) (R : Ending → World → Prop) : Prop :=
  VNw none w (.cells #[] 5) fun (b6 : Nat) (w1 : World) =>
  VApp none w1 5 1 1 #[.int .u8 0] (some ⟨b6, 0, none⟩) 0 0 b_0.len (fun news => Seg w1 b_0.base b_0.len 1 news) fun (l8 : Sl) (w2 : World) =>
  VApp none w2 5 1 1 #[.int .u8 0] l8.base l8.len l8.cap c_1.len (fun news => Seg w2 c_1.base c_1.len 1 news) fun (l11 : Sl) (w3 : World) =>
  R (.returned (.slice l11.base l11.len l11.cap)) w3
theorem sh_butteryref01_with_ok (b_0 : Sl) (c_1 : Sl) (w : World) (R : Ending → World → Prop) (h : sh_butteryref01_with b_0 c_1 w R) : Calls Try.prog 43 #[.slice b_0.base b_0.len b_0.cap, .slice c_1.base c_1.len c_1.cap] w R :=
  calls_of_sh (args := [.slice b_0.base b_0.len b_0.cap, .slice c_1.base c_1.len c_1.cap]) (.two .auto (.two .auto (.two .auto .auto))) Try.func43 (by kernel_rfl) (by kernel_rfl) (by kernel_rfl) h

/-- 44: buttery/butteryref01.Uint -/
def sh_butteryref01_Uint (u_0 : Int) (w : World) (R : Ending → World → Prop) : Prop :=
  ∃ I1 : Nat → Int → Sl → World → Prop, (∃ k, I1 k u_0 ⟨none, 0, 0⟩ w) ∧ ∀ k1 (u_0 : Int) (out_3 : Sl) (w1 : World), I1 k1 u_0 out_3 w1 →
  VIf (decide (u_0 ≥ 128)) (
    VNw none w1 (.cells #[.int .u8 (IntKind.wrap .u8 (IntKind.wrap .u64 ((Int.tmod u_0 128) + 128)))] 5) fun (b11 : Nat) (w2 : World) =>
    VApp none w2 5 1 1 #[.int .u8 0] out_3.base out_3.len out_3.cap 1 (fun news => Seg w2 (some ⟨b11, 0, none⟩) 1 1 news) fun (l12 : Sl) (w3 : World) =>
    VSet (IntKind.wrap .u64 (Int.tdiv u_0 128)) fun (u_0' : Int) =>
    ∃ k', k' < k1 ∧ I1 k' u_0' l12 w3
  ) (
    VNw none w1 (.cells #[.int .u8 (IntKind.wrap .u8 u_0)] 5) fun (b18 : Nat) (w4 : World) =>
    VApp none w4 5 1 1 #[.int .u8 0] out_3.base out_3.len out_3.cap 1 (fun news => Seg w4 (some ⟨b18, 0, none⟩) 1 1 news) fun (l19 : Sl) (w5 : World) =>
    R (.returned (.slice l19.base l19.len l19.cap)) w5
  )
theorem sh_butteryref01_Uint_ok (u_0 : Int) (w : World) (R : Ending → World → Prop) (h : sh_butteryref01_Uint u_0 w R) : Calls Try.prog 44 #[.int .u64 u_0] w R :=
  calls_of_sh (args := [.int .u64 u_0]) (.two .auto (.two .auto (.two (.one (.loop [(0, .int .u64 0), (3, .slice none 0 0)] (.two (.two .auto (.two .auto .auto)) (.one (.two .auto .auto))))) (.two .auto .auto)))) Try.func44 (by kernel_rfl) (by kernel_rfl) (by kernel_rfl) h

/-- 45: buttery/butteryref02.on -/
def sh_butteryref02_on (r_0 : Int) (b_1 : Sl) (w : World) (R : Ending → World → Prop) : Prop :=
  ∃ I1 : Nat → Int → Int → World → Prop, (∃ k, I1 k r_0 0 w) ∧ ∀ k1 (r_0 : Int) (i_5 : Int) (w1 : World), I1 k1 r_0 i_5 w1 →
  VIf (decide (i_5 < ((b_1.len : Nat) : Int))) (
    ∃ I2 : Nat → Int → Int → World → Prop, (∃ k, I2 k r_0 0 w1) ∧ ∀ k2 (r_0' : Int) (k_6 : Int) (w2 : World), I2 k2 r_0' k_6 w2 →
    VIf (decide (k_6 < 8)) (
      ∃ Φ3 : Int → World → Prop, (
        VIx none b_1.base b_1.len i_5 fun (a21 : Addr) =>
        VLd none w2 (Addr.add a21 ((Int.toNat i_5) * 1)) [CT.int .u8] fun (v22 : Int) =>
        VCk none ((0 : Int) ≤ k_6) (
          VSet (bAnd .u32 (bXor .u32 r_0' (IntKind.wrap .u32 (Int.fdiv v22 (2 ^ (min (Int.toNat k_6) (IntKind.bits .u8)))))) 1) fun (bit_7 : Int) =>
          VSet (Int.fdiv r_0' (2 ^ 1)) fun (r_0_3 : Int) =>
          VIf (bit_7 == 1) (
            VSet (bXor .u32 r_0_3 3988292384) fun (r_0_4 : Int) =>
            Φ3 r_0_4 w2
          ) (
            Φ3 r_0_3 w2
          )
        )
      ) ∧ ∀ (r_0'' : Int) (w3 : World), Φ3 r_0'' w3 →
      VSet (IntKind.wrap .i64 (k_6 + 1)) fun (k_6' : Int) =>
      ∃ k', k' < k2 ∧ I2 k' r_0'' k_6' w3
    ) (
      VSet (IntKind.wrap .i64 (i_5 + 1)) fun (i_5' : Int) =>
      ∃ k', k' < k1 ∧ I1 k' r_0' i_5' w2
    )
  ) (
    VSet r_0 fun (v4 : Int) =>
    R (.returned (.int .u32 v4)) w1
  )
theorem sh_butteryref02_on_ok (r_0 : Int) (b_1 : Sl) (w : World) (R : Ending → World → Prop) (h : sh_butteryref02_on r_0 b_1 w R) : Calls Try.prog 45 #[.int .u32 r_0, .slice b_1.base b_1.len b_1.cap] w R :=
  calls_of_sh (args := [.int .u32 r_0, .slice b_1.base b_1.len b_1.cap]) (.two .auto (.two (.two .auto (.one (.loop [(0, .int .u32 0), (5, .int .i64 0)] (.two (.two .auto (.two .auto .auto)) (.two (.one (.two .auto (.one (.loop [(0, .int .u32 0), (6, .int .i64 0)] (.two (.two .auto (.two .auto .auto)) (.two (.bjoin [(0, .int .u32 0)] (.two .auto (.two .auto (.two .auto (.two .auto .auto))))) .auto)))))) .auto))))) (.two .auto .auto))) Try.func45 (by kernel_rfl) (by kernel_rfl) (by kernel_rfl) h

/-- 46: buttery/butteryref02.Open -/
def sh_butteryref02_Open (b_0 : Sl) (w : World) (R : Ending → World → Prop) : Prop :=
  ∀ (w1 : World), w1 = World.drew w →
  VIx (some (!((decide (((b_0.len : Nat) : Int) < 7)) || (decide (((b_0.len : Nat) : Int) > 8199))))) b_0.base b_0.len 1 fun (a21 : Addr) =>
  VLd (some (!((decide (((b_0.len : Nat) : Int) < 7)) || (decide (((b_0.len : Nat) : Int) > 8199))))) w1 (Addr.add a21 1) [CT.int .u8] fun (v22 : Int) =>
  VIx (some (!((decide (((b_0.len : Nat) : Int) < 7)) || (decide (((b_0.len : Nat) : Int) > 8199))))) b_0.base b_0.len 2 fun (a25 : Addr) =>
  VLd (some (!((decide (((b_0.len : Nat) : Int) < 7)) || (decide (((b_0.len : Nat) : Int) > 8199))))) w1 (Addr.add a25 2) [CT.int .u8] fun (v26 : Int) =>
  VIf (((decide (((b_0.len : Nat) : Int) < 7)) || (decide (((b_0.len : Nat) : Int) > 8199))) || ((IntKind.wrap .i64 (((b_0.len : Nat) : Int) - 7)) != (IntKind.wrap .i64 ((IntKind.wrap .i64 v22) + (IntKind.wrap .i64 (256 * (IntKind.wrap .i64 v26))))))) (
    R (.returned (.tuple #[.int .u8 0, .slice none 0 0, .int .i64 4])) w1
  ) (
    VSet (IntKind.wrap .i64 (((b_0.len : Nat) : Int) - 4)) fun (n_5 : Int) =>
    VCk none ((0 : Int) ≤ 0 ∧ (0 : Int) ≤ n_5 ∧ (n_5 : Int) ≤ ((b_0.cap : Nat) : Int)) (
      VCall none Try.prog 29 #[.slice (cutB b_0.base b_0.cap 1 0) ((Int.toNat n_5) - 0) (b_0.cap - 0)] w1 (.int .u32 0) fun (r38 : Int) (w2 : World) =>
      VSet r38 fun (s_6 : Int) =>
      ∃ I1 : Nat → Int → World → Prop, (∃ k, I1 k 0 w2) ∧ ∀ k1 (i_7 : Int) (w3 : World), I1 k1 i_7 w3 →
      VIf (decide (i_7 < 4)) (
        ∀ (w4 : World), w4 = World.drew w3 →
        VIx none b_0.base b_0.len (IntKind.wrap .i64 (n_5 + i_7)) fun (a47 : Addr) =>
        VLd none w4 (Addr.add a47 ((Int.toNat (IntKind.wrap .i64 (n_5 + i_7))) * 1)) [CT.int .u8] fun (v48 : Int) =>
        VCk none ((0 : Int) ≤ (IntKind.wrap .i64 (8 * i_7))) (
          VIf (v48 != (IntKind.wrap .u8 (Int.fdiv s_6 (2 ^ (min (Int.toNat (IntKind.wrap .i64 (8 * i_7))) (IntKind.bits .u32)))))) (
            R (.returned (.tuple #[.int .u8 0, .slice none 0 0, .int .i64 30])) w4
          ) (
            VSet (IntKind.wrap .i64 (i_7 + 1)) fun (i_7' : Int) =>
            ∃ k', k' < k1 ∧ I1 k' i_7' w4
          )
        )
      ) (
        ∀ (w5 : World), w5 = World.drew w3 →
        VIx none b_0.base b_0.len 0 fun (a56 : Addr) =>
        VLd none w5 a56 [CT.int .u8] fun (v57 : Int) =>
        VCk none ((0 : Int) ≤ 3 ∧ (3 : Int) ≤ n_5 ∧ (n_5 : Int) ≤ ((b_0.cap : Nat) : Int)) (
          VNw none w5 (.cells #[] 5) fun (b58 : Nat) (w6 : World) =>
          Rd w6 a56 [.int .u8 v57] ∧
          VApp none w6 5 1 1 #[.int .u8 0] (some ⟨b58, 0, none⟩) 0 0 ((Int.toNat n_5) - 3) (fun news => Seg w6 (cutB b_0.base b_0.cap 1 3) ((Int.toNat n_5) - 3) 1 news) fun (l62 : Sl) (w7 : World) =>
          Rd w7 a56 [.int .u8 v57] ∧
          VSet v57 fun (v2 : Int) =>
          R (.returned (.tuple #[.int .u8 v2, .slice l62.base l62.len l62.cap, .int .i64 0])) w7
        )
      )
    )
  )
theorem sh_butteryref02_Open_ok (b_0 : Sl) (w : World) (R : Ending → World → Prop) (h : sh_butteryref02_Open b_0 w R) : Calls Try.prog 46 #[.slice b_0.base b_0.len b_0.cap] w R :=
  calls_of_sh (args := [.slice b_0.base b_0.len b_0.cap]) (.two .auto (.two (.two .auto (.two (.two .auto .auto) .auto)) (.two .auto (.two .auto (.two (.two .auto (.one (.loop [(7, .int .i64 0)] (.two (.two .auto (.two .auto .auto)) (.two (.one (.two .auto (.two (.two .auto .auto) .auto))) .auto))))) (.two .auto .auto)))))) Try.func46 (by kernel_rfl) (by kernel_rfl) (by kernel_rfl) h

/-- 47: buttery/butteryref01.NewReader -/
def sh_butteryref01_NewReader (b_0 : Sl) (w : World) (R : Ending → World → Prop) : Prop :=
  VNw none w (.cells #[] 5) fun (b3 : Nat) (w1 : World) =>
  VApp none w1 5 1 1 #[.int .u8 0] (some ⟨b3, 0, none⟩) 0 0 b_0.len (fun news => Seg w1 b_0.base b_0.len 1 news) fun (l5 : Sl) (w2 : World) =>
  VNw none w2 (.cells #[.slice l5.base l5.len l5.cap, .bool false] 114) fun (b7 : Nat) (w3 : World) =>
  R (.returned (.pointer (some ⟨b7, 0, none⟩))) w3
theorem sh_butteryref01_NewReader_ok (b_0 : Sl) (w : World) (R : Ending → World → Prop) (h : sh_butteryref01_NewReader b_0 w R) : Calls Try.prog 47 #[.slice b_0.base b_0.len b_0.cap] w R :=
  calls_of_sh (args := [.slice b_0.base b_0.len b_0.cap]) (.two .auto (.two .auto .auto)) Try.func47 (by kernel_rfl) (by kernel_rfl) (by kernel_rfl) h

/-- 48: (*buttery/butteryref01.Reader).Count -/
def sh_butteryref01_Reader_Count (r_0 : Option Addr) (most_1 : Int) (w : World) (R : Ending → World → Prop) : Prop :=
  VCall none Try.prog 61 #[.pointer r_0] w (.int .u64 0) fun (r7 : Int) (w1 : World) =>
  VSet r7 fun (u_5 : Int) =>
  VNN none r_0 fun (a9 : Addr) =>
  VLd none w1 (Addr.add a9 1) [CT.bool] fun (v11 : Bool) =>
  VIf (((v11 || (decide (most_1 < 0))) || (decide (u_5 > 2147483647))) || (decide ((IntKind.wrap .i64 u_5) > most_1))) (
    VCall none Try.prog 62 #[.pointer r_0] w1 (.tuple #[]) fun (w2 : World) =>
    R (.returned (.int .i64 0)) w2
  ) (
    VSet (IntKind.wrap .i64 u_5) fun (v4 : Int) =>
    R (.returned (.int .i64 v4)) w1
  )
theorem sh_butteryref01_Reader_Count_ok (r_0 : Option Addr) (most_1 : Int) (w : World) (R : Ending → World → Prop) (h : sh_butteryref01_Reader_Count r_0 most_1 w R) : Calls Try.prog 48 #[.pointer r_0, .int .i64 most_1] w R :=
  calls_of_sh (args := [.pointer r_0, .int .i64 most_1]) (.two .auto (.two .auto (.two (.two .auto (.two (.two .auto (.two .auto .auto)) .auto)) (.two .auto .auto)))) Try.func48 (by kernel_rfl) (by kernel_rfl) (by kernel_rfl) h

/-- 49: (*buttery/butteryref01.Reader).Str -/
def sh_butteryref01_Reader_Str (r_0 : Option Addr) (most_1 : Int) (w : World) (R : Ending → World → Prop) : Prop :=
  VCall none Try.prog 48 #[.pointer r_0, .int .i64 most_1] w (.int .i64 0) fun (r9 : Int) (w1 : World) =>
  VSet r9 fun (n_5 : Int) =>
  VNN none r_0 fun (a11 : Addr) =>
  VLd none w1 (Addr.add a11 1) [CT.bool] fun (v13 : Bool) =>
  VNN (some (!v13)) r_0 fun (a17 : Addr) =>
  VLd (some (!v13)) w1 a17 [CT.sl] fun (v19 : Sl) =>
  VIf (v13 || (decide (n_5 > ((v19.len : Nat) : Int)))) (
    VCall none Try.prog 62 #[.pointer r_0] w1 (.tuple #[]) fun (w2 : World) =>
    R (.returned (.string (ByteArray.mk #[]))) w2
  ) (
    VNN none r_0 fun (a26 : Addr) =>
    VLd none w1 a26 [CT.sl] fun (v28 : Sl) =>
    VCk none ((0 : Int) ≤ 0 ∧ (0 : Int) ≤ n_5 ∧ (n_5 : Int) ≤ ((v28.cap : Nat) : Int)) (
      VStr none w1 (cutB v28.base v28.cap 1 0) ((Int.toNat n_5) - 0) fun (s31 : ByteArray) =>
      VNN none r_0 fun (a34 : Addr) =>
      VLd none w1 a34 [CT.sl] fun (v36 : Sl) =>
      VCk none ((0 : Int) ≤ n_5 ∧ (n_5 : Int) ≤ ((v36.len : Nat) : Int) ∧ (((v36.len : Nat) : Int) : Int) ≤ ((v36.cap : Nat) : Int)) (
        VNN none r_0 fun (a39 : Addr) =>
        VSt none w1 a39 [.slice (cutB v36.base v36.cap 1 (Int.toNat n_5)) (v36.len - (Int.toNat n_5)) (v36.cap - (Int.toNat n_5))] fun (w3 : World) =>
        R (.returned (.string s31)) w3
      )
    )
  )
theorem sh_butteryref01_Reader_Str_ok (r_0 : Option Addr) (most_1 : Int) (w : World) (R : Ending → World → Prop) (h : sh_butteryref01_Reader_Str r_0 most_1 w R) : Calls Try.prog 49 #[.pointer r_0, .int .i64 most_1] w R :=
  calls_of_sh (args := [.pointer r_0, .int .i64 most_1]) (.two .auto (.two .auto (.two (.two .auto (.two (.two .auto (.two .auto .auto)) .auto)) (.two .auto (.two .auto (.two .auto .auto)))))) Try.func49 (by kernel_rfl) (by kernel_rfl) (by kernel_rfl) h

/-- 50: (*buttery/butteryref01.Reader).Done -/
def sh_butteryref01_Reader_Done (r_0 : Option Addr) (w : World) (R : Ending → World → Prop) : Prop :=
  VNN none r_0 fun (a4 : Addr) =>
  VLd none w (Addr.add a4 1) [CT.bool] fun (v6 : Bool) =>
  VNN (some (!v6)) r_0 fun (a10 : Addr) =>
  VLd (some (!v6)) w a10 [CT.sl] fun (v12 : Sl) =>
  R (.returned (.bool ((!v6) && (((v12.len : Nat) : Int) == 0)))) w
theorem sh_butteryref01_Reader_Done_ok (r_0 : Option Addr) (w : World) (R : Ending → World → Prop) (h : sh_butteryref01_Reader_Done r_0 w R) : Calls Try.prog 50 #[.pointer r_0] w R :=
  calls_of_sh (args := [.pointer r_0]) (.two .auto (.two .auto .auto)) Try.func50 (by kernel_rfl) (by kernel_rfl) (by kernel_rfl) h

/-- 51: buttery/seal.summer -/
def sh_seal_summer (r_0 : Int) (w : World) (R : Ending → World → Prop) : Prop :=
  VNw none w (.cells #[.int .u32 r_0] 75) fun (r_1 : Nat) (w1 : World) =>
  R (.returned (.func (.func 63) #[] #[.pointer (some ⟨r_1, 0, none⟩)])) w1
theorem sh_seal_summer_ok (r_0 : Int) (w : World) (R : Ending → World → Prop) (h : sh_seal_summer r_0 w R) : Calls Try.prog 51 #[.int .u32 r_0] w R :=
  calls_of_sh (args := [.int .u32 r_0]) (.two .auto (.two .auto .auto)) Try.func51 (by kernel_rfl) (by kernel_rfl) (by kernel_rfl) h

/-- 52: slices.Equal of  of byte,byte -/
def sh_slices_Equal (s1_0 : Sl) (s2_1 : Sl) (w : World) (R : Ending → World → Prop) : Prop :=
  VIf (((s1_0.len : Nat) : Int) != ((s2_1.len : Nat) : Int)) (
    R (.returned (.bool false)) w
  ) (
    ∃ I1 : Nat → Int → World → Prop, (∃ k, I1 k 0 w) ∧ ∀ k1 (x13 : Int) (w1 : World), I1 k1 x13 w1 →
    VIf (decide (x13 < ((s1_0.len : Nat) : Int))) (
      VSet x13 fun (i_5 : Int) =>
      ∀ (w2 : World), w2 = World.drew w1 →
      VIx none s1_0.base s1_0.len i_5 fun (a18 : Addr) =>
      VLd none w2 (Addr.add a18 ((Int.toNat i_5) * 1)) [CT.int .u8] fun (v19 : Int) =>
      VIx none s2_1.base s2_1.len i_5 fun (a22 : Addr) =>
      VLd none w2 (Addr.add a22 ((Int.toNat i_5) * 1)) [CT.int .u8] fun (v23 : Int) =>
      VIf (v19 != v23) (
        R (.returned (.bool false)) w2
      ) (
        ∃ k', k' < k1 ∧ I1 k' (IntKind.wrap .i64 (x13 + 1)) w2
      )
    ) (
      R (.returned (.bool true)) w1
    )
  )
theorem sh_slices_Equal_ok (s1_0 : Sl) (s2_1 : Sl) (w : World) (R : Ending → World → Prop) (h : sh_slices_Equal s1_0 s2_1 w R) : Calls Try.prog 52 #[.slice s1_0.base s1_0.len s1_0.cap, .slice s2_1.base s2_1.len s2_1.cap] w R :=
  calls_of_sh (args := [.slice s1_0.base s1_0.len s1_0.cap, .slice s2_1.base s2_1.len s2_1.cap]) (.two .auto (.two (.two .auto (.two (.two .auto .auto) .auto)) (.two (.two .auto (.one (.loop [(13, .int .i64 0)] (.two .auto (.two (.two .auto .auto) (.two (.one (.two .auto (.two .auto (.two (.two .auto .auto) .auto)))) .auto)))))) (.two .auto .auto)))) Try.func52 (by kernel_rfl) (by kernel_rfl) (by kernel_rfl) h

/-- 53: slices.Clone of  of byte,byte -/
def sh_slices_Clone (s_0 : Sl) (w : World) (R : Ending → World → Prop) : Prop :=
  VIf s_0.base.isNone (
    R (.returned (.slice none 0 0)) w
  ) (
    VNw none w (.cells #[] 5) fun (b5 : Nat) (w1 : World) =>
    VApp none w1 5 1 1 #[.int .u8 0] (some ⟨b5, 0, none⟩) 0 0 s_0.len (fun news => Seg w1 s_0.base s_0.len 1 news) fun (l7 : Sl) (w2 : World) =>
    R (.returned (.slice l7.base l7.len l7.cap)) w2
  )
theorem sh_slices_Clone_ok (s_0 : Sl) (w : World) (R : Ending → World → Prop) (h : sh_slices_Clone s_0 w R) : Calls Try.prog 53 #[.slice s_0.base s_0.len s_0.cap] w R :=
  calls_of_sh (args := [.slice s_0.base s_0.len s_0.cap]) (.two .auto (.two (.two .auto (.two (.two .auto .auto) .auto)) (.two .auto .auto))) Try.func53 (by kernel_rfl) (by kernel_rfl) (by kernel_rfl) h

/-- 54: (*buttery/code.Reader).uvarint -/
def sh_code_Reader_uvarint (r_0 : Option Addr) (w : World) (R : Ending → World → Prop) : Prop :=
  VCall none Try.prog 56 #[.pointer r_0] w (.bool false) fun (r7 : Bool) (w1 : World) =>
  VIf (!r7) (
    R (.returned (.tuple #[.int .u64 0, .bool false])) w1
  ) (
    VNN none r_0 fun (a11 : Addr) =>
    VLd none w1 a11 [CT.ptr] fun (v13 : Option Addr) =>
    VNN none v13 fun (a14 : Addr) =>
    VLd none w1 a14 [CT.sl] fun (v16 : Sl) =>
    VCall none Try.prog 64 #[.slice v16.base v16.len v16.cap] w1 (.tuple #[.int .u64 0, .int .i64 0]) fun (r17_0 : Int) (r17_1 : Int) (w2 : World) =>
    VSet r17_0 fun (u_4 : Int) =>
    VSet r17_1 fun (n_5 : Int) =>
    VNN (some ((!(decide (n_5 ≤ 0))) && (decide (n_5 > 1)))) r_0 fun (a27 : Addr) =>
    VLd (some ((!(decide (n_5 ≤ 0))) && (decide (n_5 > 1)))) w2 a27 [CT.ptr] fun (v29 : Option Addr) =>
    VNN (some ((!(decide (n_5 ≤ 0))) && (decide (n_5 > 1)))) v29 fun (a30 : Addr) =>
    VLd (some ((!(decide (n_5 ≤ 0))) && (decide (n_5 > 1)))) w2 a30 [CT.sl] fun (v32 : Sl) =>
    VIx (some ((!(decide (n_5 ≤ 0))) && (decide (n_5 > 1)))) v32.base v32.len (IntKind.wrap .i64 (n_5 - 1)) fun (a35 : Addr) =>
    VLd (some ((!(decide (n_5 ≤ 0))) && (decide (n_5 > 1)))) w2 (Addr.add a35 ((Int.toNat (IntKind.wrap .i64 (n_5 - 1))) * 1)) [CT.int .u8] fun (v36 : Int) =>
    VIf ((decide (n_5 ≤ 0)) || ((decide (n_5 > 1)) && (v36 == 0))) (
      R (.returned (.tuple #[.int .u64 0, .bool false])) w2
    ) (
      VNN none r_0 fun (a41 : Addr) =>
      VLd none w2 a41 [CT.ptr] fun (v43 : Option Addr) =>
      VCall none Try.prog 58 #[.pointer v43, .int .i64 n_5] w2 (.slice none 0 0) fun (r45 : Sl) (w3 : World) =>
      VSet u_4 fun (v2 : Int) =>
      R (.returned (.tuple #[.int .u64 v2, .bool true])) w3
    )
  )
theorem sh_code_Reader_uvarint_ok (r_0 : Option Addr) (w : World) (R : Ending → World → Prop) (h : sh_code_Reader_uvarint r_0 w R) : Calls Try.prog 54 #[.pointer r_0] w R :=
  calls_of_sh (args := [.pointer r_0]) (.two .auto (.two (.two .auto (.two (.two .auto .auto) .auto)) (.two .auto (.two (.two .auto (.two (.two .auto .auto) .auto)) (.two .auto (.two .auto .auto)))))) Try.func54 (by kernel_rfl) (by kernel_rfl) (by kernel_rfl) h

/-- 55: buttery/code.told of int -/
def sh_code_told (r_0 : Option Addr) (v_1 : Int) (ok_2 : Bool) (w : World) (R : Ending → World → Prop) : Prop :=
  ∃ Φ1 : World → Prop, (
    VIf (!ok_2) (
      VNN none r_0 fun (a11 : Addr) =>
      VLd none w a11 [CT.ptr] fun (v13 : Option Addr) =>
      VNN none v13 fun (a14 : Addr) =>
      VSt none w (Addr.add a14 1) [.bool true] fun (w1 : World) =>
      Φ1 w1
    ) (
      Φ1 w
    )
  ) ∧ ∀ (w2 : World), Φ1 w2 →
  VNN none r_0 fun (a17 : Addr) =>
  VLd none w2 a17 [CT.ptr] fun (v19 : Option Addr) =>
  VNN none v19 fun (a20 : Addr) =>
  VLd none w2 (Addr.add a20 1) [CT.bool] fun (v22 : Bool) =>
  VIf v22 (
    VSet 0 fun (v6 : Int) =>
    R (.returned (.int .i64 v6)) w2
  ) (
    VSet v_1 fun (v6' : Int) =>
    R (.returned (.int .i64 v6')) w2
  )
theorem sh_code_told_ok (r_0 : Option Addr) (v_1 : Int) (ok_2 : Bool) (w : World) (R : Ending → World → Prop) (h : sh_code_told r_0 v_1 ok_2 w R) : Calls Try.prog 55 #[.pointer r_0, .int .i64 v_1, .bool ok_2] w R :=
  calls_of_sh (args := [.pointer r_0, .int .i64 v_1, .bool ok_2]) (.two .auto (.join [] (.two .auto (.two .auto .auto)) (.two (.two .auto (.two (.two .auto (.two .auto .auto)) .auto)) (.two .auto .auto)))) Try.func55 (by kernel_rfl) (by kernel_rfl) (by kernel_rfl) h

/-- 56: (*buttery/code.Reader).OK -/
def sh_code_Reader_OK (r_0 : Option Addr) (w : World) (R : Ending → World → Prop) : Prop :=
  VNN (some (!r_0.isNone)) r_0 fun (a7 : Addr) =>
  VLd (some (!r_0.isNone)) w a7 [CT.ptr] fun (v9 : Option Addr) =>
  VCall (some (!r_0.isNone)) Try.prog 65 #[.pointer v9] w (.bool false) fun (r10 : Bool) (w1 : World) =>
  R (.returned (.bool ((!r_0.isNone) && r10))) w1
theorem sh_code_Reader_OK_ok (r_0 : Option Addr) (w : World) (R : Ending → World → Prop) (h : sh_code_Reader_OK r_0 w R) : Calls Try.prog 56 #[.pointer r_0] w R :=
  calls_of_sh (args := [.pointer r_0]) (.two .auto (.two .auto .auto)) Try.func56 (by kernel_rfl) (by kernel_rfl) (by kernel_rfl) h

/-- 57: buttery/code.told of string -/
def sh_code_told' (r_0 : Option Addr) (v_1 : ByteArray) (ok_2 : Bool) (w : World) (R : Ending → World → Prop) : Prop :=
  ∃ Φ1 : World → Prop, (
    VIf (!ok_2) (
      VNN none r_0 fun (a11 : Addr) =>
      VLd none w a11 [CT.ptr] fun (v13 : Option Addr) =>
      VNN none v13 fun (a14 : Addr) =>
      VSt none w (Addr.add a14 1) [.bool true] fun (w1 : World) =>
      Φ1 w1
    ) (
      Φ1 w
    )
  ) ∧ ∀ (w2 : World), Φ1 w2 →
  VNN none r_0 fun (a17 : Addr) =>
  VLd none w2 a17 [CT.ptr] fun (v19 : Option Addr) =>
  VNN none v19 fun (a20 : Addr) =>
  VLd none w2 (Addr.add a20 1) [CT.bool] fun (v22 : Bool) =>
  VIf v22 (
    R (.returned (.string (ByteArray.mk #[]))) w2
  ) (
    R (.returned (.string v_1)) w2
  )
theorem sh_code_told'_ok (r_0 : Option Addr) (v_1 : ByteArray) (ok_2 : Bool) (w : World) (R : Ending → World → Prop) (h : sh_code_told' r_0 v_1 ok_2 w R) : Calls Try.prog 57 #[.pointer r_0, .string v_1, .bool ok_2] w R :=
  calls_of_sh (args := [.pointer r_0, .string v_1, .bool ok_2]) (.two .auto (.join [] (.two .auto (.two .auto .auto)) (.two (.two .auto (.two (.two .auto (.two .auto .auto)) .auto)) (.two .auto .auto)))) Try.func57 (by kernel_rfl) (by kernel_rfl) (by kernel_rfl) h

/-- 58: (*buttery/code.rest).take -/
def sh_code_rest_take (r_0 : Option Addr) (n_1 : Int) (w : World) (R : Ending → World → Prop) : Prop :=
  VNN none r_0 fun (a7 : Addr) =>
  VLd none w a7 [CT.sl] fun (v9 : Sl) =>
  VCk none ((0 : Int) ≤ 0 ∧ (0 : Int) ≤ n_1 ∧ (n_1 : Int) ≤ ((v9.cap : Nat) : Int)) (
    VNN none r_0 fun (a14 : Addr) =>
    VLd none w a14 [CT.sl] fun (v16 : Sl) =>
    VCk none ((0 : Int) ≤ n_1 ∧ (n_1 : Int) ≤ ((v16.len : Nat) : Int) ∧ (((v16.len : Nat) : Int) : Int) ≤ ((v16.cap : Nat) : Int)) (
      VNN none r_0 fun (a19 : Addr) =>
      VSt none w a19 [.slice (cutB v16.base v16.cap 1 (Int.toNat n_1)) (v16.len - (Int.toNat n_1)) (v16.cap - (Int.toNat n_1))] fun (w1 : World) =>
      R (.returned (.slice (cutB v9.base v9.cap 1 0) ((Int.toNat n_1) - 0) (v9.cap - 0))) w1
    )
  )
theorem sh_code_rest_take_ok (r_0 : Option Addr) (n_1 : Int) (w : World) (R : Ending → World → Prop) (h : sh_code_rest_take r_0 n_1 w R) : Calls Try.prog 58 #[.pointer r_0, .int .i64 n_1] w R :=
  calls_of_sh (args := [.pointer r_0, .int .i64 n_1]) (.two .auto (.two .auto (.two .auto (.two .auto .auto)))) Try.func58 (by kernel_rfl) (by kernel_rfl) (by kernel_rfl) h

/-- 59: (*buttery/code.Reader).Left -/
def sh_code_Reader_Left (r_0 : Option Addr) (w : World) (R : Ending → World → Prop) : Prop :=
  VIf r_0.isNone (
    R (.returned (.int .i64 0)) w
  ) (
    VNN none r_0 fun (a6 : Addr) =>
    VLd none w a6 [CT.ptr] fun (v8 : Option Addr) =>
    VCall none Try.prog 66 #[.pointer v8] w (.int .i64 0) fun (r9 : Int) (w1 : World) =>
    VSet r9 fun (v2 : Int) =>
    R (.returned (.int .i64 v2)) w1
  )
theorem sh_code_Reader_Left_ok (r_0 : Option Addr) (w : World) (R : Ending → World → Prop) (h : sh_code_Reader_Left r_0 w R) : Calls Try.prog 59 #[.pointer r_0] w R :=
  calls_of_sh (args := [.pointer r_0]) (.two .auto (.two (.two .auto (.two (.two .auto .auto) .auto)) (.two .auto .auto))) Try.func59 (by kernel_rfl) (by kernel_rfl) (by kernel_rfl) h

/-- 60: slices.IndexFunc of  of  of 2int, of 2int -/
def sh_slices_IndexFunc (s_0 : Sl) (f_1 : Value) (w : World) (R : Ending → World → Prop) : Prop :=
  ∃ I1 : Nat → Int → World → Prop, (∃ k, I1 k 0 w) ∧ ∀ k1 (x8 : Int) (w1 : World), I1 k1 x8 w1 →
  VIf (decide (x8 < ((s_0.len : Nat) : Int))) (
    VSet x8 fun (i_5 : Int) =>
    VIx none s_0.base s_0.len i_5 fun (a14 : Addr) =>
    VLd none w1 (Addr.add a14 ((Int.toNat i_5) * 2)) [CT.int .i64, CT.int .i64] fun (v15_0 : Int) (v15_1 : Int) =>
    VDyn none Try.prog f_1 #[.agg #[.int .i64 v15_0, .int .i64 v15_1]] w1 (.bool false) fun (r16 : Bool) (w2 : World) =>
    VIf r16 (
      VSet i_5 fun (v4 : Int) =>
      R (.returned (.int .i64 v4)) w2
    ) (
      ∃ k', k' < k1 ∧ I1 k' (IntKind.wrap .i64 (x8 + 1)) w2
    )
  ) (
    R (.returned (.int .i64 (-1))) w1
  )
theorem sh_slices_IndexFunc_ok (s_0 : Sl) (f_1 : Value) (w : World) (R : Ending → World → Prop) (h : sh_slices_IndexFunc s_0 f_1 w R) : Calls Try.prog 60 #[.slice s_0.base s_0.len s_0.cap, f_1] w R :=
  calls_of_sh (args := [.slice s_0.base s_0.len s_0.cap, f_1]) (.two .auto (.two (.two .auto (.one (.loop [(8, .int .i64 0)] (.two .auto (.two (.two .auto .auto) (.two (.one (.two .auto (.two .auto (.two (.two .auto .auto) .auto)))) .auto)))))) (.two .auto .auto))) Try.func60 (by kernel_rfl) (by kernel_rfl) (by kernel_rfl) h

/-- 61: (*buttery/butteryref01.Reader).uint -/
def sh_butteryref01_Reader_uint (r_0 : Option Addr) (w : World) (R : Ending → World → Prop) : Prop :=
  ∃ Φ1 : World → Prop, (
    ∃ I2 : Nat → Int → Int → Int → World → Prop, (∃ k, I2 k 0 1 0 w) ∧ ∀ k2 (u_3 : Int) (scale_4 : Int) (i_5 : Int) (w1 : World), I2 k2 u_3 scale_4 i_5 w1 →
    VNN none r_0 fun (a9 : Addr) =>
    VLd none w1 a9 [CT.sl] fun (v11 : Sl) =>
    VIf ((decide (i_5 < ((v11.len : Nat) : Int))) && (decide (i_5 < 10))) (
      VNN none r_0 fun (a21 : Addr) =>
      VLd none w1 a21 [CT.sl] fun (v23 : Sl) =>
      VIx none v23.base v23.len i_5 fun (a25 : Addr) =>
      VLd none w1 (Addr.add a25 ((Int.toNat i_5) * 1)) [CT.int .u8] fun (v26 : Int) =>
      VSet (IntKind.wrap .u64 v26) fun (c_6 : Int) =>
      VIf ((i_5 == 9) && (decide (c_6 > 1))) (
        Φ1 w1
      ) (
        VSet (IntKind.wrap .u64 (u_3 + (IntKind.wrap .u64 ((Int.tmod c_6 128) * scale_4)))) fun (u_3' : Int) =>
        VSet (IntKind.wrap .u64 (scale_4 * 128)) fun (scale_4' : Int) =>
        VIf (decide (c_6 ≥ 128)) (
          VSet (IntKind.wrap .i64 (i_5 + 1)) fun (i_5' : Int) =>
          ∃ k', k' < k2 ∧ I2 k' u_3' scale_4' i_5' w1
        ) (
          VIf ((decide (i_5 > 0)) && (c_6 == 0)) (
            Φ1 w1
          ) (
            VNN none r_0 fun (a52 : Addr) =>
            VLd none w1 a52 [CT.sl] fun (v54 : Sl) =>
            VCk none ((0 : Int) ≤ IntKind.wrap .i64 (i_5 + 1) ∧ (IntKind.wrap .i64 (i_5 + 1) : Int) ≤ ((v54.len : Nat) : Int) ∧ (((v54.len : Nat) : Int) : Int) ≤ ((v54.cap : Nat) : Int)) (
              VNN none r_0 fun (a58 : Addr) =>
              VSt none w1 a58 [.slice (cutB v54.base v54.cap 1 (Int.toNat (IntKind.wrap .i64 (i_5 + 1)))) (v54.len - (Int.toNat (IntKind.wrap .i64 (i_5 + 1)))) (v54.cap - (Int.toNat (IntKind.wrap .i64 (i_5 + 1))))] fun (w2 : World) =>
              VSet u_3' fun (v2 : Int) =>
              R (.returned (.int .u64 v2)) w2
            )
          )
        )
      )
    ) (
      Φ1 w1
    )
  ) ∧ ∀ (w3 : World), Φ1 w3 →
  VCall none Try.prog 62 #[.pointer r_0] w3 (.tuple #[]) fun (w4 : World) =>
  R (.returned (.int .u64 0)) w4
theorem sh_butteryref01_Reader_uint_ok (r_0 : Option Addr) (w : World) (R : Ending → World → Prop) (h : sh_butteryref01_Reader_uint r_0 w R) : Calls Try.prog 61 #[.pointer r_0] w R :=
  calls_of_sh (args := [.pointer r_0]) (.two .auto (.two .auto (.two .auto (.two (.two .auto (.bjoin [] (.loop [(3, .int .u64 0), (4, .int .u64 0), (5, .int .i64 0)] (.two (.two .auto (.two .auto .auto)) (.two (.one (.two .auto (.two (.two .auto (.two .auto .auto)) (.two .auto (.two .auto (.two (.two .auto (.two .auto .auto)) (.two (.two .auto (.two .auto .auto)) (.two .auto (.two .auto .auto))))))))) .auto))))) (.two .auto (.two .auto .auto)))))) Try.func61 (by kernel_rfl) (by kernel_rfl) (by kernel_rfl) h

/-- 62: (*buttery/butteryref01.Reader).fail -/
def sh_butteryref01_Reader_fail (r_0 : Option Addr) (w : World) (R : Ending → World → Prop) : Prop :=
  VNN none r_0 fun (a3 : Addr) =>
  VSt none w (Addr.add a3 1) [.bool true] fun (w1 : World) =>
  VNN none r_0 fun (a6 : Addr) =>
  VSt none w1 a6 [.slice none 0 0] fun (w2 : World) =>
  R (.returned (.tuple #[])) w2
theorem sh_butteryref01_Reader_fail_ok (r_0 : Option Addr) (w : World) (R : Ending → World → Prop) (h : sh_butteryref01_Reader_fail r_0 w R) : Calls Try.prog 62 #[.pointer r_0] w R :=
  calls_of_sh (args := [.pointer r_0]) (.two .auto .auto) Try.func62 (by kernel_rfl) (by kernel_rfl) (by kernel_rfl) h

/-- 63: buttery/seal.summer$1 -/
def sh_seal_summer_1 (b_0 : Sl) (cap0 : Addr) (w : World) (R : Ending → World → Prop) : Prop :=
  ∃ I1 : Nat → Int → World → Prop, (∃ k, I1 k 0 w) ∧ ∀ k1 (x9 : Int) (w1 : World), I1 k1 x9 w1 →
  VIf (decide (x9 < ((b_0.len : Nat) : Int))) (
    VIx none b_0.base b_0.len x9 fun (a11 : Addr) =>
    VLd none w1 (Addr.add a11 ((Int.toNat x9) * 1)) [CT.int .u8] fun (v12 : Int) =>
    VSet v12 fun (c_5 : Int) =>
    VLd none w1 cap0 [CT.int .u32] fun (v13 : Int) =>
    VSt none w1 cap0 [.int .u32 (bXor .u32 v13 (IntKind.wrap .u32 c_5))] fun (w2 : World) =>
    ∃ I2 : Nat → Int → World → Prop, (∃ k, I2 k 0 w2) ∧ ∀ k2 (x17 : Int) (w3 : World), I2 k2 x17 w3 →
    VIf (decide (x17 < 8)) (
      VLd none w3 cap0 [CT.int .u32] fun (v19 : Int) =>
      VSet (bAnd .u32 v19 1) fun (low_6 : Int) =>
      VLd none w3 cap0 [CT.int .u32] fun (v21 : Int) =>
      VSt none w3 cap0 [.int .u32 (bXor .u32 (Int.fdiv v21 (2 ^ 1)) (IntKind.wrap .u32 (3988292384 * low_6)))] fun (w4 : World) =>
      ∃ k', k' < k2 ∧ I2 k' (IntKind.wrap .i64 (x17 + 1)) w4
    ) (
      ∃ k', k' < k1 ∧ I1 k' (IntKind.wrap .i64 (x9 + 1)) w3
    )
  ) (
    VLd none w1 cap0 [CT.int .u32] fun (v28 : Int) =>
    VSet (bXor .u32 (IntKind.max .u32) v28) fun (v3 : Int) =>
    R (.returned (.int .u32 v3)) w1
  )
theorem sh_seal_summer_1_ok (b_0 : Sl) (cap0 : Addr) (w : World) (R : Ending → World → Prop) (h : sh_seal_summer_1 b_0 cap0 w R) : Calls Try.prog 63 #[.slice b_0.base b_0.len b_0.cap, .pointer (some cap0)] w R :=
  calls_of_sh (args := [.slice b_0.base b_0.len b_0.cap, .pointer (some cap0)]) (.two .auto (.two (.two .auto (.one (.loop [(9, .int .i64 0)] (.two .auto (.two (.two .auto .auto) (.two (.one (.two .auto (.two .auto (.two .auto (.one (.loop [(17, .int .i64 0)] (.two .auto (.two (.two .auto .auto) (.two (.one (.two .auto .auto)) .auto))))))))) .auto)))))) (.two .auto .auto))) Try.func63 (by kernel_rfl) (by kernel_rfl) (by kernel_rfl) h

/-- 64: buttery/code.first -/
def sh_code_first (b_0 : Sl) (w : World) (R : Ending → World → Prop) : Prop :=
  ∃ I1 : Nat → Int → Int → World → Prop, (∃ k, I1 k 0 0 w) ∧ ∀ k1 (u_4 : Int) (x9 : Int) (w1 : World), I1 k1 u_4 x9 w1 →
  VIf (decide (x9 < ((b_0.len : Nat) : Int))) (
    VIx none b_0.base b_0.len x9 fun (a12 : Addr) =>
    VLd none w1 (Addr.add a12 ((Int.toNat x9) * 1)) [CT.int .u8] fun (v13 : Int) =>
    VSet x9 fun (i_5 : Int) =>
    VSet v13 fun (c_6 : Int) =>
    VIf ((i_5 == 10) || ((i_5 == 9) && (decide (c_6 > 1)))) (
      R (.returned (.tuple #[.int .u64 0, .int .i64 0])) w1
    ) (
      VCk none ((0 : Int) ≤ (IntKind.wrap .i64 (7 * i_5))) (
        VSet (bOr .u64 u_4 (IntKind.wrap .u64 ((IntKind.wrap .u64 (bAnd .u8 c_6 127)) * 2 ^ (min (Int.toNat (IntKind.wrap .i64 (7 * i_5))) (IntKind.bits .u64))))) fun (u_4' : Int) =>
        VIf (decide (c_6 < 128)) (
          VSet u_4' fun (v2 : Int) =>
          VSet (IntKind.wrap .i64 (i_5 + 1)) fun (v3 : Int) =>
          R (.returned (.tuple #[.int .u64 v2, .int .i64 v3])) w1
        ) (
          ∃ k', k' < k1 ∧ I1 k' u_4' (IntKind.wrap .i64 (x9 + 1)) w1
        )
      )
    )
  ) (
    R (.returned (.tuple #[.int .u64 0, .int .i64 0])) w1
  )
theorem sh_code_first_ok (b_0 : Sl) (w : World) (R : Ending → World → Prop) (h : sh_code_first b_0 w R) : Calls Try.prog 64 #[.slice b_0.base b_0.len b_0.cap] w R :=
  calls_of_sh (args := [.slice b_0.base b_0.len b_0.cap]) (.two .auto (.two .auto (.two (.two .auto (.one (.loop [(4, .int .u64 0), (9, .int .i64 0)] (.two .auto (.two (.two .auto .auto) (.two (.one (.two .auto (.two (.two .auto (.two (.two .auto .auto) .auto)) (.two .auto (.two .auto (.two (.two .auto .auto) .auto)))))) .auto)))))) (.two .auto .auto)))) Try.func64 (by kernel_rfl) (by kernel_rfl) (by kernel_rfl) h

/-- 65: (*buttery/code.rest).OK -/
def sh_code_rest_OK (r_0 : Option Addr) (w : World) (R : Ending → World → Prop) : Prop :=
  VNN (some (!r_0.isNone)) r_0 fun (a7 : Addr) =>
  VLd (some (!r_0.isNone)) w (Addr.add a7 1) [CT.bool] fun (v9 : Bool) =>
  R (.returned (.bool ((!r_0.isNone) && (!v9)))) w
theorem sh_code_rest_OK_ok (r_0 : Option Addr) (w : World) (R : Ending → World → Prop) (h : sh_code_rest_OK r_0 w R) : Calls Try.prog 65 #[.pointer r_0] w R :=
  calls_of_sh (args := [.pointer r_0]) (.two .auto (.two .auto .auto)) Try.func65 (by kernel_rfl) (by kernel_rfl) (by kernel_rfl) h

/-- 66: (*buttery/code.rest).Left -/
def sh_code_rest_Left (r_0 : Option Addr) (w : World) (R : Ending → World → Prop) : Prop :=
  VNN (some (!r_0.isNone)) r_0 fun (a7 : Addr) =>
  VLd (some (!r_0.isNone)) w (Addr.add a7 1) [CT.bool] fun (v9 : Bool) =>
  VIf (r_0.isNone || v9) (
    R (.returned (.int .i64 0)) w
  ) (
    VNN none r_0 fun (a12 : Addr) =>
    VLd none w a12 [CT.sl] fun (v14 : Sl) =>
    VSet ((v14.len : Nat) : Int) fun (v2 : Int) =>
    R (.returned (.int .i64 v2)) w
  )
theorem sh_code_rest_Left_ok (r_0 : Option Addr) (w : World) (R : Ending → World → Prop) (h : sh_code_rest_Left r_0 w R) : Calls Try.prog 66 #[.pointer r_0] w R :=
  calls_of_sh (args := [.pointer r_0]) (.two .auto (.two (.two .auto (.two (.two .auto .auto) .auto)) (.two .auto .auto))) Try.func66 (by kernel_rfl) (by kernel_rfl) (by kernel_rfl) h

end Go.Proofs.Ythpbkkjggnejcaa
