/-
  By program (own tool): what the code of each function asks, in plain text, and that it suffices (the kernel compares the two).
-/
import Derived.Test.YtfanmhgmncfloaaRows
import Derived.Test.YtfanmhgmncfloaaEngJ
import Derived.KernelRfl
namespace Go.Proofs.Ytfanmhgmncfloaa
open Go.RowKit
set_option maxRecDepth 100000

/-- 3: buttery/butterylaw01.CodeWrites -/
def sh_butterylaw01_CodeWrites (b_0 : Sl) (n_1 : Int) (c_2 : Int) (s_3 : ByteArray) (w : World) (R : Ending → World → Prop) : Prop :=
  VNw none w (.cells #[] 5) fun (b14 : Nat) (w1 : World) =>
  VApp none w1 5 1 1 #[.int .u8 0] (some ⟨b14, 0, none⟩) 0 0 b_0.len (fun news => Seg w1 b_0.base b_0.len 1 news) fun (l16 : Sl) (w2 : World) =>
  VCall none Try.prog 9 #[.slice l16.base l16.len l16.cap, .int .i64 n_1] w2 (.slice none 0 0) fun (r19 : Sl) (w3 : World) =>
  VCall none Try.prog 10 #[.slice l16.base l16.len l16.cap, .int .i64 c_2] w3 (.slice none 0 0) fun (r22 : Sl) (w4 : World) =>
  VCall none Try.prog 11 #[.slice l16.base l16.len l16.cap, .string s_3] w4 (.slice none 0 0) fun (r25 : Sl) (w5 : World) =>
  VCall none Try.prog 12 #[.slice l16.base l16.len l16.cap, .bool true] w5 (.slice none 0 0) fun (r27 : Sl) (w6 : World) =>
  VCall none Try.prog 12 #[.slice l16.base l16.len l16.cap, .bool false] w6 (.slice none 0 0) fun (r29 : Sl) (w7 : World) =>
  VNw none w7 (.cells #[.slice r19.base r19.len r19.cap, .slice r22.base r22.len r22.cap, .slice r25.base r25.len r25.cap, .slice r27.base r27.len r27.cap, .slice r29.base r29.len r29.cap] 22) fun (b30 : Nat) (w8 : World) =>
  VCall none Try.prog 13 #[.slice b_0.base b_0.len b_0.cap, .int .i64 n_1] w8 (.slice none 0 0) fun (r33 : Sl) (w9 : World) =>
  VCall none Try.prog 14 #[.slice b_0.base b_0.len b_0.cap, .int .i64 c_2] w9 (.slice none 0 0) fun (r36 : Sl) (w10 : World) =>
  VCall none Try.prog 15 #[.slice b_0.base b_0.len b_0.cap, .string s_3] w10 (.slice none 0 0) fun (r39 : Sl) (w11 : World) =>
  VCall none Try.prog 16 #[.slice b_0.base b_0.len b_0.cap, .bool true] w11 (.slice none 0 0) fun (r41 : Sl) (w12 : World) =>
  VCall none Try.prog 16 #[.slice b_0.base b_0.len b_0.cap, .bool false] w12 (.slice none 0 0) fun (r43 : Sl) (w13 : World) =>
  VNw none w13 (.cells #[.slice r33.base r33.len r33.cap, .slice r36.base r36.len r36.cap, .slice r39.base r39.len r39.cap, .slice r41.base r41.len r41.cap, .slice r43.base r43.len r43.cap] 22) fun (b44 : Nat) (w14 : World) =>
  ∃ I1 : Nat → Int → World → Prop, (∃ k, I1 k 0 w14) ∧ ∀ k1 (i_12 : Int) (w15 : World), I1 k1 i_12 w15 →
  VIf (decide (i_12 < ((5 : Nat) : Int))) (
    ∀ (w16 : World), w16 = World.drew w15 →
    VIx none (some ⟨b30, 0, none⟩) 5 i_12 fun (a53 : Addr) =>
    VLd none w16 (Addr.add a53 ((Int.toNat i_12) * 1)) [CT.sl] fun (v54 : Sl) =>
    VStr none w16 v54.base v54.len fun (s55 : ByteArray) =>
    VIx none (some ⟨b44, 0, none⟩) 5 i_12 fun (a58 : Addr) =>
    VLd none w16 (Addr.add a58 ((Int.toNat i_12) * 1)) [CT.sl] fun (v59 : Sl) =>
    VStr none w16 v59.base v59.len fun (s60 : ByteArray) =>
    VIf (!(s55.toList == s60.toList)) (
      R (.returned (.bool false)) w16
    ) (
      ∃ I2 : Nat → Int → World → Prop, (∃ k, I2 k 0 w16) ∧ ∀ k2 (k_13 : Int) (w17 : World), I2 k2 k_13 w17 →
      VIx none (some ⟨b30, 0, none⟩) 5 i_12 fun (a65 : Addr) =>
      VLd none w17 (Addr.add a65 ((Int.toNat i_12) * 1)) [CT.sl] fun (v66 : Sl) =>
      VIf (decide (k_13 < ((v66.len : Nat) : Int))) (
        VIx none (some ⟨b30, 0, none⟩) 5 i_12 fun (a73 : Addr) =>
        VLd none w17 (Addr.add a73 ((Int.toNat i_12) * 1)) [CT.sl] fun (v74 : Sl) =>
        VIx none v74.base v74.len k_13 fun (a76 : Addr) =>
        VSt none w17 (Addr.add a76 ((Int.toNat k_13) * 1)) [.int .u8 99] fun (w18 : World) =>
        VSet (IntKind.wrap .i64 (k_13 + 1)) fun (k_13' : Int) =>
        ∃ k', k' < k2 ∧ I2 k' k_13' w18
      ) (
        VSet (IntKind.wrap .i64 (i_12 + 1)) fun (i_12' : Int) =>
        ∃ k', k' < k1 ∧ I1 k' i_12' w17
      )
    )
  ) (
    VStr none w15 l16.base l16.len fun (s78 : ByteArray) =>
    VStr none w15 b_0.base b_0.len fun (s80 : ByteArray) =>
    R (.returned (.bool (s78.toList == s80.toList))) w15
  )
theorem sh_butterylaw01_CodeWrites_ok (b_0 : Sl) (n_1 : Int) (c_2 : Int) (s_3 : ByteArray) (w : World) (R : Ending → World → Prop) (h : sh_butterylaw01_CodeWrites b_0 n_1 c_2 s_3 w R) : Calls Try.prog 3 #[.slice b_0.base b_0.len b_0.cap, .int .i64 n_1, .int .i64 c_2, .string s_3] w R :=
  calls_of_sh (args := [.slice b_0.base b_0.len b_0.cap, .int .i64 n_1, .int .i64 c_2, .string s_3]) (.two .auto (.two .auto (.two .auto (.two .auto (.two (.two .auto (.one (.loop [(12, .int .i64 0)] (.two (.two .auto (.two .auto .auto)) (.two (.one (.two (.two .auto (.two (.two .auto .auto) .auto)) (.two .auto (.one (.loop [(13, .int .i64 0)] (.two (.two .auto (.two .auto .auto)) (.two (.one .auto) .auto))))))) .auto))))) (.two .auto .auto)))))) Try.func3 (by kernel_rfl) (by kernel_rfl) (by kernel_rfl) h

/-- 4: buttery/butterylaw01.CodeReads -/
def sh_butterylaw01_CodeReads (b_0 : Sl) (l_1 : Sl) (w : World) (R : Ending → World → Prop) : Prop :=
  VIf (decide (((l_1.len : Nat) : Int) > 100)) (
    R (.returned (.bool true)) w
  ) (
    VNw none w (.cells #[] 5) fun (b13 : Nat) (w1 : World) =>
    VApp none w1 5 1 1 #[.int .u8 0] (some ⟨b13, 0, none⟩) 0 0 b_0.len (fun news => Seg w1 b_0.base b_0.len 1 news) fun (l15 : Sl) (w2 : World) =>
    VCall none Try.prog 17 #[.slice l15.base l15.len l15.cap] w2 (.pointer none) fun (r17 : Option Addr) (w3 : World) =>
    ∃ I1 : Nat → Int → World → Prop, (∃ k, I1 k 0 w3) ∧ ∀ k1 (i_7 : Int) (w4 : World), I1 k1 i_7 w4 →
    VIf (decide (i_7 < ((l15.len : Nat) : Int))) (
      VIx none l15.base l15.len i_7 fun (a26 : Addr) =>
      VSt none w4 (Addr.add a26 ((Int.toNat i_7) * 1)) [.int .u8 5] fun (w5 : World) =>
      VSet (IntKind.wrap .i64 (i_7 + 1)) fun (i_7' : Int) =>
      ∃ k', k' < k1 ∧ I1 k' i_7' w5
    ) (
      VNw none w4 (.cells #[] 5) fun (b27 : Nat) (w6 : World) =>
      VApp none w6 5 1 1 #[.int .u8 0] (some ⟨b27, 0, none⟩) 0 0 b_0.len (fun news => Seg w6 b_0.base b_0.len 1 news) fun (l29 : Sl) (w7 : World) =>
      VNw none w7 (.cells #[.slice l29.base l29.len l29.cap, .bool false] 34) fun (b31 : Nat) (w8 : World) =>
      ∃ Φ2 : World → Prop, (
        ∃ I3 : Nat → Int → World → Prop, (∃ k, I3 k 0 w8) ∧ ∀ k3 (i_9 : Int) (w9 : World), I3 k3 i_9 w9 →
        VIf (decide (i_9 ≤ ((l_1.len : Nat) : Int))) (
          ∀ (w10 : World), w10 = World.drew w9 →
          VNN none (some ⟨b31, 0, none⟩) fun (a41 : Addr) =>
          VLd none w10 (Addr.add a41 1) [CT.bool] fun (v43 : Bool) =>
          VCall none Try.prog 18 #[.pointer r17] w10 (.bool false) fun (r39 : Bool) (w11 : World) =>
          Rd w11 (Addr.add a41 1) [.bool v43] ∧
          VNN (some (!(!(r39 == (!v43))))) (some ⟨b31, 0, none⟩) fun (a50 : Addr) =>
          VLd (some (!(!(r39 == (!v43))))) w11 a50 [CT.sl] fun (v52 : Sl) =>
          VCall (some (!(!(r39 == (!v43))))) Try.prog 19 #[.pointer r17] w11 (.int .i64 0) fun (r48 : Int) (w12 : World) =>
          ((!(!(r39 == (!v43)))) = true → Rd w12 a50 [.slice v52.base v52.len v52.cap]) ∧
          VNN (some (!((!(r39 == (!v43))) || (r48 != ((v52.len : Nat) : Int))))) (some ⟨b31, 0, none⟩) fun (a60 : Addr) =>
          VLd (some (!((!(r39 == (!v43))) || (r48 != ((v52.len : Nat) : Int))))) w12 (Addr.add a60 1) [CT.bool] fun (v62 : Bool) =>
          VCall (some (!((!(r39 == (!v43))) || (r48 != ((v52.len : Nat) : Int))))) Try.prog 20 #[.pointer r17] w12 (.bool false) fun (r58 : Bool) (w13 : World) =>
          ((!((!(r39 == (!v43))) || (r48 != ((v52.len : Nat) : Int)))) = true → Rd w13 (Addr.add a60 1) [.bool v62]) ∧
          VNN (some ((!((!(r39 == (!v43))) || (r48 != ((v52.len : Nat) : Int)))) && (!v62))) (some ⟨b31, 0, none⟩) fun (a66 : Addr) =>
          VLd (some ((!((!(r39 == (!v43))) || (r48 != ((v52.len : Nat) : Int)))) && (!v62))) w13 a66 [CT.sl] fun (v68 : Sl) =>
          VIf (((!(r39 == (!v43))) || (r48 != ((v52.len : Nat) : Int))) || (!(r58 == ((!v62) && (((v68.len : Nat) : Int) == 0))))) (
            R (.returned (.bool false)) w13
          ) (
            VIf (i_9 == ((l_1.len : Nat) : Int)) (
              Φ2 w13
            ) (
              VIx none l_1.base l_1.len i_9 fun (a80 : Addr) =>
              VLd none w13 (Addr.add a80 ((Int.toNat i_9) * 2)) [CT.int .i64] fun (v82 : Int) =>
              ∃ Φ4 : World → Prop, (
                VIf (v82 == 0) (
                  VCall none Try.prog 21 #[.pointer r17] w13 (.int .i64 0) fun (r91 : Int) (w14 : World) =>
                  VCall none Try.prog 22 #[.pointer (some ⟨b31, 0, none⟩)] w14 (.int .i64 0) fun (r93 : Int) (w15 : World) =>
                  VIf (r91 != r93) (
                    R (.returned (.bool false)) w15
                  ) (
                    Φ4 w15
                  )
                ) (
                  VIf (v82 == 1) (
                    ∀ (w16 : World), w16 = World.drew w13 →
                    VIx none l_1.base l_1.len i_9 fun (a100 : Addr) =>
                    VLd none w16 (Addr.add (Addr.add a100 ((Int.toNat i_9) * 2)) 1) [CT.int .i64] fun (v102 : Int) =>
                    VIx none l_1.base l_1.len i_9 fun (a107 : Addr) =>
                    VLd none w16 (Addr.add (Addr.add a107 ((Int.toNat i_9) * 2)) 1) [CT.int .i64] fun (v109 : Int) =>
                    VCall none Try.prog 23 #[.pointer r17, .int .i64 v102] w16 (.int .i64 0) fun (r103 : Int) (w17 : World) =>
                    Rd w17 (Addr.add (Addr.add a107 ((Int.toNat i_9) * 2)) 1) [.int .i64 v109] ∧
                    VCall none Try.prog 24 #[.pointer (some ⟨b31, 0, none⟩), .int .i64 v109] w17 (.int .i64 0) fun (r110 : Int) (w18 : World) =>
                    VIf (r103 != r110) (
                      R (.returned (.bool false)) w18
                    ) (
                      Φ4 w18
                    )
                  ) (
                    VIf (v82 == 2) (
                      ∀ (w19 : World), w19 = World.drew w13 →
                      VIx none l_1.base l_1.len i_9 fun (a117 : Addr) =>
                      VLd none w19 (Addr.add (Addr.add a117 ((Int.toNat i_9) * 2)) 1) [CT.int .i64] fun (v119 : Int) =>
                      VIx none l_1.base l_1.len i_9 fun (a124 : Addr) =>
                      VLd none w19 (Addr.add (Addr.add a124 ((Int.toNat i_9) * 2)) 1) [CT.int .i64] fun (v126 : Int) =>
                      VCall none Try.prog 25 #[.pointer r17, .int .i64 v119] w19 (.string ByteArray.empty) fun (r120 : ByteArray) (w20 : World) =>
                      Rd w20 (Addr.add (Addr.add a124 ((Int.toNat i_9) * 2)) 1) [.int .i64 v126] ∧
                      VCall none Try.prog 26 #[.pointer (some ⟨b31, 0, none⟩), .int .i64 v126] w20 (.string ByteArray.empty) fun (r127 : ByteArray) (w21 : World) =>
                      VIf (!(r120.toList == r127.toList)) (
                        R (.returned (.bool false)) w21
                      ) (
                        Φ4 w21
                      )
                    ) (
                      VCall none Try.prog 27 #[.pointer r17] w13 (.bool false) fun (r84 : Bool) (w22 : World) =>
                      VCall none Try.prog 28 #[.pointer (some ⟨b31, 0, none⟩)] w22 (.bool false) fun (r86 : Bool) (w23 : World) =>
                      VIf (!(r84 == r86)) (
                        R (.returned (.bool false)) w23
                      ) (
                        Φ4 w23
                      )
                    )
                  )
                )
              ) ∧ ∀ (w24 : World), Φ4 w24 →
              VSet (IntKind.wrap .i64 (i_9 + 1)) fun (i_9' : Int) =>
              ∃ k', k' < k3 ∧ I3 k' i_9' w24
            )
          )
        ) (
          Φ2 w9
        )
      ) ∧ ∀ (w25 : World), Φ2 w25 →
      R (.returned (.bool true)) w25
    )
  )
theorem sh_butterylaw01_CodeReads_ok (b_0 : Sl) (l_1 : Sl) (w : World) (R : Ending → World → Prop) (h : sh_butterylaw01_CodeReads b_0 l_1 w R) : Calls Try.prog 4 #[.slice b_0.base b_0.len b_0.cap, .slice l_1.base l_1.len l_1.cap] w R :=
  calls_of_sh (args := [.slice b_0.base b_0.len b_0.cap, .slice l_1.base l_1.len l_1.cap]) (.two .auto (.two (.two .auto (.two (.two .auto .auto) .auto)) (.two .auto (.two .auto (.two (.two .auto (.one (.loop [(7, .int .i64 0)] (.two (.two .auto (.two .auto .auto)) (.two (.one .auto) .auto))))) (.two .auto (.two (.two .auto (.bjoin [] (.loop [(9, .int .i64 0)] (.two (.two .auto (.two .auto .auto)) (.two (.one (.two (.two .auto (.two (.two .auto .auto) .auto)) (.two (.two .auto (.two .auto .auto)) (.two .auto (.bjoin [] (.two .auto (.two (.two .auto (.two (.two .auto .auto) .auto)) (.two .auto (.two (.two .auto (.two (.two .auto .auto) .auto)) (.two .auto (.two (.two .auto (.two (.two .auto .auto) .auto)) (.two .auto (.two (.two .auto .auto) .auto))))))))))))) .auto))))) (.two .auto .auto)))))))) Try.func4 (by kernel_rfl) (by kernel_rfl) (by kernel_rfl) h

/-- 5: buttery/butterylaw01.CodeNames -/
def sh_butterylaw01_CodeNames (w : World) (R : Ending → World → Prop) : Prop :=
  VCall none Try.prog 29 #[] w (.bool false) fun (r5 : Bool) (w1 : World) =>
  VCall (some (!((!r5) || false))) Try.prog 10 #[.slice none 0 0, .int .i64 (-1)] w1 (.slice none 0 0) fun (r10 : Sl) (w2 : World) =>
  VCall (some (!(((!r5) || false) || (((r10.len : Nat) : Int) != 0)))) Try.prog 10 #[.slice none 0 0, .int .i64 2147483648] w2 (.slice none 0 0) fun (r15 : Sl) (w3 : World) =>
  VCall (some (!((((!r5) || false) || (((r10.len : Nat) : Int) != 0)) || (((r15.len : Nat) : Int) != 0)))) Try.prog 10 #[.slice none 0 0, .int .i64 2147483647] w3 (.slice none 0 0) fun (r20 : Sl) (w4 : World) =>
  VCall (some (!(((((!r5) || false) || (((r10.len : Nat) : Int) != 0)) || (((r15.len : Nat) : Int) != 0)) || (((r20.len : Nat) : Int) != 5)))) Try.prog 9 #[.slice none 0 0, .int .i64 (-9223372036854775808)] w4 (.slice none 0 0) fun (r25 : Sl) (w5 : World) =>
  VStr (some (!(((((!r5) || false) || (((r10.len : Nat) : Int) != 0)) || (((r15.len : Nat) : Int) != 0)) || (((r20.len : Nat) : Int) != 5)))) w5 r25.base r25.len fun (s26 : ByteArray) =>
  VIf ((((((!r5) || false) || (((r10.len : Nat) : Int) != 0)) || (((r15.len : Nat) : Int) != 0)) || (((r20.len : Nat) : Int) != 5)) || (!(s26.toList == (ByteArray.mk #[255, 255, 255, 255, 255, 255, 255, 255, 255, 1]).toList))) (
    R (.returned (.bool false)) w5
  ) (
    VNw none w5 (.cells #[.string (ByteArray.mk #[128, 0]), .int .i64 1, .int .i64 9, .string (ByteArray.mk #[5]), .int .i64 1, .int .i64 4, .string (ByteArray.mk #[2, 97]), .int .i64 2, .int .i64 9, .string (ByteArray.mk #[2]), .int .i64 3, .int .i64 0, .string (ByteArray.mk #[]), .int .i64 0, .int .i64 0, .string (ByteArray.mk #[128]), .int .i64 0, .int .i64 0, .string (ByteArray.mk #[0]), .int .i64 1, .int .i64 (-1), .string (ByteArray.mk #[2, 97, 98]), .int .i64 2, .int .i64 1, .string (ByteArray.mk #[255, 255, 255, 255, 255, 255, 255, 255, 255, 2]), .int .i64 0, .int .i64 0, .string (ByteArray.mk #[128, 128, 128, 128, 8]), .int .i64 1, .int .i64 1099511627776] 43) fun (b39 : Nat) (w6 : World) =>
    ∃ I1 : Nat → Int → World → Prop, (∃ k, I1 k 0 w6) ∧ ∀ k1 (x41 : Int) (w7 : World), I1 k1 x41 w7 →
    VIf (decide (x41 < ((10 : Nat) : Int))) (
      VIx none (some ⟨b39, 0, none⟩) 10 x41 fun (a43 : Addr) =>
      VLd none w7 (Addr.add a43 ((Int.toNat x41) * 3)) [CT.str, CT.int .i64, CT.int .i64] fun (v44_0 : ByteArray) (v44_1 : Int) (v44_2 : Int) =>
      VNw none w7 (.cells #[.string ByteArray.empty, .int .i64 0, .int .i64 0] 43) fun (x_2 : Nat) (w8 : World) =>
      VSt none w8 ⟨x_2, 0, none⟩ [.string v44_0, .int .i64 v44_1, .int .i64 v44_2] fun (w9 : World) =>
      VLd none w9 ⟨x_2, 0, none⟩ [CT.str] fun (v46 : ByteArray) =>
      VBytes none w9 5 v46 fun (b47 cb47 : Nat) (w10 : World) =>
      VCall none Try.prog 17 #[.slice (some ⟨b47, 0, none⟩) v46.size cb47] w10 (.pointer none) fun (r48 : Option Addr) (w11 : World) =>
      VLd none w11 ⟨x_2, 1, none⟩ [CT.int .i64] fun (v50 : Int) =>
      ∃ Φ2 : World → Prop, (
        VIf (v50 == 0) (
          VCall none Try.prog 21 #[.pointer r48] w11 (.int .i64 0) fun (r56 : Int) (w12 : World) =>
          Φ2 w12
        ) (
          VIf (v50 == 1) (
            VLd none w11 ⟨x_2, 2, none⟩ [CT.int .i64] fun (v61 : Int) =>
            VCall none Try.prog 23 #[.pointer r48, .int .i64 v61] w11 (.int .i64 0) fun (r62 : Int) (w13 : World) =>
            Φ2 w13
          ) (
            VIf (v50 == 2) (
              VLd none w11 ⟨x_2, 2, none⟩ [CT.int .i64] fun (v67 : Int) =>
              VCall none Try.prog 25 #[.pointer r48, .int .i64 v67] w11 (.string ByteArray.empty) fun (r68 : ByteArray) (w14 : World) =>
              Φ2 w14
            ) (
              VCall none Try.prog 27 #[.pointer r48] w11 (.bool false) fun (r52 : Bool) (w15 : World) =>
              Φ2 w15
            )
          )
        )
      ) ∧ ∀ (w16 : World), Φ2 w16 →
      VCall none Try.prog 18 #[.pointer r48] w16 (.bool false) fun (r70 : Bool) (w17 : World) =>
      VCall (some (!r70)) Try.prog 19 #[.pointer r48] w17 (.int .i64 0) fun (r73 : Int) (w18 : World) =>
      VCall (some (!(r70 || (r73 != 0)))) Try.prog 20 #[.pointer r48] w18 (.bool false) fun (r78 : Bool) (w19 : World) =>
      VCall (some (!((r70 || (r73 != 0)) || r78))) Try.prog 21 #[.pointer r48] w19 (.int .i64 0) fun (r82 : Int) (w20 : World) =>
      VCall (some (!(((r70 || (r73 != 0)) || r78) || (r82 != 0)))) Try.prog 25 #[.pointer r48, .int .i64 9] w20 (.string ByteArray.empty) fun (r87 : ByteArray) (w21 : World) =>
      VIf ((((r70 || (r73 != 0)) || r78) || (r82 != 0)) || (!(r87.toList == (ByteArray.mk #[]).toList))) (
        R (.returned (.bool false)) w21
      ) (
        ∃ k', k' < k1 ∧ I1 k' (IntKind.wrap .i64 (x41 + 1)) w21
      )
    ) (
      VCall none Try.prog 18 #[.pointer none] w7 (.bool false) fun (r92 : Bool) (w22 : World) =>
      VCall (some (!r92)) Try.prog 20 #[.pointer none] w22 (.bool false) fun (r96 : Bool) (w23 : World) =>
      VCall (some ((!r92) && (!r96))) Try.prog 19 #[.pointer none] w23 (.int .i64 0) fun (r101 : Int) (w24 : World) =>
      VCall (some (((!r92) && (!r96)) && (r101 == 0))) Try.prog 21 #[.pointer none] w24 (.int .i64 0) fun (r106 : Int) (w25 : World) =>
      VCall (some ((((!r92) && (!r96)) && (r101 == 0)) && (r106 == 0))) Try.prog 23 #[.pointer none, .int .i64 9] w25 (.int .i64 0) fun (r111 : Int) (w26 : World) =>
      VCall (some (((((!r92) && (!r96)) && (r101 == 0)) && (r106 == 0)) && (r111 == 0))) Try.prog 25 #[.pointer none, .int .i64 9] w26 (.string ByteArray.empty) fun (r116 : ByteArray) (w27 : World) =>
      VCall (some ((((((!r92) && (!r96)) && (r101 == 0)) && (r106 == 0)) && (r111 == 0)) && (r116.toList == (ByteArray.mk #[]).toList))) Try.prog 27 #[.pointer none] w27 (.bool false) fun (r121 : Bool) (w28 : World) =>
      R (.returned (.bool (((((((!r92) && (!r96)) && (r101 == 0)) && (r106 == 0)) && (r111 == 0)) && (r116.toList == (ByteArray.mk #[]).toList)) && (!r121)))) w28
    )
  )
theorem sh_butterylaw01_CodeNames_ok (w : World) (R : Ending → World → Prop) (h : sh_butterylaw01_CodeNames w R) : Calls Try.prog 5 #[] w R :=
  calls_of_sh (args := []) (.two .auto (.two (.two .auto (.two (.two .auto .auto) .auto)) (.two (.two .auto (.one (.loop [(41, .int .i64 0)] (.two .auto (.two (.two .auto .auto) (.two (.one (.two .auto (.two .auto (.two (.two .auto (.bjoin [] (.two .auto (.two .auto (.two .auto (.two .auto (.two .auto (.two .auto .auto)))))))) (.two .auto (.two (.two .auto .auto) .auto)))))) .auto)))))) (.two .auto (.two .auto .auto))))) Try.func5 (by kernel_rfl) (by kernel_rfl) (by kernel_rfl) h

/-- 6: buttery/butterylaw01.CodeBack -/
def sh_butterylaw01_CodeBack (n_0 : Int) (c_1 : Int) (s_2 : ByteArray) (v_3 : Bool) (cut_4 : Int) (w : World) (R : Ending → World → Prop) : Prop :=
  VCall none Try.prog 29 #[] w (.bool false) fun (r15 : Bool) (w1 : World) =>
  VIf ((!r15) || (decide (((s_2.size : Nat) : Int) > 1048576))) (
    VCall none Try.prog 29 #[] w1 (.bool false) fun (r22 : Bool) (w2 : World) =>
    R (.returned (.bool r22)) w2
  ) (
    VSet (bAnd .i64 c_1 2147483647) fun (c_1 : Int) =>
    VCall none Try.prog 9 #[.slice none 0 0, .int .i64 n_0] w1 (.slice none 0 0) fun (r26 : Sl) (w3 : World) =>
    VCall none Try.prog 10 #[.slice r26.base r26.len r26.cap, .int .i64 c_1] w3 (.slice none 0 0) fun (r28 : Sl) (w4 : World) =>
    VCall none Try.prog 11 #[.slice r28.base r28.len r28.cap, .string s_2] w4 (.slice none 0 0) fun (r30 : Sl) (w5 : World) =>
    VCall none Try.prog 12 #[.slice r30.base r30.len r30.cap, .bool v_3] w5 (.slice none 0 0) fun (r32 : Sl) (w6 : World) =>
    VCall none Try.prog 17 #[.slice r32.base r32.len r32.cap] w6 (.pointer none) fun (r34 : Option Addr) (w7 : World) =>
    VCall none Try.prog 21 #[.pointer r34] w7 (.int .i64 0) fun (r36 : Int) (w8 : World) =>
    VCall (some (!(r36 != n_0))) Try.prog 23 #[.pointer r34, .int .i64 2147483647] w8 (.int .i64 0) fun (r41 : Int) (w9 : World) =>
    VCall (some (!((r36 != n_0) || (r41 != c_1)))) Try.prog 25 #[.pointer r34, .int .i64 ((s_2.size : Nat) : Int)] w9 (.string ByteArray.empty) fun (r49 : ByteArray) (w10 : World) =>
    VCall (some (!(((r36 != n_0) || (r41 != c_1)) || (!(r49.toList == s_2.toList))))) Try.prog 27 #[.pointer r34] w10 (.bool false) fun (r55 : Bool) (w11 : World) =>
    VCall (some (!((((r36 != n_0) || (r41 != c_1)) || (!(r49.toList == s_2.toList))) || (!(r55 == v_3))))) Try.prog 20 #[.pointer r34] w11 (.bool false) fun (r61 : Bool) (w12 : World) =>
    VIf (((((r36 != n_0) || (r41 != c_1)) || (!(r49.toList == s_2.toList))) || (!(r55 == v_3))) || (!r61)) (
      R (.returned (.bool false)) w12
    ) (
      VCk none ((IntKind.wrap .u64 ((r32.len : Nat) : Int)) ≠ 0) (
        VSet (IntKind.wrap .i64 (Int.tmod (IntKind.wrap .u64 cut_4) (IntKind.wrap .u64 ((r32.len : Nat) : Int)))) fun (k_13 : Int) =>
        VCk none ((0 : Int) ≤ 0 ∧ 0 ≤ k_13 ∧ k_13 ≤ ((r32.cap : Nat) : Int)) (
          VCall none Try.prog 17 #[.slice (cutB r32.base r32.cap 1 0) ((Int.toNat k_13) - 0) (r32.cap - 0)] w12 (.pointer none) fun (r74 : Option Addr) (w13 : World) =>
          VCall none Try.prog 21 #[.pointer r74] w13 (.int .i64 0) fun (r76 : Int) (w14 : World) =>
          VCall none Try.prog 23 #[.pointer r74, .int .i64 2147483647] w14 (.int .i64 0) fun (r78 : Int) (w15 : World) =>
          VCall none Try.prog 25 #[.pointer r74, .int .i64 ((s_2.size : Nat) : Int)] w15 (.string ByteArray.empty) fun (r82 : ByteArray) (w16 : World) =>
          VCall none Try.prog 27 #[.pointer r74] w16 (.bool false) fun (r84 : Bool) (w17 : World) =>
          VCall none Try.prog 18 #[.pointer r74] w17 (.bool false) fun (r86 : Bool) (w18 : World) =>
          VCall (some (!r86)) Try.prog 20 #[.pointer r74] w18 (.bool false) fun (r90 : Bool) (w19 : World) =>
          R (.returned (.bool ((!r86) && (!r90)))) w19
        )
      )
    )
  )
theorem sh_butterylaw01_CodeBack_ok (n_0 : Int) (c_1 : Int) (s_2 : ByteArray) (v_3 : Bool) (cut_4 : Int) (w : World) (R : Ending → World → Prop) (h : sh_butterylaw01_CodeBack n_0 c_1 s_2 v_3 cut_4 w R) : Calls Try.prog 6 #[.int .i64 n_0, .int .i64 c_1, .string s_2, .bool v_3, .int .i64 cut_4] w R :=
  calls_of_sh (args := [.int .i64 n_0, .int .i64 c_1, .string s_2, .bool v_3, .int .i64 cut_4]) (.two .auto (.two (.two .auto (.two (.two .auto .auto) .auto)) (.two .auto (.two .auto (.two .auto (.two (.two .auto (.two (.two .auto .auto) .auto)) (.two .auto (.two .auto (.two .auto (.two .auto (.two .auto (.two .auto (.two .auto .auto))))))))))))) Try.func6 (by kernel_rfl) (by kernel_rfl) (by kernel_rfl) h

/-- 7: buttery/butterylaw01.CodeOnly -/
def sh_butterylaw01_CodeOnly (b_0 : Sl) (w : World) (R : Ending → World → Prop) : Prop :=
  VCall none Try.prog 29 #[] w (.bool false) fun (r8 : Bool) (w1 : World) =>
  VIf (!r8) (
    R (.returned (.bool false)) w1
  ) (
    VCall none Try.prog 17 #[.slice b_0.base b_0.len b_0.cap] w1 (.pointer none) fun (r11 : Option Addr) (w2 : World) =>
    VCall none Try.prog 21 #[.pointer r11] w2 (.int .i64 0) fun (r13 : Int) (w3 : World) =>
    VSet r13 fun (n_4 : Int) =>
    ∀ (w4 : World), w4 = World.drew w3 →
    VCall none Try.prog 20 #[.pointer r11] w4 (.bool false) fun (r15 : Bool) (w5 : World) =>
    VStr (some r15) w5 b_0.base b_0.len fun (s21 : ByteArray) =>
    VCall (some r15) Try.prog 9 #[.slice none 0 0, .int .i64 n_4] w5 (.slice none 0 0) fun (r18 : Sl) (w6 : World) =>
    (r15 = true → Seg w6 b_0.base b_0.len 1 (strCells s21)) ∧
    VStr (some r15) w6 r18.base r18.len fun (s19 : ByteArray) =>
    VIf (r15 && (!(s19.toList == s21.toList))) (
      R (.returned (.bool false)) w6
    ) (
      VCall none Try.prog 17 #[.slice b_0.base b_0.len b_0.cap] w6 (.pointer none) fun (r25 : Option Addr) (w7 : World) =>
      VCall none Try.prog 23 #[.pointer r25, .int .i64 2147483647] w7 (.int .i64 0) fun (r27 : Int) (w8 : World) =>
      VSet r27 fun (c_5 : Int) =>
      ∀ (w9 : World), w9 = World.drew w8 →
      VCall none Try.prog 20 #[.pointer r25] w9 (.bool false) fun (r29 : Bool) (w10 : World) =>
      VStr (some r29) w10 b_0.base b_0.len fun (s35 : ByteArray) =>
      VCall (some r29) Try.prog 10 #[.slice none 0 0, .int .i64 c_5] w10 (.slice none 0 0) fun (r32 : Sl) (w11 : World) =>
      (r29 = true → Seg w11 b_0.base b_0.len 1 (strCells s35)) ∧
      VStr (some r29) w11 r32.base r32.len fun (s33 : ByteArray) =>
      VIf (r29 && (!(s33.toList == s35.toList))) (
        R (.returned (.bool false)) w11
      ) (
        VCall none Try.prog 17 #[.slice b_0.base b_0.len b_0.cap] w11 (.pointer none) fun (r39 : Option Addr) (w12 : World) =>
        VCall none Try.prog 25 #[.pointer r39, .int .i64 ((b_0.len : Nat) : Int)] w12 (.string ByteArray.empty) fun (r43 : ByteArray) (w13 : World) =>
        ∀ (w14 : World), w14 = World.drew w13 →
        VCall none Try.prog 20 #[.pointer r39] w14 (.bool false) fun (r45 : Bool) (w15 : World) =>
        VStr (some r45) w15 b_0.base b_0.len fun (s51 : ByteArray) =>
        VCall (some r45) Try.prog 11 #[.slice none 0 0, .string r43] w15 (.slice none 0 0) fun (r48 : Sl) (w16 : World) =>
        (r45 = true → Seg w16 b_0.base b_0.len 1 (strCells s51)) ∧
        VStr (some r45) w16 r48.base r48.len fun (s49 : ByteArray) =>
        VIf (r45 && (!(s49.toList == s51.toList))) (
          R (.returned (.bool false)) w16
        ) (
          VCall none Try.prog 17 #[.slice b_0.base b_0.len b_0.cap] w16 (.pointer none) fun (r55 : Option Addr) (w17 : World) =>
          VCall none Try.prog 27 #[.pointer r55] w17 (.bool false) fun (r57 : Bool) (w18 : World) =>
          ∀ (w19 : World), w19 = World.drew w18 →
          VCall none Try.prog 20 #[.pointer r55] w19 (.bool false) fun (r59 : Bool) (w20 : World) =>
          VStr (some (!(!r59))) w20 b_0.base b_0.len fun (s66 : ByteArray) =>
          VCall (some (!(!r59))) Try.prog 12 #[.slice none 0 0, .bool r57] w20 (.slice none 0 0) fun (r63 : Sl) (w21 : World) =>
          ((!(!r59)) = true → Seg w21 b_0.base b_0.len 1 (strCells s66)) ∧
          VStr (some (!(!r59))) w21 r63.base r63.len fun (s64 : ByteArray) =>
          R (.returned (.bool ((!r59) || (s64.toList == s66.toList)))) w21
        )
      )
    )
  )
theorem sh_butterylaw01_CodeOnly_ok (b_0 : Sl) (w : World) (R : Ending → World → Prop) (h : sh_butterylaw01_CodeOnly b_0 w R) : Calls Try.prog 7 #[.slice b_0.base b_0.len b_0.cap] w R :=
  calls_of_sh (args := [.slice b_0.base b_0.len b_0.cap]) (.two .auto (.two (.two .auto (.two (.two .auto .auto) .auto)) (.two .auto (.two .auto (.two (.two .auto (.two (.two .auto .auto) .auto)) (.two .auto (.two .auto (.two (.two .auto (.two (.two .auto .auto) .auto)) (.two .auto (.two .auto (.two (.two .auto (.two (.two .auto .auto) .auto)) (.two .auto (.two .auto (.two .auto .auto)))))))))))))) Try.func7 (by kernel_rfl) (by kernel_rfl) (by kernel_rfl) h

/-- 8: buttery/butterylaw01.CodeRow -/
def sh_butterylaw01_CodeRow (l_0 : Sl) (tail_1 : Sl) (w : World) (R : Ending → World → Prop) : Prop :=
  VCall none Try.prog 29 #[] w (.bool false) fun (r9 : Bool) (w1 : World) =>
  VIf (((!r9) || (decide (((l_0.len : Nat) : Int) > 1000))) || (decide (((tail_1.len : Nat) : Int) > 1000))) (
    VCall none Try.prog 29 #[] w1 (.bool false) fun (r21 : Bool) (w2 : World) =>
    R (.returned (.bool r21)) w2
  ) (
    ∃ I1 : Nat → Sl → Int → World → Prop, (∃ k, I1 k ⟨none, 0, 0⟩ 0 w1) ∧ ∀ k1 (b_5 : Sl) (i_6 : Int) (w3 : World), I1 k1 b_5 i_6 w3 →
    VIf (decide (i_6 < ((l_0.len : Nat) : Int))) (
      VIx none l_0.base l_0.len i_6 fun (a31 : Addr) =>
      VLd none w3 (Addr.add a31 ((Int.toNat i_6) * 1)) [CT.int .i64] fun (v32 : Int) =>
      VCall none Try.prog 9 #[.slice b_5.base b_5.len b_5.cap, .int .i64 v32] w3 (.slice none 0 0) fun (r33 : Sl) (w4 : World) =>
      VSet (IntKind.wrap .i64 (i_6 + 1)) fun (i_6' : Int) =>
      ∃ k', k' < k1 ∧ I1 k' r33 i_6' w4
    ) (
      VNw none w3 (.cells #[] 5) fun (b34 : Nat) (w5 : World) =>
      VApp none w5 5 1 1 #[.int .u8 0] (some ⟨b34, 0, none⟩) 0 0 b_5.len (fun news => Seg w5 b_5.base b_5.len 1 news) fun (l36 : Sl) (w6 : World) =>
      VApp none w6 5 1 1 #[.int .u8 0] l36.base l36.len l36.cap tail_1.len (fun news => Seg w6 tail_1.base tail_1.len 1 news) fun (l38 : Sl) (w7 : World) =>
      VCall none Try.prog 17 #[.slice l38.base l38.len l38.cap] w7 (.pointer none) fun (r39 : Option Addr) (w8 : World) =>
      ∃ I2 : Nat → Int → World → Prop, (∃ k, I2 k 0 w8) ∧ ∀ k2 (i_8 : Int) (w9 : World), I2 k2 i_8 w9 →
      VIf (decide (i_8 < ((l_0.len : Nat) : Int))) (
        ∀ (w10 : World), w10 = World.drew w9 →
        VIx none l_0.base l_0.len i_8 fun (a50 : Addr) =>
        VLd none w10 (Addr.add a50 ((Int.toNat i_8) * 1)) [CT.int .i64] fun (v51 : Int) =>
        VCall none Try.prog 21 #[.pointer r39] w10 (.int .i64 0) fun (r47 : Int) (w11 : World) =>
        Rd w11 (Addr.add a50 ((Int.toNat i_8) * 1)) [.int .i64 v51] ∧
        VIf (r47 != v51) (
          R (.returned (.bool false)) w11
        ) (
          VSet (IntKind.wrap .i64 (i_8 + 1)) fun (i_8' : Int) =>
          ∃ k', k' < k2 ∧ I2 k' i_8' w11
        )
      ) (
        VCall none Try.prog 18 #[.pointer r39] w9 (.bool false) fun (r54 : Bool) (w12 : World) =>
        VCall (some r54) Try.prog 19 #[.pointer r39] w12 (.int .i64 0) fun (r57 : Int) (w13 : World) =>
        R (.returned (.bool ((r54 && (r57 == ((tail_1.len : Nat) : Int))) && (decide (((b_5.len : Nat) : Int) ≤ (IntKind.wrap .i64 (10 * ((l_0.len : Nat) : Int)))))))) w13
      )
    )
  )
theorem sh_butterylaw01_CodeRow_ok (l_0 : Sl) (tail_1 : Sl) (w : World) (R : Ending → World → Prop) (h : sh_butterylaw01_CodeRow l_0 tail_1 w R) : Calls Try.prog 8 #[.slice l_0.base l_0.len l_0.cap, .slice tail_1.base tail_1.len tail_1.cap] w R :=
  calls_of_sh (args := [.slice l_0.base l_0.len l_0.cap, .slice tail_1.base tail_1.len tail_1.cap]) (.two .auto (.two (.two .auto (.two (.two .auto .auto) .auto)) (.two .auto (.two (.two .auto (.one (.loop [(5, .slice none 0 0), (6, .int .i64 0)] (.two (.two .auto (.two .auto .auto)) (.two (.one .auto) .auto))))) (.two .auto (.two (.two .auto (.one (.loop [(8, .int .i64 0)] (.two (.two .auto (.two .auto .auto)) (.two (.one (.two .auto (.two (.two .auto .auto) .auto))) .auto))))) (.two .auto .auto))))))) Try.func8 (by kernel_rfl) (by kernel_rfl) (by kernel_rfl) h

/-- 9: buttery/code.Num -/
def sh_code_Num (b_0 : Sl) (n_1 : Int) (w : World) (R : Ending → World → Prop) : Prop :=
  VCall none Try.prog 30 #[.slice b_0.base b_0.len b_0.cap, .int .u64 (bXor .u64 (IntKind.wrap .u64 ((IntKind.wrap .u64 n_1) * 2 ^ 1)) (IntKind.wrap .u64 (Int.fdiv n_1 (2 ^ 63))))] w (.slice none 0 0) fun (r13 : Sl) (w1 : World) =>
  R (.returned (.slice r13.base r13.len r13.cap)) w1
theorem sh_code_Num_ok (b_0 : Sl) (n_1 : Int) (w : World) (R : Ending → World → Prop) (h : sh_code_Num b_0 n_1 w R) : Calls Try.prog 9 #[.slice b_0.base b_0.len b_0.cap, .int .i64 n_1] w R :=
  calls_of_sh (args := [.slice b_0.base b_0.len b_0.cap, .int .i64 n_1]) (.two .auto (.two .auto .auto)) Try.func9 (by kernel_rfl) (by kernel_rfl) (by kernel_rfl) h

/-- 10: buttery/code.Count -/
def sh_code_Count (b_0 : Sl) (n_1 : Int) (w : World) (R : Ending → World → Prop) : Prop :=
  VIf ((decide (n_1 < 0)) || (decide (n_1 > 2147483647))) (
    VCall none Try.prog 31 #[.slice b_0.base b_0.len b_0.cap] w (.slice none 0 0) fun (r12 : Sl) (w1 : World) =>
    R (.returned (.slice r12.base r12.len r12.cap)) w1
  ) (
    VCall none Try.prog 30 #[.slice b_0.base b_0.len b_0.cap, .int .u64 (IntKind.wrap .u64 n_1)] w (.slice none 0 0) fun (r16 : Sl) (w2 : World) =>
    R (.returned (.slice r16.base r16.len r16.cap)) w2
  )
theorem sh_code_Count_ok (b_0 : Sl) (n_1 : Int) (w : World) (R : Ending → World → Prop) (h : sh_code_Count b_0 n_1 w R) : Calls Try.prog 10 #[.slice b_0.base b_0.len b_0.cap, .int .i64 n_1] w R :=
  calls_of_sh (args := [.slice b_0.base b_0.len b_0.cap, .int .i64 n_1]) (.two .auto (.two (.two .auto (.two (.two .auto .auto) .auto)) (.two .auto .auto))) Try.func10 (by kernel_rfl) (by kernel_rfl) (by kernel_rfl) h

/-- 11: buttery/code.Str -/
def sh_code_Str (b_0 : Sl) (s_1 : ByteArray) (w : World) (R : Ending → World → Prop) : Prop :=
  VIf (decide (((s_1.size : Nat) : Int) > 2147483647)) (
    VCall none Try.prog 31 #[.slice b_0.base b_0.len b_0.cap] w (.slice none 0 0) fun (r9 : Sl) (w1 : World) =>
    R (.returned (.slice r9.base r9.len r9.cap)) w1
  ) (
    VCall none Try.prog 10 #[.slice b_0.base b_0.len b_0.cap, .int .i64 ((s_1.size : Nat) : Int)] w (.slice none 0 0) fun (r13 : Sl) (w2 : World) =>
    VApp none w2 5 1 1 #[.int .u8 0] r13.base r13.len r13.cap s_1.size (fun news => news = strCells s_1) fun (l15 : Sl) (w3 : World) =>
    R (.returned (.slice l15.base l15.len l15.cap)) w3
  )
theorem sh_code_Str_ok (b_0 : Sl) (s_1 : ByteArray) (w : World) (R : Ending → World → Prop) (h : sh_code_Str b_0 s_1 w R) : Calls Try.prog 11 #[.slice b_0.base b_0.len b_0.cap, .string s_1] w R :=
  calls_of_sh (args := [.slice b_0.base b_0.len b_0.cap, .string s_1]) (.two .auto (.two (.two .auto (.two (.two .auto .auto) .auto)) (.two .auto .auto))) Try.func11 (by kernel_rfl) (by kernel_rfl) (by kernel_rfl) h

/-- 12: buttery/code.Flag -/
def sh_code_Flag (b_0 : Sl) (v_1 : Bool) (w : World) (R : Ending → World → Prop) : Prop :=
  ∃ Φ1 : Int → World → Prop, (
    VIf v_1 (
      Φ1 1 w
    ) (
      Φ1 0 w
    )
  ) ∧ ∀ (n_5 : Int) (w1 : World), Φ1 n_5 w1 →
  VCall none Try.prog 10 #[.slice b_0.base b_0.len b_0.cap, .int .i64 n_5] w1 (.slice none 0 0) fun (r9 : Sl) (w2 : World) =>
  R (.returned (.slice r9.base r9.len r9.cap)) w2
theorem sh_code_Flag_ok (b_0 : Sl) (v_1 : Bool) (w : World) (R : Ending → World → Prop) (h : sh_code_Flag b_0 v_1 w R) : Calls Try.prog 12 #[.slice b_0.base b_0.len b_0.cap, .bool v_1] w R :=
  calls_of_sh (args := [.slice b_0.base b_0.len b_0.cap, .bool v_1]) (.two .auto (.two .auto (.join [(5, .int .i64 0)] (.two .auto (.two .auto .auto)) (.two .auto .auto)))) Try.func12 (by kernel_rfl) (by kernel_rfl) (by kernel_rfl) h

/-- 13: buttery/butteryref01.Num -/
def sh_butteryref01_Num (b_0 : Sl) (n_1 : Int) (w : World) (R : Ending → World → Prop) : Prop :=
  VIf (decide (n_1 ≥ 0)) (
    VCall none Try.prog 33 #[.int .u64 (IntKind.wrap .u64 ((IntKind.wrap .u64 n_1) * 2))] w (.slice none 0 0) fun (r11 : Sl) (w1 : World) =>
    VCall none Try.prog 32 #[.slice b_0.base b_0.len b_0.cap, .slice r11.base r11.len r11.cap] w1 (.slice none 0 0) fun (r12 : Sl) (w2 : World) =>
    R (.returned (.slice r12.base r12.len r12.cap)) w2
  ) (
    VCall none Try.prog 33 #[.int .u64 (IntKind.wrap .u64 ((IntKind.wrap .u64 ((IntKind.wrap .u64 (IntKind.wrap .i64 (0 - (IntKind.wrap .i64 (n_1 + 1))))) * 2)) + 1))] w (.slice none 0 0) fun (r20 : Sl) (w3 : World) =>
    VCall none Try.prog 32 #[.slice b_0.base b_0.len b_0.cap, .slice r20.base r20.len r20.cap] w3 (.slice none 0 0) fun (r21 : Sl) (w4 : World) =>
    R (.returned (.slice r21.base r21.len r21.cap)) w4
  )
theorem sh_butteryref01_Num_ok (b_0 : Sl) (n_1 : Int) (w : World) (R : Ending → World → Prop) (h : sh_butteryref01_Num b_0 n_1 w R) : Calls Try.prog 13 #[.slice b_0.base b_0.len b_0.cap, .int .i64 n_1] w R :=
  calls_of_sh (args := [.slice b_0.base b_0.len b_0.cap, .int .i64 n_1]) (.two .auto (.two (.two .auto (.two (.two .auto .auto) .auto)) (.two .auto .auto))) Try.func13 (by kernel_rfl) (by kernel_rfl) (by kernel_rfl) h

/-- 14: buttery/butteryref01.Count -/
def sh_butteryref01_Count (b_0 : Sl) (n_1 : Int) (w : World) (R : Ending → World → Prop) : Prop :=
  VIf ((decide (n_1 < 0)) || (decide (n_1 > 2147483647))) (
    VCall none Try.prog 32 #[.slice b_0.base b_0.len b_0.cap, .slice none 0 0] w (.slice none 0 0) fun (r12 : Sl) (w1 : World) =>
    R (.returned (.slice r12.base r12.len r12.cap)) w1
  ) (
    VCall none Try.prog 33 #[.int .u64 (IntKind.wrap .u64 n_1)] w (.slice none 0 0) fun (r16 : Sl) (w2 : World) =>
    VCall none Try.prog 32 #[.slice b_0.base b_0.len b_0.cap, .slice r16.base r16.len r16.cap] w2 (.slice none 0 0) fun (r17 : Sl) (w3 : World) =>
    R (.returned (.slice r17.base r17.len r17.cap)) w3
  )
theorem sh_butteryref01_Count_ok (b_0 : Sl) (n_1 : Int) (w : World) (R : Ending → World → Prop) (h : sh_butteryref01_Count b_0 n_1 w R) : Calls Try.prog 14 #[.slice b_0.base b_0.len b_0.cap, .int .i64 n_1] w R :=
  calls_of_sh (args := [.slice b_0.base b_0.len b_0.cap, .int .i64 n_1]) (.two .auto (.two (.two .auto (.two (.two .auto .auto) .auto)) (.two .auto .auto))) Try.func14 (by kernel_rfl) (by kernel_rfl) (by kernel_rfl) h

/-- 15: buttery/butteryref01.Str -/
def sh_butteryref01_Str (b_0 : Sl) (s_1 : ByteArray) (w : World) (R : Ending → World → Prop) : Prop :=
  VCall none Try.prog 14 #[.slice b_0.base b_0.len b_0.cap, .int .i64 ((s_1.size : Nat) : Int)] w (.slice none 0 0) fun (r8 : Sl) (w1 : World) =>
  VBytes none w1 5 s_1 fun (b10 cb10 : Nat) (w2 : World) =>
  VCall none Try.prog 32 #[.slice r8.base r8.len r8.cap, .slice (some ⟨b10, 0, none⟩) s_1.size cb10] w2 (.slice none 0 0) fun (r11 : Sl) (w3 : World) =>
  R (.returned (.slice r11.base r11.len r11.cap)) w3
theorem sh_butteryref01_Str_ok (b_0 : Sl) (s_1 : ByteArray) (w : World) (R : Ending → World → Prop) (h : sh_butteryref01_Str b_0 s_1 w R) : Calls Try.prog 15 #[.slice b_0.base b_0.len b_0.cap, .string s_1] w R :=
  calls_of_sh (args := [.slice b_0.base b_0.len b_0.cap, .string s_1]) (.two .auto (.two .auto .auto)) Try.func15 (by kernel_rfl) (by kernel_rfl) (by kernel_rfl) h

/-- 16: buttery/butteryref01.Flag -/
def sh_butteryref01_Flag (b_0 : Sl) (v_1 : Bool) (w : World) (R : Ending → World → Prop) : Prop :=
  VIf v_1 (
    VNw none w (.cells #[.int .u8 1] 5) fun (b7 : Nat) (w1 : World) =>
    VCall none Try.prog 32 #[.slice b_0.base b_0.len b_0.cap, .slice (some ⟨b7, 0, none⟩) 1 1] w1 (.slice none 0 0) fun (r8 : Sl) (w2 : World) =>
    R (.returned (.slice r8.base r8.len r8.cap)) w2
  ) (
    VNw none w (.cells #[.int .u8 0] 5) fun (b10 : Nat) (w3 : World) =>
    VCall none Try.prog 32 #[.slice b_0.base b_0.len b_0.cap, .slice (some ⟨b10, 0, none⟩) 1 1] w3 (.slice none 0 0) fun (r11 : Sl) (w4 : World) =>
    R (.returned (.slice r11.base r11.len r11.cap)) w4
  )
theorem sh_butteryref01_Flag_ok (b_0 : Sl) (v_1 : Bool) (w : World) (R : Ending → World → Prop) (h : sh_butteryref01_Flag b_0 v_1 w R) : Calls Try.prog 16 #[.slice b_0.base b_0.len b_0.cap, .bool v_1] w R :=
  calls_of_sh (args := [.slice b_0.base b_0.len b_0.cap, .bool v_1]) (.two .auto (.two (.two .auto (.two (.two .auto .auto) .auto)) (.two .auto .auto))) Try.func16 (by kernel_rfl) (by kernel_rfl) (by kernel_rfl) h

/-- 17: buttery/code.NewReader -/
def sh_code_NewReader (b_0 : Sl) (w : World) (R : Ending → World → Prop) : Prop :=
  VCall none Try.prog 31 #[.slice b_0.base b_0.len b_0.cap] w (.slice none 0 0) fun (r4 : Sl) (w1 : World) =>
  VNw none w1 (.cells #[.slice r4.base r4.len r4.cap, .bool false] 57) fun (b6 : Nat) (w2 : World) =>
  VNw none w2 (.cells #[.pointer (some ⟨b6, 0, none⟩)] 59) fun (b8 : Nat) (w3 : World) =>
  R (.returned (.pointer (some ⟨b8, 0, none⟩))) w3
theorem sh_code_NewReader_ok (b_0 : Sl) (w : World) (R : Ending → World → Prop) (h : sh_code_NewReader b_0 w R) : Calls Try.prog 17 #[.slice b_0.base b_0.len b_0.cap] w R :=
  calls_of_sh (args := [.slice b_0.base b_0.len b_0.cap]) (.two .auto (.two .auto .auto)) Try.func17 (by kernel_rfl) (by kernel_rfl) (by kernel_rfl) h

/-- 18: (*buttery/code.Reader).OK -/
def sh_code_Reader_OK (r_0 : Option Addr) (w : World) (R : Ending → World → Prop) : Prop :=
  VNN (some (!r_0.isNone)) r_0 fun (a7 : Addr) =>
  VLd (some (!r_0.isNone)) w a7 [CT.ptr] fun (v9 : Option Addr) =>
  VCall (some (!r_0.isNone)) Try.prog 34 #[.pointer v9] w (.bool false) fun (r10 : Bool) (w1 : World) =>
  R (.returned (.bool ((!r_0.isNone) && r10))) w1
theorem sh_code_Reader_OK_ok (r_0 : Option Addr) (w : World) (R : Ending → World → Prop) (h : sh_code_Reader_OK r_0 w R) : Calls Try.prog 18 #[.pointer r_0] w R :=
  calls_of_sh (args := [.pointer r_0]) (.two .auto (.two .auto .auto)) Try.func18 (by kernel_rfl) (by kernel_rfl) (by kernel_rfl) h

/-- 19: (*buttery/code.Reader).Left -/
def sh_code_Reader_Left (r_0 : Option Addr) (w : World) (R : Ending → World → Prop) : Prop :=
  VIf r_0.isNone (
    R (.returned (.int .i64 0)) w
  ) (
    VNN none r_0 fun (a6 : Addr) =>
    VLd none w a6 [CT.ptr] fun (v8 : Option Addr) =>
    VCall none Try.prog 35 #[.pointer v8] w (.int .i64 0) fun (r9 : Int) (w1 : World) =>
    VSet r9 fun (v2 : Int) =>
    R (.returned (.int .i64 v2)) w1
  )
theorem sh_code_Reader_Left_ok (r_0 : Option Addr) (w : World) (R : Ending → World → Prop) (h : sh_code_Reader_Left r_0 w R) : Calls Try.prog 19 #[.pointer r_0] w R :=
  calls_of_sh (args := [.pointer r_0]) (.two .auto (.two (.two .auto (.two (.two .auto .auto) .auto)) (.two .auto .auto))) Try.func19 (by kernel_rfl) (by kernel_rfl) (by kernel_rfl) h

/-- 20: (*buttery/code.Reader).Done -/
def sh_code_Reader_Done (r_0 : Option Addr) (w : World) (R : Ending → World → Prop) : Prop :=
  VCall none Try.prog 18 #[.pointer r_0] w (.bool false) fun (r4 : Bool) (w1 : World) =>
  VCall (some r4) Try.prog 19 #[.pointer r_0] w1 (.int .i64 0) fun (r7 : Int) (w2 : World) =>
  R (.returned (.bool (r4 && (r7 == 0)))) w2
theorem sh_code_Reader_Done_ok (r_0 : Option Addr) (w : World) (R : Ending → World → Prop) (h : sh_code_Reader_Done r_0 w R) : Calls Try.prog 20 #[.pointer r_0] w R :=
  calls_of_sh (args := [.pointer r_0]) (.two .auto (.two .auto .auto)) Try.func20 (by kernel_rfl) (by kernel_rfl) (by kernel_rfl) h

/-- 21: (*buttery/code.Reader).Num -/
def sh_code_Reader_Num (r_0 : Option Addr) (w : World) (R : Ending → World → Prop) : Prop :=
  VIf r_0.isNone (
    R (.returned (.int .i64 0)) w
  ) (
    VCall none Try.prog 36 #[.pointer r_0] w (.tuple #[.int .u64 0, .bool false]) fun (r9_0 : Int) (r9_1 : Bool) (w1 : World) =>
    VSet r9_0 fun (u_3 : Int) =>
    VCall none Try.prog 37 #[.pointer r_0, .int .i64 (bXor .i64 (IntKind.wrap .i64 (Int.fdiv u_3 (2 ^ 1))) (IntKind.wrap .i64 (0 - (IntKind.wrap .i64 (bAnd .u64 u_3 1))))), .bool r9_1] w1 (.int .i64 0) fun (r22 : Int) (w2 : World) =>
    VSet r22 fun (v2 : Int) =>
    R (.returned (.int .i64 v2)) w2
  )
theorem sh_code_Reader_Num_ok (r_0 : Option Addr) (w : World) (R : Ending → World → Prop) (h : sh_code_Reader_Num r_0 w R) : Calls Try.prog 21 #[.pointer r_0] w R :=
  calls_of_sh (args := [.pointer r_0]) (.two .auto (.two (.two .auto (.two (.two .auto .auto) .auto)) (.two .auto (.two .auto .auto)))) Try.func21 (by kernel_rfl) (by kernel_rfl) (by kernel_rfl) h

/-- 22: (*buttery/butteryref01.Reader).Num -/
def sh_butteryref01_Reader_Num (r_0 : Option Addr) (w : World) (R : Ending → World → Prop) : Prop :=
  VCall none Try.prog 38 #[.pointer r_0] w (.int .u64 0) fun (r5 : Int) (w1 : World) =>
  VSet r5 fun (u_3 : Int) =>
  VNN none r_0 fun (a7 : Addr) =>
  VLd none w1 (Addr.add a7 1) [CT.bool] fun (v9 : Bool) =>
  VIf v9 (
    R (.returned (.int .i64 0)) w1
  ) (
    VIf ((Int.tmod u_3 2) == 0) (
      VSet (IntKind.wrap .i64 (IntKind.wrap .u64 (Int.tdiv u_3 2))) fun (v2 : Int) =>
      R (.returned (.int .i64 v2)) w1
    ) (
      VSet (IntKind.wrap .i64 ((IntKind.wrap .i64 (0 - (IntKind.wrap .i64 (IntKind.wrap .u64 (Int.tdiv u_3 2))))) - 1)) fun (v2' : Int) =>
      R (.returned (.int .i64 v2')) w1
    )
  )
theorem sh_butteryref01_Reader_Num_ok (r_0 : Option Addr) (w : World) (R : Ending → World → Prop) (h : sh_butteryref01_Reader_Num r_0 w R) : Calls Try.prog 22 #[.pointer r_0] w R :=
  calls_of_sh (args := [.pointer r_0]) (.two .auto (.two .auto (.two (.two .auto (.two (.two .auto .auto) .auto)) (.two (.two .auto (.two (.two .auto .auto) .auto)) (.two .auto .auto))))) Try.func22 (by kernel_rfl) (by kernel_rfl) (by kernel_rfl) h

/-- 23: (*buttery/code.Reader).Count -/
def sh_code_Reader_Count (r_0 : Option Addr) (most_1 : Int) (w : World) (R : Ending → World → Prop) : Prop :=
  VIf r_0.isNone (
    R (.returned (.int .i64 0)) w
  ) (
    VCall none Try.prog 36 #[.pointer r_0] w (.tuple #[.int .u64 0, .bool false]) fun (r11_0 : Int) (r11_1 : Bool) (w1 : World) =>
    VSet r11_0 fun (u_5 : Int) =>
    VCall none Try.prog 39 #[.pointer r_0, .int .i64 (IntKind.wrap .i64 u_5), .bool (((r11_1 && (decide (most_1 ≥ 0))) && (decide (u_5 ≤ 2147483647))) && (decide ((IntKind.wrap .i64 u_5) ≤ most_1)))] w1 (.int .i64 0) fun (r32 : Int) (w2 : World) =>
    VSet r32 fun (v4 : Int) =>
    R (.returned (.int .i64 v4)) w2
  )
theorem sh_code_Reader_Count_ok (r_0 : Option Addr) (most_1 : Int) (w : World) (R : Ending → World → Prop) (h : sh_code_Reader_Count r_0 most_1 w R) : Calls Try.prog 23 #[.pointer r_0, .int .i64 most_1] w R :=
  calls_of_sh (args := [.pointer r_0, .int .i64 most_1]) (.two .auto (.two (.two .auto (.two (.two .auto .auto) .auto)) (.two .auto (.two .auto .auto)))) Try.func23 (by kernel_rfl) (by kernel_rfl) (by kernel_rfl) h

/-- 24: (*buttery/butteryref01.Reader).Count -/
def sh_butteryref01_Reader_Count (r_0 : Option Addr) (most_1 : Int) (w : World) (R : Ending → World → Prop) : Prop :=
  VCall none Try.prog 38 #[.pointer r_0] w (.int .u64 0) fun (r7 : Int) (w1 : World) =>
  VSet r7 fun (u_5 : Int) =>
  VNN none r_0 fun (a9 : Addr) =>
  VLd none w1 (Addr.add a9 1) [CT.bool] fun (v11 : Bool) =>
  VIf (((v11 || (decide (most_1 < 0))) || (decide (u_5 > 2147483647))) || (decide ((IntKind.wrap .i64 u_5) > most_1))) (
    VCall none Try.prog 40 #[.pointer r_0] w1 (.tuple #[]) fun (w2 : World) =>
    R (.returned (.int .i64 0)) w2
  ) (
    VSet (IntKind.wrap .i64 u_5) fun (v4 : Int) =>
    R (.returned (.int .i64 v4)) w1
  )
theorem sh_butteryref01_Reader_Count_ok (r_0 : Option Addr) (most_1 : Int) (w : World) (R : Ending → World → Prop) (h : sh_butteryref01_Reader_Count r_0 most_1 w R) : Calls Try.prog 24 #[.pointer r_0, .int .i64 most_1] w R :=
  calls_of_sh (args := [.pointer r_0, .int .i64 most_1]) (.two .auto (.two .auto (.two (.two .auto (.two (.two .auto (.two .auto .auto)) .auto)) (.two .auto .auto)))) Try.func24 (by kernel_rfl) (by kernel_rfl) (by kernel_rfl) h

/-- 25: (*buttery/code.Reader).Str -/
def sh_code_Reader_Str (r_0 : Option Addr) (most_1 : Int) (w : World) (R : Ending → World → Prop) : Prop :=
  VIf r_0.isNone (
    R (.returned (.string (ByteArray.mk #[]))) w
  ) (
    VCall none Try.prog 23 #[.pointer r_0, .int .i64 most_1] w (.int .i64 0) fun (r10 : Int) (w1 : World) =>
    VSet r10 fun (n_5 : Int) =>
    VCall none Try.prog 18 #[.pointer r_0] w1 (.bool false) fun (r12 : Bool) (w2 : World) =>
    VNN (some (!(!r12))) r_0 fun (a17 : Addr) =>
    VLd (some (!(!r12))) w2 a17 [CT.ptr] fun (v19 : Option Addr) =>
    VNN (some (!(!r12))) v19 fun (a20 : Addr) =>
    VLd (some (!(!r12))) w2 a20 [CT.sl] fun (v22 : Sl) =>
    VIf ((!r12) || (decide (n_5 > ((v22.len : Nat) : Int)))) (
      VCall none Try.prog 41 #[.pointer r_0, .string (ByteArray.mk #[]), .bool false] w2 (.string ByteArray.empty) fun (r27 : ByteArray) (w3 : World) =>
      R (.returned (.string r27)) w3
    ) (
      VNN none r_0 fun (a30 : Addr) =>
      VLd none w2 a30 [CT.ptr] fun (v32 : Option Addr) =>
      VCall none Try.prog 42 #[.pointer v32, .int .i64 n_5] w2 (.slice none 0 0) fun (r34 : Sl) (w4 : World) =>
      VStr none w4 r34.base r34.len fun (s35 : ByteArray) =>
      VCall none Try.prog 41 #[.pointer r_0, .string s35, .bool true] w4 (.string ByteArray.empty) fun (r36 : ByteArray) (w5 : World) =>
      R (.returned (.string r36)) w5
    )
  )
theorem sh_code_Reader_Str_ok (r_0 : Option Addr) (most_1 : Int) (w : World) (R : Ending → World → Prop) (h : sh_code_Reader_Str r_0 most_1 w R) : Calls Try.prog 25 #[.pointer r_0, .int .i64 most_1] w R :=
  calls_of_sh (args := [.pointer r_0, .int .i64 most_1]) (.two .auto (.two (.two .auto (.two (.two .auto .auto) .auto)) (.two .auto (.two (.two .auto (.two (.two .auto .auto) .auto)) (.two .auto .auto))))) Try.func25 (by kernel_rfl) (by kernel_rfl) (by kernel_rfl) h

/-- 26: (*buttery/butteryref01.Reader).Str -/
def sh_butteryref01_Reader_Str (r_0 : Option Addr) (most_1 : Int) (w : World) (R : Ending → World → Prop) : Prop :=
  VCall none Try.prog 24 #[.pointer r_0, .int .i64 most_1] w (.int .i64 0) fun (r9 : Int) (w1 : World) =>
  VSet r9 fun (n_5 : Int) =>
  VNN none r_0 fun (a11 : Addr) =>
  VLd none w1 (Addr.add a11 1) [CT.bool] fun (v13 : Bool) =>
  VNN (some (!v13)) r_0 fun (a17 : Addr) =>
  VLd (some (!v13)) w1 a17 [CT.sl] fun (v19 : Sl) =>
  VIf (v13 || (decide (n_5 > ((v19.len : Nat) : Int)))) (
    VCall none Try.prog 40 #[.pointer r_0] w1 (.tuple #[]) fun (w2 : World) =>
    R (.returned (.string (ByteArray.mk #[]))) w2
  ) (
    VNN none r_0 fun (a26 : Addr) =>
    VLd none w1 a26 [CT.sl] fun (v28 : Sl) =>
    VCk none ((0 : Int) ≤ 0 ∧ 0 ≤ n_5 ∧ n_5 ≤ ((v28.cap : Nat) : Int)) (
      VStr none w1 (cutB v28.base v28.cap 1 0) ((Int.toNat n_5) - 0) fun (s31 : ByteArray) =>
      VNN none r_0 fun (a34 : Addr) =>
      VLd none w1 a34 [CT.sl] fun (v36 : Sl) =>
      VCk none ((0 : Int) ≤ n_5 ∧ n_5 ≤ ((v36.len : Nat) : Int) ∧ ((v36.len : Nat) : Int) ≤ ((v36.cap : Nat) : Int)) (
        VNN none r_0 fun (a39 : Addr) =>
        VSt none w1 a39 [.slice (cutB v36.base v36.cap 1 (Int.toNat n_5)) (v36.len - (Int.toNat n_5)) (v36.cap - (Int.toNat n_5))] fun (w3 : World) =>
        R (.returned (.string s31)) w3
      )
    )
  )
theorem sh_butteryref01_Reader_Str_ok (r_0 : Option Addr) (most_1 : Int) (w : World) (R : Ending → World → Prop) (h : sh_butteryref01_Reader_Str r_0 most_1 w R) : Calls Try.prog 26 #[.pointer r_0, .int .i64 most_1] w R :=
  calls_of_sh (args := [.pointer r_0, .int .i64 most_1]) (.two .auto (.two .auto (.two (.two .auto (.two (.two .auto (.two .auto .auto)) .auto)) (.two .auto (.two .auto (.two .auto .auto)))))) Try.func26 (by kernel_rfl) (by kernel_rfl) (by kernel_rfl) h

/-- 27: (*buttery/code.Reader).Flag -/
def sh_code_Reader_Flag (r_0 : Option Addr) (w : World) (R : Ending → World → Prop) : Prop :=
  VIf r_0.isNone (
    R (.returned (.bool false)) w
  ) (
    VCall none Try.prog 23 #[.pointer r_0, .int .i64 1] w (.int .i64 0) fun (r6 : Int) (w1 : World) =>
    R (.returned (.bool (r6 == 1))) w1
  )
theorem sh_code_Reader_Flag_ok (r_0 : Option Addr) (w : World) (R : Ending → World → Prop) (h : sh_code_Reader_Flag r_0 w R) : Calls Try.prog 27 #[.pointer r_0] w R :=
  calls_of_sh (args := [.pointer r_0]) (.two .auto (.two (.two .auto (.two (.two .auto .auto) .auto)) (.two .auto .auto))) Try.func27 (by kernel_rfl) (by kernel_rfl) (by kernel_rfl) h

/-- 28: (*buttery/butteryref01.Reader).Flag -/
def sh_butteryref01_Reader_Flag (r_0 : Option Addr) (w : World) (R : Ending → World → Prop) : Prop :=
  VCall none Try.prog 24 #[.pointer r_0, .int .i64 1] w (.int .i64 0) fun (r4 : Int) (w1 : World) =>
  R (.returned (.bool (r4 == 1))) w1
theorem sh_butteryref01_Reader_Flag_ok (r_0 : Option Addr) (w : World) (R : Ending → World → Prop) (h : sh_butteryref01_Reader_Flag r_0 w R) : Calls Try.prog 28 #[.pointer r_0] w R :=
  calls_of_sh (args := [.pointer r_0]) (.two .auto (.two .auto .auto)) Try.func28 (by kernel_rfl) (by kernel_rfl) (by kernel_rfl) h

/-- 29: buttery/butterylaw01.works -/
def sh_butterylaw01_works (w : World) (R : Ending → World → Prop) : Prop :=
  VCall none Try.prog 10 #[.slice none 0 0, .int .i64 128] w (.slice none 0 0) fun (r3 : Sl) (w1 : World) =>
  VCall none Try.prog 9 #[.slice r3.base r3.len r3.cap, .int .i64 (-1)] w1 (.slice none 0 0) fun (r4 : Sl) (w2 : World) =>
  VCall none Try.prog 11 #[.slice r4.base r4.len r4.cap, .string (ByteArray.mk #[97, 98])] w2 (.slice none 0 0) fun (r5 : Sl) (w3 : World) =>
  VCall none Try.prog 12 #[.slice r5.base r5.len r5.cap, .bool true] w3 (.slice none 0 0) fun (r6 : Sl) (w4 : World) =>
  VCall none Try.prog 17 #[.slice r6.base r6.len r6.cap] w4 (.pointer none) fun (r8 : Option Addr) (w5 : World) =>
  VStr none w5 r6.base r6.len fun (s10 : ByteArray) =>
  VCall (some (s10.toList == (ByteArray.mk #[128, 1, 1, 2, 97, 98, 1]).toList)) Try.prog 23 #[.pointer r8, .int .i64 200] w5 (.int .i64 0) fun (r14 : Int) (w6 : World) =>
  VCall (some ((s10.toList == (ByteArray.mk #[128, 1, 1, 2, 97, 98, 1]).toList) && (r14 == 128))) Try.prog 21 #[.pointer r8] w6 (.int .i64 0) fun (r19 : Int) (w7 : World) =>
  VCall (some (((s10.toList == (ByteArray.mk #[128, 1, 1, 2, 97, 98, 1]).toList) && (r14 == 128)) && (r19 == (-1)))) Try.prog 25 #[.pointer r8, .int .i64 2] w7 (.string ByteArray.empty) fun (r24 : ByteArray) (w8 : World) =>
  VCall (some ((((s10.toList == (ByteArray.mk #[128, 1, 1, 2, 97, 98, 1]).toList) && (r14 == 128)) && (r19 == (-1))) && (r24.toList == (ByteArray.mk #[97, 98]).toList))) Try.prog 20 #[.pointer r8] w8 (.bool false) fun (r29 : Bool) (w9 : World) =>
  VCall (some (((((s10.toList == (ByteArray.mk #[128, 1, 1, 2, 97, 98, 1]).toList) && (r14 == 128)) && (r19 == (-1))) && (r24.toList == (ByteArray.mk #[97, 98]).toList)) && (!r29))) Try.prog 27 #[.pointer r8] w9 (.bool false) fun (r34 : Bool) (w10 : World) =>
  VCall (some ((((((s10.toList == (ByteArray.mk #[128, 1, 1, 2, 97, 98, 1]).toList) && (r14 == 128)) && (r19 == (-1))) && (r24.toList == (ByteArray.mk #[97, 98]).toList)) && (!r29)) && r34)) Try.prog 20 #[.pointer r8] w10 (.bool false) fun (r38 : Bool) (w11 : World) =>
  R (.returned (.bool (((((((s10.toList == (ByteArray.mk #[128, 1, 1, 2, 97, 98, 1]).toList) && (r14 == 128)) && (r19 == (-1))) && (r24.toList == (ByteArray.mk #[97, 98]).toList)) && (!r29)) && r34) && r38))) w11
theorem sh_butterylaw01_works_ok (w : World) (R : Ending → World → Prop) (h : sh_butterylaw01_works w R) : Calls Try.prog 29 #[] w R :=
  calls_of_sh (args := []) (.two .auto (.two .auto (.two .auto (.two .auto .auto)))) Try.func29 (by kernel_rfl) (by kernel_rfl) (by kernel_rfl) h

/-- 30: buttery/code.uvarint -/
def sh_code_uvarint (b_0 : Sl) (u_1 : Int) (w : World) (R : Ending → World → Prop) : Prop :=
  VCall none Try.prog 31 #[.slice b_0.base b_0.len b_0.cap] w (.slice none 0 0) fun (r7 : Sl) (w1 : World) =>
  ∃ I1 : Nat → Int → Sl → World → Prop, (∃ k, I1 k u_1 r7 w1) ∧ ∀ k1 (u_1 : Int) (out_5 : Sl) (w2 : World), I1 k1 u_1 out_5 w2 →
  VIf (decide (u_1 > 127)) (
    VNw none w2 (.cells #[.int .u8 (bOr .u8 (IntKind.wrap .u8 u_1) 128)] 5) fun (b16 : Nat) (w3 : World) =>
    VApp none w3 5 1 1 #[.int .u8 0] out_5.base out_5.len out_5.cap 1 (fun news => Seg w3 (some ⟨b16, 0, none⟩) 1 1 news) fun (l17 : Sl) (w4 : World) =>
    VSet (Int.fdiv u_1 (2 ^ 7)) fun (u_1' : Int) =>
    ∃ k', k' < k1 ∧ I1 k' u_1' l17 w4
  ) (
    VNw none w2 (.cells #[.int .u8 (IntKind.wrap .u8 u_1)] 5) fun (b21 : Nat) (w5 : World) =>
    VApp none w5 5 1 1 #[.int .u8 0] out_5.base out_5.len out_5.cap 1 (fun news => Seg w5 (some ⟨b21, 0, none⟩) 1 1 news) fun (l22 : Sl) (w6 : World) =>
    R (.returned (.slice l22.base l22.len l22.cap)) w6
  )
theorem sh_code_uvarint_ok (b_0 : Sl) (u_1 : Int) (w : World) (R : Ending → World → Prop) (h : sh_code_uvarint b_0 u_1 w R) : Calls Try.prog 30 #[.slice b_0.base b_0.len b_0.cap, .int .u64 u_1] w R :=
  calls_of_sh (args := [.slice b_0.base b_0.len b_0.cap, .int .u64 u_1]) (.two .auto (.two .auto (.two (.one (.loop [(1, .int .u64 0), (5, .slice none 0 0)] (.two (.two .auto (.two .auto .auto)) (.two (.one .auto) .auto)))) (.two .auto .auto)))) Try.func30 (by kernel_rfl) (by kernel_rfl) (by kernel_rfl) h

/-- 31: bytes.Clone -/
def sh_bytes_Clone (b_0 : Sl) (w : World) (R : Ending → World → Prop) : Prop :=
  VIf b_0.base.isNone (
    R (.returned (.slice none 0 0)) w
  ) (
    VNw none w (.cells #[] 5) fun (b5 : Nat) (w1 : World) =>
    VApp none w1 5 1 1 #[.int .u8 0] (some ⟨b5, 0, none⟩) 0 0 b_0.len (fun news => Seg w1 b_0.base b_0.len 1 news) fun (l7 : Sl) (w2 : World) =>
    R (.returned (.slice l7.base l7.len l7.cap)) w2
  )
theorem sh_bytes_Clone_ok (b_0 : Sl) (w : World) (R : Ending → World → Prop) (h : sh_bytes_Clone b_0 w R) : Calls Try.prog 31 #[.slice b_0.base b_0.len b_0.cap] w R :=
  calls_of_sh (args := [.slice b_0.base b_0.len b_0.cap]) (.two .auto (.two (.two .auto (.two (.two .auto .auto) .auto)) (.two .auto .auto))) Try.func31 (by kernel_rfl) (by kernel_rfl) (by kernel_rfl) h

/-- 32: buttery/butteryref01.with -/
def sh_butteryref01_with (b_0 : Sl) (c_1 : Sl) (w : World) (R : Ending → World → Prop) : Prop :=
  VNw none w (.cells #[] 5) fun (b6 : Nat) (w1 : World) =>
  VApp none w1 5 1 1 #[.int .u8 0] (some ⟨b6, 0, none⟩) 0 0 b_0.len (fun news => Seg w1 b_0.base b_0.len 1 news) fun (l8 : Sl) (w2 : World) =>
  VApp none w2 5 1 1 #[.int .u8 0] l8.base l8.len l8.cap c_1.len (fun news => Seg w2 c_1.base c_1.len 1 news) fun (l11 : Sl) (w3 : World) =>
  R (.returned (.slice l11.base l11.len l11.cap)) w3
theorem sh_butteryref01_with_ok (b_0 : Sl) (c_1 : Sl) (w : World) (R : Ending → World → Prop) (h : sh_butteryref01_with b_0 c_1 w R) : Calls Try.prog 32 #[.slice b_0.base b_0.len b_0.cap, .slice c_1.base c_1.len c_1.cap] w R :=
  calls_of_sh (args := [.slice b_0.base b_0.len b_0.cap, .slice c_1.base c_1.len c_1.cap]) (.two .auto (.two .auto (.two .auto .auto))) Try.func32 (by kernel_rfl) (by kernel_rfl) (by kernel_rfl) h

/-- 33: buttery/butteryref01.Uint -/
def sh_butteryref01_Uint (u_0 : Int) (w : World) (R : Ending → World → Prop) : Prop :=
  ∃ I1 : Nat → Int → Sl → World → Prop, (∃ k, I1 k u_0 ⟨none, 0, 0⟩ w) ∧ ∀ k1 (u_0 : Int) (out_3 : Sl) (w1 : World), I1 k1 u_0 out_3 w1 →
  VIf (decide (u_0 ≥ 128)) (
    VNw none w1 (.cells #[.int .u8 (IntKind.wrap .u8 (IntKind.wrap .u64 ((Int.tmod u_0 128) + 128)))] 5) fun (b11 : Nat) (w2 : World) =>
    VApp none w2 5 1 1 #[.int .u8 0] out_3.base out_3.len out_3.cap 1 (fun news => Seg w2 (some ⟨b11, 0, none⟩) 1 1 news) fun (l12 : Sl) (w3 : World) =>
    VSet (IntKind.wrap .u64 (Int.tdiv u_0 128)) fun (u_0' : Int) =>
    ∃ k', k' < k1 ∧ I1 k' u_0' l12 w3
  ) (
    VNw none w1 (.cells #[.int .u8 (IntKind.wrap .u8 u_0)] 5) fun (b18 : Nat) (w4 : World) =>
    VApp none w4 5 1 1 #[.int .u8 0] out_3.base out_3.len out_3.cap 1 (fun news => Seg w4 (some ⟨b18, 0, none⟩) 1 1 news) fun (l19 : Sl) (w5 : World) =>
    R (.returned (.slice l19.base l19.len l19.cap)) w5
  )
theorem sh_butteryref01_Uint_ok (u_0 : Int) (w : World) (R : Ending → World → Prop) (h : sh_butteryref01_Uint u_0 w R) : Calls Try.prog 33 #[.int .u64 u_0] w R :=
  calls_of_sh (args := [.int .u64 u_0]) (.two .auto (.two .auto (.two (.one (.loop [(0, .int .u64 0), (3, .slice none 0 0)] (.two (.two .auto (.two .auto .auto)) (.one (.two .auto .auto))))) (.two .auto .auto)))) Try.func33 (by kernel_rfl) (by kernel_rfl) (by kernel_rfl) h

/-- 34: (*buttery/code.rest).OK -/
def sh_code_rest_OK (r_0 : Option Addr) (w : World) (R : Ending → World → Prop) : Prop :=
  VNN (some (!r_0.isNone)) r_0 fun (a7 : Addr) =>
  VLd (some (!r_0.isNone)) w (Addr.add a7 1) [CT.bool] fun (v9 : Bool) =>
  R (.returned (.bool ((!r_0.isNone) && (!v9)))) w
theorem sh_code_rest_OK_ok (r_0 : Option Addr) (w : World) (R : Ending → World → Prop) (h : sh_code_rest_OK r_0 w R) : Calls Try.prog 34 #[.pointer r_0] w R :=
  calls_of_sh (args := [.pointer r_0]) (.two .auto (.two .auto .auto)) Try.func34 (by kernel_rfl) (by kernel_rfl) (by kernel_rfl) h

/-- 35: (*buttery/code.rest).Left -/
def sh_code_rest_Left (r_0 : Option Addr) (w : World) (R : Ending → World → Prop) : Prop :=
  VNN (some (!r_0.isNone)) r_0 fun (a7 : Addr) =>
  VLd (some (!r_0.isNone)) w (Addr.add a7 1) [CT.bool] fun (v9 : Bool) =>
  VIf (r_0.isNone || v9) (
    R (.returned (.int .i64 0)) w
  ) (
    VNN none r_0 fun (a12 : Addr) =>
    VLd none w a12 [CT.sl] fun (v14 : Sl) =>
    VSet ((v14.len : Nat) : Int) fun (v2 : Int) =>
    R (.returned (.int .i64 v2)) w
  )
theorem sh_code_rest_Left_ok (r_0 : Option Addr) (w : World) (R : Ending → World → Prop) (h : sh_code_rest_Left r_0 w R) : Calls Try.prog 35 #[.pointer r_0] w R :=
  calls_of_sh (args := [.pointer r_0]) (.two .auto (.two (.two .auto (.two (.two .auto .auto) .auto)) (.two .auto .auto))) Try.func35 (by kernel_rfl) (by kernel_rfl) (by kernel_rfl) h

/-- 36: (*buttery/code.Reader).uvarint -/
def sh_code_Reader_uvarint (r_0 : Option Addr) (w : World) (R : Ending → World → Prop) : Prop :=
  VCall none Try.prog 18 #[.pointer r_0] w (.bool false) fun (r7 : Bool) (w1 : World) =>
  VIf (!r7) (
    R (.returned (.tuple #[.int .u64 0, .bool false])) w1
  ) (
    VNN none r_0 fun (a11 : Addr) =>
    VLd none w1 a11 [CT.ptr] fun (v13 : Option Addr) =>
    VNN none v13 fun (a14 : Addr) =>
    VLd none w1 a14 [CT.sl] fun (v16 : Sl) =>
    VCall none Try.prog 43 #[.slice v16.base v16.len v16.cap] w1 (.tuple #[.int .u64 0, .int .i64 0]) fun (r17_0 : Int) (r17_1 : Int) (w2 : World) =>
    VSet r17_0 fun (u_4 : Int) =>
    VSet r17_1 fun (n_5 : Int) =>
    VNN (some ((!(decide (n_5 ≤ 0))) && (decide (n_5 > 1)))) r_0 fun (a27 : Addr) =>
    VLd (some ((!(decide (n_5 ≤ 0))) && (decide (n_5 > 1)))) w2 a27 [CT.ptr] fun (v29 : Option Addr) =>
    VNN (some ((!(decide (n_5 ≤ 0))) && (decide (n_5 > 1)))) v29 fun (a30 : Addr) =>
    VLd (some ((!(decide (n_5 ≤ 0))) && (decide (n_5 > 1)))) w2 a30 [CT.sl] fun (v32 : Sl) =>
    VIx (some ((!(decide (n_5 ≤ 0))) && (decide (n_5 > 1)))) v32.base v32.len (IntKind.wrap .i64 (n_5 - 1)) fun (a35 : Addr) =>
    VLd (some ((!(decide (n_5 ≤ 0))) && (decide (n_5 > 1)))) w2 (Addr.add a35 ((Int.toNat (IntKind.wrap .i64 (n_5 - 1))) * 1)) [CT.int .u8] fun (v36 : Int) =>
    VIf ((decide (n_5 ≤ 0)) || ((decide (n_5 > 1)) && (v36 == 0))) (
      R (.returned (.tuple #[.int .u64 0, .bool false])) w2
    ) (
      VNN none r_0 fun (a41 : Addr) =>
      VLd none w2 a41 [CT.ptr] fun (v43 : Option Addr) =>
      VCall none Try.prog 42 #[.pointer v43, .int .i64 n_5] w2 (.slice none 0 0) fun (r45 : Sl) (w3 : World) =>
      VSet u_4 fun (v2 : Int) =>
      R (.returned (.tuple #[.int .u64 v2, .bool true])) w3
    )
  )
theorem sh_code_Reader_uvarint_ok (r_0 : Option Addr) (w : World) (R : Ending → World → Prop) (h : sh_code_Reader_uvarint r_0 w R) : Calls Try.prog 36 #[.pointer r_0] w R :=
  calls_of_sh (args := [.pointer r_0]) (.two .auto (.two (.two .auto (.two (.two .auto .auto) .auto)) (.two .auto (.two (.two .auto (.two (.two .auto .auto) .auto)) (.two .auto (.two .auto .auto)))))) Try.func36 (by kernel_rfl) (by kernel_rfl) (by kernel_rfl) h

/-- 37: buttery/code.told of int64 -/
def sh_code_told (r_0 : Option Addr) (v_1 : Int) (ok_2 : Bool) (w : World) (R : Ending → World → Prop) : Prop :=
  ∃ Φ1 : World → Prop, (
    VIf (!ok_2) (
      VNN none r_0 fun (a11 : Addr) =>
      VLd none w a11 [CT.ptr] fun (v13 : Option Addr) =>
      VNN none v13 fun (a14 : Addr) =>
      VSt none w (Addr.add a14 1) [.bool true] fun (w1 : World) =>
      Φ1 w1
    ) (
      Φ1 w
    )
  ) ∧ ∀ (w2 : World), Φ1 w2 →
  VNN none r_0 fun (a17 : Addr) =>
  VLd none w2 a17 [CT.ptr] fun (v19 : Option Addr) =>
  VNN none v19 fun (a20 : Addr) =>
  VLd none w2 (Addr.add a20 1) [CT.bool] fun (v22 : Bool) =>
  VIf v22 (
    VSet 0 fun (v6 : Int) =>
    R (.returned (.int .i64 v6)) w2
  ) (
    VSet v_1 fun (v6' : Int) =>
    R (.returned (.int .i64 v6')) w2
  )
theorem sh_code_told_ok (r_0 : Option Addr) (v_1 : Int) (ok_2 : Bool) (w : World) (R : Ending → World → Prop) (h : sh_code_told r_0 v_1 ok_2 w R) : Calls Try.prog 37 #[.pointer r_0, .int .i64 v_1, .bool ok_2] w R :=
  calls_of_sh (args := [.pointer r_0, .int .i64 v_1, .bool ok_2]) (.two .auto (.join [] (.two .auto (.two .auto .auto)) (.two (.two .auto (.two (.two .auto (.two .auto .auto)) .auto)) (.two .auto .auto)))) Try.func37 (by kernel_rfl) (by kernel_rfl) (by kernel_rfl) h

/-- 38: (*buttery/butteryref01.Reader).uint -/
def sh_butteryref01_Reader_uint (r_0 : Option Addr) (w : World) (R : Ending → World → Prop) : Prop :=
  ∃ Φ1 : World → Prop, (
    ∃ I2 : Nat → Int → Int → Int → World → Prop, (∃ k, I2 k 0 1 0 w) ∧ ∀ k2 (u_3 : Int) (scale_4 : Int) (i_5 : Int) (w1 : World), I2 k2 u_3 scale_4 i_5 w1 →
    VNN none r_0 fun (a9 : Addr) =>
    VLd none w1 a9 [CT.sl] fun (v11 : Sl) =>
    VIf ((decide (i_5 < ((v11.len : Nat) : Int))) && (decide (i_5 < 10))) (
      VNN none r_0 fun (a21 : Addr) =>
      VLd none w1 a21 [CT.sl] fun (v23 : Sl) =>
      VIx none v23.base v23.len i_5 fun (a25 : Addr) =>
      VLd none w1 (Addr.add a25 ((Int.toNat i_5) * 1)) [CT.int .u8] fun (v26 : Int) =>
      VSet (IntKind.wrap .u64 v26) fun (c_6 : Int) =>
      VIf ((i_5 == 9) && (decide (c_6 > 1))) (
        Φ1 w1
      ) (
        VSet (IntKind.wrap .u64 (u_3 + (IntKind.wrap .u64 ((Int.tmod c_6 128) * scale_4)))) fun (u_3' : Int) =>
        VSet (IntKind.wrap .u64 (scale_4 * 128)) fun (scale_4' : Int) =>
        VIf (decide (c_6 ≥ 128)) (
          VSet (IntKind.wrap .i64 (i_5 + 1)) fun (i_5' : Int) =>
          ∃ k', k' < k2 ∧ I2 k' u_3' scale_4' i_5' w1
        ) (
          VIf ((decide (i_5 > 0)) && (c_6 == 0)) (
            Φ1 w1
          ) (
            VNN none r_0 fun (a52 : Addr) =>
            VLd none w1 a52 [CT.sl] fun (v54 : Sl) =>
            VCk none ((0 : Int) ≤ IntKind.wrap .i64 (i_5 + 1) ∧ IntKind.wrap .i64 (i_5 + 1) ≤ ((v54.len : Nat) : Int) ∧ ((v54.len : Nat) : Int) ≤ ((v54.cap : Nat) : Int)) (
              VNN none r_0 fun (a58 : Addr) =>
              VSt none w1 a58 [.slice (cutB v54.base v54.cap 1 (Int.toNat (IntKind.wrap .i64 (i_5 + 1)))) (v54.len - (Int.toNat (IntKind.wrap .i64 (i_5 + 1)))) (v54.cap - (Int.toNat (IntKind.wrap .i64 (i_5 + 1))))] fun (w2 : World) =>
              VSet u_3' fun (v2 : Int) =>
              R (.returned (.int .u64 v2)) w2
            )
          )
        )
      )
    ) (
      Φ1 w1
    )
  ) ∧ ∀ (w3 : World), Φ1 w3 →
  VCall none Try.prog 40 #[.pointer r_0] w3 (.tuple #[]) fun (w4 : World) =>
  R (.returned (.int .u64 0)) w4
theorem sh_butteryref01_Reader_uint_ok (r_0 : Option Addr) (w : World) (R : Ending → World → Prop) (h : sh_butteryref01_Reader_uint r_0 w R) : Calls Try.prog 38 #[.pointer r_0] w R :=
  calls_of_sh (args := [.pointer r_0]) (.two .auto (.two .auto (.two .auto (.two (.two .auto (.bjoin [] (.loop [(3, .int .u64 0), (4, .int .u64 0), (5, .int .i64 0)] (.two (.two .auto (.two .auto .auto)) (.two (.one (.two .auto (.two (.two .auto (.two .auto .auto)) (.two .auto (.two .auto (.two (.two .auto (.two .auto .auto)) (.two (.two .auto (.two .auto .auto)) (.two .auto (.two .auto .auto))))))))) .auto))))) (.two .auto (.two .auto .auto)))))) Try.func38 (by kernel_rfl) (by kernel_rfl) (by kernel_rfl) h

/-- 39: buttery/code.told of int -/
def sh_code_told' (r_0 : Option Addr) (v_1 : Int) (ok_2 : Bool) (w : World) (R : Ending → World → Prop) : Prop :=
  ∃ Φ1 : World → Prop, (
    VIf (!ok_2) (
      VNN none r_0 fun (a11 : Addr) =>
      VLd none w a11 [CT.ptr] fun (v13 : Option Addr) =>
      VNN none v13 fun (a14 : Addr) =>
      VSt none w (Addr.add a14 1) [.bool true] fun (w1 : World) =>
      Φ1 w1
    ) (
      Φ1 w
    )
  ) ∧ ∀ (w2 : World), Φ1 w2 →
  VNN none r_0 fun (a17 : Addr) =>
  VLd none w2 a17 [CT.ptr] fun (v19 : Option Addr) =>
  VNN none v19 fun (a20 : Addr) =>
  VLd none w2 (Addr.add a20 1) [CT.bool] fun (v22 : Bool) =>
  VIf v22 (
    VSet 0 fun (v6 : Int) =>
    R (.returned (.int .i64 v6)) w2
  ) (
    VSet v_1 fun (v6' : Int) =>
    R (.returned (.int .i64 v6')) w2
  )
theorem sh_code_told'_ok (r_0 : Option Addr) (v_1 : Int) (ok_2 : Bool) (w : World) (R : Ending → World → Prop) (h : sh_code_told' r_0 v_1 ok_2 w R) : Calls Try.prog 39 #[.pointer r_0, .int .i64 v_1, .bool ok_2] w R :=
  calls_of_sh (args := [.pointer r_0, .int .i64 v_1, .bool ok_2]) (.two .auto (.join [] (.two .auto (.two .auto .auto)) (.two (.two .auto (.two (.two .auto (.two .auto .auto)) .auto)) (.two .auto .auto)))) Try.func39 (by kernel_rfl) (by kernel_rfl) (by kernel_rfl) h

/-- 40: (*buttery/butteryref01.Reader).fail -/
def sh_butteryref01_Reader_fail (r_0 : Option Addr) (w : World) (R : Ending → World → Prop) : Prop :=
  VNN none r_0 fun (a3 : Addr) =>
  VSt none w (Addr.add a3 1) [.bool true] fun (w1 : World) =>
  VNN none r_0 fun (a6 : Addr) =>
  VSt none w1 a6 [.slice none 0 0] fun (w2 : World) =>
  R (.returned (.tuple #[])) w2
theorem sh_butteryref01_Reader_fail_ok (r_0 : Option Addr) (w : World) (R : Ending → World → Prop) (h : sh_butteryref01_Reader_fail r_0 w R) : Calls Try.prog 40 #[.pointer r_0] w R :=
  calls_of_sh (args := [.pointer r_0]) (.two .auto .auto) Try.func40 (by kernel_rfl) (by kernel_rfl) (by kernel_rfl) h

/-- 41: buttery/code.told of string -/
def sh_code_told'' (r_0 : Option Addr) (v_1 : ByteArray) (ok_2 : Bool) (w : World) (R : Ending → World → Prop) : Prop :=
  ∃ Φ1 : World → Prop, (
    VIf (!ok_2) (
      VNN none r_0 fun (a11 : Addr) =>
      VLd none w a11 [CT.ptr] fun (v13 : Option Addr) =>
      VNN none v13 fun (a14 : Addr) =>
      VSt none w (Addr.add a14 1) [.bool true] fun (w1 : World) =>
      Φ1 w1
    ) (
      Φ1 w
    )
  ) ∧ ∀ (w2 : World), Φ1 w2 →
  VNN none r_0 fun (a17 : Addr) =>
  VLd none w2 a17 [CT.ptr] fun (v19 : Option Addr) =>
  VNN none v19 fun (a20 : Addr) =>
  VLd none w2 (Addr.add a20 1) [CT.bool] fun (v22 : Bool) =>
  VIf v22 (
    R (.returned (.string (ByteArray.mk #[]))) w2
  ) (
    R (.returned (.string v_1)) w2
  )
theorem sh_code_told''_ok (r_0 : Option Addr) (v_1 : ByteArray) (ok_2 : Bool) (w : World) (R : Ending → World → Prop) (h : sh_code_told'' r_0 v_1 ok_2 w R) : Calls Try.prog 41 #[.pointer r_0, .string v_1, .bool ok_2] w R :=
  calls_of_sh (args := [.pointer r_0, .string v_1, .bool ok_2]) (.two .auto (.join [] (.two .auto (.two .auto .auto)) (.two (.two .auto (.two (.two .auto (.two .auto .auto)) .auto)) (.two .auto .auto)))) Try.func41 (by kernel_rfl) (by kernel_rfl) (by kernel_rfl) h

/-- 42: (*buttery/code.rest).take -/
def sh_code_rest_take (r_0 : Option Addr) (n_1 : Int) (w : World) (R : Ending → World → Prop) : Prop :=
  VNN none r_0 fun (a7 : Addr) =>
  VLd none w a7 [CT.sl] fun (v9 : Sl) =>
  VCk none ((0 : Int) ≤ 0 ∧ 0 ≤ n_1 ∧ n_1 ≤ ((v9.cap : Nat) : Int)) (
    VNN none r_0 fun (a14 : Addr) =>
    VLd none w a14 [CT.sl] fun (v16 : Sl) =>
    VCk none ((0 : Int) ≤ n_1 ∧ n_1 ≤ ((v16.len : Nat) : Int) ∧ ((v16.len : Nat) : Int) ≤ ((v16.cap : Nat) : Int)) (
      VNN none r_0 fun (a19 : Addr) =>
      VSt none w a19 [.slice (cutB v16.base v16.cap 1 (Int.toNat n_1)) (v16.len - (Int.toNat n_1)) (v16.cap - (Int.toNat n_1))] fun (w1 : World) =>
      R (.returned (.slice (cutB v9.base v9.cap 1 0) ((Int.toNat n_1) - 0) (v9.cap - 0))) w1
    )
  )
theorem sh_code_rest_take_ok (r_0 : Option Addr) (n_1 : Int) (w : World) (R : Ending → World → Prop) (h : sh_code_rest_take r_0 n_1 w R) : Calls Try.prog 42 #[.pointer r_0, .int .i64 n_1] w R :=
  calls_of_sh (args := [.pointer r_0, .int .i64 n_1]) (.two .auto (.two .auto (.two .auto (.two .auto .auto)))) Try.func42 (by kernel_rfl) (by kernel_rfl) (by kernel_rfl) h

/-- 43: buttery/code.first -/
def sh_code_first (b_0 : Sl) (w : World) (R : Ending → World → Prop) : Prop :=
  ∃ I1 : Nat → Int → Int → World → Prop, (∃ k, I1 k 0 0 w) ∧ ∀ k1 (u_4 : Int) (x9 : Int) (w1 : World), I1 k1 u_4 x9 w1 →
  VIf (decide (x9 < ((b_0.len : Nat) : Int))) (
    VIx none b_0.base b_0.len x9 fun (a12 : Addr) =>
    VLd none w1 (Addr.add a12 ((Int.toNat x9) * 1)) [CT.int .u8] fun (v13 : Int) =>
    VSet x9 fun (i_5 : Int) =>
    VSet v13 fun (c_6 : Int) =>
    VIf ((i_5 == 10) || ((i_5 == 9) && (decide (c_6 > 1)))) (
      R (.returned (.tuple #[.int .u64 0, .int .i64 0])) w1
    ) (
      VCk none (0 ≤ (IntKind.wrap .i64 (7 * i_5))) (
        VSet (bOr .u64 u_4 (IntKind.wrap .u64 ((IntKind.wrap .u64 (bAnd .u8 c_6 127)) * 2 ^ (min (Int.toNat (IntKind.wrap .i64 (7 * i_5))) (IntKind.bits .u64))))) fun (u_4' : Int) =>
        VIf (decide (c_6 < 128)) (
          VSet u_4' fun (v2 : Int) =>
          VSet (IntKind.wrap .i64 (i_5 + 1)) fun (v3 : Int) =>
          R (.returned (.tuple #[.int .u64 v2, .int .i64 v3])) w1
        ) (
          ∃ k', k' < k1 ∧ I1 k' u_4' (IntKind.wrap .i64 (x9 + 1)) w1
        )
      )
    )
  ) (
    R (.returned (.tuple #[.int .u64 0, .int .i64 0])) w1
  )
theorem sh_code_first_ok (b_0 : Sl) (w : World) (R : Ending → World → Prop) (h : sh_code_first b_0 w R) : Calls Try.prog 43 #[.slice b_0.base b_0.len b_0.cap] w R :=
  calls_of_sh (args := [.slice b_0.base b_0.len b_0.cap]) (.two .auto (.two .auto (.two (.two .auto (.one (.loop [(4, .int .u64 0), (9, .int .i64 0)] (.two .auto (.two (.two .auto .auto) (.two (.one (.two .auto (.two (.two .auto (.two (.two .auto .auto) .auto)) (.two .auto (.two .auto (.two (.two .auto .auto) .auto)))))) .auto)))))) (.two .auto .auto)))) Try.func43 (by kernel_rfl) (by kernel_rfl) (by kernel_rfl) h

end Go.Proofs.Ytfanmhgmncfloaa
