/-
  By program (own tool): what the code of each function asks, in plain text, and that it suffices (the kernel compares the two).
-/
import Derived.Test.YtkflggahjmmdhaaRows
import Derived.Test.YtkflggahjmmdhaaEngJ
import Derived.KernelRfl
namespace Go.Proofs.Ytkflggahjmmdhaa
open Go.RowKit
set_option maxRecDepth 100000

/-- 3: buttery/butterylaw10.NetHolds -/
def sh_butterylaw10_NetHolds (most_0 : Int) (l_1 : Sl) (w : World) (R : Ending → World → Prop) : Prop :=
  VCall (some (!(decide (((l_1.len : Nat) : Int) > 150)))) Try.prog 7 #[] w (.bool false) fun (r19 : Bool) (w1 : World) =>
  VIf ((decide (((l_1.len : Nat) : Int) > 150)) || (!r19)) (
    VCall none Try.prog 7 #[] w1 (.bool false) fun (r22 : Bool) (w2 : World) =>
    R (.returned (.bool r22)) w2
  ) (
    VSet (IntKind.wrap .i64 (Int.tmod (IntKind.wrap .u64 most_0) 1001)) fun (most_0 : Int) =>
    VCall none Try.prog 8 #[.int .i64 most_0] w1 (.tuple #[.pointer none, .int .i64 0]) fun (r29_0 : Option Addr) (r29_1 : Int) (w3 : World) =>
    VSet r29_1 fun (e_6 : Int) =>
    VIf (e_6 != 0) (
      R (.returned (.bool false)) w3
    ) (
      VNw none w3 (.map #[] 0) fun (b34 : Nat) (w4 : World) =>
      ∃ I1 : Nat → Int → Int → World → Prop, (∃ k, I1 k 0 0 w4) ∧ ∀ k1 (all_8 : Int) (i_9 : Int) (w5 : World), I1 k1 all_8 i_9 w5 →
      VIf (decide (i_9 < ((l_1.len : Nat) : Int))) (
        VIx none l_1.base l_1.len i_9 fun (a43 : Addr) =>
        VLd none w5 (Addr.add a43 ((Int.toNat i_9) * 5)) [CT.int .u8, CT.int .i64, CT.int .i64, CT.str, CT.int .i64] fun (v44_0 : Int) (v44_1 : Int) (v44_2 : Int) (v44_3 : ByteArray) (v44_4 : Int) =>
        VNw none w5 (.cells #[.int .u8 0, .int .i64 0, .int .i64 0, .string ByteArray.empty, .int .i64 0] 31) fun (s_10 : Nat) (w6 : World) =>
        VSt none w6 ⟨s_10, 0, none⟩ [.int .u8 v44_0, .int .i64 v44_1, .int .i64 v44_2, .string v44_3, .int .i64 v44_4] fun (w7 : World) =>
        VLd none w7 ⟨s_10, 0, none⟩ [CT.int .u8] fun (v46 : Int) =>
        ∃ Φ2 : Int → World → Prop, (
          VIf (v46 == 0) (
            VLd none w7 ⟨s_10, 1, none⟩ [CT.int .i64] fun (v51 : Int) =>
            VLd none w7 ⟨s_10, 2, none⟩ [CT.int .i64] fun (v53 : Int) =>
            VLd none w7 ⟨s_10, 3, none⟩ [CT.str] fun (v55 : ByteArray) =>
            VBytes none w7 5 v55 fun (b56 cb56 : Nat) (w8 : World) =>
            VCall none Try.prog 9 #[.pointer r29_0, .int .i64 v51, .int .i64 v53, .slice (some ⟨b56, 0, none⟩) v55.size cb56] w8 (.int .i64 0) fun (r57 : Int) (w9 : World) =>
            VIf (r57 == 0) (
              ∃ Φ3 : World → Prop, (
                ∀ (w10 : World), w10 = World.drew w9 →
                VLd none w10 ⟨s_10, 1, none⟩ [CT.int .i64] fun (v61 : Int) =>
                VLd none w10 ⟨s_10, 2, none⟩ [CT.int .i64] fun (v63 : Int) =>
                VLd none w10 ⟨s_10, 3, none⟩ [CT.str] fun (v65 : ByteArray) =>
                (
                  VRun none Try.prog (Instr.lookup 29 (.map (some b34)) (.agg #[.int .i64 v61, .int .i64 v63, .string v65]) false) w10 (.int .i64 0) fun (e67 : Int) (w11 : World) =>
                  VRun none Try.prog (Instr.mapEntry 29 (.map (some b34)) (.agg #[.int .i64 v61, .int .i64 v63, .string v65])) w11 (.tuple #[.int .i64 0, .int .i64 0]) fun (e69_0 : Int) (e69_1 : Int) (w12 : World) =>
                  VRunU none Try.prog (Instr.entryStore 29 (.map (some b34)) (.int .i64 e69_1) (.int .i64 (IntKind.wrap .i64 (e67 + 1)))) w12 fun (w13 : World) =>
                  Φ3 w13
                ) ∧ (
                  VRun none Try.prog (Instr.mapEntry 29 (.map (some b34)) (.agg #[.int .i64 v61, .int .i64 v63, .string v65])) w10 (.tuple #[.int .i64 0, .int .i64 0]) fun (e69_0 : Int) (e69_1 : Int) (w14 : World) =>
                  VRun none Try.prog (Instr.lookup 29 (.map (some b34)) (.agg #[.int .i64 v61, .int .i64 v63, .string v65]) false) w14 (.int .i64 0) fun (e67 : Int) (w15 : World) =>
                  VRunU none Try.prog (Instr.entryStore 29 (.map (some b34)) (.int .i64 e69_1) (.int .i64 (IntKind.wrap .i64 (e67 + 1)))) w15 fun (w16 : World) =>
                  Φ3 w16
                )
              ) ∧ ∀ (w17 : World), Φ3 w17 →
              VSet (IntKind.wrap .i64 (all_8 + 1)) fun (all_8'' : Int) =>
              Φ2 all_8'' w17
            ) (
              Φ2 all_8 w9
            )
          ) (
            VIf (v46 == 1) (
              VLd none w7 ⟨s_10, 4, none⟩ [CT.int .i64] fun (v78 : Int) =>
              VCall none Try.prog 10 #[.pointer r29_0, .int .i64 v78] w7 (.tuple #[.agg #[.int .i64 0, .int .i64 0, .string ByteArray.empty], .bool false]) fun (r79_0 : Int) (r79_1 : Int) (r79_2 : ByteArray) (r79_3 : Bool) (w18 : World) =>
              VNw none w18 (.cells #[.int .i64 0, .int .i64 0, .string ByteArray.empty] 35) fun (p_11 : Nat) (w19 : World) =>
              VSt none w19 ⟨p_11, 0, none⟩ [.int .i64 r79_0, .int .i64 r79_1, .string r79_2] fun (w20 : World) =>
              VIf r79_3 (
                ∃ Φ4 : World → Prop, (
                  ∀ (w21 : World), w21 = World.drew w20 →
                  VLd none w21 ⟨p_11, 0, none⟩ [CT.int .i64, CT.int .i64, CT.str] fun (v84_0 : Int) (v84_1 : Int) (v84_2 : ByteArray) =>
                  (
                    VRun none Try.prog (Instr.lookup 29 (.map (some b34)) (.agg #[.int .i64 v84_0, .int .i64 v84_1, .string v84_2]) false) w21 (.int .i64 0) fun (e85 : Int) (w22 : World) =>
                    VRun none Try.prog (Instr.mapEntry 29 (.map (some b34)) (.agg #[.int .i64 v84_0, .int .i64 v84_1, .string v84_2])) w22 (.tuple #[.int .i64 0, .int .i64 0]) fun (e87_0 : Int) (e87_1 : Int) (w23 : World) =>
                    VRunU none Try.prog (Instr.entryStore 29 (.map (some b34)) (.int .i64 e87_1) (.int .i64 (IntKind.wrap .i64 (e85 - 1)))) w23 fun (w24 : World) =>
                    Φ4 w24
                  ) ∧ (
                    VRun none Try.prog (Instr.mapEntry 29 (.map (some b34)) (.agg #[.int .i64 v84_0, .int .i64 v84_1, .string v84_2])) w21 (.tuple #[.int .i64 0, .int .i64 0]) fun (e87_0 : Int) (e87_1 : Int) (w25 : World) =>
                    VRun none Try.prog (Instr.lookup 29 (.map (some b34)) (.agg #[.int .i64 v84_0, .int .i64 v84_1, .string v84_2]) false) w25 (.int .i64 0) fun (e85 : Int) (w26 : World) =>
                    VRunU none Try.prog (Instr.entryStore 29 (.map (some b34)) (.int .i64 e87_1) (.int .i64 (IntKind.wrap .i64 (e85 - 1)))) w26 fun (w27 : World) =>
                    Φ4 w27
                  )
                ) ∧ ∀ (w28 : World), Φ4 w28 →
                VSet (IntKind.wrap .i64 (all_8 - 1)) fun (all_8_3 : Int) =>
                VLd none w28 ⟨p_11, 0, none⟩ [CT.int .i64, CT.int .i64, CT.str] fun (v92_0 : Int) (v92_1 : Int) (v92_2 : ByteArray) =>
                VRun none Try.prog (Instr.lookup 29 (.map (some b34)) (.agg #[.int .i64 v92_0, .int .i64 v92_1, .string v92_2]) false) w28 (.int .i64 0) fun (e93 : Int) (w29 : World) =>
                VIf (decide (e93 < 0)) (
                  R (.returned (.bool false)) w29
                ) (
                  Φ2 all_8_3 w29
                )
              ) (
                Φ2 all_8 w20
              )
            ) (
              VIf (v46 == 2) (
                VLd none w7 ⟨s_10, 4, none⟩ [CT.int .i64] fun (v100 : Int) =>
                VCall none Try.prog 11 #[.pointer r29_0, .int .i64 v100] w7 (.tuple #[.agg #[.int .i64 0, .int .i64 0, .string ByteArray.empty], .bool false]) fun (r101_0 : Int) (r101_1 : Int) (r101_2 : ByteArray) (r101_3 : Bool) (w30 : World) =>
                VNw none w30 (.cells #[.int .i64 0, .int .i64 0, .string ByteArray.empty] 35) fun (p_13 : Nat) (w31 : World) =>
                VSt none w31 ⟨p_13, 0, none⟩ [.int .i64 r101_0, .int .i64 r101_1, .string r101_2] fun (w32 : World) =>
                VLd none w32 ⟨s_10, 4, none⟩ [CT.int .i64] fun (v106 : Int) =>
                VCall none Try.prog 12 #[.pointer r29_0, .int .i64 v106] w32 (.int .i64 0) fun (r107 : Int) (w33 : World) =>
                VIf (r107 == 0) (
                  VIf (!r101_3) (
                    R (.returned (.bool false)) w33
                  ) (
                    ∃ Φ5 : World → Prop, (
                      ∀ (w34 : World), w34 = World.drew w33 →
                      VLd none w34 ⟨p_13, 0, none⟩ [CT.int .i64, CT.int .i64, CT.str] fun (v112_0 : Int) (v112_1 : Int) (v112_2 : ByteArray) =>
                      (
                        VRun none Try.prog (Instr.lookup 29 (.map (some b34)) (.agg #[.int .i64 v112_0, .int .i64 v112_1, .string v112_2]) false) w34 (.int .i64 0) fun (e113 : Int) (w35 : World) =>
                        VRun none Try.prog (Instr.mapEntry 29 (.map (some b34)) (.agg #[.int .i64 v112_0, .int .i64 v112_1, .string v112_2])) w35 (.tuple #[.int .i64 0, .int .i64 0]) fun (e115_0 : Int) (e115_1 : Int) (w36 : World) =>
                        VRunU none Try.prog (Instr.entryStore 29 (.map (some b34)) (.int .i64 e115_1) (.int .i64 (IntKind.wrap .i64 (e113 + 1)))) w36 fun (w37 : World) =>
                        Φ5 w37
                      ) ∧ (
                        VRun none Try.prog (Instr.mapEntry 29 (.map (some b34)) (.agg #[.int .i64 v112_0, .int .i64 v112_1, .string v112_2])) w34 (.tuple #[.int .i64 0, .int .i64 0]) fun (e115_0 : Int) (e115_1 : Int) (w38 : World) =>
                        VRun none Try.prog (Instr.lookup 29 (.map (some b34)) (.agg #[.int .i64 v112_0, .int .i64 v112_1, .string v112_2]) false) w38 (.int .i64 0) fun (e113 : Int) (w39 : World) =>
                        VRunU none Try.prog (Instr.entryStore 29 (.map (some b34)) (.int .i64 e115_1) (.int .i64 (IntKind.wrap .i64 (e113 + 1)))) w39 fun (w40 : World) =>
                        Φ5 w40
                      )
                    ) ∧ ∀ (w41 : World), Φ5 w41 →
                    VSet (IntKind.wrap .i64 (all_8 + 1)) fun (all_8_4 : Int) =>
                    Φ2 all_8_4 w41
                  )
                ) (
                  Φ2 all_8 w33
                )
              ) (
                Φ2 all_8 w7
              )
            )
          )
        ) ∧ ∀ (all_8' : Int) (w42 : World), Φ2 all_8' w42 →
        VCall none Try.prog 13 #[.pointer r29_0] w42 (.int .i64 0) fun (r120 : Int) (w43 : World) =>
        VIf ((r120 != all_8') || (decide (all_8' > most_0))) (
          R (.returned (.bool false)) w43
        ) (
          VSet (IntKind.wrap .i64 (i_9 + 1)) fun (i_9' : Int) =>
          ∃ k', k' < k1 ∧ I1 k' all_8' i_9' w43
        )
      ) (
        R (.returned (.bool true)) w5
      )
    )
  )
theorem sh_butterylaw10_NetHolds_ok (most_0 : Int) (l_1 : Sl) (w : World) (R : Ending → World → Prop) (h : sh_butterylaw10_NetHolds most_0 l_1 w R) : Calls Try.prog 3 #[.int .i64 most_0, .slice l_1.base l_1.len l_1.cap] w R :=
  calls_of_sh (args := [.int .i64 most_0, .slice l_1.base l_1.len l_1.cap]) (.two .auto (.two (.two .auto (.two (.two .auto .auto) .auto)) (.two .auto (.two .auto (.two (.two .auto (.two (.two .auto .auto) .auto)) (.two .auto (.two .auto (.two (.two .auto (.one (.loop [(8, .int .i64 0), (9, .int .i64 0)] (.two (.two .auto (.two .auto .auto)) (.two (.one (.two .auto (.two (.two .auto (.bjoin [(8, .int .i64 0)] (.two .auto (.two (.two .auto (.two (.two (.bjoin [] .auto) .auto) .auto)) (.two .auto (.two (.two .auto (.two .auto (.two (.two (.bjoin [] .auto) (.two .auto (.two .auto (.two (.two .auto .auto) .auto)))) .auto))) (.two .auto (.two (.two .auto (.two .auto (.two (.two (.two .auto (.two (.two .auto .auto) .auto)) (.two (.bjoin [] .auto) .auto)) .auto))) .auto)))))))) (.two .auto (.two (.two .auto .auto) .auto))))) .auto))))) (.two .auto .auto))))))))) Try.func3 (by kernel_rfl) (by kernel_rfl) (by kernel_rfl) h

/-- 4: buttery/butterylaw10.NetOrder -/
def sh_butterylaw10_NetOrder (l_0 : Sl) (takes_1 : Sl) (w : World) (R : Ending → World → Prop) : Prop :=
  VCall (some (!(decide (((l_0.len : Nat) : Int) > 150)))) Try.prog 7 #[] w (.bool false) fun (r18 : Bool) (w1 : World) =>
  VIf ((decide (((l_0.len : Nat) : Int) > 150)) || (!r18)) (
    VCall none Try.prog 7 #[] w1 (.bool false) fun (r21 : Bool) (w2 : World) =>
    R (.returned (.bool r21)) w2
  ) (
    VCall none Try.prog 8 #[.int .i64 1000] w1 (.tuple #[.pointer none, .int .i64 0]) fun (r23_0 : Option Addr) (r23_1 : Int) (w3 : World) =>
    VSet r23_1 fun (e_6 : Int) =>
    VIf (e_6 != 0) (
      R (.returned (.bool false)) w3
    ) (
      ∃ I1 : Nat → Sl → Int → Int → World → Prop, (∃ k, I1 k ⟨none, 0, 0⟩ 0 0 w3) ∧ ∀ k1 (sent_7 : Sl) (at_8 : Int) (i_9 : Int) (w4 : World), I1 k1 sent_7 at_8 i_9 w4 →
      VIf (decide (i_9 < ((l_0.len : Nat) : Int))) (
        ∃ Φ2 : Sl → Int → World → Prop, (
          ∃ Φ3 : Sl → World → Prop, (
            ∀ (w5 : World), w5 = World.drew w4 →
            VIx none l_0.base l_0.len i_9 fun (a37 : Addr) =>
            VLd none w5 (Addr.add (Addr.add a37 ((Int.toNat i_9) * 5)) 1) [CT.int .i64] fun (v39 : Int) =>
            VIx none l_0.base l_0.len i_9 fun (a42 : Addr) =>
            VLd none w5 (Addr.add (Addr.add a42 ((Int.toNat i_9) * 5)) 2) [CT.int .i64] fun (v44 : Int) =>
            VIx none l_0.base l_0.len i_9 fun (a47 : Addr) =>
            VLd none w5 (Addr.add (Addr.add a47 ((Int.toNat i_9) * 5)) 3) [CT.str] fun (v49 : ByteArray) =>
            VBytes none w5 5 v49 fun (b50 cb50 : Nat) (w6 : World) =>
            Rd w6 (Addr.add (Addr.add a42 ((Int.toNat i_9) * 5)) 2) [.int .i64 v44] ∧
            Rd w6 (Addr.add (Addr.add a37 ((Int.toNat i_9) * 5)) 1) [.int .i64 v39] ∧
            VCall none Try.prog 9 #[.pointer r23_0, .int .i64 v39, .int .i64 v44, .slice (some ⟨b50, 0, none⟩) v49.size cb50] w6 (.int .i64 0) fun (r51 : Int) (w7 : World) =>
            VIf (r51 == 0) (
              ∀ (w8 : World), w8 = World.drew w7 →
              VIx none l_0.base l_0.len i_9 fun (a56 : Addr) =>
              VLd none w8 (Addr.add (Addr.add a56 ((Int.toNat i_9) * 5)) 1) [CT.int .i64] fun (v58 : Int) =>
              VIx none l_0.base l_0.len i_9 fun (a61 : Addr) =>
              VLd none w8 (Addr.add (Addr.add a61 ((Int.toNat i_9) * 5)) 2) [CT.int .i64] fun (v63 : Int) =>
              VIx none l_0.base l_0.len i_9 fun (a66 : Addr) =>
              VLd none w8 (Addr.add (Addr.add a66 ((Int.toNat i_9) * 5)) 3) [CT.str] fun (v68 : ByteArray) =>
              VNw none w8 (.cells #[.int .i64 v58, .int .i64 v63, .string v68] 35) fun (b70 : Nat) (w9 : World) =>
              VApp none w9 35 3 32 #[.int .i64 0, .int .i64 0, .string ByteArray.empty] sent_7.base sent_7.len sent_7.cap 1 (fun news => Seg w9 (some ⟨b70, 0, none⟩) 1 3 news) fun (l71 : Sl) (w10 : World) =>
              Φ3 l71 w10
            ) (
              Φ3 sent_7 w7
            )
          ) ∧ ∀ (sent_7'' : Sl) (w11 : World), Φ3 sent_7'' w11 →
          VIx (some (decide (i_9 < ((takes_1.len : Nat) : Int)))) takes_1.base takes_1.len i_9 fun (a79 : Addr) =>
          VLd (some (decide (i_9 < ((takes_1.len : Nat) : Int)))) w11 (Addr.add a79 ((Int.toNat i_9) * 1)) [CT.bool] fun (v80 : Bool) =>
          VIf ((decide (i_9 < ((takes_1.len : Nat) : Int))) && v80) (
            VCall none Try.prog 10 #[.pointer r23_0, .int .i64 0] w11 (.tuple #[.agg #[.int .i64 0, .int .i64 0, .string ByteArray.empty], .bool false]) fun (r84_0 : Int) (r84_1 : Int) (r84_2 : ByteArray) (r84_3 : Bool) (w12 : World) =>
            VNw none w12 (.cells #[.int .i64 0, .int .i64 0, .string ByteArray.empty] 35) fun (p_10 : Nat) (w13 : World) =>
            VSt none w13 ⟨p_10, 0, none⟩ [.int .i64 r84_0, .int .i64 r84_1, .string r84_2] fun (w14 : World) =>
            ∀ (w15 : World), w15 = World.drew w14 →
            VLd (some ((!(!(r84_3 == (decide (at_8 < ((sent_7''.len : Nat) : Int)))))) && r84_3)) w15 ⟨p_10, 0, none⟩ [CT.int .i64, CT.int .i64, CT.str] fun (v96_0 : Int) (v96_1 : Int) (v96_2 : ByteArray) =>
            VIx (some ((!(!(r84_3 == (decide (at_8 < ((sent_7''.len : Nat) : Int)))))) && r84_3)) sent_7''.base sent_7''.len at_8 fun (a99 : Addr) =>
            VLd (some ((!(!(r84_3 == (decide (at_8 < ((sent_7''.len : Nat) : Int)))))) && r84_3)) w15 (Addr.add a99 ((Int.toNat at_8) * 3)) [CT.int .i64, CT.int .i64, CT.str] fun (v100_0 : Int) (v100_1 : Int) (v100_2 : ByteArray) =>
            VIf ((!(r84_3 == (decide (at_8 < ((sent_7''.len : Nat) : Int))))) || (r84_3 && (!((v96_0 == v100_0) && ((v96_1 == v100_1) && (v96_2.toList == v100_2.toList)))))) (
              R (.returned (.bool false)) w15
            ) (
              VIf r84_3 (
                VSet (IntKind.wrap .i64 (at_8 + 1)) fun (at_8'' : Int) =>
                Φ2 ⟨sent_7''.base, sent_7''.len, sent_7''.cap⟩ at_8'' w15
              ) (
                Φ2 ⟨sent_7''.base, sent_7''.len, sent_7''.cap⟩ at_8 w15
              )
            )
          ) (
            Φ2 ⟨sent_7''.base, sent_7''.len, sent_7''.cap⟩ at_8 w11
          )
        ) ∧ ∀ (sent_7' : Sl) (at_8' : Int) (w16 : World), Φ2 sent_7' at_8' w16 →
        VSet (IntKind.wrap .i64 (i_9 + 1)) fun (i_9' : Int) =>
        ∃ k', k' < k1 ∧ I1 k' ⟨sent_7'.base, sent_7'.len, sent_7'.cap⟩ at_8' i_9' w16
      ) (
        ∃ I4 : Nat → Int → World → Prop, (∃ k, I4 k at_8 w4) ∧ ∀ k4 (at_8_3 : Int) (w17 : World), I4 k4 at_8_3 w17 →
        VIf (decide (at_8_3 < ((sent_7.len : Nat) : Int))) (
          VCall none Try.prog 10 #[.pointer r23_0, .int .i64 0] w17 (.tuple #[.agg #[.int .i64 0, .int .i64 0, .string ByteArray.empty], .bool false]) fun (r113_0 : Int) (r113_1 : Int) (r113_2 : ByteArray) (r113_3 : Bool) (w18 : World) =>
          VNw none w18 (.cells #[.int .i64 0, .int .i64 0, .string ByteArray.empty] 35) fun (p_12 : Nat) (w19 : World) =>
          VSt none w19 ⟨p_12, 0, none⟩ [.int .i64 r113_0, .int .i64 r113_1, .string r113_2] fun (w20 : World) =>
          ∀ (w21 : World), w21 = World.drew w20 →
          VLd (some (!(!r113_3))) w21 ⟨p_12, 0, none⟩ [CT.int .i64, CT.int .i64, CT.str] fun (v119_0 : Int) (v119_1 : Int) (v119_2 : ByteArray) =>
          VIx (some (!(!r113_3))) sent_7.base sent_7.len at_8_3 fun (a122 : Addr) =>
          VLd (some (!(!r113_3))) w21 (Addr.add a122 ((Int.toNat at_8_3) * 3)) [CT.int .i64, CT.int .i64, CT.str] fun (v123_0 : Int) (v123_1 : Int) (v123_2 : ByteArray) =>
          VIf ((!r113_3) || (!((v119_0 == v123_0) && ((v119_1 == v123_1) && (v119_2.toList == v123_2.toList))))) (
            R (.returned (.bool false)) w21
          ) (
            VSet (IntKind.wrap .i64 (at_8_3 + 1)) fun (at_8_4 : Int) =>
            ∃ k', k' < k4 ∧ I4 k' at_8_4 w21
          )
        ) (
          VCall none Try.prog 13 #[.pointer r23_0] w17 (.int .i64 0) fun (r129 : Int) (w22 : World) =>
          R (.returned (.bool (r129 == 0))) w22
        )
      )
    )
  )
theorem sh_butterylaw10_NetOrder_ok (l_0 : Sl) (takes_1 : Sl) (w : World) (R : Ending → World → Prop) (h : sh_butterylaw10_NetOrder l_0 takes_1 w R) : Calls Try.prog 4 #[.slice l_0.base l_0.len l_0.cap, .slice takes_1.base takes_1.len takes_1.cap] w R :=
  calls_of_sh (args := [.slice l_0.base l_0.len l_0.cap, .slice takes_1.base takes_1.len takes_1.cap]) (.two .auto (.two (.two .auto (.two (.two .auto .auto) .auto)) (.two .auto (.two (.two .auto (.two (.two .auto .auto) .auto)) (.two .auto (.two .auto (.two (.two .auto (.one (.loop [(7, .slice none 0 0), (8, .int .i64 0), (9, .int .i64 0)] (.two (.two .auto (.two .auto .auto)) (.two (.bjoin [(7, .slice none 0 0), (8, .int .i64 0)] (.join [(7, .slice none 0 0)] (.two .auto (.two .auto .auto)) (.two .auto (.two (.two .auto (.two (.two .auto (.two (.two .auto .auto) .auto)) (.two .auto (.two .auto .auto)))) .auto)))) .auto))))) (.two (.one (.loop [(8, .int .i64 0)] (.two (.two .auto (.two .auto .auto)) (.one (.two .auto (.two (.two .auto (.two (.two .auto .auto) .auto)) .auto)))))) (.two .auto .auto))))))))) Try.func4 (by kernel_rfl) (by kernel_rfl) (by kernel_rfl) h

/-- 5: buttery/butterylaw10.NetPlays -/
def sh_butterylaw10_NetPlays (most_0 : Int) (l_1 : Sl) (w : World) (R : Ending → World → Prop) : Prop :=
  VCall none Try.prog 8 #[.int .i64 most_0] w (.tuple #[.pointer none, .int .i64 0]) fun (r26_0 : Option Addr) (r26_1 : Int) (w1 : World) =>
  VSet r26_1 fun (e_6 : Int) =>
  VCall none Try.prog 14 #[.int .i64 most_0] w1 (.tuple #[.pointer none, .int .i64 0]) fun (r31_0 : Option Addr) (r31_1 : Int) (w2 : World) =>
  VSet r31_1 fun (f_8 : Int) =>
  VIf ((e_6 != f_8) || (!(r26_0.isNone == r31_0.isNone))) (
    R (.returned (.bool false)) w2
  ) (
    ∃ I1 : Nat → Option Addr → Int → World → Prop, (∃ k, I1 k r26_0 0 w2) ∧ ∀ k1 (n_5 : Option Addr) (i_9 : Int) (w3 : World), I1 k1 n_5 i_9 w3 →
    VIf (((decide (i_9 < ((l_1.len : Nat) : Int))) && (decide (i_9 < 100))) && (e_6 == 0)) (
      VIx none l_1.base l_1.len i_9 fun (a60 : Addr) =>
      VLd none w3 (Addr.add a60 ((Int.toNat i_9) * 5)) [CT.int .u8, CT.int .i64, CT.int .i64, CT.str, CT.int .i64] fun (v61_0 : Int) (v61_1 : Int) (v61_2 : Int) (v61_3 : ByteArray) (v61_4 : Int) =>
      VNw none w3 (.cells #[.int .u8 0, .int .i64 0, .int .i64 0, .string ByteArray.empty, .int .i64 0] 31) fun (s_10 : Nat) (w4 : World) =>
      VSt none w4 ⟨s_10, 0, none⟩ [.int .u8 v61_0, .int .i64 v61_1, .int .i64 v61_2, .string v61_3, .int .i64 v61_4] fun (w5 : World) =>
      VLd none w5 ⟨s_10, 0, none⟩ [CT.int .u8] fun (v63 : Int) =>
      ∃ Φ2 : Option Addr → Bool → World → Prop, (
        VIf (v63 == 0) (
          VLd none w5 ⟨s_10, 3, none⟩ [CT.str] fun (v78 : ByteArray) =>
          VBytes none w5 5 v78 fun (b79 cb79 : Nat) (w6 : World) =>
          ∀ (w7 : World), w7 = World.drew w6 →
          VLd none w7 ⟨s_10, 1, none⟩ [CT.int .i64] fun (v82 : Int) =>
          VLd none w7 ⟨s_10, 2, none⟩ [CT.int .i64] fun (v84 : Int) =>
          VLd none w7 ⟨s_10, 1, none⟩ [CT.int .i64] fun (v89 : Int) =>
          VLd none w7 ⟨s_10, 2, none⟩ [CT.int .i64] fun (v91 : Int) =>
          VLd none w7 ⟨s_10, 3, none⟩ [CT.str] fun (v93 : ByteArray) =>
          VCall none Try.prog 9 #[.pointer n_5, .int .i64 v82, .int .i64 v84, .slice (some ⟨b79, 0, none⟩) v78.size cb79] w7 (.int .i64 0) fun (r86 : Int) (w8 : World) =>
          Rd w8 ⟨s_10, 3, none⟩ [.string v93] ∧
          Rd w8 ⟨s_10, 2, none⟩ [.int .i64 v91] ∧
          Rd w8 ⟨s_10, 1, none⟩ [.int .i64 v89] ∧
          VCall none Try.prog 15 #[.pointer r31_0, .int .i64 v89, .int .i64 v91, .string v93] w8 (.int .i64 0) fun (r94 : Int) (w9 : World) =>
          ∃ I3 : Nat → Int → World → Prop, (∃ k, I3 k 0 w9) ∧ ∀ k3 (k_13 : Int) (w10 : World), I3 k3 k_13 w10 →
          VIf (decide (k_13 < ((v78.size : Nat) : Int))) (
            VIx none (some ⟨b79, 0, none⟩) v78.size k_13 fun (a104 : Addr) =>
            VSt none w10 (Addr.add a104 ((Int.toNat k_13) * 1)) [.int .u8 85] fun (w11 : World) =>
            VSet (IntKind.wrap .i64 (k_13 + 1)) fun (k_13' : Int) =>
            ∃ k', k' < k3 ∧ I3 k' k_13' w11
          ) (
            Φ2 n_5 (r86 == r94) w10
          )
        ) (
          VIf (v63 == 1) (
            VLd none w5 ⟨s_10, 4, none⟩ [CT.int .i64] fun (v110 : Int) =>
            VCall none Try.prog 10 #[.pointer n_5, .int .i64 v110] w5 (.tuple #[.agg #[.int .i64 0, .int .i64 0, .string ByteArray.empty], .bool false]) fun (r111_0 : Int) (r111_1 : Int) (r111_2 : ByteArray) (r111_3 : Bool) (w12 : World) =>
            VNw none w12 (.cells #[.int .i64 0, .int .i64 0, .string ByteArray.empty] 35) fun (p_14 : Nat) (w13 : World) =>
            VSt none w13 ⟨p_14, 0, none⟩ [.int .i64 r111_0, .int .i64 r111_1, .string r111_2] fun (w14 : World) =>
            VLd none w14 ⟨s_10, 4, none⟩ [CT.int .i64] fun (v117 : Int) =>
            VCall none Try.prog 16 #[.pointer r31_0, .int .i64 v117] w14 (.tuple #[.agg #[.int .i64 0, .int .i64 0, .string ByteArray.empty], .bool false]) fun (r118_0 : Int) (r118_1 : Int) (r118_2 : ByteArray) (r118_3 : Bool) (w15 : World) =>
            VNw none w15 (.cells #[.int .i64 0, .int .i64 0, .string ByteArray.empty] 48) fun (q_16 : Nat) (w16 : World) =>
            VSt none w16 ⟨q_16, 0, none⟩ [.int .i64 r118_0, .int .i64 r118_1, .string r118_2] fun (w17 : World) =>
            VLd (some (r111_3 == r118_3)) w17 ⟨p_14, 0, none⟩ [CT.int .i64, CT.int .i64, CT.str] fun (v125_0 : Int) (v125_1 : Int) (v125_2 : ByteArray) =>
            VNw (some (r111_3 == r118_3)) w17 (.cells #[.int .i64 v125_0, .int .i64 v125_1, .string v125_2] 35) fun (b126 : Nat) (w18 : World) =>
            VLd (some (r111_3 == r118_3)) w18 ⟨q_16, 0, none⟩ [CT.int .i64, CT.int .i64, CT.str] fun (v127_0 : Int) (v127_1 : Int) (v127_2 : ByteArray) =>
            VNw (some (r111_3 == r118_3)) w18 (.cells #[.int .i64 v127_0, .int .i64 v127_1, .string v127_2] 48) fun (b128 : Nat) (w19 : World) =>
            VCall (some (r111_3 == r118_3)) Try.prog 17 #[.slice (some ⟨b126, 0, none⟩) 1 1, .slice (some ⟨b128, 0, none⟩) 1 1] w19 (.bool false) fun (r129 : Bool) (w20 : World) =>
            Φ2 n_5 ((r111_3 == r118_3) && r129) w20
          ) (
            VIf (v63 == 2) (
              ∀ (w21 : World), w21 = World.drew w5 →
              VLd none w21 ⟨s_10, 4, none⟩ [CT.int .i64] fun (v135 : Int) =>
              VLd none w21 ⟨s_10, 4, none⟩ [CT.int .i64] fun (v139 : Int) =>
              VCall none Try.prog 12 #[.pointer n_5, .int .i64 v135] w21 (.int .i64 0) fun (r136 : Int) (w22 : World) =>
              Rd w22 ⟨s_10, 4, none⟩ [.int .i64 v139] ∧
              VCall none Try.prog 18 #[.pointer r31_0, .int .i64 v139] w22 (.int .i64 0) fun (r140 : Int) (w23 : World) =>
              Φ2 n_5 (r136 == r140) w23
            ) (
              VIf (v63 == 3) (
                VLd none w5 ⟨s_10, 4, none⟩ [CT.int .i64] fun (v147 : Int) =>
                VCall none Try.prog 11 #[.pointer n_5, .int .i64 v147] w5 (.tuple #[.agg #[.int .i64 0, .int .i64 0, .string ByteArray.empty], .bool false]) fun (r148_0 : Int) (r148_1 : Int) (r148_2 : ByteArray) (r148_3 : Bool) (w24 : World) =>
                VNw none w24 (.cells #[.int .i64 0, .int .i64 0, .string ByteArray.empty] 35) fun (p_18 : Nat) (w25 : World) =>
                VSt none w25 ⟨p_18, 0, none⟩ [.int .i64 r148_0, .int .i64 r148_1, .string r148_2] fun (w26 : World) =>
                ∀ (w27 : World), w27 = World.drew w26 →
                VLd none w27 ⟨s_10, 4, none⟩ [CT.int .i64] fun (v153 : Int) =>
                VLd (some (decide (v153 ≥ 0))) w27 ⟨s_10, 4, none⟩ [CT.int .i64] fun (v157 : Int) =>
                VNN (some (decide (v153 ≥ 0))) r31_0 fun (a159 : Addr) =>
                VLd (some (decide (v153 ≥ 0))) w27 (Addr.add a159 2) [CT.sl] fun (v161 : Sl) =>
                VLd (some ((r148_3 == ((decide (v153 ≥ 0)) && (decide (v157 < ((v161.len : Nat) : Int))))) && (!r148_3))) w27 ⟨p_18, 0, none⟩ [CT.int .i64, CT.int .i64, CT.str] fun (v170_0 : Int) (v170_1 : Int) (v170_2 : ByteArray) =>
                VLd (some (((r148_3 == ((decide (v153 ≥ 0)) && (decide (v157 < ((v161.len : Nat) : Int))))) && (!((!r148_3) && ((v170_0 == 0) && ((v170_1 == 0) && (v170_2.toList == ByteArray.empty.toList)))))) && r148_3)) w27 ⟨p_18, 0, none⟩ [CT.int .i64, CT.int .i64, CT.str] fun (v177_0 : Int) (v177_1 : Int) (v177_2 : ByteArray) =>
                VNN (some (((r148_3 == ((decide (v153 ≥ 0)) && (decide (v157 < ((v161.len : Nat) : Int))))) && (!((!r148_3) && ((v170_0 == 0) && ((v170_1 == 0) && (v170_2.toList == ByteArray.empty.toList)))))) && r148_3)) r31_0 fun (a180 : Addr) =>
                VLd (some (((r148_3 == ((decide (v153 ≥ 0)) && (decide (v157 < ((v161.len : Nat) : Int))))) && (!((!r148_3) && ((v170_0 == 0) && ((v170_1 == 0) && (v170_2.toList == ByteArray.empty.toList)))))) && r148_3)) w27 (Addr.add a180 2) [CT.sl] fun (v182 : Sl) =>
                VLd (some (((r148_3 == ((decide (v153 ≥ 0)) && (decide (v157 < ((v161.len : Nat) : Int))))) && (!((!r148_3) && ((v170_0 == 0) && ((v170_1 == 0) && (v170_2.toList == ByteArray.empty.toList)))))) && r148_3)) w27 ⟨s_10, 4, none⟩ [CT.int .i64] fun (v184 : Int) =>
                VLd (some (((r148_3 == ((decide (v153 ≥ 0)) && (decide (v157 < ((v161.len : Nat) : Int))))) && (!((!r148_3) && ((v170_0 == 0) && ((v170_1 == 0) && (v170_2.toList == ByteArray.empty.toList)))))) && r148_3)) w27 ⟨s_10, 4, none⟩ [CT.int .i64] fun (v186 : Int) =>
                VCk (some (((r148_3 == ((decide (v153 ≥ 0)) && (decide (v157 < ((v161.len : Nat) : Int))))) && (!((!r148_3) && ((v170_0 == 0) && ((v170_1 == 0) && (v170_2.toList == ByteArray.empty.toList)))))) && r148_3)) ((0 : Int) ≤ v184 ∧ (v184 : Int) ≤ IntKind.wrap .i64 (v186 + 1) ∧ (IntKind.wrap .i64 (v186 + 1) : Int) ≤ ((v182.cap : Nat) : Int)) (
                  VNw (some (((r148_3 == ((decide (v153 ≥ 0)) && (decide (v157 < ((v161.len : Nat) : Int))))) && (!((!r148_3) && ((v170_0 == 0) && ((v170_1 == 0) && (v170_2.toList == ByteArray.empty.toList)))))) && r148_3)) w27 (.cells #[.int .i64 v177_0, .int .i64 v177_1, .string v177_2] 35) fun (b178 : Nat) (w28 : World) =>
                  ((((r148_3 == ((decide (v153 ≥ 0)) && (decide (v157 < ((v161.len : Nat) : Int))))) && (!((!r148_3) && ((v170_0 == 0) && ((v170_1 == 0) && (v170_2.toList == ByteArray.empty.toList)))))) && r148_3) = true → Rd w28 ⟨s_10, 4, none⟩ [.int .i64 v186]) ∧
                  ((((r148_3 == ((decide (v153 ≥ 0)) && (decide (v157 < ((v161.len : Nat) : Int))))) && (!((!r148_3) && ((v170_0 == 0) && ((v170_1 == 0) && (v170_2.toList == ByteArray.empty.toList)))))) && r148_3) = true → Rd w28 ⟨s_10, 4, none⟩ [.int .i64 v184]) ∧
                  ((((r148_3 == ((decide (v153 ≥ 0)) && (decide (v157 < ((v161.len : Nat) : Int))))) && (!((!r148_3) && ((v170_0 == 0) && ((v170_1 == 0) && (v170_2.toList == ByteArray.empty.toList)))))) && r148_3) = true → Rd w28 (Addr.add a180 2) [.slice v182.base v182.len v182.cap]) ∧
                  VCall (some (((r148_3 == ((decide (v153 ≥ 0)) && (decide (v157 < ((v161.len : Nat) : Int))))) && (!((!r148_3) && ((v170_0 == 0) && ((v170_1 == 0) && (v170_2.toList == ByteArray.empty.toList)))))) && r148_3)) Try.prog 17 #[.slice (some ⟨b178, 0, none⟩) 1 1, .slice (cutB v182.base v182.cap 3 (Int.toNat v184)) ((Int.toNat (IntKind.wrap .i64 (v186 + 1))) - (Int.toNat v184)) (v182.cap - (Int.toNat v184))] w28 (.bool false) fun (r189 : Bool) (w29 : World) =>
                  Φ2 n_5 ((r148_3 == ((decide (v153 ≥ 0)) && (decide (v157 < ((v161.len : Nat) : Int))))) && (((!r148_3) && ((v170_0 == 0) && ((v170_1 == 0) && (v170_2.toList == ByteArray.empty.toList)))) || (r148_3 && r189))) w29
                )
              ) (
                VCall none Try.prog 19 #[.pointer n_5] w5 (.pointer none) fun (r65 : Option Addr) (w30 : World) =>
                VNw none w30 (.cells #[.int .u8 98, .int .u8 101, .int .u8 104, .int .u8 105, .int .u8 110, .int .u8 100, .int .u8 32, .int .u8 116, .int .u8 104, .int .u8 101, .int .u8 32, .int .u8 99, .int .u8 111, .int .u8 112, .int .u8 121] 5) fun (b67 : Nat) (w31 : World) =>
                VMark none w31 ⟨b67, 0, none⟩ fun (w32 : World) =>
                VCall none Try.prog 9 #[.pointer n_5, .int .i64 9, .int .i64 9, .slice (some ⟨b67, 0, none⟩) 15 15] w32 (.int .i64 0) fun (r69 : Int) (w33 : World) =>
                VCall none Try.prog 10 #[.pointer n_5, .int .i64 0] w33 (.tuple #[.agg #[.int .i64 0, .int .i64 0, .string ByteArray.empty], .bool false]) fun (r71_0 : Int) (r71_1 : Int) (r71_2 : ByteArray) (r71_3 : Bool) (w34 : World) =>
                Φ2 r65 (!r65.isNone) w34
              )
            )
          )
        )
      ) ∧ ∀ (n_5' : Option Addr) (ok_11 : Bool) (w35 : World), Φ2 n_5' ok_11 w35 →
      VCall none Try.prog 20 #[.pointer n_5'] w35 (.slice none 0 0) fun (r194 : Sl) (w36 : World) =>
      VCall none Try.prog 20 #[.pointer n_5'] w36 (.slice none 0 0) fun (r196 : Sl) (w37 : World) =>
      ∀ (w38 : World), w38 = World.drew w37 →
      VNN (some (!(!ok_11))) r31_0 fun (a203 : Addr) =>
      VLd (some (!(!ok_11))) w38 (Addr.add a203 2) [CT.sl] fun (v205 : Sl) =>
      VCall (some (!(!ok_11))) Try.prog 13 #[.pointer n_5'] w38 (.int .i64 0) fun (r201 : Int) (w39 : World) =>
      ((!(!ok_11)) = true → Rd w39 (Addr.add a203 2) [.slice v205.base v205.len v205.cap]) ∧
      VNN (some (!((!ok_11) || (r201 != ((v205.len : Nat) : Int))))) r31_0 fun (a213 : Addr) =>
      VLd (some (!((!ok_11) || (r201 != ((v205.len : Nat) : Int))))) w39 (Addr.add a213 1) [CT.int .i64] fun (v215 : Int) =>
      VCall (some (!((!ok_11) || (r201 != ((v205.len : Nat) : Int))))) Try.prog 21 #[.pointer n_5'] w39 (.int .i64 0) fun (r211 : Int) (w40 : World) =>
      ((!((!ok_11) || (r201 != ((v205.len : Nat) : Int)))) = true → Rd w40 (Addr.add a213 1) [.int .i64 v215]) ∧
      VNN (some (!(((!ok_11) || (r201 != ((v205.len : Nat) : Int))) || (r211 != v215)))) r31_0 fun (a221 : Addr) =>
      VLd (some (!(((!ok_11) || (r201 != ((v205.len : Nat) : Int))) || (r211 != v215)))) w40 (Addr.add a221 2) [CT.sl] fun (v223 : Sl) =>
      VCall (some (!(((!ok_11) || (r201 != ((v205.len : Nat) : Int))) || (r211 != v215)))) Try.prog 17 #[.slice r194.base r194.len r194.cap, .slice v223.base v223.len v223.cap] w40 (.bool false) fun (r224 : Bool) (w41 : World) =>
      VIf ((((!ok_11) || (r201 != ((v205.len : Nat) : Int))) || (r211 != v215)) || (!r224)) (
        R (.returned (.bool false)) w41
      ) (
        ∃ I4 : Nat → Int → World → Prop, (∃ k, I4 k 0 w41) ∧ ∀ k4 (k_23 : Int) (w42 : World), I4 k4 k_23 w42 →
        VIf (decide (k_23 < ((r194.len : Nat) : Int))) (
          VIx none r194.base r194.len k_23 fun (a235 : Addr) =>
          VSt none w42 (Addr.add (Addr.add a235 ((Int.toNat k_23) * 3)) 2) [.string (ByteArray.mk #[115, 112, 111, 105, 108, 116])] fun (w43 : World) =>
          VSet (IntKind.wrap .i64 (k_23 + 1)) fun (k_23' : Int) =>
          ∃ k', k' < k4 ∧ I4 k' k_23' w43
        ) (
          VNw none w42 (.cells #[.int .i64 0, .int .i64 0, .string ByteArray.empty, .int .i64 0, .int .i64 0, .string ByteArray.empty] 35) fun (b240 : Nat) (w44 : World) =>
          VApp none w44 35 3 32 #[.int .i64 0, .int .i64 0, .string ByteArray.empty] r194.base r194.len r194.cap 2 (fun news => Seg w44 (some ⟨b240, 0, none⟩) 2 3 news) fun (l241 : Sl) (w45 : World) =>
          ∀ (w46 : World), w46 = World.drew w45 →
          VNN none r31_0 fun (a245 : Addr) =>
          VLd none w46 (Addr.add a245 2) [CT.sl] fun (v247 : Sl) =>
          VNN (some (!(((l241.len : Nat) : Int) != (IntKind.wrap .i64 (((v247.len : Nat) : Int) + 2))))) r31_0 fun (a254 : Addr) =>
          VLd (some (!(((l241.len : Nat) : Int) != (IntKind.wrap .i64 (((v247.len : Nat) : Int) + 2))))) w46 (Addr.add a254 2) [CT.sl] fun (v256 : Sl) =>
          VCall (some (!(((l241.len : Nat) : Int) != (IntKind.wrap .i64 (((v247.len : Nat) : Int) + 2))))) Try.prog 17 #[.slice r196.base r196.len r196.cap, .slice v256.base v256.len v256.cap] w46 (.bool false) fun (r257 : Bool) (w47 : World) =>
          VNN (some (!((((l241.len : Nat) : Int) != (IntKind.wrap .i64 (((v247.len : Nat) : Int) + 2))) || (!r257)))) r31_0 fun (a264 : Addr) =>
          VLd (some (!((((l241.len : Nat) : Int) != (IntKind.wrap .i64 (((v247.len : Nat) : Int) + 2))) || (!r257)))) w47 (Addr.add a264 2) [CT.sl] fun (v266 : Sl) =>
          VCall (some (!((((l241.len : Nat) : Int) != (IntKind.wrap .i64 (((v247.len : Nat) : Int) + 2))) || (!r257)))) Try.prog 20 #[.pointer n_5'] w47 (.slice none 0 0) fun (r262 : Sl) (w48 : World) =>
          ((!((((l241.len : Nat) : Int) != (IntKind.wrap .i64 (((v247.len : Nat) : Int) + 2))) || (!r257))) = true → Rd w48 (Addr.add a264 2) [.slice v266.base v266.len v266.cap]) ∧
          VCall (some (!((((l241.len : Nat) : Int) != (IntKind.wrap .i64 (((v247.len : Nat) : Int) + 2))) || (!r257)))) Try.prog 17 #[.slice r262.base r262.len r262.cap, .slice v266.base v266.len v266.cap] w48 (.bool false) fun (r267 : Bool) (w49 : World) =>
          VIf (((((l241.len : Nat) : Int) != (IntKind.wrap .i64 (((v247.len : Nat) : Int) + 2))) || (!r257)) || (!r267)) (
            R (.returned (.bool false)) w49
          ) (
            VSet (IntKind.wrap .i64 (i_9 + 1)) fun (i_9' : Int) =>
            ∃ k', k' < k1 ∧ I1 k' n_5' i_9' w49
          )
        )
      )
    ) (
      VCall none Try.prog 7 #[] w3 (.bool false) fun (r270 : Bool) (w50 : World) =>
      R (.returned (.bool r270)) w50
    )
  )
theorem sh_butterylaw10_NetPlays_ok (most_0 : Int) (l_1 : Sl) (w : World) (R : Ending → World → Prop) (h : sh_butterylaw10_NetPlays most_0 l_1 w R) : Calls Try.prog 5 #[.int .i64 most_0, .slice l_1.base l_1.len l_1.cap] w R :=
  calls_of_sh (args := [.int .i64 most_0, .slice l_1.base l_1.len l_1.cap]) (.two .auto (.two .auto (.two .auto (.two (.two .auto (.two (.two .auto .auto) .auto)) (.two (.two .auto (.one (.loop [(5, .pointer none), (9, .int .i64 0)] (.two (.two .auto (.two .auto .auto)) (.two (.one (.two .auto (.two .auto (.two (.two .auto (.bjoin [(5, .pointer none), (11, .bool false)] (.two .auto (.two (.two .auto (.two .auto (.two .auto (.one (.loop [(13, .int .i64 0)] (.two (.two .auto (.two .auto .auto)) (.two (.one .auto) .auto))))))) (.two .auto (.two (.two .auto (.two .auto .auto)) (.two .auto (.two .auto (.two .auto (.two (.two .auto .auto) (.two .auto (.two .auto (.two .auto (.two .auto .auto)))))))))))))) (.two .auto (.two (.two .auto (.two (.two .auto .auto) .auto)) (.two (.two .auto (.one (.loop [(23, .int .i64 0)] (.two (.two .auto (.two .auto .auto)) (.two (.one .auto) .auto))))) (.two .auto (.two .auto (.two (.two .auto .auto) .auto)))))))))) .auto))))) (.two .auto .auto)))))) Try.func5 (by kernel_rfl) (by kernel_rfl) (by kernel_rfl) h

/-- 6: buttery/butterylaw10.NetNames -/
def sh_butterylaw10_NetNames (w : World) (R : Ending → World → Prop) : Prop :=
  VCall none Try.prog 11 #[.pointer none, .int .i64 0] w (.tuple #[.agg #[.int .i64 0, .int .i64 0, .string ByteArray.empty], .bool false]) fun (r16_0 : Int) (r16_1 : Int) (r16_2 : ByteArray) (r16_3 : Bool) (w1 : World) =>
  VNw none w1 (.cells #[.int .i64 0, .int .i64 0, .string ByteArray.empty] 35) fun (b2 : Nat) (w2 : World) =>
  VSt none w2 ⟨b2, 0, none⟩ [.int .i64 r16_0, .int .i64 r16_1, .string r16_2] fun (w3 : World) =>
  VCall none Try.prog 10 #[.pointer none, .int .i64 0] w3 (.tuple #[.agg #[.int .i64 0, .int .i64 0, .string ByteArray.empty], .bool false]) fun (r21_0 : Int) (r21_1 : Int) (r21_2 : ByteArray) (r21_3 : Bool) (w4 : World) =>
  VNw none w4 (.cells #[.int .i64 0, .int .i64 0, .string ByteArray.empty] 35) fun (b4 : Nat) (w5 : World) =>
  VSt none w5 ⟨b4, 0, none⟩ [.int .i64 r21_0, .int .i64 r21_1, .string r21_2] fun (w6 : World) =>
  VCall none Try.prog 8 #[.int .i64 1001] w6 (.tuple #[.pointer none, .int .i64 0]) fun (r25_0 : Option Addr) (r25_1 : Int) (w7 : World) =>
  VSet r25_1 fun (c_7 : Int) =>
  VCall none Try.prog 8 #[.int .i64 (-1)] w7 (.tuple #[.pointer none, .int .i64 0]) fun (r29_0 : Option Addr) (r29_1 : Int) (w8 : World) =>
  VSet r29_1 fun (d_9 : Int) =>
  VCall none Try.prog 8 #[.int .i64 1000] w8 (.tuple #[.pointer none, .int .i64 0]) fun (r33_0 : Option Addr) (r33_1 : Int) (w9 : World) =>
  VSet r33_1 fun (e_11 : Int) =>
  VCall none Try.prog 8 #[.int .i64 0] w9 (.tuple #[.pointer none, .int .i64 0]) fun (r37_0 : Option Addr) (r37_1 : Int) (w10 : World) =>
  VSet r37_1 fun (f_13 : Int) =>
  VCall none Try.prog 9 #[.pointer none, .int .i64 1, .int .i64 2, .slice none 0 0] w10 (.int .i64 0) fun (r41 : Int) (w11 : World) =>
  VCall (some (r41 == 2)) Try.prog 12 #[.pointer none, .int .i64 0] w11 (.int .i64 0) fun (r45 : Int) (w12 : World) =>
  VCall (some ((r41 == 2) && (r45 == 2))) Try.prog 13 #[.pointer none] w12 (.int .i64 0) fun (r50 : Int) (w13 : World) =>
  VCall (some ((r41 == 2) && (r45 == 2))) Try.prog 21 #[.pointer none] w13 (.int .i64 0) fun (r52 : Int) (w14 : World) =>
  VCall (some ((r41 == 2) && (r45 == 2))) Try.prog 20 #[.pointer none] w14 (.slice none 0 0) fun (r55 : Sl) (w15 : World) =>
  VCall (some (((r41 == 2) && (r45 == 2)) && ((IntKind.wrap .i64 ((IntKind.wrap .i64 (r50 + r52)) + ((r55.len : Nat) : Int))) == 0))) Try.prog 19 #[.pointer none] w15 (.pointer none) fun (r62 : Option Addr) (w16 : World) =>
  VMk (some ((((((((((r41 == 2) && (r45 == 2)) && ((IntKind.wrap .i64 ((IntKind.wrap .i64 (r50 + r52)) + ((r55.len : Nat) : Int))) == 0)) && r62.isNone) && (!r16_3)) && (!r21_3)) && (c_7 == 1)) && (d_9 == 1)) && (e_11 == 0)) && (f_13 == 0))) w16 5 1 1 #[.int .u8 0] 401 401 fun (b91 : Nat) (w17 : World) =>
  VCall (some ((((((((((r41 == 2) && (r45 == 2)) && ((IntKind.wrap .i64 ((IntKind.wrap .i64 (r50 + r52)) + ((r55.len : Nat) : Int))) == 0)) && r62.isNone) && (!r16_3)) && (!r21_3)) && (c_7 == 1)) && (d_9 == 1)) && (e_11 == 0)) && (f_13 == 0))) Try.prog 9 #[.pointer r33_0, .int .i64 1, .int .i64 2, .slice (some ⟨b91, 0, none⟩) 401 401] w17 (.int .i64 0) fun (r92 : Int) (w18 : World) =>
  VMk (some (((((((((((r41 == 2) && (r45 == 2)) && ((IntKind.wrap .i64 ((IntKind.wrap .i64 (r50 + r52)) + ((r55.len : Nat) : Int))) == 0)) && r62.isNone) && (!r16_3)) && (!r21_3)) && (c_7 == 1)) && (d_9 == 1)) && (e_11 == 0)) && (f_13 == 0)) && (r92 == 40))) w18 5 1 1 #[.int .u8 0] 400 400 fun (b97 : Nat) (w19 : World) =>
  VCall (some (((((((((((r41 == 2) && (r45 == 2)) && ((IntKind.wrap .i64 ((IntKind.wrap .i64 (r50 + r52)) + ((r55.len : Nat) : Int))) == 0)) && r62.isNone) && (!r16_3)) && (!r21_3)) && (c_7 == 1)) && (d_9 == 1)) && (e_11 == 0)) && (f_13 == 0)) && (r92 == 40))) Try.prog 9 #[.pointer r33_0, .int .i64 1, .int .i64 2, .slice (some ⟨b97, 0, none⟩) 400 400] w19 (.int .i64 0) fun (r98 : Int) (w20 : World) =>
  VCall (some ((((((((((((r41 == 2) && (r45 == 2)) && ((IntKind.wrap .i64 ((IntKind.wrap .i64 (r50 + r52)) + ((r55.len : Nat) : Int))) == 0)) && r62.isNone) && (!r16_3)) && (!r21_3)) && (c_7 == 1)) && (d_9 == 1)) && (e_11 == 0)) && (f_13 == 0)) && (r92 == 40)) && (r98 == 0))) Try.prog 9 #[.pointer r37_0, .int .i64 1, .int .i64 2, .slice none 0 0] w20 (.int .i64 0) fun (r103 : Int) (w21 : World) =>
  VCall (some (((((((((((((r41 == 2) && (r45 == 2)) && ((IntKind.wrap .i64 ((IntKind.wrap .i64 (r50 + r52)) + ((r55.len : Nat) : Int))) == 0)) && r62.isNone) && (!r16_3)) && (!r21_3)) && (c_7 == 1)) && (d_9 == 1)) && (e_11 == 0)) && (f_13 == 0)) && (r92 == 40)) && (r98 == 0)) && (r103 == 3))) Try.prog 21 #[.pointer r37_0] w21 (.int .i64 0) fun (r108 : Int) (w22 : World) =>
  VCall (some ((((((((((((((((r41 == 2) && (r45 == 2)) && ((IntKind.wrap .i64 ((IntKind.wrap .i64 (r50 + r52)) + ((r55.len : Nat) : Int))) == 0)) && r62.isNone) && (!r16_3)) && (!r21_3)) && (c_7 == 1)) && (d_9 == 1)) && (e_11 == 0)) && (f_13 == 0)) && (r92 == 40)) && (r98 == 0)) && (r103 == 3)) && (r108 == 1)) || false) || false)) Try.prog 7 #[] w22 (.bool false) fun (r116 : Bool) (w23 : World) =>
  R (.returned (.bool (((((((((((((((((r41 == 2) && (r45 == 2)) && ((IntKind.wrap .i64 ((IntKind.wrap .i64 (r50 + r52)) + ((r55.len : Nat) : Int))) == 0)) && r62.isNone) && (!r16_3)) && (!r21_3)) && (c_7 == 1)) && (d_9 == 1)) && (e_11 == 0)) && (f_13 == 0)) && (r92 == 40)) && (r98 == 0)) && (r103 == 3)) && (r108 == 1)) || false) || false) && r116))) w23
theorem sh_butterylaw10_NetNames_ok (w : World) (R : Ending → World → Prop) (h : sh_butterylaw10_NetNames w R) : Calls Try.prog 6 #[] w R :=
  calls_of_sh (args := []) (.two .auto (.two .auto (.two .auto (.two .auto (.two .auto (.two .auto (.two .auto (.two .auto (.two .auto .auto))))))))) Try.func6 (by kernel_rfl) (by kernel_rfl) (by kernel_rfl) h

/-- 7: buttery/butterylaw10.awake -/
def sh_butterylaw10_awake (w : World) (R : Ending → World → Prop) : Prop :=
  VCall none Try.prog 8 #[.int .i64 2] w (.tuple #[.pointer none, .int .i64 0]) fun (r11_0 : Option Addr) (r11_1 : Int) (w1 : World) =>
  VSet r11_1 fun (e_2 : Int) =>
  VNw (some (!(e_2 != 0))) w1 (.cells #[.int .u8 97] 5) fun (b18 : Nat) (w2 : World) =>
  VMark (some (!(e_2 != 0))) w2 ⟨b18, 0, none⟩ fun (w3 : World) =>
  VCall (some (!(e_2 != 0))) Try.prog 9 #[.pointer r11_0, .int .i64 1, .int .i64 2, .slice (some ⟨b18, 0, none⟩) 1 1] w3 (.int .i64 0) fun (r20 : Int) (w4 : World) =>
  VNw (some (!((e_2 != 0) || (r20 != 0)))) w4 (.cells #[.int .u8 98] 5) fun (b25 : Nat) (w5 : World) =>
  VMark (some (!((e_2 != 0) || (r20 != 0)))) w5 ⟨b25, 0, none⟩ fun (w6 : World) =>
  VCall (some (!((e_2 != 0) || (r20 != 0)))) Try.prog 9 #[.pointer r11_0, .int .i64 2, .int .i64 1, .slice (some ⟨b25, 0, none⟩) 1 1] w6 (.int .i64 0) fun (r27 : Int) (w7 : World) =>
  VNw (some (!(((e_2 != 0) || (r20 != 0)) || (r27 != 0)))) w7 (.cells #[.int .u8 99] 5) fun (b32 : Nat) (w8 : World) =>
  VMark (some (!(((e_2 != 0) || (r20 != 0)) || (r27 != 0)))) w8 ⟨b32, 0, none⟩ fun (w9 : World) =>
  VCall (some (!(((e_2 != 0) || (r20 != 0)) || (r27 != 0)))) Try.prog 9 #[.pointer r11_0, .int .i64 1, .int .i64 2, .slice (some ⟨b32, 0, none⟩) 1 1] w9 (.int .i64 0) fun (r34 : Int) (w10 : World) =>
  VCall (some (!((((e_2 != 0) || (r20 != 0)) || (r27 != 0)) || (r34 != 3)))) Try.prog 21 #[.pointer r11_0] w10 (.int .i64 0) fun (r39 : Int) (w11 : World) =>
  VIf (((((e_2 != 0) || (r20 != 0)) || (r27 != 0)) || (r34 != 3)) || (r39 != 1)) (
    R (.returned (.bool false)) w11
  ) (
    VCall none Try.prog 10 #[.pointer r11_0, .int .i64 0] w11 (.tuple #[.agg #[.int .i64 0, .int .i64 0, .string ByteArray.empty], .bool false]) fun (r44_0 : Int) (r44_1 : Int) (r44_2 : ByteArray) (r44_3 : Bool) (w12 : World) =>
    VNw none w12 (.cells #[.int .i64 0, .int .i64 0, .string ByteArray.empty] 35) fun (p_3 : Nat) (w13 : World) =>
    VSt none w13 ⟨p_3, 0, none⟩ [.int .i64 r44_0, .int .i64 r44_1, .string r44_2] fun (w14 : World) =>
    VCall none Try.prog 12 #[.pointer r11_0, .int .i64 0] w14 (.int .i64 0) fun (r48 : Int) (w15 : World) =>
    VSet r48 fun (d_5 : Int) =>
    VCall none Try.prog 11 #[.pointer r11_0, .int .i64 1] w15 (.tuple #[.agg #[.int .i64 0, .int .i64 0, .string ByteArray.empty], .bool false]) fun (r51_0 : Int) (r51_1 : Int) (r51_2 : ByteArray) (r51_3 : Bool) (w16 : World) =>
    VNw none w16 (.cells #[.int .i64 0, .int .i64 0, .string ByteArray.empty] 35) fun (q_6 : Nat) (w17 : World) =>
    VSt none w17 ⟨q_6, 0, none⟩ [.int .i64 r51_0, .int .i64 r51_1, .string r51_2] fun (w18 : World) =>
    VCall none Try.prog 10 #[.pointer r11_0, .int .i64 2] w18 (.tuple #[.agg #[.int .i64 0, .int .i64 0, .string ByteArray.empty], .bool false]) fun (r56_0 : Int) (r56_1 : Int) (r56_2 : ByteArray) (r56_3 : Bool) (w19 : World) =>
    VNw none w19 (.cells #[.int .i64 0, .int .i64 0, .string ByteArray.empty] 35) fun (b8 : Nat) (w20 : World) =>
    VSt none w20 ⟨b8, 0, none⟩ [.int .i64 r56_0, .int .i64 r56_1, .string r56_2] fun (w21 : World) =>
    VLd (some r44_3) w21 ⟨p_3, 0, none⟩ [CT.int .i64, CT.int .i64, CT.str] fun (v61_0 : Int) (v61_1 : Int) (v61_2 : ByteArray) =>
    VLd (some (((r44_3 && ((v61_0 == 1) && ((v61_1 == 2) && (v61_2.toList == (ByteArray.mk #[97]).toList)))) && (d_5 == 0)) && r51_3)) w21 ⟨q_6, 0, none⟩ [CT.int .i64, CT.int .i64, CT.str] fun (v73_0 : Int) (v73_1 : Int) (v73_2 : ByteArray) =>
    R (.returned (.bool (((((r44_3 && ((v61_0 == 1) && ((v61_1 == 2) && (v61_2.toList == (ByteArray.mk #[97]).toList)))) && (d_5 == 0)) && r51_3) && ((v73_0 == 2) && ((v73_1 == 1) && (v73_2.toList == (ByteArray.mk #[98]).toList)))) && (!r56_3)))) w21
  )
theorem sh_butterylaw10_awake_ok (w : World) (R : Ending → World → Prop) (h : sh_butterylaw10_awake w R) : Calls Try.prog 7 #[] w R :=
  calls_of_sh (args := []) (.two .auto (.two .auto (.two (.two .auto (.two (.two .auto .auto) .auto)) (.two .auto (.two .auto (.two .auto (.two .auto (.two .auto .auto)))))))) Try.func7 (by kernel_rfl) (by kernel_rfl) (by kernel_rfl) h

/-- 8: buttery/net.New -/
def sh_net_New (most_0 : Int) (w : World) (R : Ending → World → Prop) : Prop :=
  VIf ((decide (most_0 < 0)) || (decide (most_0 > 1000))) (
    R (.returned (.tuple #[.pointer none, .int .i64 1])) w
  ) (
    VNw none w (.cells #[.int .i64 most_0, .int .i64 0, .slice none 0 0] 58) fun (b12 : Nat) (w1 : World) =>
    R (.returned (.tuple #[.pointer (some ⟨b12, 0, none⟩), .int .i64 0])) w1
  )
theorem sh_net_New_ok (most_0 : Int) (w : World) (R : Ending → World → Prop) (h : sh_net_New most_0 w R) : Calls Try.prog 8 #[.int .i64 most_0] w R :=
  calls_of_sh (args := [.int .i64 most_0]) (.two .auto (.two (.two .auto (.two (.two .auto .auto) .auto)) (.two .auto .auto))) Try.func8 (by kernel_rfl) (by kernel_rfl) (by kernel_rfl) h

/-- 9: (*buttery/net.Net).Send -/
def sh_net_Net_Send (n_0 : Option Addr) (from_1 : Int) (to_2 : Int) (data_3 : Sl) (w : World) (R : Ending → World → Prop) : Prop :=
  VIf n_0.isNone (
    R (.returned (.int .i64 2)) w
  ) (
    VIf (decide (((data_3.len : Nat) : Int) > 400)) (
      R (.returned (.int .i64 40)) w
    ) (
      VStr none w data_3.base data_3.len fun (s20 : ByteArray) =>
      VCall none Try.prog 22 #[.pointer n_0, .agg #[.int .i64 from_1, .int .i64 to_2, .string s20]] w (.int .i64 0) fun (r22 : Int) (w1 : World) =>
      VSet r22 fun (v8 : Int) =>
      R (.returned (.int .i64 v8)) w1
    )
  )
theorem sh_net_Net_Send_ok (n_0 : Option Addr) (from_1 : Int) (to_2 : Int) (data_3 : Sl) (w : World) (R : Ending → World → Prop) (h : sh_net_Net_Send n_0 from_1 to_2 data_3 w R) : Calls Try.prog 9 #[.pointer n_0, .int .i64 from_1, .int .i64 to_2, .slice data_3.base data_3.len data_3.cap] w R :=
  calls_of_sh (args := [.pointer n_0, .int .i64 from_1, .int .i64 to_2, .slice data_3.base data_3.len data_3.cap]) (.two .auto (.two (.one (.two .auto (.two (.two .auto .auto) (.two .auto (.two (.two .auto .auto) .auto))))) (.two .auto .auto))) Try.func9 (by kernel_rfl) (by kernel_rfl) (by kernel_rfl) h

/-- 10: (*buttery/net.Net).Take -/
def sh_net_Net_Take (n_0 : Option Addr) (i_1 : Int) (w : World) (R : Ending → World → Prop) : Prop :=
  VNw none w (.cells #[.int .i64 0, .int .i64 0, .string ByteArray.empty] 35) fun (b4 : Nat) (w1 : World) =>
  VCall none Try.prog 11 #[.pointer n_0, .int .i64 i_1] w1 (.tuple #[.agg #[.int .i64 0, .int .i64 0, .string ByteArray.empty], .bool false]) fun (r11_0 : Int) (r11_1 : Int) (r11_2 : ByteArray) (r11_3 : Bool) (w2 : World) =>
  VNw none w2 (.cells #[.int .i64 0, .int .i64 0, .string ByteArray.empty] 35) fun (p_6 : Nat) (w3 : World) =>
  VSt none w3 ⟨p_6, 0, none⟩ [.int .i64 r11_0, .int .i64 r11_1, .string r11_2] fun (w4 : World) =>
  ∃ Φ1 : World → Prop, (
    VIf r11_3 (
      ∀ (w5 : World), w5 = World.drew w4 →
      VNN none n_0 fun (a16 : Addr) =>
      VLd none w5 (Addr.add a16 2) [CT.sl] fun (v18 : Sl) =>
      VCk none ((0 : Int) ≤ i_1 ∧ (i_1 : Int) ≤ ((v18.len : Nat) : Int) ∧ (((v18.len : Nat) : Int) : Int) ≤ ((v18.cap : Nat) : Int)) (
        VNN none n_0 fun (a22 : Addr) =>
        VLd none w5 (Addr.add a22 2) [CT.sl] fun (v24 : Sl) =>
        VCk none ((0 : Int) ≤ IntKind.wrap .i64 (i_1 + 1) ∧ (IntKind.wrap .i64 (i_1 + 1) : Int) ≤ ((v24.len : Nat) : Int) ∧ (((v24.len : Nat) : Int) : Int) ≤ ((v24.cap : Nat) : Int)) (
          VCopy none w5 3 (cutB v18.base v18.cap 3 (Int.toNat i_1)) (v18.len - (Int.toNat i_1)) (v24.len - (Int.toNat (IntKind.wrap .i64 (i_1 + 1)))) (fun news => Seg w5 (cutB v24.base v24.cap 3 (Int.toNat (IntKind.wrap .i64 (i_1 + 1)))) (Nat.min (v24.len - (Int.toNat (IntKind.wrap .i64 (i_1 + 1)))) (v18.len - (Int.toNat i_1))) 3 news) fun (w6 : World) =>
          ∀ (w7 : World), w7 = World.drew w6 →
          VNN none n_0 fun (a31 : Addr) =>
          VLd none w7 (Addr.add a31 2) [CT.sl] fun (v33 : Sl) =>
          VNN none n_0 fun (a35 : Addr) =>
          VLd none w7 (Addr.add a35 2) [CT.sl] fun (v37 : Sl) =>
          VCk none ((0 : Int) ≤ 0 ∧ (0 : Int) ≤ IntKind.wrap .i64 (((v37.len : Nat) : Int) - 1) ∧ (IntKind.wrap .i64 (((v37.len : Nat) : Int) - 1) : Int) ≤ ((v33.cap : Nat) : Int)) (
            VNN none n_0 fun (a41 : Addr) =>
            VSt none w7 (Addr.add a41 2) [.slice (cutB v33.base v33.cap 3 0) ((Int.toNat (IntKind.wrap .i64 (((v37.len : Nat) : Int) - 1))) - 0) (v33.cap - 0)] fun (w8 : World) =>
            Φ1 w8
          )
        )
      )
    ) (
      Φ1 w4
    )
  ) ∧ ∀ (w9 : World), Φ1 w9 →
  VLd none w9 ⟨p_6, 0, none⟩ [CT.int .i64, CT.int .i64, CT.str] fun (v43_0 : Int) (v43_1 : Int) (v43_2 : ByteArray) =>
  VSt none w9 ⟨b4, 0, none⟩ [.int .i64 v43_0, .int .i64 v43_1, .string v43_2] fun (w10 : World) =>
  VLd none w10 ⟨b4, 0, none⟩ [CT.int .i64, CT.int .i64, CT.str] fun (res4_0 : Int) (res4_1 : Int) (res4_2 : ByteArray) =>
  R (.returned (.tuple #[.agg #[.int .i64 res4_0, .int .i64 res4_1, .string res4_2], .bool r11_3])) w10
theorem sh_net_Net_Take_ok (n_0 : Option Addr) (i_1 : Int) (w : World) (R : Ending → World → Prop) (h : sh_net_Net_Take n_0 i_1 w R) : Calls Try.prog 10 #[.pointer n_0, .int .i64 i_1] w R :=
  calls_of_sh (args := [.pointer n_0, .int .i64 i_1]) (.two .auto (.two .auto (.join [] (.two .auto (.two (.two .auto .auto) .auto)) (.two .auto .auto)))) Try.func10 (by kernel_rfl) (by kernel_rfl) (by kernel_rfl) h

/-- 11: (*buttery/net.Net).Look -/
def sh_net_Net_Look (n_0 : Option Addr) (i_1 : Int) (w : World) (R : Ending → World → Prop) : Prop :=
  VNw none w (.cells #[.int .i64 0, .int .i64 0, .string ByteArray.empty] 35) fun (b4 : Nat) (w1 : World) =>
  VCall (some (!(decide (i_1 < 0)))) Try.prog 13 #[.pointer n_0] w1 (.int .i64 0) fun (r11 : Int) (w2 : World) =>
  VIf ((decide (i_1 < 0)) || (decide (i_1 ≥ r11))) (
    VSt none w2 ⟨b4, 0, none⟩ [.int .i64 0, .int .i64 0, .string ByteArray.empty] fun (w3 : World) =>
    VLd none w3 ⟨b4, 0, none⟩ [CT.int .i64, CT.int .i64, CT.str] fun (res4_0 : Int) (res4_1 : Int) (res4_2 : ByteArray) =>
    R (.returned (.tuple #[.agg #[.int .i64 res4_0, .int .i64 res4_1, .string res4_2], .bool false])) w3
  ) (
    VNN none n_0 fun (a16 : Addr) =>
    VLd none w2 (Addr.add a16 2) [CT.sl] fun (v18 : Sl) =>
    VIx none v18.base v18.len i_1 fun (a20 : Addr) =>
    VLd none w2 (Addr.add a20 ((Int.toNat i_1) * 3)) [CT.int .i64, CT.int .i64, CT.str] fun (v21_0 : Int) (v21_1 : Int) (v21_2 : ByteArray) =>
    VSt none w2 ⟨b4, 0, none⟩ [.int .i64 v21_0, .int .i64 v21_1, .string v21_2] fun (w4 : World) =>
    VLd none w4 ⟨b4, 0, none⟩ [CT.int .i64, CT.int .i64, CT.str] fun (res4_0 : Int) (res4_1 : Int) (res4_2 : ByteArray) =>
    R (.returned (.tuple #[.agg #[.int .i64 res4_0, .int .i64 res4_1, .string res4_2], .bool true])) w4
  )
theorem sh_net_Net_Look_ok (n_0 : Option Addr) (i_1 : Int) (w : World) (R : Ending → World → Prop) (h : sh_net_Net_Look n_0 i_1 w R) : Calls Try.prog 11 #[.pointer n_0, .int .i64 i_1] w R :=
  calls_of_sh (args := [.pointer n_0, .int .i64 i_1]) (.two .auto (.two (.two .auto (.two (.two .auto .auto) .auto)) (.two .auto .auto))) Try.func11 (by kernel_rfl) (by kernel_rfl) (by kernel_rfl) h

/-- 12: (*buttery/net.Net).Double -/
def sh_net_Net_Double (n_0 : Option Addr) (i_1 : Int) (w : World) (R : Ending → World → Prop) : Prop :=
  VIf n_0.isNone (
    R (.returned (.int .i64 2)) w
  ) (
    VCall none Try.prog 11 #[.pointer n_0, .int .i64 i_1] w (.tuple #[.agg #[.int .i64 0, .int .i64 0, .string ByteArray.empty], .bool false]) fun (r12_0 : Int) (r12_1 : Int) (r12_2 : ByteArray) (r12_3 : Bool) (w1 : World) =>
    VNw none w1 (.cells #[.int .i64 0, .int .i64 0, .string ByteArray.empty] 35) fun (p_5 : Nat) (w2 : World) =>
    VSt none w2 ⟨p_5, 0, none⟩ [.int .i64 r12_0, .int .i64 r12_1, .string r12_2] fun (w3 : World) =>
    VIf (!r12_3) (
      R (.returned (.int .i64 1)) w3
    ) (
      VLd none w3 ⟨p_5, 0, none⟩ [CT.int .i64, CT.int .i64, CT.str] fun (v18_0 : Int) (v18_1 : Int) (v18_2 : ByteArray) =>
      VCall none Try.prog 22 #[.pointer n_0, .agg #[.int .i64 v18_0, .int .i64 v18_1, .string v18_2]] w3 (.int .i64 0) fun (r19 : Int) (w4 : World) =>
      VSet r19 fun (v4 : Int) =>
      R (.returned (.int .i64 v4)) w4
    )
  )
theorem sh_net_Net_Double_ok (n_0 : Option Addr) (i_1 : Int) (w : World) (R : Ending → World → Prop) (h : sh_net_Net_Double n_0 i_1 w R) : Calls Try.prog 12 #[.pointer n_0, .int .i64 i_1] w R :=
  calls_of_sh (args := [.pointer n_0, .int .i64 i_1]) (.two .auto (.two (.two .auto (.two (.two .auto .auto) .auto)) (.two .auto (.two (.two .auto (.two (.two .auto .auto) .auto)) (.two .auto .auto))))) Try.func12 (by kernel_rfl) (by kernel_rfl) (by kernel_rfl) h

/-- 13: (*buttery/net.Net).Len -/
def sh_net_Net_Len (n_0 : Option Addr) (w : World) (R : Ending → World → Prop) : Prop :=
  VIf n_0.isNone (
    R (.returned (.int .i64 0)) w
  ) (
    VNN none n_0 fun (a6 : Addr) =>
    VLd none w (Addr.add a6 2) [CT.sl] fun (v8 : Sl) =>
    VSet ((v8.len : Nat) : Int) fun (v2 : Int) =>
    R (.returned (.int .i64 v2)) w
  )
theorem sh_net_Net_Len_ok (n_0 : Option Addr) (w : World) (R : Ending → World → Prop) (h : sh_net_Net_Len n_0 w R) : Calls Try.prog 13 #[.pointer n_0] w R :=
  calls_of_sh (args := [.pointer n_0]) (.two .auto (.two (.two .auto (.two (.two .auto .auto) .auto)) (.two .auto .auto))) Try.func13 (by kernel_rfl) (by kernel_rfl) (by kernel_rfl) h

/-- 14: buttery/butteryref10.New -/
def sh_butteryref10_New (most_0 : Int) (w : World) (R : Ending → World → Prop) : Prop :=
  VIf ((decide (most_0 < 0)) || (decide (most_0 > 1000))) (
    R (.returned (.tuple #[.pointer none, .int .i64 1])) w
  ) (
    VNw none w (.cells #[.int .i64 most_0, .int .i64 0, .slice none 0 0] 54) fun (b12 : Nat) (w1 : World) =>
    R (.returned (.tuple #[.pointer (some ⟨b12, 0, none⟩), .int .i64 0])) w1
  )
theorem sh_butteryref10_New_ok (most_0 : Int) (w : World) (R : Ending → World → Prop) (h : sh_butteryref10_New most_0 w R) : Calls Try.prog 14 #[.int .i64 most_0] w R :=
  calls_of_sh (args := [.int .i64 most_0]) (.two .auto (.two (.two .auto (.two (.two .auto .auto) .auto)) (.two .auto .auto))) Try.func14 (by kernel_rfl) (by kernel_rfl) (by kernel_rfl) h

/-- 15: (*buttery/butteryref10.Net).Send -/
def sh_butteryref10_Net_Send (n_0 : Option Addr) (from_1 : Int) (to_2 : Int) (data_3 : ByteArray) (w : World) (R : Ending → World → Prop) : Prop :=
  VIf (decide (((data_3.size : Nat) : Int) > 400)) (
    R (.returned (.int .i64 40)) w
  ) (
    VCall none Try.prog 23 #[.pointer n_0, .agg #[.int .i64 from_1, .int .i64 to_2, .string data_3]] w (.int .i64 0) fun (r17 : Int) (w1 : World) =>
    VSet r17 fun (v8 : Int) =>
    R (.returned (.int .i64 v8)) w1
  )
theorem sh_butteryref10_Net_Send_ok (n_0 : Option Addr) (from_1 : Int) (to_2 : Int) (data_3 : ByteArray) (w : World) (R : Ending → World → Prop) (h : sh_butteryref10_Net_Send n_0 from_1 to_2 data_3 w R) : Calls Try.prog 15 #[.pointer n_0, .int .i64 from_1, .int .i64 to_2, .string data_3] w R :=
  calls_of_sh (args := [.pointer n_0, .int .i64 from_1, .int .i64 to_2, .string data_3]) (.two .auto (.two (.two .auto (.two (.two .auto .auto) .auto)) (.two .auto .auto))) Try.func15 (by kernel_rfl) (by kernel_rfl) (by kernel_rfl) h

/-- 16: (*buttery/butteryref10.Net).Take -/
def sh_butteryref10_Net_Take (n_0 : Option Addr) (i_1 : Int) (w : World) (R : Ending → World → Prop) : Prop :=
  VNw none w (.cells #[.int .i64 0, .int .i64 0, .string ByteArray.empty] 48) fun (b4 : Nat) (w1 : World) =>
  VNN (some (!(decide (i_1 < 0)))) n_0 fun (a13 : Addr) =>
  VLd (some (!(decide (i_1 < 0)))) w1 (Addr.add a13 2) [CT.sl] fun (v15 : Sl) =>
  VIf ((decide (i_1 < 0)) || (decide (i_1 ≥ ((v15.len : Nat) : Int)))) (
    VSt none w1 ⟨b4, 0, none⟩ [.int .i64 0, .int .i64 0, .string ByteArray.empty] fun (w2 : World) =>
    VLd none w2 ⟨b4, 0, none⟩ [CT.int .i64, CT.int .i64, CT.str] fun (res4_0 : Int) (res4_1 : Int) (res4_2 : ByteArray) =>
    R (.returned (.tuple #[.agg #[.int .i64 res4_0, .int .i64 res4_1, .string res4_2], .bool false])) w2
  ) (
    VNN none n_0 fun (a21 : Addr) =>
    VLd none w1 (Addr.add a21 2) [CT.sl] fun (v23 : Sl) =>
    VIx none v23.base v23.len i_1 fun (a25 : Addr) =>
    VLd none w1 (Addr.add a25 ((Int.toNat i_1) * 3)) [CT.int .i64, CT.int .i64, CT.str] fun (v26_0 : Int) (v26_1 : Int) (v26_2 : ByteArray) =>
    VNw none w1 (.cells #[.int .i64 0, .int .i64 0, .string ByteArray.empty] 48) fun (p_6 : Nat) (w3 : World) =>
    VSt none w3 ⟨p_6, 0, none⟩ [.int .i64 v26_0, .int .i64 v26_1, .string v26_2] fun (w4 : World) =>
    VNN none n_0 fun (a29 : Addr) =>
    VLd none w4 (Addr.add a29 2) [CT.sl] fun (v31 : Sl) =>
    VCk none ((0 : Int) ≤ 0 ∧ (0 : Int) ≤ i_1 ∧ (i_1 : Int) ≤ ((v31.cap : Nat) : Int)) (
      VApp none w4 48 3 32 #[.int .i64 0, .int .i64 0, .string ByteArray.empty] none 0 0 ((Int.toNat i_1) - 0) (fun news => Seg w4 (cutB v31.base v31.cap 3 0) ((Int.toNat i_1) - 0) 3 news) fun (l34 : Sl) (w5 : World) =>
      VNN none n_0 fun (a38 : Addr) =>
      VLd none w5 (Addr.add a38 2) [CT.sl] fun (v40 : Sl) =>
      VCk none ((0 : Int) ≤ IntKind.wrap .i64 (i_1 + 1) ∧ (IntKind.wrap .i64 (i_1 + 1) : Int) ≤ ((v40.len : Nat) : Int) ∧ (((v40.len : Nat) : Int) : Int) ≤ ((v40.cap : Nat) : Int)) (
        VApp none w5 48 3 32 #[.int .i64 0, .int .i64 0, .string ByteArray.empty] l34.base l34.len l34.cap (v40.len - (Int.toNat (IntKind.wrap .i64 (i_1 + 1)))) (fun news => Seg w5 (cutB v40.base v40.cap 3 (Int.toNat (IntKind.wrap .i64 (i_1 + 1)))) (v40.len - (Int.toNat (IntKind.wrap .i64 (i_1 + 1)))) 3 news) fun (l44 : Sl) (w6 : World) =>
        VNN none n_0 fun (a45 : Addr) =>
        VSt none w6 (Addr.add a45 2) [.slice l44.base l44.len l44.cap] fun (w7 : World) =>
        VLd none w7 ⟨p_6, 0, none⟩ [CT.int .i64, CT.int .i64, CT.str] fun (v47_0 : Int) (v47_1 : Int) (v47_2 : ByteArray) =>
        VSt none w7 ⟨b4, 0, none⟩ [.int .i64 v47_0, .int .i64 v47_1, .string v47_2] fun (w8 : World) =>
        VLd none w8 ⟨b4, 0, none⟩ [CT.int .i64, CT.int .i64, CT.str] fun (res4_0 : Int) (res4_1 : Int) (res4_2 : ByteArray) =>
        R (.returned (.tuple #[.agg #[.int .i64 res4_0, .int .i64 res4_1, .string res4_2], .bool true])) w8
      )
    )
  )
theorem sh_butteryref10_Net_Take_ok (n_0 : Option Addr) (i_1 : Int) (w : World) (R : Ending → World → Prop) (h : sh_butteryref10_Net_Take n_0 i_1 w R) : Calls Try.prog 16 #[.pointer n_0, .int .i64 i_1] w R :=
  calls_of_sh (args := [.pointer n_0, .int .i64 i_1]) (.two .auto (.two (.two .auto (.two (.two .auto .auto) .auto)) (.two .auto (.two .auto (.two .auto (.two .auto (.two .auto .auto))))))) Try.func16 (by kernel_rfl) (by kernel_rfl) (by kernel_rfl) h

/-- 17: buttery/butterylaw10.told -/
def sh_butterylaw10_told (a_0 : Sl) (b_1 : Sl) (w : World) (R : Ending → World → Prop) : Prop :=
  VIf (((a_0.len : Nat) : Int) != ((b_1.len : Nat) : Int)) (
    R (.returned (.bool false)) w
  ) (
    ∃ I1 : Nat → Int → World → Prop, (∃ k, I1 k 0 w) ∧ ∀ k1 (i_5 : Int) (w1 : World), I1 k1 i_5 w1 →
    VIf (decide (i_5 < ((a_0.len : Nat) : Int))) (
      ∀ (w2 : World), w2 = World.drew w1 →
      VIx none a_0.base a_0.len i_5 fun (a19 : Addr) =>
      VLd none w2 (Addr.add a19 ((Int.toNat i_5) * 3)) [CT.int .i64] fun (v21 : Int) =>
      VIx none b_1.base b_1.len i_5 fun (a24 : Addr) =>
      VLd none w2 (Addr.add a24 ((Int.toNat i_5) * 3)) [CT.int .i64] fun (v26 : Int) =>
      VIx (some (!(v21 != v26))) a_0.base a_0.len i_5 fun (a31 : Addr) =>
      VLd (some (!(v21 != v26))) w2 (Addr.add (Addr.add a31 ((Int.toNat i_5) * 3)) 1) [CT.int .i64] fun (v33 : Int) =>
      VIx (some (!(v21 != v26))) b_1.base b_1.len i_5 fun (a36 : Addr) =>
      VLd (some (!(v21 != v26))) w2 (Addr.add (Addr.add a36 ((Int.toNat i_5) * 3)) 1) [CT.int .i64] fun (v38 : Int) =>
      VIx (some (!((v21 != v26) || (v33 != v38)))) a_0.base a_0.len i_5 fun (a44 : Addr) =>
      VLd (some (!((v21 != v26) || (v33 != v38)))) w2 (Addr.add (Addr.add a44 ((Int.toNat i_5) * 3)) 2) [CT.str] fun (v46 : ByteArray) =>
      VIx (some (!((v21 != v26) || (v33 != v38)))) b_1.base b_1.len i_5 fun (a49 : Addr) =>
      VLd (some (!((v21 != v26) || (v33 != v38)))) w2 (Addr.add (Addr.add a49 ((Int.toNat i_5) * 3)) 2) [CT.str] fun (v51 : ByteArray) =>
      VIf (((v21 != v26) || (v33 != v38)) || (!(v46.toList == v51.toList))) (
        R (.returned (.bool false)) w2
      ) (
        VSet (IntKind.wrap .i64 (i_5 + 1)) fun (i_5' : Int) =>
        ∃ k', k' < k1 ∧ I1 k' i_5' w2
      )
    ) (
      R (.returned (.bool true)) w1
    )
  )
theorem sh_butterylaw10_told_ok (a_0 : Sl) (b_1 : Sl) (w : World) (R : Ending → World → Prop) (h : sh_butterylaw10_told a_0 b_1 w R) : Calls Try.prog 17 #[.slice a_0.base a_0.len a_0.cap, .slice b_1.base b_1.len b_1.cap] w R :=
  calls_of_sh (args := [.slice a_0.base a_0.len a_0.cap, .slice b_1.base b_1.len b_1.cap]) (.two .auto (.two (.two .auto (.two (.two .auto .auto) .auto)) (.two (.two .auto (.one (.loop [(5, .int .i64 0)] (.two (.two .auto (.two .auto .auto)) (.two (.one (.two .auto (.two (.two .auto .auto) .auto))) .auto))))) (.two .auto .auto)))) Try.func17 (by kernel_rfl) (by kernel_rfl) (by kernel_rfl) h

/-- 18: (*buttery/butteryref10.Net).Double -/
def sh_butteryref10_Net_Double (n_0 : Option Addr) (i_1 : Int) (w : World) (R : Ending → World → Prop) : Prop :=
  VNN (some (!(decide (i_1 < 0)))) n_0 fun (a10 : Addr) =>
  VLd (some (!(decide (i_1 < 0)))) w (Addr.add a10 2) [CT.sl] fun (v12 : Sl) =>
  VIf ((decide (i_1 < 0)) || (decide (i_1 ≥ ((v12.len : Nat) : Int)))) (
    R (.returned (.int .i64 1)) w
  ) (
    VNN none n_0 fun (a18 : Addr) =>
    VLd none w (Addr.add a18 2) [CT.sl] fun (v20 : Sl) =>
    VIx none v20.base v20.len i_1 fun (a22 : Addr) =>
    VLd none w (Addr.add a22 ((Int.toNat i_1) * 3)) [CT.int .i64, CT.int .i64, CT.str] fun (v23_0 : Int) (v23_1 : Int) (v23_2 : ByteArray) =>
    VCall none Try.prog 23 #[.pointer n_0, .agg #[.int .i64 v23_0, .int .i64 v23_1, .string v23_2]] w (.int .i64 0) fun (r24 : Int) (w1 : World) =>
    VSet r24 fun (v4 : Int) =>
    R (.returned (.int .i64 v4)) w1
  )
theorem sh_butteryref10_Net_Double_ok (n_0 : Option Addr) (i_1 : Int) (w : World) (R : Ending → World → Prop) (h : sh_butteryref10_Net_Double n_0 i_1 w R) : Calls Try.prog 18 #[.pointer n_0, .int .i64 i_1] w R :=
  calls_of_sh (args := [.pointer n_0, .int .i64 i_1]) (.two .auto (.two (.two .auto (.two (.two .auto .auto) .auto)) (.two .auto .auto))) Try.func18 (by kernel_rfl) (by kernel_rfl) (by kernel_rfl) h

/-- 19: (*buttery/net.Net).Copy -/
def sh_net_Net_Copy (n_0 : Option Addr) (w : World) (R : Ending → World → Prop) : Prop :=
  VIf n_0.isNone (
    R (.returned (.pointer none)) w
  ) (
    ∀ (w1 : World), w1 = World.drew w →
    VNN none n_0 fun (a6 : Addr) =>
    VLd none w1 a6 [CT.int .i64] fun (v8 : Int) =>
    VNN none n_0 fun (a10 : Addr) =>
    VLd none w1 (Addr.add a10 1) [CT.int .i64] fun (v12 : Int) =>
    VNN none n_0 fun (a14 : Addr) =>
    VLd none w1 (Addr.add a14 2) [CT.sl] fun (v16 : Sl) =>
    VCall none Try.prog 24 #[.slice v16.base v16.len v16.cap] w1 (.slice none 0 0) fun (r17 : Sl) (w2 : World) =>
    Rd w2 (Addr.add a10 1) [.int .i64 v12] ∧
    Rd w2 a6 [.int .i64 v8] ∧
    VNw none w2 (.cells #[.int .i64 v8, .int .i64 v12, .slice r17.base r17.len r17.cap] 58) fun (b19 : Nat) (w3 : World) =>
    R (.returned (.pointer (some ⟨b19, 0, none⟩))) w3
  )
theorem sh_net_Net_Copy_ok (n_0 : Option Addr) (w : World) (R : Ending → World → Prop) (h : sh_net_Net_Copy n_0 w R) : Calls Try.prog 19 #[.pointer n_0] w R :=
  calls_of_sh (args := [.pointer n_0]) (.two .auto (.two (.two .auto (.two (.two .auto .auto) .auto)) (.two .auto .auto))) Try.func19 (by kernel_rfl) (by kernel_rfl) (by kernel_rfl) h

/-- 20: (*buttery/net.Net).All -/
def sh_net_Net_All (n_0 : Option Addr) (w : World) (R : Ending → World → Prop) : Prop :=
  VIf n_0.isNone (
    R (.returned (.slice none 0 0)) w
  ) (
    VNN none n_0 fun (a6 : Addr) =>
    VLd none w (Addr.add a6 2) [CT.sl] fun (v8 : Sl) =>
    VCall none Try.prog 24 #[.slice v8.base v8.len v8.cap] w (.slice none 0 0) fun (r9 : Sl) (w1 : World) =>
    R (.returned (.slice r9.base r9.len r9.cap)) w1
  )
theorem sh_net_Net_All_ok (n_0 : Option Addr) (w : World) (R : Ending → World → Prop) (h : sh_net_Net_All n_0 w R) : Calls Try.prog 20 #[.pointer n_0] w R :=
  calls_of_sh (args := [.pointer n_0]) (.two .auto (.two (.two .auto (.two (.two .auto .auto) .auto)) (.two .auto .auto))) Try.func20 (by kernel_rfl) (by kernel_rfl) (by kernel_rfl) h

/-- 21: (*buttery/net.Net).Lost -/
def sh_net_Net_Lost (n_0 : Option Addr) (w : World) (R : Ending → World → Prop) : Prop :=
  VIf n_0.isNone (
    R (.returned (.int .i64 0)) w
  ) (
    VNN none n_0 fun (a6 : Addr) =>
    VLd none w (Addr.add a6 1) [CT.int .i64] fun (v8 : Int) =>
    VSet v8 fun (v2 : Int) =>
    R (.returned (.int .i64 v2)) w
  )
theorem sh_net_Net_Lost_ok (n_0 : Option Addr) (w : World) (R : Ending → World → Prop) (h : sh_net_Net_Lost n_0 w R) : Calls Try.prog 21 #[.pointer n_0] w R :=
  calls_of_sh (args := [.pointer n_0]) (.two .auto (.two (.two .auto (.two (.two .auto .auto) .auto)) (.two .auto .auto))) Try.func21 (by kernel_rfl) (by kernel_rfl) (by kernel_rfl) h

/-- 22: (*buttery/net.Net).add -/
def sh_net_Net_add (n_0 : Option Addr) (p_1_0 : Int) (p_1_1 : Int) (p_1_2 : ByteArray) (w : World) (R : Ending → World → Prop) : Prop :=
  VNw none w (.cells #[.int .i64 p_1_0, .int .i64 p_1_1, .string p_1_2] 35) fun (p_3 : Nat) (w1 : World) =>
  ∀ (w2 : World), w2 = World.drew w1 →
  VNN none n_0 fun (a6 : Addr) =>
  VLd none w2 (Addr.add a6 2) [CT.sl] fun (v8 : Sl) =>
  VNN none n_0 fun (a11 : Addr) =>
  VLd none w2 a11 [CT.int .i64] fun (v13 : Int) =>
  VIf (((v8.len : Nat) : Int) == v13) (
    VNN none n_0 fun (a16 : Addr) =>
    VLd none w2 (Addr.add a16 1) [CT.int .i64] fun (v18 : Int) =>
    VNN none n_0 fun (a20 : Addr) =>
    VSt none w2 (Addr.add a20 1) [.int .i64 (IntKind.wrap .i64 (v18 + 1))] fun (w3 : World) =>
    R (.returned (.int .i64 3)) w3
  ) (
    ∀ (w4 : World), w4 = World.drew w2 →
    VNN none n_0 fun (a24 : Addr) =>
    VLd none w4 (Addr.add a24 2) [CT.sl] fun (v26 : Sl) =>
    VLd none w4 ⟨p_3, 0, none⟩ [CT.int .i64, CT.int .i64, CT.str] fun (v27_0 : Int) (v27_1 : Int) (v27_2 : ByteArray) =>
    VNw none w4 (.cells #[.int .i64 v27_0, .int .i64 v27_1, .string v27_2] 35) fun (b28 : Nat) (w5 : World) =>
    Rd w5 (Addr.add a24 2) [.slice v26.base v26.len v26.cap] ∧
    VApp none w5 35 3 32 #[.int .i64 0, .int .i64 0, .string ByteArray.empty] v26.base v26.len v26.cap 1 (fun news => Seg w5 (some ⟨b28, 0, none⟩) 1 3 news) fun (l29 : Sl) (w6 : World) =>
    VNN none n_0 fun (a30 : Addr) =>
    VSt none w6 (Addr.add a30 2) [.slice l29.base l29.len l29.cap] fun (w7 : World) =>
    R (.returned (.int .i64 0)) w7
  )
theorem sh_net_Net_add_ok (n_0 : Option Addr) (p_1_0 : Int) (p_1_1 : Int) (p_1_2 : ByteArray) (w : World) (R : Ending → World → Prop) (h : sh_net_Net_add n_0 p_1_0 p_1_1 p_1_2 w R) : Calls Try.prog 22 #[.pointer n_0, .agg #[.int .i64 p_1_0, .int .i64 p_1_1, .string p_1_2]] w R :=
  calls_of_sh (args := [.pointer n_0, .agg #[.int .i64 p_1_0, .int .i64 p_1_1, .string p_1_2]]) (.two .auto (.two (.two .auto (.two (.two .auto (.two .auto .auto)) .auto)) (.two .auto (.two .auto .auto)))) Try.func22 (by kernel_rfl) (by kernel_rfl) (by kernel_rfl) h

/-- 23: (*buttery/butteryref10.Net).add -/
def sh_butteryref10_Net_add (n_0 : Option Addr) (p_1_0 : Int) (p_1_1 : Int) (p_1_2 : ByteArray) (w : World) (R : Ending → World → Prop) : Prop :=
  VNw none w (.cells #[.int .i64 p_1_0, .int .i64 p_1_1, .string p_1_2] 48) fun (p_3 : Nat) (w1 : World) =>
  ∀ (w2 : World), w2 = World.drew w1 →
  VNN none n_0 fun (a6 : Addr) =>
  VLd none w2 (Addr.add a6 2) [CT.sl] fun (v8 : Sl) =>
  VNN none n_0 fun (a11 : Addr) =>
  VLd none w2 a11 [CT.int .i64] fun (v13 : Int) =>
  VIf (decide (((v8.len : Nat) : Int) ≥ v13)) (
    VNN none n_0 fun (a16 : Addr) =>
    VLd none w2 (Addr.add a16 1) [CT.int .i64] fun (v18 : Int) =>
    VNN none n_0 fun (a20 : Addr) =>
    VSt none w2 (Addr.add a20 1) [.int .i64 (IntKind.wrap .i64 (v18 + 1))] fun (w3 : World) =>
    R (.returned (.int .i64 3)) w3
  ) (
    ∀ (w4 : World), w4 = World.drew w2 →
    VNN none n_0 fun (a24 : Addr) =>
    VLd none w4 (Addr.add a24 2) [CT.sl] fun (v26 : Sl) =>
    VLd none w4 ⟨p_3, 0, none⟩ [CT.int .i64, CT.int .i64, CT.str] fun (v27_0 : Int) (v27_1 : Int) (v27_2 : ByteArray) =>
    VNw none w4 (.cells #[.int .i64 v27_0, .int .i64 v27_1, .string v27_2] 48) fun (b28 : Nat) (w5 : World) =>
    Rd w5 (Addr.add a24 2) [.slice v26.base v26.len v26.cap] ∧
    VApp none w5 48 3 32 #[.int .i64 0, .int .i64 0, .string ByteArray.empty] v26.base v26.len v26.cap 1 (fun news => Seg w5 (some ⟨b28, 0, none⟩) 1 3 news) fun (l29 : Sl) (w6 : World) =>
    VNN none n_0 fun (a30 : Addr) =>
    VSt none w6 (Addr.add a30 2) [.slice l29.base l29.len l29.cap] fun (w7 : World) =>
    R (.returned (.int .i64 0)) w7
  )
theorem sh_butteryref10_Net_add_ok (n_0 : Option Addr) (p_1_0 : Int) (p_1_1 : Int) (p_1_2 : ByteArray) (w : World) (R : Ending → World → Prop) (h : sh_butteryref10_Net_add n_0 p_1_0 p_1_1 p_1_2 w R) : Calls Try.prog 23 #[.pointer n_0, .agg #[.int .i64 p_1_0, .int .i64 p_1_1, .string p_1_2]] w R :=
  calls_of_sh (args := [.pointer n_0, .agg #[.int .i64 p_1_0, .int .i64 p_1_1, .string p_1_2]]) (.two .auto (.two (.two .auto (.two (.two .auto (.two .auto .auto)) .auto)) (.two .auto (.two .auto .auto)))) Try.func23 (by kernel_rfl) (by kernel_rfl) (by kernel_rfl) h

/-- 24: slices.Clone of  of buttery/net.Packet,buttery/net.Packet -/
def sh_slices_Clone (s_0 : Sl) (w : World) (R : Ending → World → Prop) : Prop :=
  VIf s_0.base.isNone (
    R (.returned (.slice none 0 0)) w
  ) (
    VNw none w (.cells #[] 35) fun (b5 : Nat) (w1 : World) =>
    VApp none w1 35 3 32 #[.int .i64 0, .int .i64 0, .string ByteArray.empty] (some ⟨b5, 0, none⟩) 0 0 s_0.len (fun news => Seg w1 s_0.base s_0.len 3 news) fun (l7 : Sl) (w2 : World) =>
    R (.returned (.slice l7.base l7.len l7.cap)) w2
  )
theorem sh_slices_Clone_ok (s_0 : Sl) (w : World) (R : Ending → World → Prop) (h : sh_slices_Clone s_0 w R) : Calls Try.prog 24 #[.slice s_0.base s_0.len s_0.cap] w R :=
  calls_of_sh (args := [.slice s_0.base s_0.len s_0.cap]) (.two .auto (.two (.two .auto (.two (.two .auto .auto) .auto)) (.two .auto .auto))) Try.func24 (by kernel_rfl) (by kernel_rfl) (by kernel_rfl) h

end Go.Proofs.Ytkflggahjmmdhaa
