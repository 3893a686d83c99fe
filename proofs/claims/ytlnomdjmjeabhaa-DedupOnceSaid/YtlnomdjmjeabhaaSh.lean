/-
  By program (own tool): what the code of each function asks, in plain text, and that it suffices (the kernel compares the two).
-/
import Derived.Test.YtlnomdjmjeabhaaRows
import Derived.Test.YtlnomdjmjeabhaaEngJ
import Derived.KernelRfl
namespace Go.Proofs.Ytlnomdjmjeabhaa
open Go.RowKit
set_option maxRecDepth 100000

/-- 3: buttery/butterylaw09.DedupDoes -/
def sh_butterylaw09_DedupDoes (m_0 : Sl) (op_1_0 : Int) (op_1_1 : ByteArray) (op_1_2 : ByteArray) (op_1_3 : ByteArray) (op_1_4 : Bool) (shards_2 : Int) (w : World) (R : Ending → World → Prop) : Prop :=
  VNw none w (.cells #[.int .u8 op_1_0, .string op_1_1, .string op_1_2, .string op_1_3, .bool op_1_4] 24) fun (op_4 : Nat) (w1 : World) =>
  VNw none w1 (.cells #[] 36) fun (b20 : Nat) (w2 : World) =>
  VApp none w2 36 2 32 #[.string ByteArray.empty, .string ByteArray.empty] (some ⟨b20, 0, none⟩) 0 0 m_0.len (fun news => Seg w2 m_0.base m_0.len 2 news) fun (l22 : Sl) (w3 : World) =>
  VLd none w3 ⟨op_4, 1, none⟩ [CT.str] fun (v26 : ByteArray) =>
  VCall none Try.prog 10 #[.slice l22.base l22.len l22.cap, .string v26] w3 (.tuple #[.string ByteArray.empty, .bool false]) fun (r27_0 : ByteArray) (r27_1 : Bool) (w4 : World) =>
  VLd none w4 ⟨op_4, 1, none⟩ [CT.str] fun (v33 : ByteArray) =>
  VCall none Try.prog 11 #[.slice m_0.base m_0.len m_0.cap, .string v33] w4 (.tuple #[.string ByteArray.empty, .bool false]) fun (r34_0 : ByteArray) (r34_1 : Bool) (w5 : World) =>
  ∀ (w6 : World), w6 = World.drew w5 →
  VLd (some (!((!(r27_0.toList == r34_0.toList)) || (!(r27_1 == r34_1))))) w6 ⟨op_4, 0, none⟩ [CT.int .u8, CT.str, CT.str, CT.str, CT.bool] fun (v46_0 : Int) (v46_1 : ByteArray) (v46_2 : ByteArray) (v46_3 : ByteArray) (v46_4 : Bool) =>
  VLd (some (!((!(r27_0.toList == r34_0.toList)) || (!(r27_1 == r34_1))))) w6 ⟨op_4, 0, none⟩ [CT.int .u8, CT.str, CT.str, CT.str, CT.bool] fun (v48_0 : Int) (v48_1 : ByteArray) (v48_2 : ByteArray) (v48_3 : ByteArray) (v48_4 : Bool) =>
  VCall (some (!((!(r27_0.toList == r34_0.toList)) || (!(r27_1 == r34_1))))) Try.prog 12 #[.agg #[.int .u8 v46_0, .string v46_1, .string v46_2, .string v46_3, .bool v46_4]] w6 (.int .i64 0) fun (r47 : Int) (w7 : World) =>
  ((!((!(r27_0.toList == r34_0.toList)) || (!(r27_1 == r34_1)))) = true → Rd w7 ⟨op_4, 0, none⟩ [.int .u8 v48_0, .string v48_1, .string v48_2, .string v48_3, .bool v48_4]) ∧
  VCall (some (!((!(r27_0.toList == r34_0.toList)) || (!(r27_1 == r34_1))))) Try.prog 13 #[.agg #[.int .u8 v48_0, .string v48_1, .string v48_2, .string v48_3, .bool v48_4]] w7 (.int .i64 0) fun (r49 : Int) (w8 : World) =>
  VLd (some (!(((!(r27_0.toList == r34_0.toList)) || (!(r27_1 == r34_1))) || (r47 != r49)))) w8 ⟨op_4, 1, none⟩ [CT.str] fun (v54 : ByteArray) =>
  VLd (some (!(((!(r27_0.toList == r34_0.toList)) || (!(r27_1 == r34_1))) || (r47 != r49)))) w8 ⟨op_4, 1, none⟩ [CT.str] fun (v58 : ByteArray) =>
  VCall (some (!(((!(r27_0.toList == r34_0.toList)) || (!(r27_1 == r34_1))) || (r47 != r49)))) Try.prog 14 #[.string v54, .int .i64 shards_2] w8 (.int .i64 0) fun (r56 : Int) (w9 : World) =>
  ((!(((!(r27_0.toList == r34_0.toList)) || (!(r27_1 == r34_1))) || (r47 != r49))) = true → Rd w9 ⟨op_4, 1, none⟩ [.string v58]) ∧
  VCall (some (!(((!(r27_0.toList == r34_0.toList)) || (!(r27_1 == r34_1))) || (r47 != r49)))) Try.prog 15 #[.string v58, .int .i64 shards_2] w9 (.int .i64 0) fun (r60 : Int) (w10 : World) =>
  VIf ((((!(r27_0.toList == r34_0.toList)) || (!(r27_1 == r34_1))) || (r47 != r49)) || (r56 != r60)) (
    R (.returned (.bool false)) w10
  ) (
    ∃ I1 : Nat → Int → World → Prop, (∃ k, I1 k 0 w10) ∧ ∀ k1 (round_12 : Int) (w11 : World), I1 k1 round_12 w11 →
    VIf (decide (round_12 < 2)) (
      VLd none w11 ⟨op_4, 0, none⟩ [CT.int .u8, CT.str, CT.str, CT.str, CT.bool] fun (v69_0 : Int) (v69_1 : ByteArray) (v69_2 : ByteArray) (v69_3 : ByteArray) (v69_4 : Bool) =>
      VCall none Try.prog 16 #[.slice l22.base l22.len l22.cap, .agg #[.int .u8 v69_0, .string v69_1, .string v69_2, .string v69_3, .bool v69_4]] w11 (.tuple #[.slice none 0 0, .agg #[.int .u8 0, .bool false, .string ByteArray.empty], .int .i64 0]) fun (r70_0 : Sl) (r70_1 : Int) (r70_2 : Bool) (r70_3 : ByteArray) (r70_4 : Int) (w12 : World) =>
      VNw none w12 (.cells #[.int .u8 0, .bool false, .string ByteArray.empty] 31) fun (r_14 : Nat) (w13 : World) =>
      VSt none w13 ⟨r_14, 0, none⟩ [.int .u8 r70_1, .bool r70_2, .string r70_3] fun (w14 : World) =>
      VSet r70_4 fun (e_15 : Int) =>
      VLd none w14 ⟨op_4, 0, none⟩ [CT.int .u8, CT.str, CT.str, CT.str, CT.bool] fun (v76_0 : Int) (v76_1 : ByteArray) (v76_2 : ByteArray) (v76_3 : ByteArray) (v76_4 : Bool) =>
      VCall none Try.prog 17 #[.slice m_0.base m_0.len m_0.cap, .agg #[.int .u8 v76_0, .string v76_1, .string v76_2, .string v76_3, .bool v76_4]] w14 (.tuple #[.slice none 0 0, .agg #[.int .u8 0, .bool false, .string ByteArray.empty], .int .i64 0]) fun (r77_0 : Sl) (r77_1 : Int) (r77_2 : Bool) (r77_3 : ByteArray) (r77_4 : Int) (w15 : World) =>
      VNw none w15 (.cells #[.int .u8 0, .bool false, .string ByteArray.empty] 31) fun (s_17 : Nat) (w16 : World) =>
      VSt none w16 ⟨s_17, 0, none⟩ [.int .u8 r77_1, .bool r77_2, .string r77_3] fun (w17 : World) =>
      VSet r77_4 fun (f_18 : Int) =>
      VLd none w17 ⟨r_14, 0, none⟩ [CT.int .u8, CT.bool, CT.str] fun (v81_0 : Int) (v81_1 : Bool) (v81_2 : ByteArray) =>
      VLd none w17 ⟨s_17, 0, none⟩ [CT.int .u8, CT.bool, CT.str] fun (v82_0 : Int) (v82_1 : Bool) (v82_2 : ByteArray) =>
      VCall (some (!((!((v81_0 == v82_0) && ((v81_1 == v82_1) && (v81_2.toList == v82_2.toList)))) || (e_15 != f_18)))) Try.prog 18 #[.slice r70_0.base r70_0.len r70_0.cap, .slice r77_0.base r77_0.len r77_0.cap] w17 (.bool false) fun (r92 : Bool) (w18 : World) =>
      VIf (((!((v81_0 == v82_0) && ((v81_1 == v82_1) && (v81_2.toList == v82_2.toList)))) || (e_15 != f_18)) || (!r92)) (
        R (.returned (.bool false)) w18
      ) (
        ∃ I2 : Nat → Int → World → Prop, (∃ k, I2 k 0 w18) ∧ ∀ k2 (i_19 : Int) (w19 : World), I2 k2 i_19 w19 →
        VIf (decide (i_19 < ((r70_0.len : Nat) : Int))) (
          VIx none r70_0.base r70_0.len i_19 fun (a103 : Addr) =>
          VSt none w19 (Addr.add a103 ((Int.toNat i_19) * 2)) [.string (ByteArray.mk #[63])] fun (w20 : World) =>
          VSet (IntKind.wrap .i64 (i_19 + 1)) fun (i_19' : Int) =>
          ∃ k', k' < k2 ∧ I2 k' i_19' w20
        ) (
          VNw none w19 (.cells #[.string (ByteArray.mk #[109, 111, 114, 101]), .string ByteArray.empty] 36) fun (b107 : Nat) (w21 : World) =>
          VApp none w21 36 2 32 #[.string ByteArray.empty, .string ByteArray.empty] r70_0.base r70_0.len r70_0.cap 1 (fun news => Seg w21 (some ⟨b107, 0, none⟩) 1 2 news) fun (l108 : Sl) (w22 : World) =>
          VCall (some (!(decide (((l108.len : Nat) : Int) < 1)))) Try.prog 18 #[.slice l22.base l22.len l22.cap, .slice m_0.base m_0.len m_0.cap] w22 (.bool false) fun (r115 : Bool) (w23 : World) =>
          VIf ((decide (((l108.len : Nat) : Int) < 1)) || (!r115)) (
            R (.returned (.bool false)) w23
          ) (
            VSet (IntKind.wrap .i64 (round_12 + 1)) fun (round_12' : Int) =>
            ∃ k', k' < k1 ∧ I1 k' round_12' w23
          )
        )
      )
    ) (
      R (.returned (.bool true)) w11
    )
  )
theorem sh_butterylaw09_DedupDoes_ok (m_0 : Sl) (op_1_0 : Int) (op_1_1 : ByteArray) (op_1_2 : ByteArray) (op_1_3 : ByteArray) (op_1_4 : Bool) (shards_2 : Int) (w : World) (R : Ending → World → Prop) (h : sh_butterylaw09_DedupDoes m_0 op_1_0 op_1_1 op_1_2 op_1_3 op_1_4 shards_2 w R) : Calls Try.prog 3 #[.slice m_0.base m_0.len m_0.cap, .agg #[.int .u8 op_1_0, .string op_1_1, .string op_1_2, .string op_1_3, .bool op_1_4], .int .i64 shards_2] w R :=
  calls_of_sh (args := [.slice m_0.base m_0.len m_0.cap, .agg #[.int .u8 op_1_0, .string op_1_1, .string op_1_2, .string op_1_3, .bool op_1_4], .int .i64 shards_2]) (.two .auto (.two .auto (.two .auto (.two .auto (.two (.two .auto (.two (.two .auto .auto) .auto)) (.two (.two .auto (.one (.loop [(12, .int .i64 0)] (.two (.two .auto (.two .auto .auto)) (.two (.one (.two .auto (.two .auto (.two (.two .auto (.two (.two .auto .auto) .auto)) (.two (.two .auto (.one (.loop [(19, .int .i64 0)] (.two (.two .auto (.two .auto .auto)) (.two (.one .auto) .auto))))) (.two .auto (.two .auto (.two (.two .auto .auto) .auto)))))))) .auto))))) (.two .auto .auto))))))) Try.func3 (by kernel_rfl) (by kernel_rfl) (by kernel_rfl) h

/-- 4: buttery/butterylaw09.DedupSteps -/
def sh_butterylaw09_DedupSteps (m_0 : Sl) (l_1 : Sl) (client_2 : Int) (id_3 : Int) (op_4_0 : Int) (op_4_1 : ByteArray) (op_4_2 : ByteArray) (op_4_3 : ByteArray) (op_4_4 : Bool) (w : World) (R : Ending → World → Prop) : Prop :=
  VNw none w (.cells #[.int .u8 op_4_0, .string op_4_1, .string op_4_2, .string op_4_3, .bool op_4_4] 24) fun (op_9 : Nat) (w1 : World) =>
  VNw none w1 (.cells #[] 36) fun (b31 : Nat) (w2 : World) =>
  VApp none w2 36 2 32 #[.string ByteArray.empty, .string ByteArray.empty] (some ⟨b31, 0, none⟩) 0 0 m_0.len (fun news => Seg w2 m_0.base m_0.len 2 news) fun (l33 : Sl) (w3 : World) =>
  VNw none w3 (.cells #[] 42) fun (b34 : Nat) (w4 : World) =>
  VApp none w4 42 5 40 #[.int .i64 0, .int .i64 0, .int .u8 0, .bool false, .string ByteArray.empty] (some ⟨b34, 0, none⟩) 0 0 l_1.len (fun news => Seg w4 l_1.base l_1.len 5 news) fun (l36 : Sl) (w5 : World) =>
  VCall none Try.prog 19 #[.slice l36.base l36.len l36.cap, .int .i64 client_2, .int .i64 id_3] w5 (.tuple #[.agg #[.int .u8 0, .bool false, .string ByteArray.empty], .int .i64 0]) fun (r41_0 : Int) (r41_1 : Bool) (r41_2 : ByteArray) (r41_3 : Int) (w6 : World) =>
  VNw none w6 (.cells #[.int .u8 0, .bool false, .string ByteArray.empty] 31) fun (r_13 : Nat) (w7 : World) =>
  VSt none w7 ⟨r_13, 0, none⟩ [.int .u8 r41_0, .bool r41_1, .string r41_2] fun (w8 : World) =>
  VSet r41_3 fun (e_14 : Int) =>
  VCall none Try.prog 20 #[.slice l_1.base l_1.len l_1.cap, .int .i64 client_2, .int .i64 id_3] w8 (.tuple #[.agg #[.int .u8 0, .bool false, .string ByteArray.empty], .int .i64 0]) fun (r48_0 : Int) (r48_1 : Bool) (r48_2 : ByteArray) (r48_3 : Int) (w9 : World) =>
  VNw none w9 (.cells #[.int .u8 0, .bool false, .string ByteArray.empty] 31) fun (s_15 : Nat) (w10 : World) =>
  VSt none w10 ⟨s_15, 0, none⟩ [.int .u8 r48_0, .bool r48_1, .string r48_2] fun (w11 : World) =>
  VSet r48_3 fun (f_16 : Int) =>
  VLd none w11 ⟨r_13, 0, none⟩ [CT.int .u8, CT.bool, CT.str] fun (v51_0 : Int) (v51_1 : Bool) (v51_2 : ByteArray) =>
  VLd none w11 ⟨s_15, 0, none⟩ [CT.int .u8, CT.bool, CT.str] fun (v52_0 : Int) (v52_1 : Bool) (v52_2 : ByteArray) =>
  VIf ((!((v51_0 == v52_0) && ((v51_1 == v52_1) && (v51_2.toList == v52_2.toList)))) || (e_14 != f_16)) (
    R (.returned (.bool false)) w11
  ) (
    VLd none w11 ⟨op_9, 2, none⟩ [CT.str] fun (v62 : ByteArray) =>
    VNw none w11 (.cells #[.int .i64 0, .int .i64 0, .int .u8 0, .bool false, .string ByteArray.empty] 42) fun (last_17 : Nat) (w12 : World) =>
    VSt none w12 ⟨last_17, 0, none⟩ [.int .i64 client_2, .int .i64 id_3, .int .u8 1, .bool false, .string v62] fun (w13 : World) =>
    VLd none w13 ⟨last_17, 0, none⟩ [CT.int .i64, CT.int .i64, CT.int .u8, CT.bool, CT.str] fun (v66_0 : Int) (v66_1 : Int) (v66_2 : Int) (v66_3 : Bool) (v66_4 : ByteArray) =>
    VCall none Try.prog 21 #[.slice l36.base l36.len l36.cap, .agg #[.int .i64 v66_0, .int .i64 v66_1, .int .u8 v66_2, .bool v66_3, .string v66_4]] w13 (.slice none 0 0) fun (r67 : Sl) (w14 : World) =>
    VLd none w14 ⟨last_17, 0, none⟩ [CT.int .i64, CT.int .i64, CT.int .u8, CT.bool, CT.str] fun (v70_0 : Int) (v70_1 : Int) (v70_2 : Int) (v70_3 : Bool) (v70_4 : ByteArray) =>
    VCall none Try.prog 23 #[.slice l_1.base l_1.len l_1.cap, .agg #[.int .i64 v70_0, .int .i64 v70_1, .int .u8 v70_2, .bool v70_3, .string v70_4]] w14 (.slice none 0 0) fun (r71 : Sl) (w15 : World) =>
    VCall none Try.prog 22 #[.slice r67.base r67.len r67.cap, .slice r71.base r71.len r71.cap] w15 (.bool false) fun (r72 : Bool) (w16 : World) =>
    VIf (!r72) (
      R (.returned (.bool false)) w16
    ) (
      ∃ I1 : Nat → Int → World → Prop, (∃ k, I1 k 0 w16) ∧ ∀ k1 (i_19 : Int) (w17 : World), I1 k1 i_19 w17 →
      VIf (decide (i_19 < ((r67.len : Nat) : Int))) (
        VIx none r67.base r67.len i_19 fun (a82 : Addr) =>
        VSt none w17 (Addr.add (Addr.add a82 ((Int.toNat i_19) * 5)) 1) [.int .i64 (-9)] fun (w18 : World) =>
        VSet (IntKind.wrap .i64 (i_19 + 1)) fun (i_19' : Int) =>
        ∃ k', k' < k1 ∧ I1 k' i_19' w18
      ) (
        ∃ I2 : Nat → Int → World → Prop, (∃ k, I2 k 0 w17) ∧ ∀ k2 (round_20 : Int) (w19 : World), I2 k2 round_20 w19 →
        VIf (decide (round_20 < 2)) (
          VLd none w19 ⟨op_9, 0, none⟩ [CT.int .u8, CT.str, CT.str, CT.str, CT.bool] fun (v93_0 : Int) (v93_1 : ByteArray) (v93_2 : ByteArray) (v93_3 : ByteArray) (v93_4 : Bool) =>
          VCall none Try.prog 24 #[.slice l33.base l33.len l33.cap, .slice l36.base l36.len l36.cap, .int .i64 client_2, .int .i64 id_3, .agg #[.int .u8 v93_0, .string v93_1, .string v93_2, .string v93_3, .bool v93_4]] w19 (.tuple #[.slice none 0 0, .slice none 0 0, .agg #[.int .u8 0, .bool false, .string ByteArray.empty], .int .i64 0]) fun (r94_0 : Sl) (r94_1 : Sl) (r94_2 : Int) (r94_3 : Bool) (r94_4 : ByteArray) (r94_5 : Int) (w20 : World) =>
          VNw none w20 (.cells #[.int .u8 0, .bool false, .string ByteArray.empty] 31) fun (r_23 : Nat) (w21 : World) =>
          VSt none w21 ⟨r_23, 0, none⟩ [.int .u8 r94_2, .bool r94_3, .string r94_4] fun (w22 : World) =>
          VSet r94_5 fun (e_24 : Int) =>
          VLd none w22 ⟨op_9, 0, none⟩ [CT.int .u8, CT.str, CT.str, CT.str, CT.bool] fun (v104_0 : Int) (v104_1 : ByteArray) (v104_2 : ByteArray) (v104_3 : ByteArray) (v104_4 : Bool) =>
          VCall none Try.prog 25 #[.slice m_0.base m_0.len m_0.cap, .slice l_1.base l_1.len l_1.cap, .int .i64 client_2, .int .i64 id_3, .agg #[.int .u8 v104_0, .string v104_1, .string v104_2, .string v104_3, .bool v104_4]] w22 (.tuple #[.slice none 0 0, .slice none 0 0, .agg #[.int .u8 0, .bool false, .string ByteArray.empty], .int .i64 0]) fun (r105_0 : Sl) (r105_1 : Sl) (r105_2 : Int) (r105_3 : Bool) (r105_4 : ByteArray) (r105_5 : Int) (w23 : World) =>
          VNw none w23 (.cells #[.int .u8 0, .bool false, .string ByteArray.empty] 31) fun (s_27 : Nat) (w24 : World) =>
          VSt none w24 ⟨s_27, 0, none⟩ [.int .u8 r105_2, .bool r105_3, .string r105_4] fun (w25 : World) =>
          VSet r105_5 fun (f_28 : Int) =>
          VLd none w25 ⟨r_23, 0, none⟩ [CT.int .u8, CT.bool, CT.str] fun (v110_0 : Int) (v110_1 : Bool) (v110_2 : ByteArray) =>
          VLd none w25 ⟨s_27, 0, none⟩ [CT.int .u8, CT.bool, CT.str] fun (v111_0 : Int) (v111_1 : Bool) (v111_2 : ByteArray) =>
          VCall (some (!((!((v110_0 == v111_0) && ((v110_1 == v111_1) && (v110_2.toList == v111_2.toList)))) || (e_24 != f_28)))) Try.prog 18 #[.slice r94_0.base r94_0.len r94_0.cap, .slice r105_0.base r105_0.len r105_0.cap] w25 (.bool false) fun (r121 : Bool) (w26 : World) =>
          VCall (some (!(((!((v110_0 == v111_0) && ((v110_1 == v111_1) && (v110_2.toList == v111_2.toList)))) || (e_24 != f_28)) || (!r121)))) Try.prog 22 #[.slice r94_1.base r94_1.len r94_1.cap, .slice r105_1.base r105_1.len r105_1.cap] w26 (.bool false) fun (r127 : Bool) (w27 : World) =>
          VIf ((((!((v110_0 == v111_0) && ((v110_1 == v111_1) && (v110_2.toList == v111_2.toList)))) || (e_24 != f_28)) || (!r121)) || (!r127)) (
            R (.returned (.bool false)) w27
          ) (
            ∃ I3 : Nat → Int → World → Prop, (∃ k, I3 k 0 w27) ∧ ∀ k3 (i_29 : Int) (w28 : World), I3 k3 i_29 w28 →
            VIf (decide (i_29 < ((r94_0.len : Nat) : Int))) (
              VIx none r94_0.base r94_0.len i_29 fun (a138 : Addr) =>
              VSt none w28 (Addr.add a138 ((Int.toNat i_29) * 2)) [.string (ByteArray.mk #[63])] fun (w29 : World) =>
              VSet (IntKind.wrap .i64 (i_29 + 1)) fun (i_29' : Int) =>
              ∃ k', k' < k3 ∧ I3 k' i_29' w29
            ) (
              ∃ I4 : Nat → Int → World → Prop, (∃ k, I4 k 0 w28) ∧ ∀ k4 (i_30 : Int) (w30 : World), I4 k4 i_30 w30 →
              VIf (decide (i_30 < ((r94_1.len : Nat) : Int))) (
                VIx none r94_1.base r94_1.len i_30 fun (a148 : Addr) =>
                VSt none w30 (Addr.add (Addr.add a148 ((Int.toNat i_30) * 5)) 1) [.int .i64 (-9)] fun (w31 : World) =>
                VSet (IntKind.wrap .i64 (i_30 + 1)) fun (i_30' : Int) =>
                ∃ k', k' < k4 ∧ I4 k' i_30' w31
              ) (
                VCall none Try.prog 18 #[.slice l33.base l33.len l33.cap, .slice m_0.base m_0.len m_0.cap] w30 (.bool false) fun (r152 : Bool) (w32 : World) =>
                VCall (some (!(!r152))) Try.prog 22 #[.slice l36.base l36.len l36.cap, .slice l_1.base l_1.len l_1.cap] w32 (.bool false) fun (r157 : Bool) (w33 : World) =>
                VIf ((!r152) || (!r157)) (
                  R (.returned (.bool false)) w33
                ) (
                  VSet (IntKind.wrap .i64 (round_20 + 1)) fun (round_20' : Int) =>
                  ∃ k', k' < k2 ∧ I2 k' round_20' w33
                )
              )
            )
          )
        ) (
          R (.returned (.bool true)) w19
        )
      )
    )
  )
theorem sh_butterylaw09_DedupSteps_ok (m_0 : Sl) (l_1 : Sl) (client_2 : Int) (id_3 : Int) (op_4_0 : Int) (op_4_1 : ByteArray) (op_4_2 : ByteArray) (op_4_3 : ByteArray) (op_4_4 : Bool) (w : World) (R : Ending → World → Prop) (h : sh_butterylaw09_DedupSteps m_0 l_1 client_2 id_3 op_4_0 op_4_1 op_4_2 op_4_3 op_4_4 w R) : Calls Try.prog 4 #[.slice m_0.base m_0.len m_0.cap, .slice l_1.base l_1.len l_1.cap, .int .i64 client_2, .int .i64 id_3, .agg #[.int .u8 op_4_0, .string op_4_1, .string op_4_2, .string op_4_3, .bool op_4_4]] w R :=
  calls_of_sh (args := [.slice m_0.base m_0.len m_0.cap, .slice l_1.base l_1.len l_1.cap, .int .i64 client_2, .int .i64 id_3, .agg #[.int .u8 op_4_0, .string op_4_1, .string op_4_2, .string op_4_3, .bool op_4_4]]) (.two .auto (.two .auto (.two .auto (.two .auto (.two .auto (.two (.two .auto (.two (.two .auto .auto) .auto)) (.two .auto (.two .auto (.two (.two .auto (.two (.two .auto .auto) .auto)) (.two (.two .auto (.one (.loop [(19, .int .i64 0)] (.two (.two .auto (.two .auto .auto)) (.two (.one .auto) .auto))))) (.two (.two .auto (.one (.loop [(20, .int .i64 0)] (.two (.two .auto (.two .auto .auto)) (.two (.one (.two .auto (.two .auto (.two (.two .auto (.two (.two .auto .auto) .auto)) (.two (.two .auto (.one (.loop [(29, .int .i64 0)] (.two (.two .auto (.two .auto .auto)) (.two (.one .auto) .auto))))) (.two (.two .auto (.one (.loop [(30, .int .i64 0)] (.two (.two .auto (.two .auto .auto)) (.two (.one .auto) .auto))))) (.two .auto (.two (.two .auto .auto) .auto)))))))) .auto))))) (.two .auto .auto)))))))))))) Try.func4 (by kernel_rfl) (by kernel_rfl) (by kernel_rfl) h

/-- 5: buttery/butterylaw09.DedupMap -/
def sh_butterylaw09_DedupMap (l_0 : Sl) (w : World) (R : Ending → World → Prop) : Prop :=
  VCall none Try.prog 26 #[] w (.bool false) fun (r16 : Bool) (w1 : World) =>
  VIf ((!r16) || (decide (((l_0.len : Nat) : Int) > 300))) (
    VCall none Try.prog 26 #[] w1 (.bool false) fun (r23 : Bool) (w2 : World) =>
    R (.returned (.bool r23)) w2
  ) (
    VNw none w1 (.map #[] 0) fun (b24 : Nat) (w3 : World) =>
    ∃ I1 : Nat → Sl → Int → World → Prop, (∃ k, I1 k ⟨none, 0, 0⟩ 0 w3) ∧ ∀ k1 (m_4 : Sl) (i_5 : Int) (w4 : World), I1 k1 m_4 i_5 w4 →
    VIf (decide (i_5 < ((l_0.len : Nat) : Int))) (
      ∃ Φ2 : Sl → World → Prop, (
        VIx none l_0.base l_0.len i_5 fun (a33 : Addr) =>
        VLd none w4 (Addr.add a33 ((Int.toNat i_5) * 5)) [CT.int .u8, CT.str, CT.str, CT.str, CT.bool] fun (v34_0 : Int) (v34_1 : ByteArray) (v34_2 : ByteArray) (v34_3 : ByteArray) (v34_4 : Bool) =>
        VNw none w4 (.cells #[.int .u8 0, .string ByteArray.empty, .string ByteArray.empty, .string ByteArray.empty, .bool false] 24) fun (op_6 : Nat) (w5 : World) =>
        VSt none w5 ⟨op_6, 0, none⟩ [.int .u8 v34_0, .string v34_1, .string v34_2, .string v34_3, .bool v34_4] fun (w6 : World) =>
        VLd none w6 ⟨op_6, 0, none⟩ [CT.int .u8, CT.str, CT.str, CT.str, CT.bool] fun (v37_0 : Int) (v37_1 : ByteArray) (v37_2 : ByteArray) (v37_3 : ByteArray) (v37_4 : Bool) =>
        VCall none Try.prog 16 #[.slice m_4.base m_4.len m_4.cap, .agg #[.int .u8 v37_0, .string v37_1, .string v37_2, .string v37_3, .bool v37_4]] w6 (.tuple #[.slice none 0 0, .agg #[.int .u8 0, .bool false, .string ByteArray.empty], .int .i64 0]) fun (r38_0 : Sl) (r38_1 : Int) (r38_2 : Bool) (r38_3 : ByteArray) (r38_4 : Int) (w7 : World) =>
        VNw none w7 (.cells #[.int .u8 0, .bool false, .string ByteArray.empty] 31) fun (r_8 : Nat) (w8 : World) =>
        VSt none w8 ⟨r_8, 0, none⟩ [.int .u8 r38_1, .bool r38_2, .string r38_3] fun (w9 : World) =>
        VSet r38_4 fun (e_9 : Int) =>
        VIf (e_9 != 0) (
          Φ2 m_4 w9
        ) (
          VLd none w9 ⟨op_6, 1, none⟩ [CT.str] fun (v47 : ByteArray) =>
          VRun none Try.prog (Instr.lookup 50 (.map (some b24)) (.string v47) true) w9 (.tuple #[.agg #[.string ByteArray.empty], .bool false]) fun (e48_0 : ByteArray) (e48_1 : Bool) (w10 : World) =>
          VNw none w10 (.cells #[.string ByteArray.empty] 52) fun (v_10 : Nat) (w11 : World) =>
          VSt none w11 ⟨v_10, 0, none⟩ [.string e48_0] fun (w12 : World) =>
          VLd none w12 ⟨op_6, 0, none⟩ [CT.int .u8] fun (v52 : Int) =>
          ∃ Φ3 : World → Prop, (
            VIf (v52 == 1) (
              VLd none w12 ⟨r_8, 1, none⟩ [CT.bool] fun (v82 : Bool) =>
              VLd (some (!(!(v82 == e48_1)))) w12 ⟨r_8, 2, none⟩ [CT.str] fun (v87 : ByteArray) =>
              VLd (some (!(!(v82 == e48_1)))) w12 ⟨v_10, 0, none⟩ [CT.str] fun (v89 : ByteArray) =>
              VIf ((!(v82 == e48_1)) || (!(v87.toList == v89.toList))) (
                R (.returned (.bool false)) w12
              ) (
                Φ3 w12
              )
            ) (
              VIf (v52 == 2) (
                VLd none w12 ⟨op_6, 1, none⟩ [CT.str] fun (v96 : ByteArray) =>
                VLd none w12 ⟨op_6, 2, none⟩ [CT.str] fun (v98 : ByteArray) =>
                VRunU none Try.prog (Instr.mapUpdate 50 (.map (some b24)) (.string v96) (.agg #[.string v98])) w12 fun (w13 : World) =>
                Φ3 w13
              ) (
                VIf (v52 == 3) (
                  VLd none w12 ⟨r_8, 1, none⟩ [CT.bool] fun (v103 : Bool) =>
                  VIf (!(v103 == e48_1)) (
                    R (.returned (.bool false)) w12
                  ) (
                    VLd none w12 ⟨op_6, 1, none⟩ [CT.str] fun (v108 : ByteArray) =>
                    VRun none Try.prog (Builtin.delete_ #[50, 9] 0 #[.map (some b24), .string v108]) w12 (.tuple #[]) fun (w14 : World) =>
                    Φ3 w14
                  )
                ) (
                  VLd none w12 ⟨op_6, 4, none⟩ [CT.bool] fun (v55 : Bool) =>
                  VLd (some ((e48_1 == v55) && (!(!e48_1)))) w12 ⟨v_10, 0, none⟩ [CT.str] fun (v62 : ByteArray) =>
                  VLd (some ((e48_1 == v55) && (!(!e48_1)))) w12 ⟨op_6, 3, none⟩ [CT.str] fun (v64 : ByteArray) =>
                  VLd none w12 ⟨r_8, 1, none⟩ [CT.bool] fun (v69 : Bool) =>
                  VIf (!(v69 == ((e48_1 == v55) && ((!e48_1) || (v62.toList == v64.toList))))) (
                    R (.returned (.bool false)) w12
                  ) (
                    VIf ((e48_1 == v55) && ((!e48_1) || (v62.toList == v64.toList))) (
                      VLd none w12 ⟨op_6, 1, none⟩ [CT.str] fun (v75 : ByteArray) =>
                      VLd none w12 ⟨op_6, 2, none⟩ [CT.str] fun (v77 : ByteArray) =>
                      VRunU none Try.prog (Instr.mapUpdate 50 (.map (some b24)) (.string v75) (.agg #[.string v77])) w12 fun (w15 : World) =>
                      Φ3 w15
                    ) (
                      Φ3 w12
                    )
                  )
                )
              )
            )
          ) ∧ ∀ (w16 : World), Φ3 w16 →
          VCall none Try.prog 27 #[.slice r38_0.base r38_0.len r38_0.cap] w16 (.bool false) fun (r111 : Bool) (w17 : World) =>
          VRun (some (!(!r111))) Try.prog (Builtin.len_ #[50] 3 #[.map (some b24)]) w17 (.int .i64 0) fun (n117 : Int) (w18 : World) =>
          VIf ((!r111) || (((r38_0.len : Nat) : Int) != n117)) (
            R (.returned (.bool false)) w18
          ) (
            Φ2 r38_0 w18
          )
        )
      ) ∧ ∀ (m_4' : Sl) (w19 : World), Φ2 m_4' w19 →
      VSet (IntKind.wrap .i64 (i_5 + 1)) fun (i_5' : Int) =>
      ∃ k', k' < k1 ∧ I1 k' ⟨m_4'.base, m_4'.len, m_4'.cap⟩ i_5' w19
    ) (
      ∃ I4 : Nat → Int → World → Prop, (∃ k, I4 k 0 w4) ∧ ∀ k4 (i_13 : Int) (w20 : World), I4 k4 i_13 w20 →
      VIf (decide (i_13 < ((m_4.len : Nat) : Int))) (
        VIx none m_4.base m_4.len i_13 fun (a130 : Addr) =>
        VLd none w20 (Addr.add a130 ((Int.toNat i_13) * 2)) [CT.str] fun (v132 : ByteArray) =>
        VRun none Try.prog (Instr.lookup 50 (.map (some b24)) (.string v132) true) w20 (.tuple #[.agg #[.string ByteArray.empty], .bool false]) fun (e133_0 : ByteArray) (e133_1 : Bool) (w21 : World) =>
        VNw none w21 (.cells #[.string ByteArray.empty] 52) fun (v_14 : Nat) (w22 : World) =>
        VSt none w22 ⟨v_14, 0, none⟩ [.string e133_0] fun (w23 : World) =>
        ∀ (w24 : World), w24 = World.drew w23 →
        VLd (some (!(!e133_1))) w24 ⟨v_14, 0, none⟩ [CT.str] fun (v140 : ByteArray) =>
        VIx (some (!(!e133_1))) m_4.base m_4.len i_13 fun (a143 : Addr) =>
        VLd (some (!(!e133_1))) w24 (Addr.add (Addr.add a143 ((Int.toNat i_13) * 2)) 1) [CT.str] fun (v145 : ByteArray) =>
        VIf ((!e133_1) || (!(v140.toList == v145.toList))) (
          R (.returned (.bool false)) w24
        ) (
          VSet (IntKind.wrap .i64 (i_13 + 1)) fun (i_13' : Int) =>
          ∃ k', k' < k4 ∧ I4 k' i_13' w24
        )
      ) (
        R (.returned (.bool true)) w20
      )
    )
  )
theorem sh_butterylaw09_DedupMap_ok (l_0 : Sl) (w : World) (R : Ending → World → Prop) (h : sh_butterylaw09_DedupMap l_0 w R) : Calls Try.prog 5 #[.slice l_0.base l_0.len l_0.cap] w R :=
  calls_of_sh (args := [.slice l_0.base l_0.len l_0.cap]) (.two .auto (.two (.two .auto (.two (.two .auto .auto) .auto)) (.two .auto (.two .auto (.two (.two .auto (.one (.loop [(4, .slice none 0 0), (5, .int .i64 0)] (.two (.two .auto (.two .auto .auto)) (.two (.bjoin [(4, .slice none 0 0)] (.two .auto (.two .auto (.two (.two .auto (.two .auto .auto)) (.two .auto (.two (.two .auto (.bjoin [] (.two .auto (.two (.two .auto (.two (.two .auto .auto) .auto)) (.two .auto (.two .auto (.two .auto (.two (.two (.two .auto (.two (.two .auto .auto) .auto)) .auto) (.two .auto (.two (.two .auto (.two (.two .auto .auto) .auto)) (.two .auto (.two .auto .auto)))))))))))) (.two .auto (.two .auto (.two (.two .auto .auto) .auto))))))))) .auto))))) (.two (.two .auto (.one (.loop [(13, .int .i64 0)] (.two (.two .auto (.two .auto .auto)) (.two (.one (.two .auto (.two .auto (.two (.two .auto .auto) .auto)))) .auto))))) (.two .auto .auto))))))) Try.func5 (by kernel_rfl) (by kernel_rfl) (by kernel_rfl) h

/-- 6: buttery/butterylaw09.DedupOnce -/
def sh_butterylaw09_DedupOnce (l_0 : Sl) (w : World) (R : Ending → World → Prop) : Prop :=
  VCall none Try.prog 26 #[] w (.bool false) fun (r23 : Bool) (w1 : World) =>
  VIf ((!r23) || (decide (((l_0.len : Nat) : Int) > 200))) (
    VCall none Try.prog 26 #[] w1 (.bool false) fun (r30 : Bool) (w2 : World) =>
    R (.returned (.bool r30)) w2
  ) (
    VMk none w1 3 1 8 #[.int .i64 0] 3 3 fun (b31 : Nat) (w3 : World) =>
    ∃ I1 : Nat → Sl → Sl → Sl → Sl → Int → World → Prop, (∃ k, I1 k ⟨none, 0, 0⟩ ⟨none, 0, 0⟩ ⟨none, 0, 0⟩ ⟨none, 0, 0⟩ 0 w3) ∧ ∀ k1 (all_3 : Sl) (m_4 : Sl) (plain_5 : Sl) (seen_6 : Sl) (i_8 : Int) (w4 : World), I1 k1 all_3 m_4 plain_5 seen_6 i_8 w4 →
    VIf (decide (i_8 < ((l_0.len : Nat) : Int))) (
      ∃ Φ2 : Sl → Sl → Sl → Sl → World → Prop, (
        VIx none l_0.base l_0.len i_8 fun (a40 : Addr) =>
        VLd none w4 (Addr.add (Addr.add a40 ((Int.toNat i_8) * 8)) 2) [CT.bool] fun (v42 : Bool) =>
        VIf (v42 && (decide (((all_3.len : Nat) : Int) > 0))) (
          VIx none l_0.base l_0.len i_8 fun (a51 : Addr) =>
          VLd none w4 (Addr.add (Addr.add a51 ((Int.toNat i_8) * 8)) 1) [CT.int .i64] fun (v53 : Int) =>
          VCk none (((IntKind.wrap .u64 ((all_3.len : Nat) : Int)) : Int) ≠ 0) (
            VIx none all_3.base all_3.len (IntKind.wrap .i64 (Int.tmod (IntKind.wrap .u64 v53) (IntKind.wrap .u64 ((all_3.len : Nat) : Int)))) fun (a60 : Addr) =>
            VLd none w4 (Addr.add a60 ((Int.toNat (IntKind.wrap .i64 (Int.tmod (IntKind.wrap .u64 v53) (IntKind.wrap .u64 ((all_3.len : Nat) : Int))))) * 10)) [CT.int .i64, CT.int .i64, CT.int .u8, CT.str, CT.str, CT.str, CT.bool, CT.int .u8, CT.bool, CT.str] fun (v61_0 : Int) (v61_1 : Int) (v61_2 : Int) (v61_3 : ByteArray) (v61_4 : ByteArray) (v61_5 : ByteArray) (v61_6 : Bool) (v61_7 : Int) (v61_8 : Bool) (v61_9 : ByteArray) =>
            VNw none w4 (.cells #[.int .i64 0, .int .i64 0, .int .u8 0, .string ByteArray.empty, .string ByteArray.empty, .string ByteArray.empty, .bool false, .int .u8 0, .bool false, .string ByteArray.empty] 62) fun (x_9 : Nat) (w5 : World) =>
            VSt none w5 ⟨x_9, 0, none⟩ [.int .i64 v61_0, .int .i64 v61_1, .int .u8 v61_2, .string v61_3, .string v61_4, .string v61_5, .bool v61_6, .int .u8 v61_7, .bool v61_8, .string v61_9] fun (w6 : World) =>
            VLd none w6 ⟨x_9, 0, none⟩ [CT.int .i64] fun (v66 : Int) =>
            VLd none w6 ⟨x_9, 1, none⟩ [CT.int .i64] fun (v68 : Int) =>
            VLd none w6 ⟨x_9, 2, none⟩ [CT.int .u8, CT.str, CT.str, CT.str, CT.bool] fun (v70_0 : Int) (v70_1 : ByteArray) (v70_2 : ByteArray) (v70_3 : ByteArray) (v70_4 : Bool) =>
            VCall none Try.prog 24 #[.slice m_4.base m_4.len m_4.cap, .slice seen_6.base seen_6.len seen_6.cap, .int .i64 v66, .int .i64 v68, .agg #[.int .u8 v70_0, .string v70_1, .string v70_2, .string v70_3, .bool v70_4]] w6 (.tuple #[.slice none 0 0, .slice none 0 0, .agg #[.int .u8 0, .bool false, .string ByteArray.empty], .int .i64 0]) fun (r71_0 : Sl) (r71_1 : Sl) (r71_2 : Int) (r71_3 : Bool) (r71_4 : ByteArray) (r71_5 : Int) (w7 : World) =>
            VNw none w7 (.cells #[.int .u8 0, .bool false, .string ByteArray.empty] 31) fun (r_12 : Nat) (w8 : World) =>
            VSt none w8 ⟨r_12, 0, none⟩ [.int .u8 r71_2, .bool r71_3, .string r71_4] fun (w9 : World) =>
            VSet r71_5 fun (e_13 : Int) =>
            ∀ (w10 : World), w10 = World.drew w9 →
            VLd none w10 ⟨x_9, 1, none⟩ [CT.int .i64] fun (v77 : Int) =>
            VLd none w10 ⟨x_9, 0, none⟩ [CT.int .i64] fun (v80 : Int) =>
            VIx none (some ⟨b31, 0, none⟩) 3 v80 fun (a81 : Addr) =>
            VLd none w10 (Addr.add a81 ((Int.toNat v80) * 1)) [CT.int .i64] fun (v82 : Int) =>
            VLd (some ((v77 == v82) && (!(e_13 != 0)))) w10 ⟨r_12, 0, none⟩ [CT.int .u8, CT.bool, CT.str] fun (v89_0 : Int) (v89_1 : Bool) (v89_2 : ByteArray) =>
            VLd (some ((v77 == v82) && (!(e_13 != 0)))) w10 ⟨x_9, 7, none⟩ [CT.int .u8, CT.bool, CT.str] fun (v91_0 : Int) (v91_1 : Bool) (v91_2 : ByteArray) =>
            VCall (some ((v77 == v82) && (!((e_13 != 0) || (!((v89_0 == v91_0) && ((v89_1 == v91_1) && (v89_2.toList == v91_2.toList)))))))) Try.prog 18 #[.slice r71_0.base r71_0.len r71_0.cap, .slice m_4.base m_4.len m_4.cap] w10 (.bool false) fun (r97 : Bool) (w11 : World) =>
            VCall (some ((v77 == v82) && (!(((e_13 != 0) || (!((v89_0 == v91_0) && ((v89_1 == v91_1) && (v89_2.toList == v91_2.toList))))) || (!r97))))) Try.prog 22 #[.slice r71_1.base r71_1.len r71_1.cap, .slice seen_6.base seen_6.len seen_6.cap] w11 (.bool false) fun (r103 : Bool) (w12 : World) =>
            VIf (((v77 == v82) && ((((e_13 != 0) || (!((v89_0 == v91_0) && ((v89_1 == v91_1) && (v89_2.toList == v91_2.toList))))) || (!r97)) || (!r103))) || ((!(v77 == v82)) && (e_13 != 6))) (
              R (.returned (.bool false)) w12
            ) (
              Φ2 all_3 m_4 plain_5 seen_6 w12
            )
          )
        ) (
          VIx none l_0.base l_0.len i_8 fun (a117 : Addr) =>
          VLd none w4 (Addr.add a117 ((Int.toNat i_8) * 8)) [CT.int .i64] fun (v119 : Int) =>
          VSet (IntKind.wrap .i64 (Int.tmod (IntKind.wrap .u64 v119) 3)) fun (c_15 : Int) =>
          ∃ Φ3 : Sl → Sl → Option Addr → Int → World → Prop, (
            ∀ (w13 : World), w13 = World.drew w4 →
            VIx none (some ⟨b31, 0, none⟩) 3 c_15 fun (a129 : Addr) =>
            VLd none w13 (Addr.add a129 ((Int.toNat c_15) * 1)) [CT.int .i64] fun (v130 : Int) =>
            VIx none l_0.base l_0.len i_8 fun (a134 : Addr) =>
            VLd none w13 (Addr.add (Addr.add a134 ((Int.toNat i_8) * 8)) 3) [CT.int .u8, CT.str, CT.str, CT.str, CT.bool] fun (v136_0 : Int) (v136_1 : ByteArray) (v136_2 : ByteArray) (v136_3 : ByteArray) (v136_4 : Bool) =>
            (
              VCall none Try.prog 24 #[.slice m_4.base m_4.len m_4.cap, .slice seen_6.base seen_6.len seen_6.cap, .int .i64 c_15, .int .i64 (IntKind.wrap .i64 (v130 + 1)), .agg #[.int .u8 v136_0, .string v136_1, .string v136_2, .string v136_3, .bool v136_4]] w13 (.tuple #[.slice none 0 0, .slice none 0 0, .agg #[.int .u8 0, .bool false, .string ByteArray.empty], .int .i64 0]) fun (r137_0 : Sl) (r137_1 : Sl) (r137_2 : Int) (r137_3 : Bool) (r137_4 : ByteArray) (r137_5 : Int) (w14 : World) =>
              VNw none w14 (.cells #[.int .u8 0, .bool false, .string ByteArray.empty] 31) fun (r_18 : Nat) (w15 : World) =>
              VSt none w15 ⟨r_18, 0, none⟩ [.int .u8 r137_2, .bool r137_3, .string r137_4] fun (w16 : World) =>
              VSet r137_5 fun (e_19' : Int) =>
              Φ3 r137_0 r137_1 (some ⟨r_18, 0, none⟩) e_19' w16
            ) ∧ (
              VNw none w13 (.cells #[.int .u8 0, .bool false, .string ByteArray.empty] 31) fun (r_18 : Nat) (w17 : World) =>
              Rd w17 (Addr.add (Addr.add a134 ((Int.toNat i_8) * 8)) 3) [.int .u8 v136_0, .string v136_1, .string v136_2, .string v136_3, .bool v136_4] ∧
              Rd w17 (Addr.add a129 ((Int.toNat c_15) * 1)) [.int .i64 v130] ∧
              VCall none Try.prog 24 #[.slice m_4.base m_4.len m_4.cap, .slice seen_6.base seen_6.len seen_6.cap, .int .i64 c_15, .int .i64 (IntKind.wrap .i64 (v130 + 1)), .agg #[.int .u8 v136_0, .string v136_1, .string v136_2, .string v136_3, .bool v136_4]] w17 (.tuple #[.slice none 0 0, .slice none 0 0, .agg #[.int .u8 0, .bool false, .string ByteArray.empty], .int .i64 0]) fun (r137_0 : Sl) (r137_1 : Sl) (r137_2 : Int) (r137_3 : Bool) (r137_4 : ByteArray) (r137_5 : Int) (w18 : World) =>
              VSt none w18 ⟨r_18, 0, none⟩ [.int .u8 r137_2, .bool r137_3, .string r137_4] fun (w19 : World) =>
              VSet r137_5 fun (e_19'' : Int) =>
              Φ3 r137_0 r137_1 (some ⟨r_18, 0, none⟩) e_19'' w19
            )
          ) ∧ ∀ (a_16 : Sl) (p_17 : Sl) (r_18 : Option Addr) (e_19 : Int) (w20 : World), Φ3 a_16 p_17 r_18 e_19 w20 →
          VIx none l_0.base l_0.len i_8 fun (a146 : Addr) =>
          VLd none w20 (Addr.add (Addr.add a146 ((Int.toNat i_8) * 8)) 3) [CT.int .u8, CT.str, CT.str, CT.str, CT.bool] fun (v148_0 : Int) (v148_1 : ByteArray) (v148_2 : ByteArray) (v148_3 : ByteArray) (v148_4 : Bool) =>
          VCall none Try.prog 16 #[.slice plain_5.base plain_5.len plain_5.cap, .agg #[.int .u8 v148_0, .string v148_1, .string v148_2, .string v148_3, .bool v148_4]] w20 (.tuple #[.slice none 0 0, .agg #[.int .u8 0, .bool false, .string ByteArray.empty], .int .i64 0]) fun (r149_0 : Sl) (r149_1 : Int) (r149_2 : Bool) (r149_3 : ByteArray) (r149_4 : Int) (w21 : World) =>
          VNw none w21 (.cells #[.int .u8 0, .bool false, .string ByteArray.empty] 31) fun (s_21 : Nat) (w22 : World) =>
          VSt none w22 ⟨s_21, 0, none⟩ [.int .u8 r149_1, .bool r149_2, .string r149_3] fun (w23 : World) =>
          VSet r149_4 fun (f_22 : Int) =>
          VIf ((e_19 != 0) || (f_22 != 0)) (
            VIx (some (f_22 == 0)) l_0.base l_0.len i_8 fun (a166 : Addr) =>
            VLd (some (f_22 == 0)) w23 (Addr.add (Addr.add a166 ((Int.toNat i_8) * 8)) 3) [CT.int .u8] fun (v169 : Int) =>
            VIf (!((e_19 == 0) == ((f_22 == 0) && (v169 != 1)))) (
              R (.returned (.bool false)) w23
            ) (
              Φ2 all_3 m_4 plain_5 seen_6 w23
            )
          ) (
            VIx none (some ⟨b31, 0, none⟩) 3 c_15 fun (a175 : Addr) =>
            VLd none w23 (Addr.add a175 ((Int.toNat c_15) * 1)) [CT.int .i64] fun (v176 : Int) =>
            VIx none (some ⟨b31, 0, none⟩) 3 c_15 fun (a178 : Addr) =>
            VSt none w23 (Addr.add a178 ((Int.toNat c_15) * 1)) [.int .i64 (IntKind.wrap .i64 (v176 + 1))] fun (w24 : World) =>
            onPtr r_18 fun (q_v179 : Addr) =>
            VLd none w24 q_v179 [CT.int .u8, CT.bool, CT.str] fun (v179_0 : Int) (v179_1 : Bool) (v179_2 : ByteArray) =>
            VLd none w24 ⟨s_21, 0, none⟩ [CT.int .u8, CT.bool, CT.str] fun (v180_0 : Int) (v180_1 : Bool) (v180_2 : ByteArray) =>
            VCall (some (!(!((v179_0 == v180_0) && ((v179_1 == v180_1) && (v179_2.toList == v180_2.toList)))))) Try.prog 18 #[.slice a_16.base a_16.len a_16.cap, .slice r149_0.base r149_0.len r149_0.cap] w24 (.bool false) fun (r185 : Bool) (w25 : World) =>
            VIf ((!((v179_0 == v180_0) && ((v179_1 == v180_1) && (v179_2.toList == v180_2.toList)))) || (!r185)) (
              R (.returned (.bool false)) w25
            ) (
              ∀ (w26 : World), w26 = World.drew w25 →
              VIx none (some ⟨b31, 0, none⟩) 3 c_15 fun (a195 : Addr) =>
              VLd none w26 (Addr.add a195 ((Int.toNat c_15) * 1)) [CT.int .i64] fun (v196 : Int) =>
              VIx none l_0.base l_0.len i_8 fun (a199 : Addr) =>
              VLd none w26 (Addr.add (Addr.add a199 ((Int.toNat i_8) * 8)) 3) [CT.int .u8, CT.str, CT.str, CT.str, CT.bool] fun (v201_0 : Int) (v201_1 : ByteArray) (v201_2 : ByteArray) (v201_3 : ByteArray) (v201_4 : Bool) =>
              onPtr r_18 fun (q_v202 : Addr) =>
              VLd none w26 q_v202 [CT.int .u8, CT.bool, CT.str] fun (v202_0 : Int) (v202_1 : Bool) (v202_2 : ByteArray) =>
              VNw none w26 (.cells #[.int .i64 c_15, .int .i64 v196, .int .u8 v201_0, .string v201_1, .string v201_2, .string v201_3, .bool v201_4, .int .u8 v202_0, .bool v202_1, .string v202_2] 62) fun (b204 : Nat) (w27 : World) =>
              VApp none w27 62 10 104 #[.int .i64 0, .int .i64 0, .int .u8 0, .string ByteArray.empty, .string ByteArray.empty, .string ByteArray.empty, .bool false, .int .u8 0, .bool false, .string ByteArray.empty] all_3.base all_3.len all_3.cap 1 (fun news => Seg w27 (some ⟨b204, 0, none⟩) 1 10 news) fun (l205 : Sl) (w28 : World) =>
              Φ2 l205 a_16 r149_0 p_17 w28
            )
          )
        )
      ) ∧ ∀ (all_3' : Sl) (m_4' : Sl) (plain_5' : Sl) (seen_6' : Sl) (w29 : World), Φ2 all_3' m_4' plain_5' seen_6' w29 →
      VSet (IntKind.wrap .i64 (i_8 + 1)) fun (i_8' : Int) =>
      ∃ k', k' < k1 ∧ I1 k' ⟨all_3'.base, all_3'.len, all_3'.cap⟩ ⟨m_4'.base, m_4'.len, m_4'.cap⟩ ⟨plain_5'.base, plain_5'.len, plain_5'.cap⟩ ⟨seen_6'.base, seen_6'.len, seen_6'.cap⟩ i_8' w29
    ) (
      R (.returned (.bool true)) w4
    )
  )
theorem sh_butterylaw09_DedupOnce_ok (l_0 : Sl) (w : World) (R : Ending → World → Prop) (h : sh_butterylaw09_DedupOnce l_0 w R) : Calls Try.prog 6 #[.slice l_0.base l_0.len l_0.cap] w R :=
  calls_of_sh (args := [.slice l_0.base l_0.len l_0.cap]) (.two .auto (.two (.two .auto (.two (.two .auto .auto) .auto)) (.two .auto (.two .auto (.two .auto (.two .auto (.two (.two .auto (.one (.loop [(3, .slice none 0 0), (4, .slice none 0 0), (5, .slice none 0 0), (6, .slice none 0 0), (8, .int .i64 0)] (.two (.two .auto (.two .auto .auto)) (.two (.bjoin [(3, .slice none 0 0), (4, .slice none 0 0), (5, .slice none 0 0), (6, .slice none 0 0)] (.two (.two .auto (.two (.two .auto (.two .auto (.two .auto (.two (.two .auto (.two (.two .auto .auto) .auto)) .auto)))) .auto)) (.two .auto (.two (.bjoin [(16, .slice none 0 0), (17, .slice none 0 0), (18, .pointer none), (19, .int .i64 0)] .auto) (.two .auto (.two (.two .auto (.two (.two (.two .auto (.two (.two .auto .auto) .auto)) .auto) .auto)) (.two .auto (.two (.two .auto (.two (.two .auto .auto) .auto)) (.two .auto (.two .auto (.two .auto .auto))))))))))) .auto))))) (.two .auto .auto)))))))) Try.func6 (by kernel_rfl) (by kernel_rfl) (by kernel_rfl) h

/-- 7: buttery/butterylaw09.DedupApart -/
def sh_butterylaw09_DedupApart (m_0 : Sl) (l_1 : Sl) (client_2 : Int) (id_3 : Int) (op_4_0 : Int) (op_4_1 : ByteArray) (op_4_2 : ByteArray) (op_4_3 : ByteArray) (op_4_4 : Bool) (key_5 : ByteArray) (other_6 : Int) (w : World) (R : Ending → World → Prop) : Prop :=
  VNw none w (.cells #[.int .u8 op_4_0, .string op_4_1, .string op_4_2, .string op_4_3, .bool op_4_4] 24) fun (op_11 : Nat) (w1 : World) =>
  VCall none Try.prog 26 #[] w1 (.bool false) fun (r31 : Bool) (w2 : World) =>
  VIf (!r31) (
    R (.returned (.bool false)) w2
  ) (
    VLd none w2 ⟨op_11, 0, none⟩ [CT.int .u8, CT.str, CT.str, CT.str, CT.bool] fun (v38_0 : Int) (v38_1 : ByteArray) (v38_2 : ByteArray) (v38_3 : ByteArray) (v38_4 : Bool) =>
    VCall none Try.prog 24 #[.slice m_0.base m_0.len m_0.cap, .slice l_1.base l_1.len l_1.cap, .int .i64 client_2, .int .i64 id_3, .agg #[.int .u8 v38_0, .string v38_1, .string v38_2, .string v38_3, .bool v38_4]] w2 (.tuple #[.slice none 0 0, .slice none 0 0, .agg #[.int .u8 0, .bool false, .string ByteArray.empty], .int .i64 0]) fun (r39_0 : Sl) (r39_1 : Sl) (r39_2 : Int) (r39_3 : Bool) (r39_4 : ByteArray) (r39_5 : Int) (w3 : World) =>
    VNw none w3 (.cells #[.int .u8 0, .bool false, .string ByteArray.empty] 31) fun (b17 : Nat) (w4 : World) =>
    VSt none w4 ⟨b17, 0, none⟩ [.int .u8 r39_2, .bool r39_3, .string r39_4] fun (w5 : World) =>
    VSet r39_5 fun (e_18 : Int) =>
    VIf (e_18 != 0) (
      R (.returned (.bool ((IntKind.wrap .i64 (((r39_0.len : Nat) : Int) + ((r39_1.len : Nat) : Int))) == 0))) w5
    ) (
      ∃ Φ1 : World → Prop, (
        VLd none w5 ⟨op_11, 1, none⟩ [CT.str] fun (v54 : ByteArray) =>
        VIf (!(key_5.toList == v54.toList)) (
          VCall none Try.prog 10 #[.slice m_0.base m_0.len m_0.cap, .string key_5] w5 (.tuple #[.string ByteArray.empty, .bool false]) fun (r59_0 : ByteArray) (r59_1 : Bool) (w6 : World) =>
          VCall none Try.prog 10 #[.slice r39_0.base r39_0.len r39_0.cap, .string key_5] w6 (.tuple #[.string ByteArray.empty, .bool false]) fun (r65_0 : ByteArray) (r65_1 : Bool) (w7 : World) =>
          VIf ((!(r59_0.toList == r65_0.toList)) || (!(r59_1 == r65_1))) (
            R (.returned (.bool false)) w7
          ) (
            Φ1 w7
          )
        ) (
          Φ1 w5
        )
      ) ∧ ∀ (w8 : World), Φ1 w8 →
      VIf (other_6 == client_2) (
        VCall none Try.prog 19 #[.slice r39_1.base r39_1.len r39_1.cap, .int .i64 client_2, .int .i64 id_3] w8 (.tuple #[.agg #[.int .u8 0, .bool false, .string ByteArray.empty], .int .i64 0]) fun (r83_0 : Int) (r83_1 : Bool) (r83_2 : ByteArray) (r83_3 : Int) (w9 : World) =>
        VNw none w9 (.cells #[.int .u8 0, .bool false, .string ByteArray.empty] 31) fun (b23 : Nat) (w10 : World) =>
        VSt none w10 ⟨b23, 0, none⟩ [.int .u8 r83_0, .bool r83_1, .string r83_2] fun (w11 : World) =>
        VSet r83_3 fun (f_24 : Int) =>
        R (.returned (.bool (f_24 == 0))) w11
      ) (
        ∃ I2 : Nat → Int → World → Prop, (∃ k, I2 k 0 w8) ∧ ∀ k2 (i_25 : Int) (w12 : World), I2 k2 i_25 w12 →
        VIf (decide (i_25 < 3)) (
          VSet (IntKind.wrap .i64 ((IntKind.wrap .i64 (id_3 - 1)) + i_25)) fun (k_26 : Int) =>
          VCall none Try.prog 19 #[.slice l_1.base l_1.len l_1.cap, .int .i64 other_6, .int .i64 k_26] w12 (.tuple #[.agg #[.int .u8 0, .bool false, .string ByteArray.empty], .int .i64 0]) fun (r100_0 : Int) (r100_1 : Bool) (r100_2 : ByteArray) (r100_3 : Int) (w13 : World) =>
          VNw none w13 (.cells #[.int .u8 0, .bool false, .string ByteArray.empty] 31) fun (r_27 : Nat) (w14 : World) =>
          VSt none w14 ⟨r_27, 0, none⟩ [.int .u8 r100_0, .bool r100_1, .string r100_2] fun (w15 : World) =>
          VSet r100_3 fun (f_28 : Int) =>
          VCall none Try.prog 19 #[.slice r39_1.base r39_1.len r39_1.cap, .int .i64 other_6, .int .i64 k_26] w15 (.tuple #[.agg #[.int .u8 0, .bool false, .string ByteArray.empty], .int .i64 0]) fun (r107_0 : Int) (r107_1 : Bool) (r107_2 : ByteArray) (r107_3 : Int) (w16 : World) =>
          VNw none w16 (.cells #[.int .u8 0, .bool false, .string ByteArray.empty] 31) fun (s_29 : Nat) (w17 : World) =>
          VSt none w17 ⟨s_29, 0, none⟩ [.int .u8 r107_0, .bool r107_1, .string r107_2] fun (w18 : World) =>
          VSet r107_3 fun (g_30 : Int) =>
          VLd none w18 ⟨r_27, 0, none⟩ [CT.int .u8, CT.bool, CT.str] fun (v110_0 : Int) (v110_1 : Bool) (v110_2 : ByteArray) =>
          VLd none w18 ⟨s_29, 0, none⟩ [CT.int .u8, CT.bool, CT.str] fun (v111_0 : Int) (v111_1 : Bool) (v111_2 : ByteArray) =>
          VIf ((!((v110_0 == v111_0) && ((v110_1 == v111_1) && (v110_2.toList == v111_2.toList)))) || (f_28 != g_30)) (
            R (.returned (.bool false)) w18
          ) (
            VSet (IntKind.wrap .i64 (i_25 + 1)) fun (i_25' : Int) =>
            ∃ k', k' < k2 ∧ I2 k' i_25' w18
          )
        ) (
          R (.returned (.bool true)) w12
        )
      )
    )
  )
theorem sh_butterylaw09_DedupApart_ok (m_0 : Sl) (l_1 : Sl) (client_2 : Int) (id_3 : Int) (op_4_0 : Int) (op_4_1 : ByteArray) (op_4_2 : ByteArray) (op_4_3 : ByteArray) (op_4_4 : Bool) (key_5 : ByteArray) (other_6 : Int) (w : World) (R : Ending → World → Prop) (h : sh_butterylaw09_DedupApart m_0 l_1 client_2 id_3 op_4_0 op_4_1 op_4_2 op_4_3 op_4_4 key_5 other_6 w R) : Calls Try.prog 7 #[.slice m_0.base m_0.len m_0.cap, .slice l_1.base l_1.len l_1.cap, .int .i64 client_2, .int .i64 id_3, .agg #[.int .u8 op_4_0, .string op_4_1, .string op_4_2, .string op_4_3, .bool op_4_4], .string key_5, .int .i64 other_6] w R :=
  calls_of_sh (args := [.slice m_0.base m_0.len m_0.cap, .slice l_1.base l_1.len l_1.cap, .int .i64 client_2, .int .i64 id_3, .agg #[.int .u8 op_4_0, .string op_4_1, .string op_4_2, .string op_4_3, .bool op_4_4], .string key_5, .int .i64 other_6]) (.two .auto (.two (.two .auto (.two (.two .auto .auto) .auto)) (.two .auto (.two (.two .auto (.two (.two .auto .auto) .auto)) (.join [] (.two .auto (.two (.two .auto (.two .auto (.two .auto (.two (.two .auto .auto) .auto)))) .auto)) (.two (.two .auto (.two (.two .auto (.two .auto .auto)) .auto)) (.two (.two .auto (.one (.loop [(25, .int .i64 0)] (.two (.two .auto (.two .auto .auto)) (.two (.one (.two .auto (.two .auto (.two .auto (.two .auto (.two (.two .auto .auto) .auto)))))) .auto))))) (.two .auto .auto)))))))) Try.func7 (by kernel_rfl) (by kernel_rfl) (by kernel_rfl) h

/-- 8: buttery/butterylaw09.DedupNames -/
def sh_butterylaw09_DedupNames (w : World) (R : Ending → World → Prop) : Prop :=
  VCall none Try.prog 26 #[] w (.bool false) fun (r23 : Bool) (w1 : World) =>
  VIf ((((((((((((!r23) || false) || false) || false) || false) || false) || false) || false) || false) || false) || false) || false) (
    R (.returned (.bool false)) w1
  ) (
    VNw none w1 (.cells #[.string (ByteArray.mk #[97]), .string (ByteArray.mk #[49])] 36) fun (b48 : Nat) (w2 : World) =>
    VCall none Try.prog 16 #[.slice (some ⟨b48, 0, none⟩) 1 1, .agg #[.int .u8 4, .string (ByteArray.mk #[97]), .string (ByteArray.mk #[50]), .string (ByteArray.mk #[49]), .bool true]] w2 (.tuple #[.slice none 0 0, .agg #[.int .u8 0, .bool false, .string ByteArray.empty], .int .i64 0]) fun (r52_0 : Sl) (r52_1 : Int) (r52_2 : Bool) (r52_3 : ByteArray) (r52_4 : Int) (w3 : World) =>
    VNw none w3 (.cells #[.int .u8 0, .bool false, .string ByteArray.empty] 31) fun (r_3 : Nat) (w4 : World) =>
    VSt none w4 ⟨r_3, 0, none⟩ [.int .u8 r52_1, .bool r52_2, .string r52_3] fun (w5 : World) =>
    VSet r52_4 fun (v4 : Int) =>
    VCall none Try.prog 16 #[.slice (some ⟨b48, 0, none⟩) 1 1, .agg #[.int .u8 4, .string (ByteArray.mk #[97]), .string (ByteArray.mk #[50]), .string ByteArray.empty, .bool false]] w5 (.tuple #[.slice none 0 0, .agg #[.int .u8 0, .bool false, .string ByteArray.empty], .int .i64 0]) fun (r59_0 : Sl) (r59_1 : Int) (r59_2 : Bool) (r59_3 : ByteArray) (r59_4 : Int) (w6 : World) =>
    VNw none w6 (.cells #[.int .u8 0, .bool false, .string ByteArray.empty] 31) fun (s_6 : Nat) (w7 : World) =>
    VSt none w7 ⟨s_6, 0, none⟩ [.int .u8 r59_1, .bool r59_2, .string r59_3] fun (w8 : World) =>
    VSet r59_4 fun (v7 : Int) =>
    VCall none Try.prog 16 #[.slice (some ⟨b48, 0, none⟩) 1 1, .agg #[.int .u8 1, .string (ByteArray.mk #[98]), .string ByteArray.empty, .string ByteArray.empty, .bool false]] w8 (.tuple #[.slice none 0 0, .agg #[.int .u8 0, .bool false, .string ByteArray.empty], .int .i64 0]) fun (r66_0 : Sl) (r66_1 : Int) (r66_2 : Bool) (r66_3 : ByteArray) (r66_4 : Int) (w9 : World) =>
    VNw none w9 (.cells #[.int .u8 0, .bool false, .string ByteArray.empty] 31) fun (t_9 : Nat) (w10 : World) =>
    VSt none w10 ⟨t_9, 0, none⟩ [.int .u8 r66_1, .bool r66_2, .string r66_3] fun (w11 : World) =>
    VSet r66_4 fun (v10 : Int) =>
    VCall none Try.prog 16 #[.slice (some ⟨b48, 0, none⟩) 1 1, .agg #[.int .u8 4, .string (ByteArray.mk #[98]), .string (ByteArray.mk #[50]), .string ByteArray.empty, .bool false]] w11 (.tuple #[.slice none 0 0, .agg #[.int .u8 0, .bool false, .string ByteArray.empty], .int .i64 0]) fun (r73_0 : Sl) (r73_1 : Int) (r73_2 : Bool) (r73_3 : ByteArray) (r73_4 : Int) (w12 : World) =>
    VNw none w12 (.cells #[.int .u8 0, .bool false, .string ByteArray.empty] 31) fun (u_12 : Nat) (w13 : World) =>
    VSt none w13 ⟨u_12, 0, none⟩ [.int .u8 r73_1, .bool r73_2, .string r73_3] fun (w14 : World) =>
    VSet r73_4 fun (v13 : Int) =>
    VCall none Try.prog 16 #[.slice (some ⟨b48, 0, none⟩) 1 1, .agg #[.int .u8 4, .string (ByteArray.mk #[98]), .string (ByteArray.mk #[50]), .string ByteArray.empty, .bool true]] w14 (.tuple #[.slice none 0 0, .agg #[.int .u8 0, .bool false, .string ByteArray.empty], .int .i64 0]) fun (r80_0 : Sl) (r80_1 : Int) (r80_2 : Bool) (r80_3 : ByteArray) (r80_4 : Int) (w15 : World) =>
    VNw none w15 (.cells #[.int .u8 0, .bool false, .string ByteArray.empty] 31) fun (v_15 : Nat) (w16 : World) =>
    VSt none w16 ⟨v_15, 0, none⟩ [.int .u8 r80_1, .bool r80_2, .string r80_3] fun (w17 : World) =>
    VSet r80_4 fun (v16 : Int) =>
    VCall none Try.prog 24 #[.slice (some ⟨b48, 0, none⟩) 1 1, .slice none 0 0, .int .i64 1, .int .i64 1, .agg #[.int .u8 1, .string (ByteArray.mk #[97]), .string ByteArray.empty, .string ByteArray.empty, .bool false]] w17 (.tuple #[.slice none 0 0, .slice none 0 0, .agg #[.int .u8 0, .bool false, .string ByteArray.empty], .int .i64 0]) fun (r87_0 : Sl) (r87_1 : Sl) (r87_2 : Int) (r87_3 : Bool) (r87_4 : ByteArray) (r87_5 : Int) (w18 : World) =>
    VNw none w18 (.cells #[.int .u8 0, .bool false, .string ByteArray.empty] 31) fun (b19 : Nat) (w19 : World) =>
    VSt none w19 ⟨b19, 0, none⟩ [.int .u8 r87_2, .bool r87_3, .string r87_4] fun (w20 : World) =>
    VSet r87_5 fun (w_20 : Int) =>
    VMk none w20 5 1 1 #[.int .u8 0] 32 32 fun (b92 : Nat) (w21 : World) =>
    VStr none w21 (some ⟨b92, 0, none⟩) 32 fun (s93 : ByteArray) =>
    VMk none w21 5 1 1 #[.int .u8 0] 2000 2000 fun (b94 : Nat) (w22 : World) =>
    VStr none w22 (some ⟨b94, 0, none⟩) 2000 fun (s95 : ByteArray) =>
    VIx (some (((r52_0.len : Nat) : Int) == 1)) r52_0.base r52_0.len 0 fun (a101 : Addr) =>
    VLd (some (((r52_0.len : Nat) : Int) == 1)) w22 (Addr.add a101 1) [CT.str] fun (v103 : ByteArray) =>
    VLd (some ((((r52_0.len : Nat) : Int) == 1) && (v103.toList == (ByteArray.mk #[50]).toList))) w22 ⟨r_3, 1, none⟩ [CT.bool] fun (v108 : Bool) =>
    VIx (some (((((r52_0.len : Nat) : Int) == 1) && (v103.toList == (ByteArray.mk #[50]).toList)) && v108)) r59_0.base r59_0.len 0 fun (a112 : Addr) =>
    VLd (some (((((r52_0.len : Nat) : Int) == 1) && (v103.toList == (ByteArray.mk #[50]).toList)) && v108)) w22 (Addr.add a112 1) [CT.str] fun (v114 : ByteArray) =>
    VLd (some ((((((r52_0.len : Nat) : Int) == 1) && (v103.toList == (ByteArray.mk #[50]).toList)) && v108) && (v114.toList == (ByteArray.mk #[49]).toList))) w22 ⟨s_6, 1, none⟩ [CT.bool] fun (v119 : Bool) =>
    VLd (some (((((((r52_0.len : Nat) : Int) == 1) && (v103.toList == (ByteArray.mk #[50]).toList)) && v108) && (v114.toList == (ByteArray.mk #[49]).toList)) && (!v119))) w22 ⟨t_9, 0, none⟩ [CT.int .u8, CT.bool, CT.str] fun (v123_0 : Int) (v123_1 : Bool) (v123_2 : ByteArray) =>
    VLd (some ((((((((r52_0.len : Nat) : Int) == 1) && (v103.toList == (ByteArray.mk #[50]).toList)) && v108) && (v114.toList == (ByteArray.mk #[49]).toList)) && (!v119)) && ((v123_0 == 1) && ((v123_1 == false) && (v123_2.toList == ByteArray.empty.toList))))) w22 ⟨u_12, 1, none⟩ [CT.bool] fun (v129 : Bool) =>
    VLd (some (((((((((r52_0.len : Nat) : Int) == 1) && (v103.toList == (ByteArray.mk #[50]).toList)) && v108) && (v114.toList == (ByteArray.mk #[49]).toList)) && (!v119)) && ((v123_0 == 1) && ((v123_1 == false) && (v123_2.toList == ByteArray.empty.toList)))) && v129)) w22 ⟨v_15, 1, none⟩ [CT.bool] fun (v133 : Bool) =>
    VCall (some (((((((((((r52_0.len : Nat) : Int) == 1) && (v103.toList == (ByteArray.mk #[50]).toList)) && v108) && (v114.toList == (ByteArray.mk #[49]).toList)) && (!v119)) && ((v123_0 == 1) && ((v123_1 == false) && (v123_2.toList == ByteArray.empty.toList)))) && v129) && (!v133)) && (w_20 == 1))) Try.prog 12 #[.agg #[.int .u8 2, .string ByteArray.empty, .string ByteArray.empty, .string ByteArray.empty, .bool false]] w22 (.int .i64 0) fun (r142 : Int) (w23 : World) =>
    VCall (some ((((((((((((r52_0.len : Nat) : Int) == 1) && (v103.toList == (ByteArray.mk #[50]).toList)) && v108) && (v114.toList == (ByteArray.mk #[49]).toList)) && (!v119)) && ((v123_0 == 1) && ((v123_1 == false) && (v123_2.toList == ByteArray.empty.toList)))) && v129) && (!v133)) && (w_20 == 1)) && (r142 == 40))) Try.prog 12 #[.agg #[.int .u8 2, .string s93, .string s95, .string s95, .bool false]] w23 (.int .i64 0) fun (r150 : Int) (w24 : World) =>
    VCk (some (((((((((((((r52_0.len : Nat) : Int) == 1) && (v103.toList == (ByteArray.mk #[50]).toList)) && v108) && (v114.toList == (ByteArray.mk #[49]).toList)) && (!v119)) && ((v123_0 == 1) && ((v123_1 == false) && (v123_2.toList == ByteArray.empty.toList)))) && v129) && (!v133)) && (w_20 == 1)) && (r142 == 40)) && (r150 == 0))) (s93.size + (ByteArray.mk #[120]).size ≤ 9223372036854775807) (
      VCall (some (((((((((((((r52_0.len : Nat) : Int) == 1) && (v103.toList == (ByteArray.mk #[50]).toList)) && v108) && (v114.toList == (ByteArray.mk #[49]).toList)) && (!v119)) && ((v123_0 == 1) && ((v123_1 == false) && (v123_2.toList == ByteArray.empty.toList)))) && v129) && (!v133)) && (w_20 == 1)) && (r142 == 40)) && (r150 == 0))) Try.prog 12 #[.agg #[.int .u8 2, .string (s93 ++ (ByteArray.mk #[120])), .string ByteArray.empty, .string ByteArray.empty, .bool false]] w24 (.int .i64 0) fun (r157 : Int) (w25 : World) =>
      VCk (some ((((((((((((((r52_0.len : Nat) : Int) == 1) && (v103.toList == (ByteArray.mk #[50]).toList)) && v108) && (v114.toList == (ByteArray.mk #[49]).toList)) && (!v119)) && ((v123_0 == 1) && ((v123_1 == false) && (v123_2.toList == ByteArray.empty.toList)))) && v129) && (!v133)) && (w_20 == 1)) && (r142 == 40)) && (r150 == 0)) && (r157 == 40))) (s95.size + (ByteArray.mk #[120]).size ≤ 9223372036854775807) (
        VCall (some ((((((((((((((r52_0.len : Nat) : Int) == 1) && (v103.toList == (ByteArray.mk #[50]).toList)) && v108) && (v114.toList == (ByteArray.mk #[49]).toList)) && (!v119)) && ((v123_0 == 1) && ((v123_1 == false) && (v123_2.toList == ByteArray.empty.toList)))) && v129) && (!v133)) && (w_20 == 1)) && (r142 == 40)) && (r150 == 0)) && (r157 == 40))) Try.prog 12 #[.agg #[.int .u8 2, .string (ByteArray.mk #[97]), .string (s95 ++ (ByteArray.mk #[120])), .string ByteArray.empty, .bool false]] w25 (.int .i64 0) fun (r164 : Int) (w26 : World) =>
        VCk (some (((((((((((((((r52_0.len : Nat) : Int) == 1) && (v103.toList == (ByteArray.mk #[50]).toList)) && v108) && (v114.toList == (ByteArray.mk #[49]).toList)) && (!v119)) && ((v123_0 == 1) && ((v123_1 == false) && (v123_2.toList == ByteArray.empty.toList)))) && v129) && (!v133)) && (w_20 == 1)) && (r142 == 40)) && (r150 == 0)) && (r157 == 40)) && (r164 == 40))) (s95.size + (ByteArray.mk #[120]).size ≤ 9223372036854775807) (
          VCall (some (((((((((((((((r52_0.len : Nat) : Int) == 1) && (v103.toList == (ByteArray.mk #[50]).toList)) && v108) && (v114.toList == (ByteArray.mk #[49]).toList)) && (!v119)) && ((v123_0 == 1) && ((v123_1 == false) && (v123_2.toList == ByteArray.empty.toList)))) && v129) && (!v133)) && (w_20 == 1)) && (r142 == 40)) && (r150 == 0)) && (r157 == 40)) && (r164 == 40))) Try.prog 12 #[.agg #[.int .u8 2, .string (ByteArray.mk #[97]), .string ByteArray.empty, .string (s95 ++ (ByteArray.mk #[120])), .bool false]] w26 (.int .i64 0) fun (r171 : Int) (w27 : World) =>
          VCall (some ((((((((((((((((r52_0.len : Nat) : Int) == 1) && (v103.toList == (ByteArray.mk #[50]).toList)) && v108) && (v114.toList == (ByteArray.mk #[49]).toList)) && (!v119)) && ((v123_0 == 1) && ((v123_1 == false) && (v123_2.toList == ByteArray.empty.toList)))) && v129) && (!v133)) && (w_20 == 1)) && (r142 == 40)) && (r150 == 0)) && (r157 == 40)) && (r164 == 40)) && (r171 == 40))) Try.prog 12 #[.agg #[.int .u8 0, .string (ByteArray.mk #[97]), .string ByteArray.empty, .string ByteArray.empty, .bool false]] w27 (.int .i64 0) fun (r176 : Int) (w28 : World) =>
          VCall (some (((((((((((((((((r52_0.len : Nat) : Int) == 1) && (v103.toList == (ByteArray.mk #[50]).toList)) && v108) && (v114.toList == (ByteArray.mk #[49]).toList)) && (!v119)) && ((v123_0 == 1) && ((v123_1 == false) && (v123_2.toList == ByteArray.empty.toList)))) && v129) && (!v133)) && (w_20 == 1)) && (r142 == 40)) && (r150 == 0)) && (r157 == 40)) && (r164 == 40)) && (r171 == 40)) && (r176 == 1))) Try.prog 12 #[.agg #[.int .u8 5, .string (ByteArray.mk #[97]), .string ByteArray.empty, .string ByteArray.empty, .bool false]] w28 (.int .i64 0) fun (r181 : Int) (w29 : World) =>
          VCall (some ((((((((((((((((((r52_0.len : Nat) : Int) == 1) && (v103.toList == (ByteArray.mk #[50]).toList)) && v108) && (v114.toList == (ByteArray.mk #[49]).toList)) && (!v119)) && ((v123_0 == 1) && ((v123_1 == false) && (v123_2.toList == ByteArray.empty.toList)))) && v129) && (!v133)) && (w_20 == 1)) && (r142 == 40)) && (r150 == 0)) && (r157 == 40)) && (r164 == 40)) && (r171 == 40)) && (r176 == 1)) && (r181 == 1))) Try.prog 14 #[.string (ByteArray.mk #[97, 98]), .int .i64 4] w29 (.int .i64 0) fun (r185 : Int) (w30 : World) =>
          VCall (some (((((((((((((((((((r52_0.len : Nat) : Int) == 1) && (v103.toList == (ByteArray.mk #[50]).toList)) && v108) && (v114.toList == (ByteArray.mk #[49]).toList)) && (!v119)) && ((v123_0 == 1) && ((v123_1 == false) && (v123_2.toList == ByteArray.empty.toList)))) && v129) && (!v133)) && (w_20 == 1)) && (r142 == 40)) && (r150 == 0)) && (r157 == 40)) && (r164 == 40)) && (r171 == 40)) && (r176 == 1)) && (r181 == 1)) && (r185 == 3))) Try.prog 14 #[.string (ByteArray.mk #[97, 98]), .int .i64 0] w30 (.int .i64 0) fun (r189 : Int) (w31 : World) =>
          VCall (some ((((((((((((((((((((r52_0.len : Nat) : Int) == 1) && (v103.toList == (ByteArray.mk #[50]).toList)) && v108) && (v114.toList == (ByteArray.mk #[49]).toList)) && (!v119)) && ((v123_0 == 1) && ((v123_1 == false) && (v123_2.toList == ByteArray.empty.toList)))) && v129) && (!v133)) && (w_20 == 1)) && (r142 == 40)) && (r150 == 0)) && (r157 == 40)) && (r164 == 40)) && (r171 == 40)) && (r176 == 1)) && (r181 == 1)) && (r185 == 3)) && (r189 == 0))) Try.prog 14 #[.string (ByteArray.mk #[]), .int .i64 3] w31 (.int .i64 0) fun (r193 : Int) (w32 : World) =>
          R (.returned (.bool (((((((((((((((((((((r52_0.len : Nat) : Int) == 1) && (v103.toList == (ByteArray.mk #[50]).toList)) && v108) && (v114.toList == (ByteArray.mk #[49]).toList)) && (!v119)) && ((v123_0 == 1) && ((v123_1 == false) && (v123_2.toList == ByteArray.empty.toList)))) && v129) && (!v133)) && (w_20 == 1)) && (r142 == 40)) && (r150 == 0)) && (r157 == 40)) && (r164 == 40)) && (r171 == 40)) && (r176 == 1)) && (r181 == 1)) && (r185 == 3)) && (r189 == 0)) && (r193 == 0)))) w32
        )
      )
    )
  )
theorem sh_butterylaw09_DedupNames_ok (w : World) (R : Ending → World → Prop) (h : sh_butterylaw09_DedupNames w R) : Calls Try.prog 8 #[] w R :=
  calls_of_sh (args := []) (.two .auto (.two (.two .auto (.two (.two .auto .auto) .auto)) (.two .auto (.two .auto (.two .auto (.two .auto (.two .auto (.two .auto (.two .auto (.two .auto (.two .auto (.two .auto .auto)))))))))))) Try.func8 (by kernel_rfl) (by kernel_rfl) (by kernel_rfl) h

/-- 9: buttery/butterylaw09.DedupPlaces -/
def sh_butterylaw09_DedupPlaces (a_0 : ByteArray) (b_1 : ByteArray) (shards_2 : Int) (w : World) (R : Ending → World → Prop) : Prop :=
  VCall none Try.prog 26 #[] w (.bool false) fun (r10 : Bool) (w1 : World) =>
  VIf (!r10) (
    R (.returned (.bool false)) w1
  ) (
    VSet (IntKind.wrap .i64 (1 + (IntKind.wrap .i64 (Int.tmod (IntKind.wrap .u64 shards_2) 1000)))) fun (n_7 : Int) =>
    VCall none Try.prog 14 #[.string a_0, .int .i64 n_7] w1 (.int .i64 0) fun (r19 : Int) (w2 : World) =>
    VSet r19 fun (x_8 : Int) =>
    VCall none Try.prog 14 #[.string b_1, .int .i64 n_7] w2 (.int .i64 0) fun (r22 : Int) (w3 : World) =>
    VSet r22 fun (y_9 : Int) =>
    ∀ (w4 : World), w4 = World.drew w3 →
    VCk (some ((decide (x_8 ≥ 0)) && (decide (x_8 < n_7)))) (a_0.size + b_1.size ≤ 9223372036854775807) (
      VCk (some ((decide (x_8 ≥ 0)) && (decide (x_8 < n_7)))) ((n_7 : Int) ≠ 0) (
        VCall (some ((decide (x_8 ≥ 0)) && (decide (x_8 < n_7)))) Try.prog 14 #[.string (a_0 ++ b_1), .int .i64 n_7] w4 (.int .i64 0) fun (r35 : Int) (w5 : World) =>
        VCk (some (((decide (x_8 ≥ 0)) && (decide (x_8 < n_7))) && (r35 == (Int.tmod (IntKind.wrap .i64 (x_8 + y_9)) n_7)))) (b_1.size + a_0.size ≤ 9223372036854775807) (
          VCk (some (((decide (x_8 ≥ 0)) && (decide (x_8 < n_7))) && (r35 == (Int.tmod (IntKind.wrap .i64 (x_8 + y_9)) n_7)))) (a_0.size + b_1.size ≤ 9223372036854775807) (
            VCall (some (((decide (x_8 ≥ 0)) && (decide (x_8 < n_7))) && (r35 == (Int.tmod (IntKind.wrap .i64 (x_8 + y_9)) n_7)))) Try.prog 14 #[.string (b_1 ++ a_0), .int .i64 n_7] w5 (.int .i64 0) fun (r48 : Int) (w6 : World) =>
            VCall (some (((decide (x_8 ≥ 0)) && (decide (x_8 < n_7))) && (r35 == (Int.tmod (IntKind.wrap .i64 (x_8 + y_9)) n_7)))) Try.prog 14 #[.string (a_0 ++ b_1), .int .i64 n_7] w6 (.int .i64 0) fun (r53 : Int) (w7 : World) =>
            VCall (some ((((decide (x_8 ≥ 0)) && (decide (x_8 < n_7))) && (r35 == (Int.tmod (IntKind.wrap .i64 (x_8 + y_9)) n_7))) && (r48 == r53))) Try.prog 14 #[.string a_0, .int .i64 1] w7 (.int .i64 0) fun (r58 : Int) (w8 : World) =>
            R (.returned (.bool (((((decide (x_8 ≥ 0)) && (decide (x_8 < n_7))) && (r35 == (Int.tmod (IntKind.wrap .i64 (x_8 + y_9)) n_7))) && (r48 == r53)) && (r58 == 0)))) w8
          )
        )
      )
    )
  )
theorem sh_butterylaw09_DedupPlaces_ok (a_0 : ByteArray) (b_1 : ByteArray) (shards_2 : Int) (w : World) (R : Ending → World → Prop) (h : sh_butterylaw09_DedupPlaces a_0 b_1 shards_2 w R) : Calls Try.prog 9 #[.string a_0, .string b_1, .int .i64 shards_2] w R :=
  calls_of_sh (args := [.string a_0, .string b_1, .int .i64 shards_2]) (.two .auto (.two (.two .auto (.two (.two .auto .auto) .auto)) (.two .auto (.two .auto (.two .auto (.two .auto .auto)))))) Try.func9 (by kernel_rfl) (by kernel_rfl) (by kernel_rfl) h

/-- 10: buttery/dedup.Find -/
def sh_dedup_Find (m_0 : Sl) (key_1 : ByteArray) (w : World) (R : Ending → World → Prop) : Prop :=
  VNw none w (.cells #[.string key_1] 9) fun (key_3 : Nat) (w1 : World) =>
  VCall none Try.prog 28 #[.slice m_0.base m_0.len m_0.cap, .func (.func 29) #[] #[.pointer (some ⟨key_3, 0, none⟩)]] w1 (.int .i64 0) fun (r9 : Int) (w2 : World) =>
  VSet r9 fun (i_6 : Int) =>
  VIf (decide (i_6 < 0)) (
    R (.returned (.tuple #[.string (ByteArray.mk #[]), .bool false])) w2
  ) (
    VIx none m_0.base m_0.len i_6 fun (a14 : Addr) =>
    VLd none w2 (Addr.add (Addr.add a14 ((Int.toNat i_6) * 2)) 1) [CT.str] fun (v16 : ByteArray) =>
    R (.returned (.tuple #[.string v16, .bool true])) w2
  )
theorem sh_dedup_Find_ok (m_0 : Sl) (key_1 : ByteArray) (w : World) (R : Ending → World → Prop) (h : sh_dedup_Find m_0 key_1 w R) : Calls Try.prog 10 #[.slice m_0.base m_0.len m_0.cap, .string key_1] w R :=
  calls_of_sh (args := [.slice m_0.base m_0.len m_0.cap, .string key_1]) (.two .auto (.two .auto (.two (.two .auto (.two (.two .auto .auto) .auto)) (.two .auto .auto)))) Try.func10 (by kernel_rfl) (by kernel_rfl) (by kernel_rfl) h

/-- 11: buttery/butteryref09.Find -/
def sh_butteryref09_Find (m_0 : Sl) (key_1 : ByteArray) (w : World) (R : Ending → World → Prop) : Prop :=
  ∃ I1 : Nat → Int → World → Prop, (∃ k, I1 k 0 w) ∧ ∀ k1 (i_6 : Int) (w1 : World), I1 k1 i_6 w1 →
  VIf (decide (i_6 < ((m_0.len : Nat) : Int))) (
    VIx none m_0.base m_0.len i_6 fun (a15 : Addr) =>
    VLd none w1 (Addr.add a15 ((Int.toNat i_6) * 2)) [CT.str] fun (v17 : ByteArray) =>
    VIf (v17.toList == key_1.toList) (
      VIx none m_0.base m_0.len i_6 fun (a22 : Addr) =>
      VLd none w1 (Addr.add (Addr.add a22 ((Int.toNat i_6) * 2)) 1) [CT.str] fun (v24 : ByteArray) =>
      R (.returned (.tuple #[.string v24, .bool true])) w1
    ) (
      VSet (IntKind.wrap .i64 (i_6 + 1)) fun (i_6' : Int) =>
      ∃ k', k' < k1 ∧ I1 k' i_6' w1
    )
  ) (
    R (.returned (.tuple #[.string (ByteArray.mk #[]), .bool false])) w1
  )
theorem sh_butteryref09_Find_ok (m_0 : Sl) (key_1 : ByteArray) (w : World) (R : Ending → World → Prop) (h : sh_butteryref09_Find m_0 key_1 w R) : Calls Try.prog 11 #[.slice m_0.base m_0.len m_0.cap, .string key_1] w R :=
  calls_of_sh (args := [.slice m_0.base m_0.len m_0.cap, .string key_1]) (.two .auto (.two (.two .auto (.one (.loop [(6, .int .i64 0)] (.two (.two .auto (.two .auto .auto)) (.two (.one (.two .auto (.two (.two .auto .auto) .auto))) .auto))))) (.two .auto .auto))) Try.func11 (by kernel_rfl) (by kernel_rfl) (by kernel_rfl) h

/-- 12: buttery/dedup.Check -/
def sh_dedup_Check (op_0_0 : Int) (op_0_1 : ByteArray) (op_0_2 : ByteArray) (op_0_3 : ByteArray) (op_0_4 : Bool) (w : World) (R : Ending → World → Prop) : Prop :=
  VNw none w (.cells #[.int .u8 op_0_0, .string op_0_1, .string op_0_2, .string op_0_3, .bool op_0_4] 24) fun (op_1 : Nat) (w1 : World) =>
  VLd none w1 ⟨op_1, 0, none⟩ [CT.int .u8] fun (v5 : Int) =>
  VLd (some (!(decide (v5 < 1)))) w1 ⟨op_1, 0, none⟩ [CT.int .u8] fun (v9 : Int) =>
  VIf ((decide (v5 < 1)) || (decide (v9 > 4))) (
    R (.returned (.int .i64 1)) w1
  ) (
    VLd none w1 ⟨op_1, 1, none⟩ [CT.str] fun (v14 : ByteArray) =>
    VLd (some (!(v14.toList == (ByteArray.mk #[]).toList))) w1 ⟨op_1, 1, none⟩ [CT.str] fun (v18 : ByteArray) =>
    VLd (some (!((v14.toList == (ByteArray.mk #[]).toList) || (decide (((v18.size : Nat) : Int) > 32))))) w1 ⟨op_1, 2, none⟩ [CT.str] fun (v24 : ByteArray) =>
    VLd (some (!(((v14.toList == (ByteArray.mk #[]).toList) || (decide (((v18.size : Nat) : Int) > 32))) || (decide (((v24.size : Nat) : Int) > 2000))))) w1 ⟨op_1, 3, none⟩ [CT.str] fun (v30 : ByteArray) =>
    VIf ((((v14.toList == (ByteArray.mk #[]).toList) || (decide (((v18.size : Nat) : Int) > 32))) || (decide (((v24.size : Nat) : Int) > 2000))) || (decide (((v30.size : Nat) : Int) > 2000))) (
      R (.returned (.int .i64 40)) w1
    ) (
      R (.returned (.int .i64 0)) w1
    )
  )
theorem sh_dedup_Check_ok (op_0_0 : Int) (op_0_1 : ByteArray) (op_0_2 : ByteArray) (op_0_3 : ByteArray) (op_0_4 : Bool) (w : World) (R : Ending → World → Prop) (h : sh_dedup_Check op_0_0 op_0_1 op_0_2 op_0_3 op_0_4 w R) : Calls Try.prog 12 #[.agg #[.int .u8 op_0_0, .string op_0_1, .string op_0_2, .string op_0_3, .bool op_0_4]] w R :=
  calls_of_sh (args := [.agg #[.int .u8 op_0_0, .string op_0_1, .string op_0_2, .string op_0_3, .bool op_0_4]]) (.two .auto (.two (.one (.two .auto (.two (.two .auto .auto) (.two .auto (.two (.two .auto .auto) .auto))))) (.two .auto .auto))) Try.func12 (by kernel_rfl) (by kernel_rfl) (by kernel_rfl) h

/-- 13: buttery/butteryref09.Check -/
def sh_butteryref09_Check (op_0_0 : Int) (op_0_1 : ByteArray) (op_0_2 : ByteArray) (op_0_3 : ByteArray) (op_0_4 : Bool) (w : World) (R : Ending → World → Prop) : Prop :=
  VNw none w (.cells #[.int .u8 op_0_0, .string op_0_1, .string op_0_2, .string op_0_3, .bool op_0_4] 24) fun (op_1 : Nat) (w1 : World) =>
  VLd none w1 ⟨op_1, 0, none⟩ [CT.int .u8] fun (v4 : Int) =>
  VLd (some (!(v4 == 0))) w1 ⟨op_1, 0, none⟩ [CT.int .u8] fun (v8 : Int) =>
  VIf ((v4 == 0) || (decide (v8 > 4))) (
    R (.returned (.int .i64 1)) w1
  ) (
    VLd none w1 ⟨op_1, 1, none⟩ [CT.str] fun (v12 : ByteArray) =>
    VLd (some (!(decide (((v12.size : Nat) : Int) < 1)))) w1 ⟨op_1, 1, none⟩ [CT.str] fun (v17 : ByteArray) =>
    VLd (some (!((decide (((v12.size : Nat) : Int) < 1)) || (decide (((v17.size : Nat) : Int) > 32))))) w1 ⟨op_1, 2, none⟩ [CT.str] fun (v23 : ByteArray) =>
    VLd (some (!(((decide (((v12.size : Nat) : Int) < 1)) || (decide (((v17.size : Nat) : Int) > 32))) || (decide (((v23.size : Nat) : Int) > 2000))))) w1 ⟨op_1, 3, none⟩ [CT.str] fun (v29 : ByteArray) =>
    VIf ((((decide (((v12.size : Nat) : Int) < 1)) || (decide (((v17.size : Nat) : Int) > 32))) || (decide (((v23.size : Nat) : Int) > 2000))) || (decide (((v29.size : Nat) : Int) > 2000))) (
      R (.returned (.int .i64 40)) w1
    ) (
      R (.returned (.int .i64 0)) w1
    )
  )
theorem sh_butteryref09_Check_ok (op_0_0 : Int) (op_0_1 : ByteArray) (op_0_2 : ByteArray) (op_0_3 : ByteArray) (op_0_4 : Bool) (w : World) (R : Ending → World → Prop) (h : sh_butteryref09_Check op_0_0 op_0_1 op_0_2 op_0_3 op_0_4 w R) : Calls Try.prog 13 #[.agg #[.int .u8 op_0_0, .string op_0_1, .string op_0_2, .string op_0_3, .bool op_0_4]] w R :=
  calls_of_sh (args := [.agg #[.int .u8 op_0_0, .string op_0_1, .string op_0_2, .string op_0_3, .bool op_0_4]]) (.two .auto (.two (.two .auto (.two (.two .auto .auto) .auto)) (.two (.two .auto (.two (.two .auto .auto) .auto)) (.two .auto .auto)))) Try.func13 (by kernel_rfl) (by kernel_rfl) (by kernel_rfl) h

/-- 14: buttery/dedup.Place -/
def sh_dedup_Place (key_0 : ByteArray) (shards_1 : Int) (w : World) (R : Ending → World → Prop) : Prop :=
  VIf (decide (shards_1 < 1)) (
    R (.returned (.int .i64 0)) w
  ) (
    VBytes none w 5 key_0 fun (b11 cb11 : Nat) (w1 : World) =>
    ∃ I1 : Nat → Int → Int → World → Prop, (∃ k, I1 k 0 0 w1) ∧ ∀ k1 (sum_5 : Int) (x13 : Int) (w2 : World), I1 k1 sum_5 x13 w2 →
    VIf (decide (x13 < ((key_0.size : Nat) : Int))) (
      VIx none (some ⟨b11, 0, none⟩) key_0.size x13 fun (a15 : Addr) =>
      VLd none w2 (Addr.add a15 ((Int.toNat x13) * 1)) [CT.int .u8] fun (v16 : Int) =>
      VSet v16 fun (b_7 : Int) =>
      VSet (IntKind.wrap .i64 (sum_5 + (IntKind.wrap .i64 b_7))) fun (sum_5' : Int) =>
      ∃ k', k' < k1 ∧ I1 k' sum_5' (IntKind.wrap .i64 (x13 + 1)) w2
    ) (
      VCk none ((shards_1 : Int) ≠ 0) (
        VSet (Int.tmod sum_5 shards_1) fun (v4 : Int) =>
        R (.returned (.int .i64 v4)) w2
      )
    )
  )
theorem sh_dedup_Place_ok (key_0 : ByteArray) (shards_1 : Int) (w : World) (R : Ending → World → Prop) (h : sh_dedup_Place key_0 shards_1 w R) : Calls Try.prog 14 #[.string key_0, .int .i64 shards_1] w R :=
  calls_of_sh (args := [.string key_0, .int .i64 shards_1]) (.two .auto (.two (.two .auto (.two (.two .auto .auto) .auto)) (.two .auto (.two (.two .auto (.one (.loop [(5, .int .i64 0), (13, .int .i64 0)] (.two .auto (.two (.two .auto .auto) (.two (.one (.two .auto .auto)) .auto)))))) (.two .auto .auto))))) Try.func14 (by kernel_rfl) (by kernel_rfl) (by kernel_rfl) h

/-- 15: buttery/butteryref09.Place -/
def sh_butteryref09_Place (key_0 : ByteArray) (shards_1 : Int) (w : World) (R : Ending → World → Prop) : Prop :=
  VIf (decide (shards_1 < 1)) (
    R (.returned (.int .i64 0)) w
  ) (
    ∃ I1 : Nat → Int → Int → World → Prop, (∃ k, I1 k 0 0 w) ∧ ∀ k1 (sum_5 : Int) (i_6 : Int) (w1 : World), I1 k1 sum_5 i_6 w1 →
    VIf (decide (i_6 < ((key_0.size : Nat) : Int))) (
      VCk none ((0 : Int) ≤ i_6 ∧ (i_6 : Int) < ((key_0.size : Nat) : Int)) (
        VSet (IntKind.wrap .i64 (sum_5 + (IntKind.wrap .i64 (strAt key_0 (Int.toNat i_6))))) fun (sum_5' : Int) =>
        VSet (IntKind.wrap .i64 (i_6 + 1)) fun (i_6' : Int) =>
        ∃ k', k' < k1 ∧ I1 k' sum_5' i_6' w1
      )
    ) (
      VCk none ((shards_1 : Int) ≠ 0) (
        VSet (Int.tmod sum_5 shards_1) fun (v4 : Int) =>
        R (.returned (.int .i64 v4)) w1
      )
    )
  )
theorem sh_butteryref09_Place_ok (key_0 : ByteArray) (shards_1 : Int) (w : World) (R : Ending → World → Prop) (h : sh_butteryref09_Place key_0 shards_1 w R) : Calls Try.prog 15 #[.string key_0, .int .i64 shards_1] w R :=
  calls_of_sh (args := [.string key_0, .int .i64 shards_1]) (.two .auto (.two (.two .auto (.two (.two .auto .auto) .auto)) (.two .auto (.two (.two .auto (.one (.loop [(5, .int .i64 0), (6, .int .i64 0)] (.two (.two .auto (.two .auto .auto)) (.two (.one .auto) .auto))))) (.two .auto .auto))))) Try.func15 (by kernel_rfl) (by kernel_rfl) (by kernel_rfl) h

/-- 16: buttery/dedup.Do -/
def sh_dedup_Do (m_0 : Sl) (op_1_0 : Int) (op_1_1 : ByteArray) (op_1_2 : ByteArray) (op_1_3 : ByteArray) (op_1_4 : Bool) (w : World) (R : Ending → World → Prop) : Prop :=
  VNw none w (.cells #[.int .u8 op_1_0, .string op_1_1, .string op_1_2, .string op_1_3, .bool op_1_4] 24) fun (op_3 : Nat) (w1 : World) =>
  VNw none w1 (.cells #[.int .u8 0, .bool false, .string ByteArray.empty] 31) fun (b5 : Nat) (w2 : World) =>
  VLd none w2 ⟨op_3, 0, none⟩ [CT.int .u8, CT.str, CT.str, CT.str, CT.bool] fun (v12_0 : Int) (v12_1 : ByteArray) (v12_2 : ByteArray) (v12_3 : ByteArray) (v12_4 : Bool) =>
  VCall none Try.prog 12 #[.agg #[.int .u8 v12_0, .string v12_1, .string v12_2, .string v12_3, .bool v12_4]] w2 (.int .i64 0) fun (r13 : Int) (w3 : World) =>
  VSet r13 fun (e_7 : Int) =>
  VIf (e_7 != 0) (
    VSt none w3 ⟨b5, 0, none⟩ [.int .u8 0, .bool false, .string ByteArray.empty] fun (w4 : World) =>
    VSet e_7 fun (v6 : Int) =>
    VLd none w4 ⟨b5, 0, none⟩ [CT.int .u8, CT.bool, CT.str] fun (res5_0 : Int) (res5_1 : Bool) (res5_2 : ByteArray) =>
    R (.returned (.tuple #[.slice none 0 0, .agg #[.int .u8 res5_0, .bool res5_1, .string res5_2], .int .i64 v6])) w4
  ) (
    VLd none w3 ⟨op_3, 1, none⟩ [CT.str] fun (v21 : ByteArray) =>
    VCall none Try.prog 10 #[.slice m_0.base m_0.len m_0.cap, .string v21] w3 (.tuple #[.string ByteArray.empty, .bool false]) fun (r22_0 : ByteArray) (r22_1 : Bool) (w5 : World) =>
    VCall none Try.prog 30 #[.slice m_0.base m_0.len m_0.cap] w5 (.slice none 0 0) fun (r26 : Sl) (w6 : World) =>
    VNw none w6 (.cells #[.int .u8 0, .bool false, .string ByteArray.empty] 31) fun (r_11 : Nat) (w7 : World) =>
    VSt none w7 ⟨r_11, 0, none⟩ [.int .u8 1, .bool false, .string ByteArray.empty] fun (w8 : World) =>
    VLd none w8 ⟨op_3, 0, none⟩ [CT.int .u8] fun (v29 : Int) =>
    ∃ Φ1 : Sl → World → Prop, (
      ∃ Φ2 : Sl → World → Prop, (
        VIf (v29 == 1) (
          VSt none w8 ⟨r_11, 1, none⟩ [.bool r22_1] fun (w9 : World) =>
          VSt none w9 ⟨r_11, 2, none⟩ [.string r22_0] fun (w10 : World) =>
          Φ1 r26 w10
        ) (
          VIf (v29 == 3) (
            VSt none w8 ⟨r_11, 1, none⟩ [.bool r22_1] fun (w11 : World) =>
            VCall none Try.prog 31 #[.slice r26.base r26.len r26.cap, .func (.func 32) #[] #[.pointer (some ⟨op_3, 0, none⟩)]] w11 (.slice none 0 0) fun (r46 : Sl) (w12 : World) =>
            Φ1 r46 w12
          ) (
            VIf (v29 == 4) (
              VLd none w8 ⟨op_3, 4, none⟩ [CT.bool] fun (v49 : Bool) =>
              VLd (some ((!(!(r22_1 == v49))) && r22_1)) w8 ⟨op_3, 3, none⟩ [CT.str] fun (v56 : ByteArray) =>
              VIf ((!(r22_1 == v49)) || (r22_1 && (!(r22_0.toList == v56.toList)))) (
                Φ1 r26 w8
              ) (
                VSt none w8 ⟨r_11, 1, none⟩ [.bool true] fun (w13 : World) =>
                Φ2 r26 w13
              )
            ) (
              VIf (v29 == 2) (
                Φ2 r26 w8
              ) (
                Φ1 r26 w8
              )
            )
          )
        )
      ) ∧ ∀ (out_10' : Sl) (w14 : World), Φ2 out_10' w14 →
      VLd none w14 ⟨op_3, 1, none⟩ [CT.str] fun (v63 : ByteArray) =>
      VLd none w14 ⟨op_3, 2, none⟩ [CT.str] fun (v65 : ByteArray) =>
      VCall none Try.prog 33 #[.slice out_10'.base out_10'.len out_10'.cap, .agg #[.string v63, .string v65], .func (.func 34) #[] #[]] w14 (.slice none 0 0) fun (r67 : Sl) (w15 : World) =>
      Φ1 r67 w15
    ) ∧ ∀ (out_10 : Sl) (w16 : World), Φ1 out_10 w16 →
    ∀ (w17 : World), w17 = World.drew w16 →
    VLd none w17 ⟨r_11, 0, none⟩ [CT.int .u8, CT.bool, CT.str] fun (v69_0 : Int) (v69_1 : Bool) (v69_2 : ByteArray) =>
    VSt none w17 ⟨b5, 0, none⟩ [.int .u8 v69_0, .bool v69_1, .string v69_2] fun (w18 : World) =>
    VLd none w18 ⟨b5, 0, none⟩ [CT.int .u8, CT.bool, CT.str] fun (res5_0 : Int) (res5_1 : Bool) (res5_2 : ByteArray) =>
    R (.returned (.tuple #[.slice out_10.base out_10.len out_10.cap, .agg #[.int .u8 res5_0, .bool res5_1, .string res5_2], .int .i64 0])) w18
  )
theorem sh_dedup_Do_ok (m_0 : Sl) (op_1_0 : Int) (op_1_1 : ByteArray) (op_1_2 : ByteArray) (op_1_3 : ByteArray) (op_1_4 : Bool) (w : World) (R : Ending → World → Prop) (h : sh_dedup_Do m_0 op_1_0 op_1_1 op_1_2 op_1_3 op_1_4 w R) : Calls Try.prog 16 #[.slice m_0.base m_0.len m_0.cap, .agg #[.int .u8 op_1_0, .string op_1_1, .string op_1_2, .string op_1_3, .bool op_1_4]] w R :=
  calls_of_sh (args := [.slice m_0.base m_0.len m_0.cap, .agg #[.int .u8 op_1_0, .string op_1_1, .string op_1_2, .string op_1_3, .bool op_1_4]]) (.two .auto (.two (.two .auto (.two .auto (.two (.two .auto .auto) .auto))) (.two .auto (.two .auto (.two (.two .auto (.bjoin [(10, .slice none 0 0)] (.two (.bjoin [(10, .slice none 0 0)] (.two (.one (.two (.one (.two (.one (.two (.two (.two .auto (.two .auto .auto)) (.two (.two .auto (.two .auto .auto)) (.two (.two .auto (.two .auto .auto)) (.two .auto (.two .auto .auto))))) .auto)) (.two .auto .auto))) (.two (.two .auto .auto) .auto))) (.two (.two .auto (.two .auto .auto)) .auto))) (.two .auto .auto)))) (.two .auto .auto)))))) Try.func16 (by kernel_rfl) (by kernel_rfl) (by kernel_rfl) h

/-- 17: buttery/butteryref09.Do -/
def sh_butteryref09_Do (m_0 : Sl) (op_1_0 : Int) (op_1_1 : ByteArray) (op_1_2 : ByteArray) (op_1_3 : ByteArray) (op_1_4 : Bool) (w : World) (R : Ending → World → Prop) : Prop :=
  VNw none w (.cells #[.int .u8 op_1_0, .string op_1_1, .string op_1_2, .string op_1_3, .bool op_1_4] 24) fun (op_3 : Nat) (w1 : World) =>
  VNw none w1 (.cells #[.int .u8 0, .bool false, .string ByteArray.empty] 31) fun (b5 : Nat) (w2 : World) =>
  VLd none w2 ⟨op_3, 0, none⟩ [CT.int .u8, CT.str, CT.str, CT.str, CT.bool] fun (v14_0 : Int) (v14_1 : ByteArray) (v14_2 : ByteArray) (v14_3 : ByteArray) (v14_4 : Bool) =>
  VCall none Try.prog 13 #[.agg #[.int .u8 v14_0, .string v14_1, .string v14_2, .string v14_3, .bool v14_4]] w2 (.int .i64 0) fun (r15 : Int) (w3 : World) =>
  VSet r15 fun (e_7 : Int) =>
  VIf (e_7 != 0) (
    VSt none w3 ⟨b5, 0, none⟩ [.int .u8 0, .bool false, .string ByteArray.empty] fun (w4 : World) =>
    VSet e_7 fun (v6 : Int) =>
    VLd none w4 ⟨b5, 0, none⟩ [CT.int .u8, CT.bool, CT.str] fun (res5_0 : Int) (res5_1 : Bool) (res5_2 : ByteArray) =>
    R (.returned (.tuple #[.slice none 0 0, .agg #[.int .u8 res5_0, .bool res5_1, .string res5_2], .int .i64 v6])) w4
  ) (
    VLd none w3 ⟨op_3, 1, none⟩ [CT.str] fun (v23 : ByteArray) =>
    VCall none Try.prog 11 #[.slice m_0.base m_0.len m_0.cap, .string v23] w3 (.tuple #[.string ByteArray.empty, .bool false]) fun (r24_0 : ByteArray) (r24_1 : Bool) (w5 : World) =>
    VApp none w5 36 2 32 #[.string ByteArray.empty, .string ByteArray.empty] none 0 0 m_0.len (fun news => Seg w5 m_0.base m_0.len 2 news) fun (l29 : Sl) (w6 : World) =>
    VLd none w6 ⟨op_3, 1, none⟩ [CT.str] fun (v31 : ByteArray) =>
    VLd none w6 ⟨op_3, 2, none⟩ [CT.str] fun (v33 : ByteArray) =>
    VNw none w6 (.cells #[.string ByteArray.empty, .string ByteArray.empty] 36) fun (p_11 : Nat) (w7 : World) =>
    VSt none w7 ⟨p_11, 0, none⟩ [.string v31, .string v33] fun (w8 : World) =>
    VLd none w8 ⟨op_3, 0, none⟩ [CT.int .u8] fun (v36 : Int) =>
    VIf (v36 == 1) (
      VSt none w8 ⟨b5, 0, none⟩ [.int .u8 1, .bool r24_1, .string r24_0] fun (w9 : World) =>
      VLd none w9 ⟨b5, 0, none⟩ [CT.int .u8, CT.bool, CT.str] fun (res5_0 : Int) (res5_1 : Bool) (res5_2 : ByteArray) =>
      R (.returned (.tuple #[.slice l29.base l29.len l29.cap, .agg #[.int .u8 res5_0, .bool res5_1, .string res5_2], .int .i64 0])) w9
    ) (
      VLd none w8 ⟨op_3, 0, none⟩ [CT.int .u8] fun (v43 : Int) =>
      VIf (v43 == 2) (
        VLd none w8 ⟨p_11, 0, none⟩ [CT.str, CT.str] fun (v46_0 : ByteArray) (v46_1 : ByteArray) =>
        VCall none Try.prog 35 #[.slice m_0.base m_0.len m_0.cap, .agg #[.string v46_0, .string v46_1]] w8 (.slice none 0 0) fun (r47 : Sl) (w10 : World) =>
        VSt none w10 ⟨b5, 0, none⟩ [.int .u8 1, .bool false, .string ByteArray.empty] fun (w11 : World) =>
        VLd none w11 ⟨b5, 0, none⟩ [CT.int .u8, CT.bool, CT.str] fun (res5_0 : Int) (res5_1 : Bool) (res5_2 : ByteArray) =>
        R (.returned (.tuple #[.slice r47.base r47.len r47.cap, .agg #[.int .u8 res5_0, .bool res5_1, .string res5_2], .int .i64 0])) w11
      ) (
        VLd none w8 ⟨op_3, 0, none⟩ [CT.int .u8] fun (v50 : Int) =>
        VIf (v50 == 4) (
          VLd none w8 ⟨op_3, 4, none⟩ [CT.bool] fun (v53 : Bool) =>
          VLd (some (v53 && r24_1)) w8 ⟨op_3, 3, none⟩ [CT.str] fun (v60 : ByteArray) =>
          VLd (some (!((v53 && r24_1) && (r24_0.toList == v60.toList)))) w8 ⟨op_3, 4, none⟩ [CT.bool] fun (v65 : Bool) =>
          VIf (((v53 && r24_1) && (r24_0.toList == v60.toList)) || ((!v65) && (!r24_1))) (
            VLd none w8 ⟨p_11, 0, none⟩ [CT.str, CT.str] fun (v73_0 : ByteArray) (v73_1 : ByteArray) =>
            VCall none Try.prog 35 #[.slice m_0.base m_0.len m_0.cap, .agg #[.string v73_0, .string v73_1]] w8 (.slice none 0 0) fun (r74 : Sl) (w12 : World) =>
            VSt none w12 ⟨b5, 0, none⟩ [.int .u8 1, .bool true, .string ByteArray.empty] fun (w13 : World) =>
            VLd none w13 ⟨b5, 0, none⟩ [CT.int .u8, CT.bool, CT.str] fun (res5_0 : Int) (res5_1 : Bool) (res5_2 : ByteArray) =>
            R (.returned (.tuple #[.slice r74.base r74.len r74.cap, .agg #[.int .u8 res5_0, .bool res5_1, .string res5_2], .int .i64 0])) w13
          ) (
            VSt none w8 ⟨b5, 0, none⟩ [.int .u8 1, .bool false, .string ByteArray.empty] fun (w14 : World) =>
            VLd none w14 ⟨b5, 0, none⟩ [CT.int .u8, CT.bool, CT.str] fun (res5_0 : Int) (res5_1 : Bool) (res5_2 : ByteArray) =>
            R (.returned (.tuple #[.slice l29.base l29.len l29.cap, .agg #[.int .u8 res5_0, .bool res5_1, .string res5_2], .int .i64 0])) w14
          )
        ) (
          ∃ I1 : Nat → Sl → Int → World → Prop, (∃ k, I1 k ⟨none, 0, 0⟩ 0 w8) ∧ ∀ k1 (left_12 : Sl) (i_13 : Int) (w15 : World), I1 k1 left_12 i_13 w15 →
          VIf (decide (i_13 < ((m_0.len : Nat) : Int))) (
            ∃ Φ2 : Sl → World → Prop, (
              ∀ (w16 : World), w16 = World.drew w15 →
              VIx none m_0.base m_0.len i_13 fun (a86 : Addr) =>
              VLd none w16 (Addr.add a86 ((Int.toNat i_13) * 2)) [CT.str] fun (v88 : ByteArray) =>
              VLd none w16 ⟨op_3, 1, none⟩ [CT.str] fun (v90 : ByteArray) =>
              VIf (!(v88.toList == v90.toList)) (
                VIx none m_0.base m_0.len i_13 fun (a95 : Addr) =>
                VLd none w16 (Addr.add a95 ((Int.toNat i_13) * 2)) [CT.str, CT.str] fun (v96_0 : ByteArray) (v96_1 : ByteArray) =>
                VNw none w16 (.cells #[.string v96_0, .string v96_1] 36) fun (b97 : Nat) (w17 : World) =>
                VApp none w17 36 2 32 #[.string ByteArray.empty, .string ByteArray.empty] left_12.base left_12.len left_12.cap 1 (fun news => Seg w17 (some ⟨b97, 0, none⟩) 1 2 news) fun (l98 : Sl) (w18 : World) =>
                Φ2 l98 w18
              ) (
                Φ2 left_12 w16
              )
            ) ∧ ∀ (left_12' : Sl) (w19 : World), Φ2 left_12' w19 →
            VSet (IntKind.wrap .i64 (i_13 + 1)) fun (i_13' : Int) =>
            ∃ k', k' < k1 ∧ I1 k' ⟨left_12'.base, left_12'.len, left_12'.cap⟩ i_13' w19
          ) (
            VSt none w15 ⟨b5, 0, none⟩ [.int .u8 1, .bool r24_1, .string ByteArray.empty] fun (w20 : World) =>
            VLd none w20 ⟨b5, 0, none⟩ [CT.int .u8, CT.bool, CT.str] fun (res5_0 : Int) (res5_1 : Bool) (res5_2 : ByteArray) =>
            R (.returned (.tuple #[.slice left_12.base left_12.len left_12.cap, .agg #[.int .u8 res5_0, .bool res5_1, .string res5_2], .int .i64 0])) w20
          )
        )
      )
    )
  )
theorem sh_butteryref09_Do_ok (m_0 : Sl) (op_1_0 : Int) (op_1_1 : ByteArray) (op_1_2 : ByteArray) (op_1_3 : ByteArray) (op_1_4 : Bool) (w : World) (R : Ending → World → Prop) (h : sh_butteryref09_Do m_0 op_1_0 op_1_1 op_1_2 op_1_3 op_1_4 w R) : Calls Try.prog 17 #[.slice m_0.base m_0.len m_0.cap, .agg #[.int .u8 op_1_0, .string op_1_1, .string op_1_2, .string op_1_3, .bool op_1_4]] w R :=
  calls_of_sh (args := [.slice m_0.base m_0.len m_0.cap, .agg #[.int .u8 op_1_0, .string op_1_1, .string op_1_2, .string op_1_3, .bool op_1_4]]) (.two .auto (.two .auto (.two (.two .auto (.two (.two .auto .auto) .auto)) (.two .auto (.two .auto (.two .auto (.two .auto (.two (.two .auto (.two (.two .auto .auto) .auto)) (.two (.two .auto (.two (.two .auto .auto) .auto)) (.two (.two .auto (.two (.two (.two .auto (.two (.two .auto .auto) .auto)) (.two .auto .auto)) .auto)) (.two .auto (.two (.two .auto (.one (.loop [(12, .slice none 0 0), (13, .int .i64 0)] (.two (.two .auto (.two .auto .auto)) (.two (.bjoin [(12, .slice none 0 0)] (.two .auto (.two .auto .auto))) .auto))))) (.two .auto .auto))))))))))))) Try.func17 (by kernel_rfl) (by kernel_rfl) (by kernel_rfl) h

/-- 18: buttery/butteryref09.Same -/
def sh_butteryref09_Same (a_0 : Sl) (b_1 : Sl) (w : World) (R : Ending → World → Prop) : Prop :=
  VIf (((a_0.len : Nat) : Int) != ((b_1.len : Nat) : Int)) (
    R (.returned (.bool false)) w
  ) (
    ∃ I1 : Nat → Int → World → Prop, (∃ k, I1 k 0 w) ∧ ∀ k1 (i_5 : Int) (w1 : World), I1 k1 i_5 w1 →
    VIf (decide (i_5 < ((a_0.len : Nat) : Int))) (
      ∀ (w2 : World), w2 = World.drew w1 →
      VIx none a_0.base a_0.len i_5 fun (a19 : Addr) =>
      VLd none w2 (Addr.add a19 ((Int.toNat i_5) * 2)) [CT.str, CT.str] fun (v20_0 : ByteArray) (v20_1 : ByteArray) =>
      VIx none b_1.base b_1.len i_5 fun (a23 : Addr) =>
      VLd none w2 (Addr.add a23 ((Int.toNat i_5) * 2)) [CT.str, CT.str] fun (v24_0 : ByteArray) (v24_1 : ByteArray) =>
      VIf (!((v20_0.toList == v24_0.toList) && (v20_1.toList == v24_1.toList))) (
        R (.returned (.bool false)) w2
      ) (
        VSet (IntKind.wrap .i64 (i_5 + 1)) fun (i_5' : Int) =>
        ∃ k', k' < k1 ∧ I1 k' i_5' w2
      )
    ) (
      R (.returned (.bool true)) w1
    )
  )
theorem sh_butteryref09_Same_ok (a_0 : Sl) (b_1 : Sl) (w : World) (R : Ending → World → Prop) (h : sh_butteryref09_Same a_0 b_1 w R) : Calls Try.prog 18 #[.slice a_0.base a_0.len a_0.cap, .slice b_1.base b_1.len b_1.cap] w R :=
  calls_of_sh (args := [.slice a_0.base a_0.len a_0.cap, .slice b_1.base b_1.len b_1.cap]) (.two .auto (.two (.two .auto (.two (.two .auto .auto) .auto)) (.two (.two .auto (.one (.loop [(5, .int .i64 0)] (.two (.two .auto (.two .auto .auto)) (.two (.one (.two .auto (.two (.two .auto .auto) .auto))) .auto))))) (.two .auto .auto)))) Try.func18 (by kernel_rfl) (by kernel_rfl) (by kernel_rfl) h

/-- 19: buttery/dedup.Seen -/
def sh_dedup_Seen (l_0 : Sl) (who_1 : Int) (id_2 : Int) (w : World) (R : Ending → World → Prop) : Prop :=
  VNw none w (.cells #[.int .i64 who_1] 3) fun (who_4 : Nat) (w1 : World) =>
  VNw none w1 (.cells #[.int .u8 0, .bool false, .string ByteArray.empty] 31) fun (b6 : Nat) (w2 : World) =>
  VCall none Try.prog 36 #[.slice l_0.base l_0.len l_0.cap, .func (.func 37) #[] #[.pointer (some ⟨who_4, 0, none⟩)]] w2 (.int .i64 0) fun (r11 : Int) (w3 : World) =>
  VSet r11 fun (i_8 : Int) =>
  VIx (some (!(decide (i_8 < 0)))) l_0.base l_0.len i_8 fun (a18 : Addr) =>
  VLd (some (!(decide (i_8 < 0)))) w3 (Addr.add (Addr.add a18 ((Int.toNat i_8) * 5)) 1) [CT.int .i64] fun (v20 : Int) =>
  VIf ((decide (i_8 < 0)) || (decide (v20 < id_2))) (
    VSt none w3 ⟨b6, 0, none⟩ [.int .u8 0, .bool false, .string ByteArray.empty] fun (w4 : World) =>
    VLd none w4 ⟨b6, 0, none⟩ [CT.int .u8, CT.bool, CT.str] fun (res6_0 : Int) (res6_1 : Bool) (res6_2 : ByteArray) =>
    R (.returned (.tuple #[.agg #[.int .u8 res6_0, .bool res6_1, .string res6_2], .int .i64 5])) w4
  ) (
    VIx none l_0.base l_0.len i_8 fun (a28 : Addr) =>
    VLd none w3 (Addr.add (Addr.add a28 ((Int.toNat i_8) * 5)) 1) [CT.int .i64] fun (v30 : Int) =>
    VIf (decide (v30 > id_2)) (
      VSt none w3 ⟨b6, 0, none⟩ [.int .u8 0, .bool false, .string ByteArray.empty] fun (w5 : World) =>
      VLd none w5 ⟨b6, 0, none⟩ [CT.int .u8, CT.bool, CT.str] fun (res6_0 : Int) (res6_1 : Bool) (res6_2 : ByteArray) =>
      R (.returned (.tuple #[.agg #[.int .u8 res6_0, .bool res6_1, .string res6_2], .int .i64 6])) w5
    ) (
      VIx none l_0.base l_0.len i_8 fun (a36 : Addr) =>
      VLd none w3 (Addr.add (Addr.add a36 ((Int.toNat i_8) * 5)) 2) [CT.int .u8, CT.bool, CT.str] fun (v38_0 : Int) (v38_1 : Bool) (v38_2 : ByteArray) =>
      VSt none w3 ⟨b6, 0, none⟩ [.int .u8 v38_0, .bool v38_1, .string v38_2] fun (w6 : World) =>
      VLd none w6 ⟨b6, 0, none⟩ [CT.int .u8, CT.bool, CT.str] fun (res6_0 : Int) (res6_1 : Bool) (res6_2 : ByteArray) =>
      R (.returned (.tuple #[.agg #[.int .u8 res6_0, .bool res6_1, .string res6_2], .int .i64 0])) w6
    )
  )
theorem sh_dedup_Seen_ok (l_0 : Sl) (who_1 : Int) (id_2 : Int) (w : World) (R : Ending → World → Prop) (h : sh_dedup_Seen l_0 who_1 id_2 w R) : Calls Try.prog 19 #[.slice l_0.base l_0.len l_0.cap, .int .i64 who_1, .int .i64 id_2] w R :=
  calls_of_sh (args := [.slice l_0.base l_0.len l_0.cap, .int .i64 who_1, .int .i64 id_2]) (.two .auto (.two .auto (.two (.one (.two .auto (.two (.two .auto .auto) (.two .auto (.two (.two .auto .auto) .auto))))) (.two .auto .auto)))) Try.func19 (by kernel_rfl) (by kernel_rfl) (by kernel_rfl) h

/-- 20: buttery/butteryref09.Seen -/
def sh_butteryref09_Seen (l_0 : Sl) (client_1 : Int) (id_2 : Int) (w : World) (R : Ending → World → Prop) : Prop :=
  VNw none w (.cells #[.int .u8 0, .bool false, .string ByteArray.empty] 31) fun (b6 : Nat) (w1 : World) =>
  ∃ I1 : Nat → Int → World → Prop, (∃ k, I1 k 0 w1) ∧ ∀ k1 (i_8 : Int) (w2 : World), I1 k1 i_8 w2 →
  VIf (decide (i_8 < ((l_0.len : Nat) : Int))) (
    VIx none l_0.base l_0.len i_8 fun (a17 : Addr) =>
    VLd none w2 (Addr.add a17 ((Int.toNat i_8) * 5)) [CT.int .i64] fun (v19 : Int) =>
    VIf (v19 != client_1) (
      VSet (IntKind.wrap .i64 (i_8 + 1)) fun (i_8' : Int) =>
      ∃ k', k' < k1 ∧ I1 k' i_8' w2
    ) (
      VIx none l_0.base l_0.len i_8 fun (a24 : Addr) =>
      VLd none w2 (Addr.add (Addr.add a24 ((Int.toNat i_8) * 5)) 1) [CT.int .i64] fun (v26 : Int) =>
      VIf (v26 == id_2) (
        VIx none l_0.base l_0.len i_8 fun (a31 : Addr) =>
        VLd none w2 (Addr.add (Addr.add a31 ((Int.toNat i_8) * 5)) 2) [CT.int .u8, CT.bool, CT.str] fun (v33_0 : Int) (v33_1 : Bool) (v33_2 : ByteArray) =>
        VSt none w2 ⟨b6, 0, none⟩ [.int .u8 v33_0, .bool v33_1, .string v33_2] fun (w3 : World) =>
        VLd none w3 ⟨b6, 0, none⟩ [CT.int .u8, CT.bool, CT.str] fun (res6_0 : Int) (res6_1 : Bool) (res6_2 : ByteArray) =>
        R (.returned (.tuple #[.agg #[.int .u8 res6_0, .bool res6_1, .string res6_2], .int .i64 0])) w3
      ) (
        VIx none l_0.base l_0.len i_8 fun (a36 : Addr) =>
        VLd none w2 (Addr.add (Addr.add a36 ((Int.toNat i_8) * 5)) 1) [CT.int .i64] fun (v38 : Int) =>
        VIf (decide (v38 > id_2)) (
          VSt none w2 ⟨b6, 0, none⟩ [.int .u8 0, .bool false, .string ByteArray.empty] fun (w4 : World) =>
          VLd none w4 ⟨b6, 0, none⟩ [CT.int .u8, CT.bool, CT.str] fun (res6_0 : Int) (res6_1 : Bool) (res6_2 : ByteArray) =>
          R (.returned (.tuple #[.agg #[.int .u8 res6_0, .bool res6_1, .string res6_2], .int .i64 6])) w4
        ) (
          VSt none w2 ⟨b6, 0, none⟩ [.int .u8 0, .bool false, .string ByteArray.empty] fun (w5 : World) =>
          VLd none w5 ⟨b6, 0, none⟩ [CT.int .u8, CT.bool, CT.str] fun (res6_0 : Int) (res6_1 : Bool) (res6_2 : ByteArray) =>
          R (.returned (.tuple #[.agg #[.int .u8 res6_0, .bool res6_1, .string res6_2], .int .i64 5])) w5
        )
      )
    )
  ) (
    VSt none w2 ⟨b6, 0, none⟩ [.int .u8 0, .bool false, .string ByteArray.empty] fun (w6 : World) =>
    VLd none w6 ⟨b6, 0, none⟩ [CT.int .u8, CT.bool, CT.str] fun (res6_0 : Int) (res6_1 : Bool) (res6_2 : ByteArray) =>
    R (.returned (.tuple #[.agg #[.int .u8 res6_0, .bool res6_1, .string res6_2], .int .i64 5])) w6
  )
theorem sh_butteryref09_Seen_ok (l_0 : Sl) (client_1 : Int) (id_2 : Int) (w : World) (R : Ending → World → Prop) (h : sh_butteryref09_Seen l_0 client_1 id_2 w R) : Calls Try.prog 20 #[.slice l_0.base l_0.len l_0.cap, .int .i64 client_1, .int .i64 id_2] w R :=
  calls_of_sh (args := [.slice l_0.base l_0.len l_0.cap, .int .i64 client_1, .int .i64 id_2]) (.two .auto (.two (.two .auto (.one (.loop [(8, .int .i64 0)] (.two (.two .auto (.two .auto .auto)) (.two (.one (.two (.two .auto (.two .auto .auto)) (.two (.two .auto (.two (.two .auto .auto) .auto)) (.two (.two .auto (.two (.two .auto .auto) .auto)) (.two .auto .auto))))) .auto))))) (.two .auto .auto))) Try.func20 (by kernel_rfl) (by kernel_rfl) (by kernel_rfl) h

/-- 21: buttery/dedup.Note -/
def sh_dedup_Note (l_0 : Sl) (last_1_0 : Int) (last_1_1 : Int) (last_1_2 : Int) (last_1_3 : Bool) (last_1_4 : ByteArray) (w : World) (R : Ending → World → Prop) : Prop :=
  VNw none w (.cells #[.int .i64 last_1_0, .int .i64 last_1_1, .int .u8 last_1_2, .bool last_1_3, .string last_1_4] 42) fun (last_3 : Nat) (w1 : World) =>
  VLd none w1 ⟨last_3, 0, none⟩ [CT.int .i64, CT.int .i64, CT.int .u8, CT.bool, CT.str] fun (v6_0 : Int) (v6_1 : Int) (v6_2 : Int) (v6_3 : Bool) (v6_4 : ByteArray) =>
  VCall none Try.prog 38 #[.slice l_0.base l_0.len l_0.cap, .agg #[.int .i64 v6_0, .int .i64 v6_1, .int .u8 v6_2, .bool v6_3, .string v6_4], .func (.func 39) #[] #[]] w1 (.slice none 0 0) fun (r7 : Sl) (w2 : World) =>
  R (.returned (.slice r7.base r7.len r7.cap)) w2
theorem sh_dedup_Note_ok (l_0 : Sl) (last_1_0 : Int) (last_1_1 : Int) (last_1_2 : Int) (last_1_3 : Bool) (last_1_4 : ByteArray) (w : World) (R : Ending → World → Prop) (h : sh_dedup_Note l_0 last_1_0 last_1_1 last_1_2 last_1_3 last_1_4 w R) : Calls Try.prog 21 #[.slice l_0.base l_0.len l_0.cap, .agg #[.int .i64 last_1_0, .int .i64 last_1_1, .int .u8 last_1_2, .bool last_1_3, .string last_1_4]] w R :=
  calls_of_sh (args := [.slice l_0.base l_0.len l_0.cap, .agg #[.int .i64 last_1_0, .int .i64 last_1_1, .int .u8 last_1_2, .bool last_1_3, .string last_1_4]]) (.two .auto (.two .auto .auto)) Try.func21 (by kernel_rfl) (by kernel_rfl) (by kernel_rfl) h

/-- 22: buttery/butteryref09.SameLasts -/
def sh_butteryref09_SameLasts (a_0 : Sl) (b_1 : Sl) (w : World) (R : Ending → World → Prop) : Prop :=
  VIf (((a_0.len : Nat) : Int) != ((b_1.len : Nat) : Int)) (
    R (.returned (.bool false)) w
  ) (
    ∃ I1 : Nat → Int → World → Prop, (∃ k, I1 k 0 w) ∧ ∀ k1 (i_5 : Int) (w1 : World), I1 k1 i_5 w1 →
    VIf (decide (i_5 < ((a_0.len : Nat) : Int))) (
      ∀ (w2 : World), w2 = World.drew w1 →
      VIx none a_0.base a_0.len i_5 fun (a19 : Addr) =>
      VLd none w2 (Addr.add a19 ((Int.toNat i_5) * 5)) [CT.int .i64, CT.int .i64, CT.int .u8, CT.bool, CT.str] fun (v20_0 : Int) (v20_1 : Int) (v20_2 : Int) (v20_3 : Bool) (v20_4 : ByteArray) =>
      VIx none b_1.base b_1.len i_5 fun (a23 : Addr) =>
      VLd none w2 (Addr.add a23 ((Int.toNat i_5) * 5)) [CT.int .i64, CT.int .i64, CT.int .u8, CT.bool, CT.str] fun (v24_0 : Int) (v24_1 : Int) (v24_2 : Int) (v24_3 : Bool) (v24_4 : ByteArray) =>
      VIf (!((v20_0 == v24_0) && ((v20_1 == v24_1) && ((v20_2 == v24_2) && ((v20_3 == v24_3) && (v20_4.toList == v24_4.toList)))))) (
        R (.returned (.bool false)) w2
      ) (
        VSet (IntKind.wrap .i64 (i_5 + 1)) fun (i_5' : Int) =>
        ∃ k', k' < k1 ∧ I1 k' i_5' w2
      )
    ) (
      R (.returned (.bool true)) w1
    )
  )
theorem sh_butteryref09_SameLasts_ok (a_0 : Sl) (b_1 : Sl) (w : World) (R : Ending → World → Prop) (h : sh_butteryref09_SameLasts a_0 b_1 w R) : Calls Try.prog 22 #[.slice a_0.base a_0.len a_0.cap, .slice b_1.base b_1.len b_1.cap] w R :=
  calls_of_sh (args := [.slice a_0.base a_0.len a_0.cap, .slice b_1.base b_1.len b_1.cap]) (.two .auto (.two (.two .auto (.two (.two .auto .auto) .auto)) (.two (.two .auto (.one (.loop [(5, .int .i64 0)] (.two (.two .auto (.two .auto .auto)) (.two (.one (.two .auto (.two (.two .auto .auto) .auto))) .auto))))) (.two .auto .auto)))) Try.func22 (by kernel_rfl) (by kernel_rfl) (by kernel_rfl) h

/-- 23: buttery/butteryref09.Note -/
def sh_butteryref09_Note (l_0 : Sl) (last_1_0 : Int) (last_1_1 : Int) (last_1_2 : Int) (last_1_3 : Bool) (last_1_4 : ByteArray) (w : World) (R : Ending → World → Prop) : Prop :=
  VNw none w (.cells #[.int .i64 last_1_0, .int .i64 last_1_1, .int .u8 last_1_2, .bool last_1_3, .string last_1_4] 42) fun (last_3 : Nat) (w1 : World) =>
  ∃ I1 : Nat → Bool → Int → World → Prop, (∃ k, I1 k false 0 w1) ∧ ∀ k1 (had_6 : Bool) (i_7 : Int) (w2 : World), I1 k1 had_6 i_7 w2 →
  VIf (decide (i_7 < ((l_0.len : Nat) : Int))) (
    ∀ (w3 : World), w3 = World.drew w2 →
    VIx (some (!had_6)) l_0.base l_0.len i_7 fun (a20 : Addr) =>
    VLd (some (!had_6)) w3 (Addr.add a20 ((Int.toNat i_7) * 5)) [CT.int .i64] fun (v22 : Int) =>
    VLd (some (!had_6)) w3 ⟨last_3, 0, none⟩ [CT.int .i64] fun (v24 : Int) =>
    VSet (IntKind.wrap .i64 (i_7 + 1)) fun (i_7' : Int) =>
    ∃ k', k' < k1 ∧ I1 k' (had_6 || (v22 == v24)) i_7' w3
  ) (
    ∃ I2 : Nat → Sl → Bool → Int → World → Prop, (∃ k, I2 k ⟨none, 0, 0⟩ false 0 w2) ∧ ∀ k2 (out_5 : Sl) (done_8 : Bool) (i_9 : Int) (w4 : World), I2 k2 out_5 done_8 i_9 w4 →
    VIf (decide (i_9 < ((l_0.len : Nat) : Int))) (
      ∃ Φ3 : Sl → Bool → World → Prop, (
        ∀ (w5 : World), w5 = World.drew w4 →
        VIx (some ((!done_8) && had_6)) l_0.base l_0.len i_9 fun (a41 : Addr) =>
        VLd (some ((!done_8) && had_6)) w5 (Addr.add a41 ((Int.toNat i_9) * 5)) [CT.int .i64] fun (v43 : Int) =>
        VLd (some ((!done_8) && had_6)) w5 ⟨last_3, 0, none⟩ [CT.int .i64] fun (v45 : Int) =>
        VIf (((!done_8) && had_6) && (v43 == v45)) (
          VLd none w5 ⟨last_3, 0, none⟩ [CT.int .i64, CT.int .i64, CT.int .u8, CT.bool, CT.str] fun (v49_0 : Int) (v49_1 : Int) (v49_2 : Int) (v49_3 : Bool) (v49_4 : ByteArray) =>
          VNw none w5 (.cells #[.int .i64 v49_0, .int .i64 v49_1, .int .u8 v49_2, .bool v49_3, .string v49_4] 42) fun (b50 : Nat) (w6 : World) =>
          VApp none w6 42 5 40 #[.int .i64 0, .int .i64 0, .int .u8 0, .bool false, .string ByteArray.empty] out_5.base out_5.len out_5.cap 1 (fun news => Seg w6 (some ⟨b50, 0, none⟩) 1 5 news) fun (l51 : Sl) (w7 : World) =>
          Φ3 l51 true w7
        ) (
          ∃ Φ4 : Sl → Bool → World → Prop, (
            ∀ (w8 : World), w8 = World.drew w5 →
            VIx (some ((!done_8) && (!had_6))) l_0.base l_0.len i_9 fun (a61 : Addr) =>
            VLd (some ((!done_8) && (!had_6))) w8 (Addr.add a61 ((Int.toNat i_9) * 5)) [CT.int .i64] fun (v63 : Int) =>
            VLd (some ((!done_8) && (!had_6))) w8 ⟨last_3, 0, none⟩ [CT.int .i64] fun (v65 : Int) =>
            VIf (((!done_8) && (!had_6)) && (decide (v63 > v65))) (
              VLd none w8 ⟨last_3, 0, none⟩ [CT.int .i64, CT.int .i64, CT.int .u8, CT.bool, CT.str] fun (v69_0 : Int) (v69_1 : Int) (v69_2 : Int) (v69_3 : Bool) (v69_4 : ByteArray) =>
              VNw none w8 (.cells #[.int .i64 v69_0, .int .i64 v69_1, .int .u8 v69_2, .bool v69_3, .string v69_4] 42) fun (b70 : Nat) (w9 : World) =>
              VApp none w9 42 5 40 #[.int .i64 0, .int .i64 0, .int .u8 0, .bool false, .string ByteArray.empty] out_5.base out_5.len out_5.cap 1 (fun news => Seg w9 (some ⟨b70, 0, none⟩) 1 5 news) fun (l71 : Sl) (w10 : World) =>
              Φ4 l71 true w10
            ) (
              Φ4 out_5 done_8 w8
            )
          ) ∧ ∀ (out_5'' : Sl) (done_8'' : Bool) (w11 : World), Φ4 out_5'' done_8'' w11 →
          VIx none l_0.base l_0.len i_9 fun (a75 : Addr) =>
          VLd none w11 (Addr.add a75 ((Int.toNat i_9) * 5)) [CT.int .i64, CT.int .i64, CT.int .u8, CT.bool, CT.str] fun (v76_0 : Int) (v76_1 : Int) (v76_2 : Int) (v76_3 : Bool) (v76_4 : ByteArray) =>
          VNw none w11 (.cells #[.int .i64 v76_0, .int .i64 v76_1, .int .u8 v76_2, .bool v76_3, .string v76_4] 42) fun (b77 : Nat) (w12 : World) =>
          VApp none w12 42 5 40 #[.int .i64 0, .int .i64 0, .int .u8 0, .bool false, .string ByteArray.empty] out_5''.base out_5''.len out_5''.cap 1 (fun news => Seg w12 (some ⟨b77, 0, none⟩) 1 5 news) fun (l78 : Sl) (w13 : World) =>
          Φ3 l78 done_8'' w13
        )
      ) ∧ ∀ (out_5' : Sl) (done_8' : Bool) (w14 : World), Φ3 out_5' done_8' w14 →
      VSet (IntKind.wrap .i64 (i_9 + 1)) fun (i_9' : Int) =>
      ∃ k', k' < k2 ∧ I2 k' ⟨out_5'.base, out_5'.len, out_5'.cap⟩ done_8' i_9' w14
    ) (
      ∃ Φ5 : Sl → World → Prop, (
        VIf (!done_8) (
          VLd none w4 ⟨last_3, 0, none⟩ [CT.int .i64, CT.int .i64, CT.int .u8, CT.bool, CT.str] fun (v82_0 : Int) (v82_1 : Int) (v82_2 : Int) (v82_3 : Bool) (v82_4 : ByteArray) =>
          VNw none w4 (.cells #[.int .i64 v82_0, .int .i64 v82_1, .int .u8 v82_2, .bool v82_3, .string v82_4] 42) fun (b83 : Nat) (w15 : World) =>
          VApp none w15 42 5 40 #[.int .i64 0, .int .i64 0, .int .u8 0, .bool false, .string ByteArray.empty] out_5.base out_5.len out_5.cap 1 (fun news => Seg w15 (some ⟨b83, 0, none⟩) 1 5 news) fun (l84 : Sl) (w16 : World) =>
          Φ5 l84 w16
        ) (
          Φ5 out_5 w4
        )
      ) ∧ ∀ (out_5_3 : Sl) (w17 : World), Φ5 out_5_3 w17 →
      R (.returned (.slice out_5_3.base out_5_3.len out_5_3.cap)) w17
    )
  )
theorem sh_butteryref09_Note_ok (l_0 : Sl) (last_1_0 : Int) (last_1_1 : Int) (last_1_2 : Int) (last_1_3 : Bool) (last_1_4 : ByteArray) (w : World) (R : Ending → World → Prop) (h : sh_butteryref09_Note l_0 last_1_0 last_1_1 last_1_2 last_1_3 last_1_4 w R) : Calls Try.prog 23 #[.slice l_0.base l_0.len l_0.cap, .agg #[.int .i64 last_1_0, .int .i64 last_1_1, .int .u8 last_1_2, .bool last_1_3, .string last_1_4]] w R :=
  calls_of_sh (args := [.slice l_0.base l_0.len l_0.cap, .agg #[.int .i64 last_1_0, .int .i64 last_1_1, .int .u8 last_1_2, .bool last_1_3, .string last_1_4]]) (.two .auto (.two .auto (.two .auto (.two (.two .auto (.one (.loop [(6, .bool false), (7, .int .i64 0)] (.two (.two .auto (.two .auto .auto)) (.two (.one .auto) .auto))))) (.two .auto (.two (.two .auto (.one (.loop [(5, .slice none 0 0), (8, .bool false), (9, .int .i64 0)] (.two (.two .auto (.two .auto .auto)) (.two (.bjoin [(5, .slice none 0 0), (8, .bool false)] (.two (.two .auto (.two (.two .auto (.two .auto .auto)) .auto)) (.join [(5, .slice none 0 0), (8, .bool false)] (.two .auto (.two (.two .auto .auto) .auto)) .auto))) .auto))))) (.join [(5, .slice none 0 0)] (.two .auto (.two .auto .auto)) (.two .auto .auto)))))))) Try.func23 (by kernel_rfl) (by kernel_rfl) (by kernel_rfl) h

/-- 24: buttery/dedup.Step -/
def sh_dedup_Step (m_0 : Sl) (l_1 : Sl) (who_2 : Int) (id_3 : Int) (op_4_0 : Int) (op_4_1 : ByteArray) (op_4_2 : ByteArray) (op_4_3 : ByteArray) (op_4_4 : Bool) (w : World) (R : Ending → World → Prop) : Prop :=
  VNw none w (.cells #[.int .u8 op_4_0, .string op_4_1, .string op_4_2, .string op_4_3, .bool op_4_4] 24) fun (op_9 : Nat) (w1 : World) =>
  VNw none w1 (.cells #[.int .u8 0, .bool false, .string ByteArray.empty] 31) fun (b12 : Nat) (w2 : World) =>
  VLd none w2 ⟨op_9, 0, none⟩ [CT.int .u8, CT.str, CT.str, CT.str, CT.bool] fun (v17_0 : Int) (v17_1 : ByteArray) (v17_2 : ByteArray) (v17_3 : ByteArray) (v17_4 : Bool) =>
  VCall none Try.prog 12 #[.agg #[.int .u8 v17_0, .string v17_1, .string v17_2, .string v17_3, .bool v17_4]] w2 (.int .i64 0) fun (r18 : Int) (w3 : World) =>
  VSet r18 fun (e_14 : Int) =>
  ∃ Φ1 : Int → World → Prop, (
    VLd (some (e_14 == 0)) w3 ⟨op_9, 0, none⟩ [CT.int .u8] fun (v23 : Int) =>
    VIf ((e_14 == 0) && (v23 == 1)) (
      Φ1 1 w3
    ) (
      Φ1 e_14 w3
    )
  ) ∧ ∀ (e_14' : Int) (w4 : World), Φ1 e_14' w4 →
  VIf (e_14' != 0) (
    VSt none w4 ⟨b12, 0, none⟩ [.int .u8 0, .bool false, .string ByteArray.empty] fun (w5 : World) =>
    VSet e_14' fun (v13 : Int) =>
    VLd none w5 ⟨b12, 0, none⟩ [CT.int .u8, CT.bool, CT.str] fun (res12_0 : Int) (res12_1 : Bool) (res12_2 : ByteArray) =>
    R (.returned (.tuple #[.slice none 0 0, .slice none 0 0, .agg #[.int .u8 res12_0, .bool res12_1, .string res12_2], .int .i64 v13])) w5
  ) (
    VCall none Try.prog 19 #[.slice l_1.base l_1.len l_1.cap, .int .i64 who_2, .int .i64 id_3] w4 (.tuple #[.agg #[.int .u8 0, .bool false, .string ByteArray.empty], .int .i64 0]) fun (r34_0 : Int) (r34_1 : Bool) (r34_2 : ByteArray) (r34_3 : Int) (w6 : World) =>
    VNw none w6 (.cells #[.int .u8 0, .bool false, .string ByteArray.empty] 31) fun (r_15 : Nat) (w7 : World) =>
    VSt none w7 ⟨r_15, 0, none⟩ [.int .u8 r34_0, .bool r34_1, .string r34_2] fun (w8 : World) =>
    VSet r34_3 fun (e_14'' : Int) =>
    VIf (e_14'' == 0) (
      ∀ (w9 : World), w9 = World.drew w8 →
      VLd none w9 ⟨r_15, 0, none⟩ [CT.int .u8, CT.bool, CT.str] fun (v44_0 : Int) (v44_1 : Bool) (v44_2 : ByteArray) =>
      VCall none Try.prog 30 #[.slice m_0.base m_0.len m_0.cap] w9 (.slice none 0 0) fun (r41 : Sl) (w10 : World) =>
      Rd w10 ⟨r_15, 0, none⟩ [.int .u8 v44_0, .bool v44_1, .string v44_2] ∧
      VCall none Try.prog 40 #[.slice l_1.base l_1.len l_1.cap] w10 (.slice none 0 0) fun (r43 : Sl) (w11 : World) =>
      Rd w11 ⟨r_15, 0, none⟩ [.int .u8 v44_0, .bool v44_1, .string v44_2] ∧
      VSt none w11 ⟨b12, 0, none⟩ [.int .u8 v44_0, .bool v44_1, .string v44_2] fun (w12 : World) =>
      VLd none w12 ⟨b12, 0, none⟩ [CT.int .u8, CT.bool, CT.str] fun (res12_0 : Int) (res12_1 : Bool) (res12_2 : ByteArray) =>
      R (.returned (.tuple #[.slice r41.base r41.len r41.cap, .slice r43.base r43.len r43.cap, .agg #[.int .u8 res12_0, .bool res12_1, .string res12_2], .int .i64 0])) w12
    ) (
      VIf (e_14'' == 6) (
        VSt none w8 ⟨b12, 0, none⟩ [.int .u8 0, .bool false, .string ByteArray.empty] fun (w13 : World) =>
        VSet e_14'' fun (v13' : Int) =>
        VLd none w13 ⟨b12, 0, none⟩ [CT.int .u8, CT.bool, CT.str] fun (res12_0 : Int) (res12_1 : Bool) (res12_2 : ByteArray) =>
        R (.returned (.tuple #[.slice none 0 0, .slice none 0 0, .agg #[.int .u8 res12_0, .bool res12_1, .string res12_2], .int .i64 v13'])) w13
      ) (
        VLd none w8 ⟨op_9, 0, none⟩ [CT.int .u8, CT.str, CT.str, CT.str, CT.bool] fun (v51_0 : Int) (v51_1 : ByteArray) (v51_2 : ByteArray) (v51_3 : ByteArray) (v51_4 : Bool) =>
        VCall none Try.prog 16 #[.slice m_0.base m_0.len m_0.cap, .agg #[.int .u8 v51_0, .string v51_1, .string v51_2, .string v51_3, .bool v51_4]] w8 (.tuple #[.slice none 0 0, .agg #[.int .u8 0, .bool false, .string ByteArray.empty], .int .i64 0]) fun (r52_0 : Sl) (r52_1 : Int) (r52_2 : Bool) (r52_3 : ByteArray) (r52_4 : Int) (w14 : World) =>
        VSt none w14 ⟨r_15, 0, none⟩ [.int .u8 r52_1, .bool r52_2, .string r52_3] fun (w15 : World) =>
        VSet r52_4 fun (e_14_3 : Int) =>
        ∀ (w16 : World), w16 = World.drew w15 →
        VLd none w16 ⟨r_15, 0, none⟩ [CT.int .u8, CT.bool, CT.str] fun (v60_0 : Int) (v60_1 : Bool) (v60_2 : ByteArray) =>
        VLd none w16 ⟨r_15, 0, none⟩ [CT.int .u8, CT.bool, CT.str] fun (v63_0 : Int) (v63_1 : Bool) (v63_2 : ByteArray) =>
        VCall none Try.prog 21 #[.slice l_1.base l_1.len l_1.cap, .agg #[.int .i64 who_2, .int .i64 id_3, .int .u8 v60_0, .bool v60_1, .string v60_2]] w16 (.slice none 0 0) fun (r62 : Sl) (w17 : World) =>
        Rd w17 ⟨r_15, 0, none⟩ [.int .u8 v63_0, .bool v63_1, .string v63_2] ∧
        VSt none w17 ⟨b12, 0, none⟩ [.int .u8 v63_0, .bool v63_1, .string v63_2] fun (w18 : World) =>
        VSet e_14_3 fun (v13'' : Int) =>
        VLd none w18 ⟨b12, 0, none⟩ [CT.int .u8, CT.bool, CT.str] fun (res12_0 : Int) (res12_1 : Bool) (res12_2 : ByteArray) =>
        R (.returned (.tuple #[.slice r52_0.base r52_0.len r52_0.cap, .slice r62.base r62.len r62.cap, .agg #[.int .u8 res12_0, .bool res12_1, .string res12_2], .int .i64 v13''])) w18
      )
    )
  )
theorem sh_dedup_Step_ok (m_0 : Sl) (l_1 : Sl) (who_2 : Int) (id_3 : Int) (op_4_0 : Int) (op_4_1 : ByteArray) (op_4_2 : ByteArray) (op_4_3 : ByteArray) (op_4_4 : Bool) (w : World) (R : Ending → World → Prop) (h : sh_dedup_Step m_0 l_1 who_2 id_3 op_4_0 op_4_1 op_4_2 op_4_3 op_4_4 w R) : Calls Try.prog 24 #[.slice m_0.base m_0.len m_0.cap, .slice l_1.base l_1.len l_1.cap, .int .i64 who_2, .int .i64 id_3, .agg #[.int .u8 op_4_0, .string op_4_1, .string op_4_2, .string op_4_3, .bool op_4_4]] w R :=
  calls_of_sh (args := [.slice m_0.base m_0.len m_0.cap, .slice l_1.base l_1.len l_1.cap, .int .i64 who_2, .int .i64 id_3, .agg #[.int .u8 op_4_0, .string op_4_1, .string op_4_2, .string op_4_3, .bool op_4_4]]) (.two .auto (.two .auto (.join [(14, .int .i64 0)] (.two .auto (.two .auto .auto)) (.two (.two .auto (.two (.two .auto .auto) .auto)) (.two .auto (.two (.two .auto (.one (.two .auto (.two (.two .auto .auto) (.two .auto (.two (.two .auto .auto) .auto)))))) (.two .auto (.two .auto .auto)))))))) Try.func24 (by kernel_rfl) (by kernel_rfl) (by kernel_rfl) h

/-- 25: buttery/butteryref09.Step -/
def sh_butteryref09_Step (m_0 : Sl) (l_1 : Sl) (client_2 : Int) (id_3 : Int) (op_4_0 : Int) (op_4_1 : ByteArray) (op_4_2 : ByteArray) (op_4_3 : ByteArray) (op_4_4 : Bool) (w : World) (R : Ending → World → Prop) : Prop :=
  VNw none w (.cells #[.int .u8 op_4_0, .string op_4_1, .string op_4_2, .string op_4_3, .bool op_4_4] 24) fun (op_9 : Nat) (w1 : World) =>
  VNw none w1 (.cells #[.int .u8 0, .bool false, .string ByteArray.empty] 31) fun (b12 : Nat) (w2 : World) =>
  VLd none w2 ⟨op_9, 0, none⟩ [CT.int .u8, CT.str, CT.str, CT.str, CT.bool] fun (v18_0 : Int) (v18_1 : ByteArray) (v18_2 : ByteArray) (v18_3 : ByteArray) (v18_4 : Bool) =>
  VCall none Try.prog 13 #[.agg #[.int .u8 v18_0, .string v18_1, .string v18_2, .string v18_3, .bool v18_4]] w2 (.int .i64 0) fun (r19 : Int) (w3 : World) =>
  VSet r19 fun (e_14 : Int) =>
  VIf (e_14 != 0) (
    VSt none w3 ⟨b12, 0, none⟩ [.int .u8 0, .bool false, .string ByteArray.empty] fun (w4 : World) =>
    VSet e_14 fun (v13 : Int) =>
    VLd none w4 ⟨b12, 0, none⟩ [CT.int .u8, CT.bool, CT.str] fun (res12_0 : Int) (res12_1 : Bool) (res12_2 : ByteArray) =>
    R (.returned (.tuple #[.slice none 0 0, .slice none 0 0, .agg #[.int .u8 res12_0, .bool res12_1, .string res12_2], .int .i64 v13])) w4
  ) (
    VLd none w3 ⟨op_9, 0, none⟩ [CT.int .u8] fun (v25 : Int) =>
    VIf (v25 == 1) (
      VSt none w3 ⟨b12, 0, none⟩ [.int .u8 0, .bool false, .string ByteArray.empty] fun (w5 : World) =>
      VLd none w5 ⟨b12, 0, none⟩ [CT.int .u8, CT.bool, CT.str] fun (res12_0 : Int) (res12_1 : Bool) (res12_2 : ByteArray) =>
      R (.returned (.tuple #[.slice none 0 0, .slice none 0 0, .agg #[.int .u8 res12_0, .bool res12_1, .string res12_2], .int .i64 1])) w5
    ) (
      VCall none Try.prog 20 #[.slice l_1.base l_1.len l_1.cap, .int .i64 client_2, .int .i64 id_3] w3 (.tuple #[.agg #[.int .u8 0, .bool false, .string ByteArray.empty], .int .i64 0]) fun (r32_0 : Int) (r32_1 : Bool) (r32_2 : ByteArray) (r32_3 : Int) (w6 : World) =>
      VNw none w6 (.cells #[.int .u8 0, .bool false, .string ByteArray.empty] 31) fun (r_15 : Nat) (w7 : World) =>
      VSt none w7 ⟨r_15, 0, none⟩ [.int .u8 r32_0, .bool r32_1, .string r32_2] fun (w8 : World) =>
      VSet r32_3 fun (e_14' : Int) =>
      VIf (e_14' == 6) (
        VSt none w8 ⟨b12, 0, none⟩ [.int .u8 0, .bool false, .string ByteArray.empty] fun (w9 : World) =>
        VSet e_14' fun (v13' : Int) =>
        VLd none w9 ⟨b12, 0, none⟩ [CT.int .u8, CT.bool, CT.str] fun (res12_0 : Int) (res12_1 : Bool) (res12_2 : ByteArray) =>
        R (.returned (.tuple #[.slice none 0 0, .slice none 0 0, .agg #[.int .u8 res12_0, .bool res12_1, .string res12_2], .int .i64 v13'])) w9
      ) (
        VIf (e_14' == 0) (
          ∃ Φ1 : Sl → Sl → Int → World → Prop, (
            ∀ (w10 : World), w10 = World.drew w8 →
            VLd none w10 ⟨r_15, 0, none⟩ [CT.int .u8, CT.bool, CT.str] fun (v47_0 : Int) (v47_1 : Bool) (v47_2 : ByteArray) =>
            (
              VNw none w10 (.cells #[] 36) fun (b41 : Nat) (w11 : World) =>
              Rd w11 ⟨r_15, 0, none⟩ [.int .u8 v47_0, .bool v47_1, .string v47_2] ∧
              (
                VApp none w11 36 2 32 #[.string ByteArray.empty, .string ByteArray.empty] (some ⟨b41, 0, none⟩) 0 0 m_0.len (fun news => Seg w11 m_0.base m_0.len 2 news) fun (l43 : Sl) (w12 : World) =>
                Rd w12 ⟨r_15, 0, none⟩ [.int .u8 v47_0, .bool v47_1, .string v47_2] ∧
                VNw none w12 (.cells #[] 42) fun (b44 : Nat) (w13 : World) =>
                Rd w13 ⟨r_15, 0, none⟩ [.int .u8 v47_0, .bool v47_1, .string v47_2] ∧
                VApp none w13 42 5 40 #[.int .i64 0, .int .i64 0, .int .u8 0, .bool false, .string ByteArray.empty] (some ⟨b44, 0, none⟩) 0 0 l_1.len (fun news => Seg w13 l_1.base l_1.len 5 news) fun (l46 : Sl) (w14 : World) =>
                Rd w14 ⟨r_15, 0, none⟩ [.int .u8 v47_0, .bool v47_1, .string v47_2] ∧
                VSt none w14 ⟨b12, 0, none⟩ [.int .u8 v47_0, .bool v47_1, .string v47_2] fun (w15 : World) =>
                Φ1 l43 l46 0 w15
              ) ∧ (
                VNw none w11 (.cells #[] 42) fun (b44 : Nat) (w16 : World) =>
                Rd w16 ⟨r_15, 0, none⟩ [.int .u8 v47_0, .bool v47_1, .string v47_2] ∧
                VApp none w16 36 2 32 #[.string ByteArray.empty, .string ByteArray.empty] (some ⟨b41, 0, none⟩) 0 0 m_0.len (fun news => Seg w16 m_0.base m_0.len 2 news) fun (l43 : Sl) (w17 : World) =>
                Rd w17 ⟨r_15, 0, none⟩ [.int .u8 v47_0, .bool v47_1, .string v47_2] ∧
                VApp none w17 42 5 40 #[.int .i64 0, .int .i64 0, .int .u8 0, .bool false, .string ByteArray.empty] (some ⟨b44, 0, none⟩) 0 0 l_1.len (fun news => Seg w17 l_1.base l_1.len 5 news) fun (l46 : Sl) (w18 : World) =>
                Rd w18 ⟨r_15, 0, none⟩ [.int .u8 v47_0, .bool v47_1, .string v47_2] ∧
                VSt none w18 ⟨b12, 0, none⟩ [.int .u8 v47_0, .bool v47_1, .string v47_2] fun (w19 : World) =>
                Φ1 l43 l46 0 w19
              )
            ) ∧ (
              VNw none w10 (.cells #[] 42) fun (b44 : Nat) (w20 : World) =>
              Rd w20 ⟨r_15, 0, none⟩ [.int .u8 v47_0, .bool v47_1, .string v47_2] ∧
              VNw none w20 (.cells #[] 36) fun (b41 : Nat) (w21 : World) =>
              Rd w21 ⟨r_15, 0, none⟩ [.int .u8 v47_0, .bool v47_1, .string v47_2] ∧
              VApp none w21 36 2 32 #[.string ByteArray.empty, .string ByteArray.empty] (some ⟨b41, 0, none⟩) 0 0 m_0.len (fun news => Seg w21 m_0.base m_0.len 2 news) fun (l43 : Sl) (w22 : World) =>
              Rd w22 ⟨r_15, 0, none⟩ [.int .u8 v47_0, .bool v47_1, .string v47_2] ∧
              VApp none w22 42 5 40 #[.int .i64 0, .int .i64 0, .int .u8 0, .bool false, .string ByteArray.empty] (some ⟨b44, 0, none⟩) 0 0 l_1.len (fun news => Seg w22 l_1.base l_1.len 5 news) fun (l46 : Sl) (w23 : World) =>
              Rd w23 ⟨r_15, 0, none⟩ [.int .u8 v47_0, .bool v47_1, .string v47_2] ∧
              VSt none w23 ⟨b12, 0, none⟩ [.int .u8 v47_0, .bool v47_1, .string v47_2] fun (w24 : World) =>
              Φ1 l43 l46 0 w24
            )
          ) ∧ ∀ (x10 : Sl) (x11 : Sl) (x13 : Int) (w25 : World), Φ1 x10 x11 x13 w25 →
          VLd none w25 ⟨b12, 0, none⟩ [CT.int .u8, CT.bool, CT.str] fun (res12_0 : Int) (res12_1 : Bool) (res12_2 : ByteArray) =>
          R (.returned (.tuple #[.slice x10.base x10.len x10.cap, .slice x11.base x11.len x11.cap, .agg #[.int .u8 res12_0, .bool res12_1, .string res12_2], .int .i64 x13])) w25
        ) (
          VLd none w8 ⟨op_9, 0, none⟩ [CT.int .u8, CT.str, CT.str, CT.str, CT.bool] fun (v50_0 : Int) (v50_1 : ByteArray) (v50_2 : ByteArray) (v50_3 : ByteArray) (v50_4 : Bool) =>
          VCall none Try.prog 17 #[.slice m_0.base m_0.len m_0.cap, .agg #[.int .u8 v50_0, .string v50_1, .string v50_2, .string v50_3, .bool v50_4]] w8 (.tuple #[.slice none 0 0, .agg #[.int .u8 0, .bool false, .string ByteArray.empty], .int .i64 0]) fun (r51_0 : Sl) (r51_1 : Int) (r51_2 : Bool) (r51_3 : ByteArray) (r51_4 : Int) (w26 : World) =>
          VSt none w26 ⟨r_15, 0, none⟩ [.int .u8 r51_1, .bool r51_2, .string r51_3] fun (w27 : World) =>
          VSet r51_4 fun (v17 : Int) =>
          ∀ (w28 : World), w28 = World.drew w27 →
          VLd none w28 ⟨r_15, 0, none⟩ [CT.int .u8, CT.bool, CT.str] fun (v59_0 : Int) (v59_1 : Bool) (v59_2 : ByteArray) =>
          VLd none w28 ⟨r_15, 0, none⟩ [CT.int .u8, CT.bool, CT.str] fun (v62_0 : Int) (v62_1 : Bool) (v62_2 : ByteArray) =>
          VCall none Try.prog 23 #[.slice l_1.base l_1.len l_1.cap, .agg #[.int .i64 client_2, .int .i64 id_3, .int .u8 v59_0, .bool v59_1, .string v59_2]] w28 (.slice none 0 0) fun (r61 : Sl) (w29 : World) =>
          Rd w29 ⟨r_15, 0, none⟩ [.int .u8 v62_0, .bool v62_1, .string v62_2] ∧
          VSt none w29 ⟨b12, 0, none⟩ [.int .u8 v62_0, .bool v62_1, .string v62_2] fun (w30 : World) =>
          VLd none w30 ⟨b12, 0, none⟩ [CT.int .u8, CT.bool, CT.str] fun (res12_0 : Int) (res12_1 : Bool) (res12_2 : ByteArray) =>
          R (.returned (.tuple #[.slice r51_0.base r51_0.len r51_0.cap, .slice r61.base r61.len r61.cap, .agg #[.int .u8 res12_0, .bool res12_1, .string res12_2], .int .i64 0])) w30
        )
      )
    )
  )
theorem sh_butteryref09_Step_ok (m_0 : Sl) (l_1 : Sl) (client_2 : Int) (id_3 : Int) (op_4_0 : Int) (op_4_1 : ByteArray) (op_4_2 : ByteArray) (op_4_3 : ByteArray) (op_4_4 : Bool) (w : World) (R : Ending → World → Prop) (h : sh_butteryref09_Step m_0 l_1 client_2 id_3 op_4_0 op_4_1 op_4_2 op_4_3 op_4_4 w R) : Calls Try.prog 25 #[.slice m_0.base m_0.len m_0.cap, .slice l_1.base l_1.len l_1.cap, .int .i64 client_2, .int .i64 id_3, .agg #[.int .u8 op_4_0, .string op_4_1, .string op_4_2, .string op_4_3, .bool op_4_4]] w R :=
  calls_of_sh (args := [.slice m_0.base m_0.len m_0.cap, .slice l_1.base l_1.len l_1.cap, .int .i64 client_2, .int .i64 id_3, .agg #[.int .u8 op_4_0, .string op_4_1, .string op_4_2, .string op_4_3, .bool op_4_4]]) (.two .auto (.two .auto (.two (.two .auto (.two (.two .auto .auto) .auto)) (.two (.two .auto (.two (.two .auto .auto) .auto)) (.two .auto (.two (.two .auto (.two (.two .auto .auto) .auto)) (.two (.two .auto (.two (.two (.bjoin [(10, .slice none 0 0), (11, .slice none 0 0), (13, .int .i64 0)] .auto) .auto) .auto)) (.two .auto (.two .auto .auto))))))))) Try.func25 (by kernel_rfl) (by kernel_rfl) (by kernel_rfl) h

/-- 26: buttery/butterylaw09.works -/
def sh_butterylaw09_works (w : World) (R : Ending → World → Prop) : Prop :=
  VCall none Try.prog 16 #[.slice none 0 0, .agg #[.int .u8 2, .string (ByteArray.mk #[97]), .string (ByteArray.mk #[49]), .string ByteArray.empty, .bool false]] w (.tuple #[.slice none 0 0, .agg #[.int .u8 0, .bool false, .string ByteArray.empty], .int .i64 0]) fun (r18_0 : Sl) (r18_1 : Int) (r18_2 : Bool) (r18_3 : ByteArray) (r18_4 : Int) (w1 : World) =>
  VNw none w1 (.cells #[.int .u8 0, .bool false, .string ByteArray.empty] 31) fun (r_2 : Nat) (w2 : World) =>
  VSt none w2 ⟨r_2, 0, none⟩ [.int .u8 r18_1, .bool r18_2, .string r18_3] fun (w3 : World) =>
  VSet r18_4 fun (e_3 : Int) =>
  VLd (some (!(e_3 != 0))) w3 ⟨r_2, 0, none⟩ [CT.int .u8, CT.bool, CT.str] fun (v25_0 : Int) (v25_1 : Bool) (v25_2 : ByteArray) =>
  VIx (some (!(((e_3 != 0) || (!((v25_0 == 1) && ((v25_1 == false) && (v25_2.toList == ByteArray.empty.toList))))) || (((r18_0.len : Nat) : Int) != 1)))) r18_0.base r18_0.len 0 fun (a36 : Addr) =>
  VLd (some (!(((e_3 != 0) || (!((v25_0 == 1) && ((v25_1 == false) && (v25_2.toList == ByteArray.empty.toList))))) || (((r18_0.len : Nat) : Int) != 1)))) w3 a36 [CT.str, CT.str] fun (v37_0 : ByteArray) (v37_1 : ByteArray) =>
  VIf ((((e_3 != 0) || (!((v25_0 == 1) && ((v25_1 == false) && (v25_2.toList == ByteArray.empty.toList))))) || (((r18_0.len : Nat) : Int) != 1)) || (!((v37_0.toList == (ByteArray.mk #[97]).toList) && (v37_1.toList == (ByteArray.mk #[49]).toList)))) (
    R (.returned (.bool false)) w3
  ) (
    VNw none w3 (.cells #[.int .i64 201, .int .i64 5, .int .u8 1, .bool false, .string ByteArray.empty] 42) fun (b43 : Nat) (w4 : World) =>
    VNw none w4 (.cells #[.int .u8 0, .string ByteArray.empty, .string ByteArray.empty, .string ByteArray.empty, .bool false] 24) fun (del_5 : Nat) (w5 : World) =>
    VSt none w5 ⟨del_5, 0, none⟩ [.int .u8 3, .string (ByteArray.mk #[97]), .string ByteArray.empty, .string ByteArray.empty, .bool false] fun (w6 : World) =>
    VLd none w6 ⟨del_5, 0, none⟩ [CT.int .u8, CT.str, CT.str, CT.str, CT.bool] fun (v48_0 : Int) (v48_1 : ByteArray) (v48_2 : ByteArray) (v48_3 : ByteArray) (v48_4 : Bool) =>
    VCall none Try.prog 24 #[.slice r18_0.base r18_0.len r18_0.cap, .slice (some ⟨b43, 0, none⟩) 1 1, .int .i64 201, .int .i64 5, .agg #[.int .u8 v48_0, .string v48_1, .string v48_2, .string v48_3, .bool v48_4]] w6 (.tuple #[.slice none 0 0, .slice none 0 0, .agg #[.int .u8 0, .bool false, .string ByteArray.empty], .int .i64 0]) fun (r49_0 : Sl) (r49_1 : Sl) (r49_2 : Int) (r49_3 : Bool) (r49_4 : ByteArray) (r49_5 : Int) (w7 : World) =>
    VSt none w7 ⟨r_2, 0, none⟩ [.int .u8 r49_2, .bool r49_3, .string r49_4] fun (w8 : World) =>
    VSet r49_5 fun (e_3' : Int) =>
    VLd none w8 ⟨del_5, 0, none⟩ [CT.int .u8, CT.str, CT.str, CT.str, CT.bool] fun (v57_0 : Int) (v57_1 : ByteArray) (v57_2 : ByteArray) (v57_3 : ByteArray) (v57_4 : Bool) =>
    VCall none Try.prog 24 #[.slice r18_0.base r18_0.len r18_0.cap, .slice (some ⟨b43, 0, none⟩) 1 1, .int .i64 201, .int .i64 6, .agg #[.int .u8 v57_0, .string v57_1, .string v57_2, .string v57_3, .bool v57_4]] w8 (.tuple #[.slice none 0 0, .slice none 0 0, .agg #[.int .u8 0, .bool false, .string ByteArray.empty], .int .i64 0]) fun (r58_0 : Sl) (r58_1 : Sl) (r58_2 : Int) (r58_3 : Bool) (r58_4 : ByteArray) (r58_5 : Int) (w9 : World) =>
    VNw none w9 (.cells #[.int .u8 0, .bool false, .string ByteArray.empty] 31) fun (s_10 : Nat) (w10 : World) =>
    VSt none w10 ⟨s_10, 0, none⟩ [.int .u8 r58_2, .bool r58_3, .string r58_4] fun (w11 : World) =>
    VSet r58_5 fun (f_11 : Int) =>
    VLd none w11 ⟨del_5, 0, none⟩ [CT.int .u8, CT.str, CT.str, CT.str, CT.bool] fun (v66_0 : Int) (v66_1 : ByteArray) (v66_2 : ByteArray) (v66_3 : ByteArray) (v66_4 : Bool) =>
    VCall none Try.prog 24 #[.slice r18_0.base r18_0.len r18_0.cap, .slice (some ⟨b43, 0, none⟩) 1 1, .int .i64 201, .int .i64 4, .agg #[.int .u8 v66_0, .string v66_1, .string v66_2, .string v66_3, .bool v66_4]] w11 (.tuple #[.slice none 0 0, .slice none 0 0, .agg #[.int .u8 0, .bool false, .string ByteArray.empty], .int .i64 0]) fun (r67_0 : Sl) (r67_1 : Sl) (r67_2 : Int) (r67_3 : Bool) (r67_4 : ByteArray) (r67_5 : Int) (w12 : World) =>
    VNw none w12 (.cells #[.int .u8 0, .bool false, .string ByteArray.empty] 31) fun (b14 : Nat) (w13 : World) =>
    VSt none w13 ⟨b14, 0, none⟩ [.int .u8 r67_2, .bool r67_3, .string r67_4] fun (w14 : World) =>
    VSet r67_5 fun (g_15 : Int) =>
    ∀ (w15 : World), w15 = World.drew w14 →
    VLd (some (e_3' == 0)) w15 ⟨r_2, 0, none⟩ [CT.int .u8, CT.bool, CT.str] fun (v75_0 : Int) (v75_1 : Bool) (v75_2 : ByteArray) =>
    VIx (some (e_3' == 0)) (some ⟨b43, 0, none⟩) 1 0 fun (a77 : Addr) =>
    VLd (some (e_3' == 0)) w15 (Addr.add a77 2) [CT.int .u8, CT.bool, CT.str] fun (v79_0 : Int) (v79_1 : Bool) (v79_2 : ByteArray) =>
    VLd (some ((((((e_3' == 0) && ((v75_0 == v79_0) && ((v75_1 == v79_1) && (v75_2.toList == v79_2.toList)))) && (((r49_0.len : Nat) : Int) == 1)) && (((r49_1.len : Nat) : Int) == 1)) && (f_11 == 0)) && (((r58_0.len : Nat) : Int) == 0))) w15 ⟨s_10, 1, none⟩ [CT.bool] fun (v103 : Bool) =>
    VIx (some ((((((((e_3' == 0) && ((v75_0 == v79_0) && ((v75_1 == v79_1) && (v75_2.toList == v79_2.toList)))) && (((r49_0.len : Nat) : Int) == 1)) && (((r49_1.len : Nat) : Int) == 1)) && (f_11 == 0)) && (((r58_0.len : Nat) : Int) == 0)) && v103) && (((r58_1.len : Nat) : Int) == 1))) r58_1.base r58_1.len 0 fun (a112 : Addr) =>
    VLd (some ((((((((e_3' == 0) && ((v75_0 == v79_0) && ((v75_1 == v79_1) && (v75_2.toList == v79_2.toList)))) && (((r49_0.len : Nat) : Int) == 1)) && (((r49_1.len : Nat) : Int) == 1)) && (f_11 == 0)) && (((r58_0.len : Nat) : Int) == 0)) && v103) && (((r58_1.len : Nat) : Int) == 1))) w15 (Addr.add a112 1) [CT.int .i64] fun (v114 : Int) =>
    R (.returned (.bool ((((((((((e_3' == 0) && ((v75_0 == v79_0) && ((v75_1 == v79_1) && (v75_2.toList == v79_2.toList)))) && (((r49_0.len : Nat) : Int) == 1)) && (((r49_1.len : Nat) : Int) == 1)) && (f_11 == 0)) && (((r58_0.len : Nat) : Int) == 0)) && v103) && (((r58_1.len : Nat) : Int) == 1)) && (v114 == 6)) && (g_15 == 6)))) w15
  )
theorem sh_butterylaw09_works_ok (w : World) (R : Ending → World → Prop) (h : sh_butterylaw09_works w R) : Calls Try.prog 26 #[] w R :=
  calls_of_sh (args := []) (.two .auto (.two .auto (.two (.two .auto (.two (.two .auto .auto) .auto)) (.two .auto (.two .auto (.two .auto (.two .auto (.two .auto (.two .auto .auto))))))))) Try.func26 (by kernel_rfl) (by kernel_rfl) (by kernel_rfl) h

/-- 27: buttery/butterylaw09.rising -/
def sh_butterylaw09_rising (m_0 : Sl) (w : World) (R : Ending → World → Prop) : Prop :=
  ∃ I1 : Nat → Int → World → Prop, (∃ k, I1 k 1 w) ∧ ∀ k1 (i_3 : Int) (w1 : World), I1 k1 i_3 w1 →
  VIf (decide (i_3 < ((m_0.len : Nat) : Int))) (
    ∀ (w2 : World), w2 = World.drew w1 →
    VIx none m_0.base m_0.len (IntKind.wrap .i64 (i_3 - 1)) fun (a13 : Addr) =>
    VLd none w2 (Addr.add a13 ((Int.toNat (IntKind.wrap .i64 (i_3 - 1))) * 2)) [CT.str] fun (v15 : ByteArray) =>
    VIx none m_0.base m_0.len i_3 fun (a18 : Addr) =>
    VLd none w2 (Addr.add a18 ((Int.toNat i_3) * 2)) [CT.str] fun (v20 : ByteArray) =>
    VIf (!(Op.bytesLess v15.toList v20.toList)) (
      R (.returned (.bool false)) w2
    ) (
      VSet (IntKind.wrap .i64 (i_3 + 1)) fun (i_3' : Int) =>
      ∃ k', k' < k1 ∧ I1 k' i_3' w2
    )
  ) (
    R (.returned (.bool true)) w1
  )
theorem sh_butterylaw09_rising_ok (m_0 : Sl) (w : World) (R : Ending → World → Prop) (h : sh_butterylaw09_rising m_0 w R) : Calls Try.prog 27 #[.slice m_0.base m_0.len m_0.cap] w R :=
  calls_of_sh (args := [.slice m_0.base m_0.len m_0.cap]) (.two .auto (.two (.two .auto (.one (.loop [(3, .int .i64 0)] (.two (.two .auto (.two .auto .auto)) (.two (.one (.two .auto (.two (.two .auto .auto) .auto))) .auto))))) (.two .auto .auto))) Try.func27 (by kernel_rfl) (by kernel_rfl) (by kernel_rfl) h

/-- 28: slices.IndexFunc of  of buttery/api.Pair,buttery/api.Pair -/
def sh_slices_IndexFunc (s_0 : Sl) (f_1 : Value) (w : World) (R : Ending → World → Prop) : Prop :=
  ∃ I1 : Nat → Int → World → Prop, (∃ k, I1 k 0 w) ∧ ∀ k1 (x8 : Int) (w1 : World), I1 k1 x8 w1 →
  VIf (decide (x8 < ((s_0.len : Nat) : Int))) (
    VSet x8 fun (i_5 : Int) =>
    VIx none s_0.base s_0.len i_5 fun (a14 : Addr) =>
    VLd none w1 (Addr.add a14 ((Int.toNat i_5) * 2)) [CT.str, CT.str] fun (v15_0 : ByteArray) (v15_1 : ByteArray) =>
    VDyn none Try.prog f_1 #[.agg #[.string v15_0, .string v15_1]] w1 (.bool false) fun (r16 : Bool) (w2 : World) =>
    VIf r16 (
      VSet i_5 fun (v4 : Int) =>
      R (.returned (.int .i64 v4)) w2
    ) (
      ∃ k', k' < k1 ∧ I1 k' (IntKind.wrap .i64 (x8 + 1)) w2
    )
  ) (
    R (.returned (.int .i64 (-1))) w1
  )
theorem sh_slices_IndexFunc_ok (s_0 : Sl) (f_1 : Value) (w : World) (R : Ending → World → Prop) (h : sh_slices_IndexFunc s_0 f_1 w R) : Calls Try.prog 28 #[.slice s_0.base s_0.len s_0.cap, f_1] w R :=
  calls_of_sh (args := [.slice s_0.base s_0.len s_0.cap, f_1]) (.two .auto (.two (.two .auto (.one (.loop [(8, .int .i64 0)] (.two .auto (.two (.two .auto .auto) (.two (.one (.two .auto (.two .auto (.two (.two .auto .auto) .auto)))) .auto)))))) (.two .auto .auto))) Try.func28 (by kernel_rfl) (by kernel_rfl) (by kernel_rfl) h

/-- 29: buttery/dedup.Find$1 -/
def sh_dedup_Find_1 (p_0_0 : ByteArray) (p_0_1 : ByteArray) (cap0 : Addr) (w : World) (R : Ending → World → Prop) : Prop :=
  VNw none w (.cells #[.string p_0_0, .string p_0_1] 36) fun (p_2 : Nat) (w1 : World) =>
  VLd none w1 ⟨p_2, 0, none⟩ [CT.str] fun (v5 : ByteArray) =>
  VLd none w1 cap0 [CT.str] fun (v6 : ByteArray) =>
  R (.returned (.bool (v5.toList == v6.toList))) w1
theorem sh_dedup_Find_1_ok (p_0_0 : ByteArray) (p_0_1 : ByteArray) (cap0 : Addr) (w : World) (R : Ending → World → Prop) (h : sh_dedup_Find_1 p_0_0 p_0_1 cap0 w R) : Calls Try.prog 29 #[.agg #[.string p_0_0, .string p_0_1], .pointer (some cap0)] w R :=
  calls_of_sh (args := [.agg #[.string p_0_0, .string p_0_1], .pointer (some cap0)]) (.two .auto (.two .auto .auto)) Try.func29 (by kernel_rfl) (by kernel_rfl) (by kernel_rfl) h

/-- 30: slices.Clone of  of buttery/api.Pair,buttery/api.Pair -/
def sh_slices_Clone (s_0 : Sl) (w : World) (R : Ending → World → Prop) : Prop :=
  VIf s_0.base.isNone (
    R (.returned (.slice none 0 0)) w
  ) (
    VNw none w (.cells #[] 36) fun (b5 : Nat) (w1 : World) =>
    VApp none w1 36 2 32 #[.string ByteArray.empty, .string ByteArray.empty] (some ⟨b5, 0, none⟩) 0 0 s_0.len (fun news => Seg w1 s_0.base s_0.len 2 news) fun (l7 : Sl) (w2 : World) =>
    R (.returned (.slice l7.base l7.len l7.cap)) w2
  )
theorem sh_slices_Clone_ok (s_0 : Sl) (w : World) (R : Ending → World → Prop) (h : sh_slices_Clone s_0 w R) : Calls Try.prog 30 #[.slice s_0.base s_0.len s_0.cap] w R :=
  calls_of_sh (args := [.slice s_0.base s_0.len s_0.cap]) (.two .auto (.two (.two .auto (.two (.two .auto .auto) .auto)) (.two .auto .auto))) Try.func30 (by kernel_rfl) (by kernel_rfl) (by kernel_rfl) h

/-- 31: slices.DeleteFunc of  of buttery/api.Pair,buttery/api.Pair -/
def sh_slices_DeleteFunc (s_0 : Sl) (del_1 : Value) (w : World) (R : Ending → World → Prop) : Prop :=
  VCall none Try.prog 28 #[.slice s_0.base s_0.len s_0.cap, del_1] w (.int .i64 0) fun (r10 : Int) (w1 : World) =>
  VSet r10 fun (i_5 : Int) =>
  VIf (i_5 == (-1)) (
    R (.returned (.slice s_0.base s_0.len s_0.cap)) w1
  ) (
    VSet (IntKind.wrap .i64 (i_5 + 1)) fun (j_6 : Int) =>
    ∃ I1 : Nat → Int → Int → World → Prop, (∃ k, I1 k i_5 j_6 w1) ∧ ∀ k1 (i_5' : Int) (j_6' : Int) (w2 : World), I1 k1 i_5' j_6' w2 →
    VIf (decide (j_6' < ((s_0.len : Nat) : Int))) (
      ∃ Φ2 : Int → World → Prop, (
        VIx none s_0.base s_0.len j_6' fun (a24 : Addr) =>
        VLd none w2 (Addr.add a24 ((Int.toNat j_6') * 2)) [CT.str, CT.str] fun (v25_0 : ByteArray) (v25_1 : ByteArray) =>
        VNw none w2 (.cells #[.string ByteArray.empty, .string ByteArray.empty] 36) fun (v_7 : Nat) (w3 : World) =>
        VSt none w3 ⟨v_7, 0, none⟩ [.string v25_0, .string v25_1] fun (w4 : World) =>
        VLd none w4 ⟨v_7, 0, none⟩ [CT.str, CT.str] fun (v27_0 : ByteArray) (v27_1 : ByteArray) =>
        VDyn none Try.prog del_1 #[.agg #[.string v27_0, .string v27_1]] w4 (.bool false) fun (r28 : Bool) (w5 : World) =>
        VIf (!r28) (
          VLd none w5 ⟨v_7, 0, none⟩ [CT.str, CT.str] fun (v32_0 : ByteArray) (v32_1 : ByteArray) =>
          VIx none s_0.base s_0.len i_5' fun (a33 : Addr) =>
          VSt none w5 (Addr.add a33 ((Int.toNat i_5') * 2)) [.string v32_0, .string v32_1] fun (w6 : World) =>
          VSet (IntKind.wrap .i64 (i_5' + 1)) fun (i_5_3 : Int) =>
          Φ2 i_5_3 w6
        ) (
          Φ2 i_5' w5
        )
      ) ∧ ∀ (i_5'' : Int) (w7 : World), Φ2 i_5'' w7 →
      VSet (IntKind.wrap .i64 (j_6' + 1)) fun (j_6'' : Int) =>
      ∃ k', k' < k1 ∧ I1 k' i_5'' j_6'' w7
    ) (
      VCk none ((0 : Int) ≤ i_5' ∧ (i_5' : Int) ≤ ((s_0.len : Nat) : Int) ∧ (((s_0.len : Nat) : Int) : Int) ≤ ((s_0.cap : Nat) : Int)) (
        VRun none Try.prog (Builtin.clear_ #[22] 0 #[.slice (cutB s_0.base s_0.cap 2 (Int.toNat i_5')) (s_0.len - (Int.toNat i_5')) (s_0.cap - (Int.toNat i_5'))]) w2 (.tuple #[]) fun (w8 : World) =>
        VCk none ((0 : Int) ≤ 0 ∧ (0 : Int) ≤ i_5' ∧ (i_5' : Int) ≤ ((s_0.cap : Nat) : Int)) (
          R (.returned (.slice (cutB s_0.base s_0.cap 2 0) ((Int.toNat i_5') - 0) (s_0.cap - 0))) w8
        )
      )
    )
  )
theorem sh_slices_DeleteFunc_ok (s_0 : Sl) (del_1 : Value) (w : World) (R : Ending → World → Prop) (h : sh_slices_DeleteFunc s_0 del_1 w R) : Calls Try.prog 31 #[.slice s_0.base s_0.len s_0.cap, del_1] w R :=
  calls_of_sh (args := [.slice s_0.base s_0.len s_0.cap, del_1]) (.two .auto (.two .auto (.two (.two .auto (.two (.two .auto .auto) .auto)) (.two (.two .auto (.one (.loop [(5, .int .i64 0), (6, .int .i64 0)] (.two (.two .auto (.two .auto .auto)) (.two (.bjoin [(5, .int .i64 0)] (.two .auto (.two .auto (.two (.two .auto .auto) .auto)))) .auto))))) (.two .auto (.two .auto .auto)))))) Try.func31 (by kernel_rfl) (by kernel_rfl) (by kernel_rfl) h

/-- 32: buttery/dedup.Do$1 -/
def sh_dedup_Do_1 (p_0_0 : ByteArray) (p_0_1 : ByteArray) (cap0 : Addr) (w : World) (R : Ending → World → Prop) : Prop :=
  VNw none w (.cells #[.string p_0_0, .string p_0_1] 36) fun (p_2 : Nat) (w1 : World) =>
  VLd none w1 ⟨p_2, 0, none⟩ [CT.str] fun (v5 : ByteArray) =>
  VLd none w1 (Addr.add cap0 1) [CT.str] fun (v7 : ByteArray) =>
  R (.returned (.bool (v5.toList == v7.toList))) w1
theorem sh_dedup_Do_1_ok (p_0_0 : ByteArray) (p_0_1 : ByteArray) (cap0 : Addr) (w : World) (R : Ending → World → Prop) (h : sh_dedup_Do_1 p_0_0 p_0_1 cap0 w R) : Calls Try.prog 32 #[.agg #[.string p_0_0, .string p_0_1], .pointer (some cap0)] w R :=
  calls_of_sh (args := [.agg #[.string p_0_0, .string p_0_1], .pointer (some cap0)]) (.two .auto (.two .auto .auto)) Try.func32 (by kernel_rfl) (by kernel_rfl) (by kernel_rfl) h

/-- 33: buttery/dedup.put of buttery/api.Pair,string -/
def sh_dedup_put (l_0 : Sl) (x_1_0 : ByteArray) (x_1_1 : ByteArray) (key_2 : Value) (w : World) (R : Ending → World → Prop) : Prop :=
  VNw none w (.cells #[.string x_1_0, .string x_1_1] 36) fun (x_4 : Nat) (w1 : World) =>
  VNw none w1 (.cells (Value.cells key_2) 73) fun (key_5 : Nat) (w2 : World) =>
  VCall none Try.prog 30 #[.slice l_0.base l_0.len l_0.cap] w2 (.slice none 0 0) fun (r12 : Sl) (w3 : World) =>
  VLd none w3 ⟨key_5, 0, none⟩ [CT.any] fun (v13 : Value) =>
  VLd none w3 ⟨x_4, 0, none⟩ [CT.str, CT.str] fun (v14_0 : ByteArray) (v14_1 : ByteArray) =>
  VDyn none Try.prog v13 #[.agg #[.string v14_0, .string v14_1]] w3 (.string ByteArray.empty) fun (r15 : ByteArray) (w4 : World) =>
  VNw none w4 (.cells #[.string ByteArray.empty] 9) fun (k_8 : Nat) (w5 : World) =>
  VSt none w5 ⟨k_8, 0, none⟩ [.string r15] fun (w6 : World) =>
  VCall none Try.prog 28 #[.slice r12.base r12.len r12.cap, .func (.func 41) #[] #[.pointer (some ⟨key_5, 0, none⟩), .pointer (some ⟨k_8, 0, none⟩)]] w6 (.int .i64 0) fun (r18 : Int) (w7 : World) =>
  VSet r18 fun (i_9 : Int) =>
  VIf (decide (i_9 ≥ 0)) (
    VLd none w7 ⟨x_4, 0, none⟩ [CT.str, CT.str] fun (v23_0 : ByteArray) (v23_1 : ByteArray) =>
    VIx none r12.base r12.len i_9 fun (a24 : Addr) =>
    VSt none w7 (Addr.add a24 ((Int.toNat i_9) * 2)) [.string v23_0, .string v23_1] fun (w8 : World) =>
    R (.returned (.slice r12.base r12.len r12.cap)) w8
  ) (
    VCall none Try.prog 28 #[.slice r12.base r12.len r12.cap, .func (.func 42) #[] #[.pointer (some ⟨key_5, 0, none⟩), .pointer (some ⟨k_8, 0, none⟩)]] w7 (.int .i64 0) fun (r28 : Int) (w9 : World) =>
    VSet r28 fun (i_10 : Int) =>
    ∃ Φ1 : Int → World → Prop, (
      VIf (decide (i_10 < 0)) (
        VSet ((r12.len : Nat) : Int) fun (i_10'' : Int) =>
        Φ1 i_10'' w9
      ) (
        Φ1 i_10 w9
      )
    ) ∧ ∀ (i_10' : Int) (w10 : World), Φ1 i_10' w10 →
    VLd none w10 ⟨x_4, 0, none⟩ [CT.str, CT.str] fun (v35_0 : ByteArray) (v35_1 : ByteArray) =>
    VNw none w10 (.cells #[.string v35_0, .string v35_1] 36) fun (b36 : Nat) (w11 : World) =>
    VCall none Try.prog 43 #[.slice r12.base r12.len r12.cap, .int .i64 i_10', .slice (some ⟨b36, 0, none⟩) 1 1] w11 (.slice none 0 0) fun (r37 : Sl) (w12 : World) =>
    R (.returned (.slice r37.base r37.len r37.cap)) w12
  )
theorem sh_dedup_put_ok (l_0 : Sl) (x_1_0 : ByteArray) (x_1_1 : ByteArray) (key_2 : Value) (w : World) (R : Ending → World → Prop) (h : sh_dedup_put l_0 x_1_0 x_1_1 key_2 w R) : Calls Try.prog 33 #[.slice l_0.base l_0.len l_0.cap, .agg #[.string x_1_0, .string x_1_1], key_2] w R :=
  calls_of_sh (args := [.slice l_0.base l_0.len l_0.cap, .agg #[.string x_1_0, .string x_1_1], key_2]) (.two .auto (.two .auto (.two .auto (.two (.two .auto (.two .auto (.two (.two .auto (.two .auto .auto)) .auto))) (.two .auto (.join [(10, .int .i64 0)] (.two .auto (.two .auto .auto)) (.two .auto .auto))))))) Try.func33 (by kernel_rfl) (by kernel_rfl) (by kernel_rfl) h

/-- 34: buttery/dedup.pair -/
def sh_dedup_pair (p_0_0 : ByteArray) (p_0_1 : ByteArray) (w : World) (R : Ending → World → Prop) : Prop :=
  VNw none w (.cells #[.string p_0_0, .string p_0_1] 36) fun (p_1 : Nat) (w1 : World) =>
  VLd none w1 ⟨p_1, 0, none⟩ [CT.str] fun (v4 : ByteArray) =>
  R (.returned (.string v4)) w1
theorem sh_dedup_pair_ok (p_0_0 : ByteArray) (p_0_1 : ByteArray) (w : World) (R : Ending → World → Prop) (h : sh_dedup_pair p_0_0 p_0_1 w R) : Calls Try.prog 34 #[.agg #[.string p_0_0, .string p_0_1]] w R :=
  calls_of_sh (args := [.agg #[.string p_0_0, .string p_0_1]]) (.two .auto (.two .auto .auto)) Try.func34 (by kernel_rfl) (by kernel_rfl) (by kernel_rfl) h

/-- 35: buttery/butteryref09.Put -/
def sh_butteryref09_Put (m_0 : Sl) (p_1_0 : ByteArray) (p_1_1 : ByteArray) (w : World) (R : Ending → World → Prop) : Prop :=
  VNw none w (.cells #[.string p_1_0, .string p_1_1] 36) fun (p_3 : Nat) (w1 : World) =>
  VLd none w1 ⟨p_3, 0, none⟩ [CT.str] fun (v13 : ByteArray) =>
  VCall none Try.prog 11 #[.slice m_0.base m_0.len m_0.cap, .string v13] w1 (.tuple #[.string ByteArray.empty, .bool false]) fun (r14_0 : ByteArray) (r14_1 : Bool) (w2 : World) =>
  ∃ I1 : Nat → Sl → Bool → Int → World → Prop, (∃ k, I1 k ⟨none, 0, 0⟩ false 0 w2) ∧ ∀ k1 (out_5 : Sl) (done_8 : Bool) (i_9 : Int) (w3 : World), I1 k1 out_5 done_8 i_9 w3 →
  VIf (decide (i_9 < ((m_0.len : Nat) : Int))) (
    ∃ Φ2 : Sl → Bool → World → Prop, (
      ∀ (w4 : World), w4 = World.drew w3 →
      VIx (some ((!done_8) && r14_1)) m_0.base m_0.len i_9 fun (a31 : Addr) =>
      VLd (some ((!done_8) && r14_1)) w4 (Addr.add a31 ((Int.toNat i_9) * 2)) [CT.str] fun (v33 : ByteArray) =>
      VLd (some ((!done_8) && r14_1)) w4 ⟨p_3, 0, none⟩ [CT.str] fun (v35 : ByteArray) =>
      VIf (((!done_8) && r14_1) && (v33.toList == v35.toList)) (
        VLd none w4 ⟨p_3, 0, none⟩ [CT.str, CT.str] fun (v39_0 : ByteArray) (v39_1 : ByteArray) =>
        VNw none w4 (.cells #[.string v39_0, .string v39_1] 36) fun (b40 : Nat) (w5 : World) =>
        VApp none w5 36 2 32 #[.string ByteArray.empty, .string ByteArray.empty] out_5.base out_5.len out_5.cap 1 (fun news => Seg w5 (some ⟨b40, 0, none⟩) 1 2 news) fun (l41 : Sl) (w6 : World) =>
        Φ2 l41 true w6
      ) (
        ∃ Φ3 : Sl → Bool → World → Prop, (
          ∀ (w7 : World), w7 = World.drew w4 →
          VIx (some ((!done_8) && (!r14_1))) m_0.base m_0.len i_9 fun (a51 : Addr) =>
          VLd (some ((!done_8) && (!r14_1))) w7 (Addr.add a51 ((Int.toNat i_9) * 2)) [CT.str] fun (v53 : ByteArray) =>
          VLd (some ((!done_8) && (!r14_1))) w7 ⟨p_3, 0, none⟩ [CT.str] fun (v55 : ByteArray) =>
          VIf (((!done_8) && (!r14_1)) && (!((Op.bytesLess v53.toList v55.toList) || (v53.toList == v55.toList)))) (
            VLd none w7 ⟨p_3, 0, none⟩ [CT.str, CT.str] fun (v59_0 : ByteArray) (v59_1 : ByteArray) =>
            VNw none w7 (.cells #[.string v59_0, .string v59_1] 36) fun (b60 : Nat) (w8 : World) =>
            VApp none w8 36 2 32 #[.string ByteArray.empty, .string ByteArray.empty] out_5.base out_5.len out_5.cap 1 (fun news => Seg w8 (some ⟨b60, 0, none⟩) 1 2 news) fun (l61 : Sl) (w9 : World) =>
            Φ3 l61 true w9
          ) (
            Φ3 out_5 done_8 w7
          )
        ) ∧ ∀ (out_5'' : Sl) (done_8'' : Bool) (w10 : World), Φ3 out_5'' done_8'' w10 →
        VIx none m_0.base m_0.len i_9 fun (a65 : Addr) =>
        VLd none w10 (Addr.add a65 ((Int.toNat i_9) * 2)) [CT.str, CT.str] fun (v66_0 : ByteArray) (v66_1 : ByteArray) =>
        VNw none w10 (.cells #[.string v66_0, .string v66_1] 36) fun (b67 : Nat) (w11 : World) =>
        VApp none w11 36 2 32 #[.string ByteArray.empty, .string ByteArray.empty] out_5''.base out_5''.len out_5''.cap 1 (fun news => Seg w11 (some ⟨b67, 0, none⟩) 1 2 news) fun (l68 : Sl) (w12 : World) =>
        Φ2 l68 done_8'' w12
      )
    ) ∧ ∀ (out_5' : Sl) (done_8' : Bool) (w13 : World), Φ2 out_5' done_8' w13 →
    VSet (IntKind.wrap .i64 (i_9 + 1)) fun (i_9' : Int) =>
    ∃ k', k' < k1 ∧ I1 k' ⟨out_5'.base, out_5'.len, out_5'.cap⟩ done_8' i_9' w13
  ) (
    ∃ Φ4 : Sl → World → Prop, (
      VIf (!done_8) (
        VLd none w3 ⟨p_3, 0, none⟩ [CT.str, CT.str] fun (v72_0 : ByteArray) (v72_1 : ByteArray) =>
        VNw none w3 (.cells #[.string v72_0, .string v72_1] 36) fun (b73 : Nat) (w14 : World) =>
        VApp none w14 36 2 32 #[.string ByteArray.empty, .string ByteArray.empty] out_5.base out_5.len out_5.cap 1 (fun news => Seg w14 (some ⟨b73, 0, none⟩) 1 2 news) fun (l74 : Sl) (w15 : World) =>
        Φ4 l74 w15
      ) (
        Φ4 out_5 w3
      )
    ) ∧ ∀ (out_5_3 : Sl) (w16 : World), Φ4 out_5_3 w16 →
    R (.returned (.slice out_5_3.base out_5_3.len out_5_3.cap)) w16
  )
theorem sh_butteryref09_Put_ok (m_0 : Sl) (p_1_0 : ByteArray) (p_1_1 : ByteArray) (w : World) (R : Ending → World → Prop) (h : sh_butteryref09_Put m_0 p_1_0 p_1_1 w R) : Calls Try.prog 35 #[.slice m_0.base m_0.len m_0.cap, .agg #[.string p_1_0, .string p_1_1]] w R :=
  calls_of_sh (args := [.slice m_0.base m_0.len m_0.cap, .agg #[.string p_1_0, .string p_1_1]]) (.two .auto (.two .auto (.two .auto (.two .auto (.two (.two .auto (.one (.loop [(5, .slice none 0 0), (8, .bool false), (9, .int .i64 0)] (.two (.two .auto (.two .auto .auto)) (.two (.bjoin [(5, .slice none 0 0), (8, .bool false)] (.two (.two .auto (.two (.two .auto (.two .auto .auto)) .auto)) (.join [(5, .slice none 0 0), (8, .bool false)] (.two .auto (.two (.two .auto .auto) .auto)) .auto))) .auto))))) (.join [(5, .slice none 0 0)] (.two .auto (.two .auto .auto)) (.two .auto .auto))))))) Try.func35 (by kernel_rfl) (by kernel_rfl) (by kernel_rfl) h

/-- 36: slices.IndexFunc of  of buttery/api.Last,buttery/api.Last -/
def sh_slices_IndexFunc' (s_0 : Sl) (f_1 : Value) (w : World) (R : Ending → World → Prop) : Prop :=
  ∃ I1 : Nat → Int → World → Prop, (∃ k, I1 k 0 w) ∧ ∀ k1 (x8 : Int) (w1 : World), I1 k1 x8 w1 →
  VIf (decide (x8 < ((s_0.len : Nat) : Int))) (
    VSet x8 fun (i_5 : Int) =>
    VIx none s_0.base s_0.len i_5 fun (a14 : Addr) =>
    VLd none w1 (Addr.add a14 ((Int.toNat i_5) * 5)) [CT.int .i64, CT.int .i64, CT.int .u8, CT.bool, CT.str] fun (v15_0 : Int) (v15_1 : Int) (v15_2 : Int) (v15_3 : Bool) (v15_4 : ByteArray) =>
    VDyn none Try.prog f_1 #[.agg #[.int .i64 v15_0, .int .i64 v15_1, .int .u8 v15_2, .bool v15_3, .string v15_4]] w1 (.bool false) fun (r16 : Bool) (w2 : World) =>
    VIf r16 (
      VSet i_5 fun (v4 : Int) =>
      R (.returned (.int .i64 v4)) w2
    ) (
      ∃ k', k' < k1 ∧ I1 k' (IntKind.wrap .i64 (x8 + 1)) w2
    )
  ) (
    R (.returned (.int .i64 (-1))) w1
  )
theorem sh_slices_IndexFunc'_ok (s_0 : Sl) (f_1 : Value) (w : World) (R : Ending → World → Prop) (h : sh_slices_IndexFunc' s_0 f_1 w R) : Calls Try.prog 36 #[.slice s_0.base s_0.len s_0.cap, f_1] w R :=
  calls_of_sh (args := [.slice s_0.base s_0.len s_0.cap, f_1]) (.two .auto (.two (.two .auto (.one (.loop [(8, .int .i64 0)] (.two .auto (.two (.two .auto .auto) (.two (.one (.two .auto (.two .auto (.two (.two .auto .auto) .auto)))) .auto)))))) (.two .auto .auto))) Try.func36 (by kernel_rfl) (by kernel_rfl) (by kernel_rfl) h

/-- 37: buttery/dedup.Seen$1 -/
def sh_dedup_Seen_1 (x_0_0 : Int) (x_0_1 : Int) (x_0_2 : Int) (x_0_3 : Bool) (x_0_4 : ByteArray) (cap0 : Addr) (w : World) (R : Ending → World → Prop) : Prop :=
  VNw none w (.cells #[.int .i64 x_0_0, .int .i64 x_0_1, .int .u8 x_0_2, .bool x_0_3, .string x_0_4] 42) fun (x_2 : Nat) (w1 : World) =>
  VLd none w1 ⟨x_2, 0, none⟩ [CT.int .i64] fun (v5 : Int) =>
  VLd none w1 cap0 [CT.int .i64] fun (v6 : Int) =>
  R (.returned (.bool (v5 == v6))) w1
theorem sh_dedup_Seen_1_ok (x_0_0 : Int) (x_0_1 : Int) (x_0_2 : Int) (x_0_3 : Bool) (x_0_4 : ByteArray) (cap0 : Addr) (w : World) (R : Ending → World → Prop) (h : sh_dedup_Seen_1 x_0_0 x_0_1 x_0_2 x_0_3 x_0_4 cap0 w R) : Calls Try.prog 37 #[.agg #[.int .i64 x_0_0, .int .i64 x_0_1, .int .u8 x_0_2, .bool x_0_3, .string x_0_4], .pointer (some cap0)] w R :=
  calls_of_sh (args := [.agg #[.int .i64 x_0_0, .int .i64 x_0_1, .int .u8 x_0_2, .bool x_0_3, .string x_0_4], .pointer (some cap0)]) (.two .auto (.two .auto .auto)) Try.func37 (by kernel_rfl) (by kernel_rfl) (by kernel_rfl) h

/-- 38: buttery/dedup.put of buttery/api.Last,int -/
def sh_dedup_put' (l_0 : Sl) (x_1_0 : Int) (x_1_1 : Int) (x_1_2 : Int) (x_1_3 : Bool) (x_1_4 : ByteArray) (key_2 : Value) (w : World) (R : Ending → World → Prop) : Prop :=
  VNw none w (.cells #[.int .i64 x_1_0, .int .i64 x_1_1, .int .u8 x_1_2, .bool x_1_3, .string x_1_4] 42) fun (x_4 : Nat) (w1 : World) =>
  VNw none w1 (.cells (Value.cells key_2) 78) fun (key_5 : Nat) (w2 : World) =>
  VCall none Try.prog 40 #[.slice l_0.base l_0.len l_0.cap] w2 (.slice none 0 0) fun (r12 : Sl) (w3 : World) =>
  VLd none w3 ⟨key_5, 0, none⟩ [CT.any] fun (v13 : Value) =>
  VLd none w3 ⟨x_4, 0, none⟩ [CT.int .i64, CT.int .i64, CT.int .u8, CT.bool, CT.str] fun (v14_0 : Int) (v14_1 : Int) (v14_2 : Int) (v14_3 : Bool) (v14_4 : ByteArray) =>
  VDyn none Try.prog v13 #[.agg #[.int .i64 v14_0, .int .i64 v14_1, .int .u8 v14_2, .bool v14_3, .string v14_4]] w3 (.int .i64 0) fun (r15 : Int) (w4 : World) =>
  VNw none w4 (.cells #[.int .i64 0] 3) fun (k_8 : Nat) (w5 : World) =>
  VSt none w5 ⟨k_8, 0, none⟩ [.int .i64 r15] fun (w6 : World) =>
  VCall none Try.prog 36 #[.slice r12.base r12.len r12.cap, .func (.func 44) #[] #[.pointer (some ⟨key_5, 0, none⟩), .pointer (some ⟨k_8, 0, none⟩)]] w6 (.int .i64 0) fun (r18 : Int) (w7 : World) =>
  VSet r18 fun (i_9 : Int) =>
  VIf (decide (i_9 ≥ 0)) (
    VLd none w7 ⟨x_4, 0, none⟩ [CT.int .i64, CT.int .i64, CT.int .u8, CT.bool, CT.str] fun (v23_0 : Int) (v23_1 : Int) (v23_2 : Int) (v23_3 : Bool) (v23_4 : ByteArray) =>
    VIx none r12.base r12.len i_9 fun (a24 : Addr) =>
    VSt none w7 (Addr.add a24 ((Int.toNat i_9) * 5)) [.int .i64 v23_0, .int .i64 v23_1, .int .u8 v23_2, .bool v23_3, .string v23_4] fun (w8 : World) =>
    R (.returned (.slice r12.base r12.len r12.cap)) w8
  ) (
    VCall none Try.prog 36 #[.slice r12.base r12.len r12.cap, .func (.func 45) #[] #[.pointer (some ⟨key_5, 0, none⟩), .pointer (some ⟨k_8, 0, none⟩)]] w7 (.int .i64 0) fun (r28 : Int) (w9 : World) =>
    VSet r28 fun (i_10 : Int) =>
    ∃ Φ1 : Int → World → Prop, (
      VIf (decide (i_10 < 0)) (
        VSet ((r12.len : Nat) : Int) fun (i_10'' : Int) =>
        Φ1 i_10'' w9
      ) (
        Φ1 i_10 w9
      )
    ) ∧ ∀ (i_10' : Int) (w10 : World), Φ1 i_10' w10 →
    VLd none w10 ⟨x_4, 0, none⟩ [CT.int .i64, CT.int .i64, CT.int .u8, CT.bool, CT.str] fun (v35_0 : Int) (v35_1 : Int) (v35_2 : Int) (v35_3 : Bool) (v35_4 : ByteArray) =>
    VNw none w10 (.cells #[.int .i64 v35_0, .int .i64 v35_1, .int .u8 v35_2, .bool v35_3, .string v35_4] 42) fun (b36 : Nat) (w11 : World) =>
    VCall none Try.prog 46 #[.slice r12.base r12.len r12.cap, .int .i64 i_10', .slice (some ⟨b36, 0, none⟩) 1 1] w11 (.slice none 0 0) fun (r37 : Sl) (w12 : World) =>
    R (.returned (.slice r37.base r37.len r37.cap)) w12
  )
theorem sh_dedup_put'_ok (l_0 : Sl) (x_1_0 : Int) (x_1_1 : Int) (x_1_2 : Int) (x_1_3 : Bool) (x_1_4 : ByteArray) (key_2 : Value) (w : World) (R : Ending → World → Prop) (h : sh_dedup_put' l_0 x_1_0 x_1_1 x_1_2 x_1_3 x_1_4 key_2 w R) : Calls Try.prog 38 #[.slice l_0.base l_0.len l_0.cap, .agg #[.int .i64 x_1_0, .int .i64 x_1_1, .int .u8 x_1_2, .bool x_1_3, .string x_1_4], key_2] w R :=
  calls_of_sh (args := [.slice l_0.base l_0.len l_0.cap, .agg #[.int .i64 x_1_0, .int .i64 x_1_1, .int .u8 x_1_2, .bool x_1_3, .string x_1_4], key_2]) (.two .auto (.two .auto (.two .auto (.two (.two .auto (.two .auto (.two (.two .auto (.two .auto .auto)) .auto))) (.two .auto (.join [(10, .int .i64 0)] (.two .auto (.two .auto .auto)) (.two .auto .auto))))))) Try.func38 (by kernel_rfl) (by kernel_rfl) (by kernel_rfl) h

/-- 39: buttery/dedup.client -/
def sh_dedup_client (l_0_0 : Int) (l_0_1 : Int) (l_0_2 : Int) (l_0_3 : Bool) (l_0_4 : ByteArray) (w : World) (R : Ending → World → Prop) : Prop :=
  VNw none w (.cells #[.int .i64 l_0_0, .int .i64 l_0_1, .int .u8 l_0_2, .bool l_0_3, .string l_0_4] 42) fun (l_1 : Nat) (w1 : World) =>
  VLd none w1 ⟨l_1, 0, none⟩ [CT.int .i64] fun (v4 : Int) =>
  VSet v4 fun (v2 : Int) =>
  R (.returned (.int .i64 v2)) w1
theorem sh_dedup_client_ok (l_0_0 : Int) (l_0_1 : Int) (l_0_2 : Int) (l_0_3 : Bool) (l_0_4 : ByteArray) (w : World) (R : Ending → World → Prop) (h : sh_dedup_client l_0_0 l_0_1 l_0_2 l_0_3 l_0_4 w R) : Calls Try.prog 39 #[.agg #[.int .i64 l_0_0, .int .i64 l_0_1, .int .u8 l_0_2, .bool l_0_3, .string l_0_4]] w R :=
  calls_of_sh (args := [.agg #[.int .i64 l_0_0, .int .i64 l_0_1, .int .u8 l_0_2, .bool l_0_3, .string l_0_4]]) (.two .auto (.two .auto .auto)) Try.func39 (by kernel_rfl) (by kernel_rfl) (by kernel_rfl) h

/-- 40: slices.Clone of  of buttery/api.Last,buttery/api.Last -/
def sh_slices_Clone' (s_0 : Sl) (w : World) (R : Ending → World → Prop) : Prop :=
  VIf s_0.base.isNone (
    R (.returned (.slice none 0 0)) w
  ) (
    VNw none w (.cells #[] 42) fun (b5 : Nat) (w1 : World) =>
    VApp none w1 42 5 40 #[.int .i64 0, .int .i64 0, .int .u8 0, .bool false, .string ByteArray.empty] (some ⟨b5, 0, none⟩) 0 0 s_0.len (fun news => Seg w1 s_0.base s_0.len 5 news) fun (l7 : Sl) (w2 : World) =>
    R (.returned (.slice l7.base l7.len l7.cap)) w2
  )
theorem sh_slices_Clone'_ok (s_0 : Sl) (w : World) (R : Ending → World → Prop) (h : sh_slices_Clone' s_0 w R) : Calls Try.prog 40 #[.slice s_0.base s_0.len s_0.cap] w R :=
  calls_of_sh (args := [.slice s_0.base s_0.len s_0.cap]) (.two .auto (.two (.two .auto (.two (.two .auto .auto) .auto)) (.two .auto .auto))) Try.func40 (by kernel_rfl) (by kernel_rfl) (by kernel_rfl) h

/-- 41: buttery/dedup.put of buttery/api.Pair,string$1 -/
def sh_dedup_put'' (y_0_0 : ByteArray) (y_0_1 : ByteArray) (cap0 : Addr) (cap1 : Addr) (w : World) (R : Ending → World → Prop) : Prop :=
  VNw none w (.cells #[.string y_0_0, .string y_0_1] 36) fun (y_3 : Nat) (w1 : World) =>
  ∀ (w2 : World), w2 = World.drew w1 →
  VLd none w2 cap0 [CT.any] fun (v5 : Value) =>
  VLd none w2 ⟨y_3, 0, none⟩ [CT.str, CT.str] fun (v6_0 : ByteArray) (v6_1 : ByteArray) =>
  VLd none w2 cap1 [CT.str] fun (v8 : ByteArray) =>
  VDyn none Try.prog v5 #[.agg #[.string v6_0, .string v6_1]] w2 (.string ByteArray.empty) fun (r7 : ByteArray) (w3 : World) =>
  Rd w3 cap1 [.string v8] ∧
  R (.returned (.bool (r7.toList == v8.toList))) w3
theorem sh_dedup_put''_ok (y_0_0 : ByteArray) (y_0_1 : ByteArray) (cap0 : Addr) (cap1 : Addr) (w : World) (R : Ending → World → Prop) (h : sh_dedup_put'' y_0_0 y_0_1 cap0 cap1 w R) : Calls Try.prog 41 #[.agg #[.string y_0_0, .string y_0_1], .pointer (some cap0), .pointer (some cap1)] w R :=
  calls_of_sh (args := [.agg #[.string y_0_0, .string y_0_1], .pointer (some cap0), .pointer (some cap1)]) (.two .auto (.two .auto .auto)) Try.func41 (by kernel_rfl) (by kernel_rfl) (by kernel_rfl) h

/-- 42: buttery/dedup.put of buttery/api.Pair,string$2 -/
def sh_dedup_put''' (y_0_0 : ByteArray) (y_0_1 : ByteArray) (cap0 : Addr) (cap1 : Addr) (w : World) (R : Ending → World → Prop) : Prop :=
  VNw none w (.cells #[.string y_0_0, .string y_0_1] 36) fun (y_3 : Nat) (w1 : World) =>
  ∀ (w2 : World), w2 = World.drew w1 →
  VLd none w2 cap0 [CT.any] fun (v5 : Value) =>
  VLd none w2 ⟨y_3, 0, none⟩ [CT.str, CT.str] fun (v6_0 : ByteArray) (v6_1 : ByteArray) =>
  VLd none w2 cap1 [CT.str] fun (v8 : ByteArray) =>
  VDyn none Try.prog v5 #[.agg #[.string v6_0, .string v6_1]] w2 (.string ByteArray.empty) fun (r7 : ByteArray) (w3 : World) =>
  Rd w3 cap1 [.string v8] ∧
  R (.returned (.bool (!((Op.bytesLess r7.toList v8.toList) || (r7.toList == v8.toList))))) w3
theorem sh_dedup_put'''_ok (y_0_0 : ByteArray) (y_0_1 : ByteArray) (cap0 : Addr) (cap1 : Addr) (w : World) (R : Ending → World → Prop) (h : sh_dedup_put''' y_0_0 y_0_1 cap0 cap1 w R) : Calls Try.prog 42 #[.agg #[.string y_0_0, .string y_0_1], .pointer (some cap0), .pointer (some cap1)] w R :=
  calls_of_sh (args := [.agg #[.string y_0_0, .string y_0_1], .pointer (some cap0), .pointer (some cap1)]) (.two .auto (.two .auto .auto)) Try.func42 (by kernel_rfl) (by kernel_rfl) (by kernel_rfl) h

/-- 43: slices.Insert of  of buttery/api.Pair,buttery/api.Pair -/
def sh_slices_Insert (s_0 : Sl) (i_1 : Int) (v_2 : Sl) (w : World) (R : Ending → World → Prop) : Prop :=
  VCk none ((0 : Int) ≤ i_1 ∧ (i_1 : Int) ≤ ((s_0.len : Nat) : Int) ∧ (((s_0.len : Nat) : Int) : Int) ≤ ((s_0.cap : Nat) : Int)) (
    VSet ((v_2.len : Nat) : Int) fun (m_7 : Int) =>
    VIf (m_7 == 0) (
      R (.returned (.slice s_0.base s_0.len s_0.cap)) w
    ) (
      VSet ((s_0.len : Nat) : Int) fun (n_8 : Int) =>
      VIf (i_1 == n_8) (
        VApp none w 36 2 32 #[.string ByteArray.empty, .string ByteArray.empty] s_0.base s_0.len s_0.cap v_2.len (fun news => Seg w v_2.base v_2.len 2 news) fun (l25 : Sl) (w1 : World) =>
        R (.returned (.slice l25.base l25.len l25.cap)) w1
      ) (
        VIf (decide ((IntKind.wrap .i64 (n_8 + m_7)) > ((s_0.cap : Nat) : Int))) (
          VCk none ((0 : Int) ≤ 0 ∧ (0 : Int) ≤ i_1 ∧ (i_1 : Int) ≤ ((s_0.cap : Nat) : Int)) (
            VApp none w 36 2 32 #[.string ByteArray.empty, .string ByteArray.empty] (cutB s_0.base s_0.cap 2 0) ((Int.toNat i_1) - 0) (s_0.cap - 0) (Int.toNat (IntKind.wrap .i64 ((IntKind.wrap .i64 (n_8 + m_7)) - i_1))) (fun news => 0 ≤ (IntKind.wrap .i64 ((IntKind.wrap .i64 (n_8 + m_7)) - i_1)) ∧ (IntKind.wrap .i64 ((IntKind.wrap .i64 (n_8 + m_7)) - i_1)) ≤ 9223372036854775807 ∧ news = (Builtin.zeroCells #[.string ByteArray.empty, .string ByteArray.empty] (Int.toNat (IntKind.wrap .i64 ((IntKind.wrap .i64 (n_8 + m_7)) - i_1)))).toList) fun (l40 : Sl) (w2 : World) =>
            VCk none ((0 : Int) ≤ i_1 ∧ (i_1 : Int) ≤ ((l40.len : Nat) : Int) ∧ (((l40.len : Nat) : Int) : Int) ≤ ((l40.cap : Nat) : Int)) (
              VCopy none w2 2 (cutB l40.base l40.cap 2 (Int.toNat i_1)) (l40.len - (Int.toNat i_1)) v_2.len (fun news => Seg w2 v_2.base (Nat.min v_2.len (l40.len - (Int.toNat i_1))) 2 news) fun (w3 : World) =>
              ∀ (w4 : World), w4 = World.drew w3 →
              VCk none ((0 : Int) ≤ IntKind.wrap .i64 (i_1 + m_7) ∧ (IntKind.wrap .i64 (i_1 + m_7) : Int) ≤ ((l40.len : Nat) : Int) ∧ (((l40.len : Nat) : Int) : Int) ≤ ((l40.cap : Nat) : Int)) (
                VCk none ((0 : Int) ≤ i_1 ∧ (i_1 : Int) ≤ ((s_0.len : Nat) : Int) ∧ (((s_0.len : Nat) : Int) : Int) ≤ ((s_0.cap : Nat) : Int)) (
                  VCopy none w4 2 (cutB l40.base l40.cap 2 (Int.toNat (IntKind.wrap .i64 (i_1 + m_7)))) (l40.len - (Int.toNat (IntKind.wrap .i64 (i_1 + m_7)))) (s_0.len - (Int.toNat i_1)) (fun news => Seg w4 (cutB s_0.base s_0.cap 2 (Int.toNat i_1)) (Nat.min (s_0.len - (Int.toNat i_1)) (l40.len - (Int.toNat (IntKind.wrap .i64 (i_1 + m_7))))) 2 news) fun (w5 : World) =>
                  R (.returned (.slice l40.base l40.len l40.cap)) w5
                )
              )
            )
          )
        ) (
          VCk none ((0 : Int) ≤ 0 ∧ (0 : Int) ≤ IntKind.wrap .i64 (n_8 + m_7) ∧ (IntKind.wrap .i64 (n_8 + m_7) : Int) ≤ ((s_0.cap : Nat) : Int)) (
            VCk none ((0 : Int) ≤ IntKind.wrap .i64 (i_1 + m_7) ∧ (IntKind.wrap .i64 (i_1 + m_7) : Int) ≤ (((Int.toNat (IntKind.wrap .i64 (n_8 + m_7))) - 0 : Nat) : Int) ∧ ((((Int.toNat (IntKind.wrap .i64 (n_8 + m_7))) - 0 : Nat) : Int) : Int) ≤ ((s_0.cap - 0 : Nat) : Int)) (
              VRun none Try.prog (Extern.SlicesOverlaps.overlaps #[22, 22] #[4] #[.slice v_2.base v_2.len v_2.cap, .slice (cutB (cutB s_0.base s_0.cap 2 0) (s_0.cap - 0) 2 (Int.toNat (IntKind.wrap .i64 (i_1 + m_7)))) (((Int.toNat (IntKind.wrap .i64 (n_8 + m_7))) - 0) - (Int.toNat (IntKind.wrap .i64 (i_1 + m_7)))) ((s_0.cap - 0) - (Int.toNat (IntKind.wrap .i64 (i_1 + m_7))))]) w (.bool false) fun (r67 : Bool) (w6 : World) =>
              VIf (!r67) (
                ∀ (w7 : World), w7 = World.drew w6 →
                VCk none ((0 : Int) ≤ IntKind.wrap .i64 (i_1 + m_7) ∧ (IntKind.wrap .i64 (i_1 + m_7) : Int) ≤ (((Int.toNat (IntKind.wrap .i64 (n_8 + m_7))) - 0 : Nat) : Int) ∧ ((((Int.toNat (IntKind.wrap .i64 (n_8 + m_7))) - 0 : Nat) : Int) : Int) ≤ ((s_0.cap - 0 : Nat) : Int)) (
                  VCk none ((0 : Int) ≤ i_1 ∧ (i_1 : Int) ≤ (((Int.toNat (IntKind.wrap .i64 (n_8 + m_7))) - 0 : Nat) : Int) ∧ ((((Int.toNat (IntKind.wrap .i64 (n_8 + m_7))) - 0 : Nat) : Int) : Int) ≤ ((s_0.cap - 0 : Nat) : Int)) (
                    VCopy none w7 2 (cutB (cutB s_0.base s_0.cap 2 0) (s_0.cap - 0) 2 (Int.toNat (IntKind.wrap .i64 (i_1 + m_7)))) (((Int.toNat (IntKind.wrap .i64 (n_8 + m_7))) - 0) - (Int.toNat (IntKind.wrap .i64 (i_1 + m_7)))) (((Int.toNat (IntKind.wrap .i64 (n_8 + m_7))) - 0) - (Int.toNat i_1)) (fun news => Seg w7 (cutB (cutB s_0.base s_0.cap 2 0) (s_0.cap - 0) 2 (Int.toNat i_1)) (Nat.min (((Int.toNat (IntKind.wrap .i64 (n_8 + m_7))) - 0) - (Int.toNat i_1)) (((Int.toNat (IntKind.wrap .i64 (n_8 + m_7))) - 0) - (Int.toNat (IntKind.wrap .i64 (i_1 + m_7))))) 2 news) fun (w8 : World) =>
                    VCk none ((0 : Int) ≤ i_1 ∧ (i_1 : Int) ≤ (((Int.toNat (IntKind.wrap .i64 (n_8 + m_7))) - 0 : Nat) : Int) ∧ ((((Int.toNat (IntKind.wrap .i64 (n_8 + m_7))) - 0 : Nat) : Int) : Int) ≤ ((s_0.cap - 0 : Nat) : Int)) (
                      VCopy none w8 2 (cutB (cutB s_0.base s_0.cap 2 0) (s_0.cap - 0) 2 (Int.toNat i_1)) (((Int.toNat (IntKind.wrap .i64 (n_8 + m_7))) - 0) - (Int.toNat i_1)) v_2.len (fun news => Seg w8 v_2.base (Nat.min v_2.len (((Int.toNat (IntKind.wrap .i64 (n_8 + m_7))) - 0) - (Int.toNat i_1))) 2 news) fun (w9 : World) =>
                      R (.returned (.slice (cutB s_0.base s_0.cap 2 0) ((Int.toNat (IntKind.wrap .i64 (n_8 + m_7))) - 0) (s_0.cap - 0))) w9
                    )
                  )
                )
              ) (
                VCk none ((0 : Int) ≤ n_8 ∧ (n_8 : Int) ≤ (((Int.toNat (IntKind.wrap .i64 (n_8 + m_7))) - 0 : Nat) : Int) ∧ ((((Int.toNat (IntKind.wrap .i64 (n_8 + m_7))) - 0 : Nat) : Int) : Int) ≤ ((s_0.cap - 0 : Nat) : Int)) (
                  VCopy none w6 2 (cutB (cutB s_0.base s_0.cap 2 0) (s_0.cap - 0) 2 (Int.toNat n_8)) (((Int.toNat (IntKind.wrap .i64 (n_8 + m_7))) - 0) - (Int.toNat n_8)) v_2.len (fun news => Seg w6 v_2.base (Nat.min v_2.len (((Int.toNat (IntKind.wrap .i64 (n_8 + m_7))) - 0) - (Int.toNat n_8))) 2 news) fun (w10 : World) =>
                  VCk none ((0 : Int) ≤ i_1 ∧ (i_1 : Int) ≤ (((Int.toNat (IntKind.wrap .i64 (n_8 + m_7))) - 0 : Nat) : Int) ∧ ((((Int.toNat (IntKind.wrap .i64 (n_8 + m_7))) - 0 : Nat) : Int) : Int) ≤ ((s_0.cap - 0 : Nat) : Int)) (
                    VCall none Try.prog 48 #[.slice (cutB (cutB s_0.base s_0.cap 2 0) (s_0.cap - 0) 2 (Int.toNat i_1)) (((Int.toNat (IntKind.wrap .i64 (n_8 + m_7))) - 0) - (Int.toNat i_1)) ((s_0.cap - 0) - (Int.toNat i_1)), .int .i64 m_7] w10 (.tuple #[]) fun (w11 : World) =>
                    R (.returned (.slice (cutB s_0.base s_0.cap 2 0) ((Int.toNat (IntKind.wrap .i64 (n_8 + m_7))) - 0) (s_0.cap - 0))) w11
                  )
                )
              )
            )
          )
        )
      )
    )
  )
theorem sh_slices_Insert_ok (s_0 : Sl) (i_1 : Int) (v_2 : Sl) (w : World) (R : Ending → World → Prop) (h : sh_slices_Insert s_0 i_1 v_2 w R) : Calls Try.prog 43 #[.slice s_0.base s_0.len s_0.cap, .int .i64 i_1, .slice v_2.base v_2.len v_2.cap] w R :=
  calls_of_sh (args := [.slice s_0.base s_0.len s_0.cap, .int .i64 i_1, .slice v_2.base v_2.len v_2.cap]) (.two .auto (.two .auto (.two .auto (.two (.two .auto (.two (.two .auto .auto) .auto)) (.two .auto (.two (.two .auto (.two (.two .auto .auto) .auto)) (.two (.two .auto (.two (.two .auto (.two .auto (.two .auto (.two .auto .auto)))) .auto)) (.two .auto (.two (.two .auto (.two (.two .auto (.two .auto (.two .auto .auto))) .auto)) (.two .auto (.two .auto (.two .auto .auto)))))))))))) Try.func43 (by kernel_rfl) (by kernel_rfl) (by kernel_rfl) h

/-- 44: buttery/dedup.put of buttery/api.Last,int$1 -/
def sh_dedup_put'''' (y_0_0 : Int) (y_0_1 : Int) (y_0_2 : Int) (y_0_3 : Bool) (y_0_4 : ByteArray) (cap0 : Addr) (cap1 : Addr) (w : World) (R : Ending → World → Prop) : Prop :=
  VNw none w (.cells #[.int .i64 y_0_0, .int .i64 y_0_1, .int .u8 y_0_2, .bool y_0_3, .string y_0_4] 42) fun (y_3 : Nat) (w1 : World) =>
  ∀ (w2 : World), w2 = World.drew w1 →
  VLd none w2 cap0 [CT.any] fun (v5 : Value) =>
  VLd none w2 ⟨y_3, 0, none⟩ [CT.int .i64, CT.int .i64, CT.int .u8, CT.bool, CT.str] fun (v6_0 : Int) (v6_1 : Int) (v6_2 : Int) (v6_3 : Bool) (v6_4 : ByteArray) =>
  VLd none w2 cap1 [CT.int .i64] fun (v8 : Int) =>
  VDyn none Try.prog v5 #[.agg #[.int .i64 v6_0, .int .i64 v6_1, .int .u8 v6_2, .bool v6_3, .string v6_4]] w2 (.int .i64 0) fun (r7 : Int) (w3 : World) =>
  Rd w3 cap1 [.int .i64 v8] ∧
  R (.returned (.bool (r7 == v8))) w3
theorem sh_dedup_put''''_ok (y_0_0 : Int) (y_0_1 : Int) (y_0_2 : Int) (y_0_3 : Bool) (y_0_4 : ByteArray) (cap0 : Addr) (cap1 : Addr) (w : World) (R : Ending → World → Prop) (h : sh_dedup_put'''' y_0_0 y_0_1 y_0_2 y_0_3 y_0_4 cap0 cap1 w R) : Calls Try.prog 44 #[.agg #[.int .i64 y_0_0, .int .i64 y_0_1, .int .u8 y_0_2, .bool y_0_3, .string y_0_4], .pointer (some cap0), .pointer (some cap1)] w R :=
  calls_of_sh (args := [.agg #[.int .i64 y_0_0, .int .i64 y_0_1, .int .u8 y_0_2, .bool y_0_3, .string y_0_4], .pointer (some cap0), .pointer (some cap1)]) (.two .auto (.two .auto .auto)) Try.func44 (by kernel_rfl) (by kernel_rfl) (by kernel_rfl) h

/-- 45: buttery/dedup.put of buttery/api.Last,int$2 -/
def sh_dedup_put''''' (y_0_0 : Int) (y_0_1 : Int) (y_0_2 : Int) (y_0_3 : Bool) (y_0_4 : ByteArray) (cap0 : Addr) (cap1 : Addr) (w : World) (R : Ending → World → Prop) : Prop :=
  VNw none w (.cells #[.int .i64 y_0_0, .int .i64 y_0_1, .int .u8 y_0_2, .bool y_0_3, .string y_0_4] 42) fun (y_3 : Nat) (w1 : World) =>
  ∀ (w2 : World), w2 = World.drew w1 →
  VLd none w2 cap0 [CT.any] fun (v5 : Value) =>
  VLd none w2 ⟨y_3, 0, none⟩ [CT.int .i64, CT.int .i64, CT.int .u8, CT.bool, CT.str] fun (v6_0 : Int) (v6_1 : Int) (v6_2 : Int) (v6_3 : Bool) (v6_4 : ByteArray) =>
  VLd none w2 cap1 [CT.int .i64] fun (v8 : Int) =>
  VDyn none Try.prog v5 #[.agg #[.int .i64 v6_0, .int .i64 v6_1, .int .u8 v6_2, .bool v6_3, .string v6_4]] w2 (.int .i64 0) fun (r7 : Int) (w3 : World) =>
  Rd w3 cap1 [.int .i64 v8] ∧
  R (.returned (.bool (decide (r7 > v8)))) w3
theorem sh_dedup_put'''''_ok (y_0_0 : Int) (y_0_1 : Int) (y_0_2 : Int) (y_0_3 : Bool) (y_0_4 : ByteArray) (cap0 : Addr) (cap1 : Addr) (w : World) (R : Ending → World → Prop) (h : sh_dedup_put''''' y_0_0 y_0_1 y_0_2 y_0_3 y_0_4 cap0 cap1 w R) : Calls Try.prog 45 #[.agg #[.int .i64 y_0_0, .int .i64 y_0_1, .int .u8 y_0_2, .bool y_0_3, .string y_0_4], .pointer (some cap0), .pointer (some cap1)] w R :=
  calls_of_sh (args := [.agg #[.int .i64 y_0_0, .int .i64 y_0_1, .int .u8 y_0_2, .bool y_0_3, .string y_0_4], .pointer (some cap0), .pointer (some cap1)]) (.two .auto (.two .auto .auto)) Try.func45 (by kernel_rfl) (by kernel_rfl) (by kernel_rfl) h

/-- 46: slices.Insert of  of buttery/api.Last,buttery/api.Last -/
def sh_slices_Insert' (s_0 : Sl) (i_1 : Int) (v_2 : Sl) (w : World) (R : Ending → World → Prop) : Prop :=
  VCk none ((0 : Int) ≤ i_1 ∧ (i_1 : Int) ≤ ((s_0.len : Nat) : Int) ∧ (((s_0.len : Nat) : Int) : Int) ≤ ((s_0.cap : Nat) : Int)) (
    VSet ((v_2.len : Nat) : Int) fun (m_7 : Int) =>
    VIf (m_7 == 0) (
      R (.returned (.slice s_0.base s_0.len s_0.cap)) w
    ) (
      VSet ((s_0.len : Nat) : Int) fun (n_8 : Int) =>
      VIf (i_1 == n_8) (
        VApp none w 42 5 40 #[.int .i64 0, .int .i64 0, .int .u8 0, .bool false, .string ByteArray.empty] s_0.base s_0.len s_0.cap v_2.len (fun news => Seg w v_2.base v_2.len 5 news) fun (l25 : Sl) (w1 : World) =>
        R (.returned (.slice l25.base l25.len l25.cap)) w1
      ) (
        VIf (decide ((IntKind.wrap .i64 (n_8 + m_7)) > ((s_0.cap : Nat) : Int))) (
          VCk none ((0 : Int) ≤ 0 ∧ (0 : Int) ≤ i_1 ∧ (i_1 : Int) ≤ ((s_0.cap : Nat) : Int)) (
            VApp none w 42 5 40 #[.int .i64 0, .int .i64 0, .int .u8 0, .bool false, .string ByteArray.empty] (cutB s_0.base s_0.cap 5 0) ((Int.toNat i_1) - 0) (s_0.cap - 0) (Int.toNat (IntKind.wrap .i64 ((IntKind.wrap .i64 (n_8 + m_7)) - i_1))) (fun news => 0 ≤ (IntKind.wrap .i64 ((IntKind.wrap .i64 (n_8 + m_7)) - i_1)) ∧ (IntKind.wrap .i64 ((IntKind.wrap .i64 (n_8 + m_7)) - i_1)) ≤ 9223372036854775807 ∧ news = (Builtin.zeroCells #[.int .i64 0, .int .i64 0, .int .u8 0, .bool false, .string ByteArray.empty] (Int.toNat (IntKind.wrap .i64 ((IntKind.wrap .i64 (n_8 + m_7)) - i_1)))).toList) fun (l40 : Sl) (w2 : World) =>
            VCk none ((0 : Int) ≤ i_1 ∧ (i_1 : Int) ≤ ((l40.len : Nat) : Int) ∧ (((l40.len : Nat) : Int) : Int) ≤ ((l40.cap : Nat) : Int)) (
              VCopy none w2 5 (cutB l40.base l40.cap 5 (Int.toNat i_1)) (l40.len - (Int.toNat i_1)) v_2.len (fun news => Seg w2 v_2.base (Nat.min v_2.len (l40.len - (Int.toNat i_1))) 5 news) fun (w3 : World) =>
              ∀ (w4 : World), w4 = World.drew w3 →
              VCk none ((0 : Int) ≤ IntKind.wrap .i64 (i_1 + m_7) ∧ (IntKind.wrap .i64 (i_1 + m_7) : Int) ≤ ((l40.len : Nat) : Int) ∧ (((l40.len : Nat) : Int) : Int) ≤ ((l40.cap : Nat) : Int)) (
                VCk none ((0 : Int) ≤ i_1 ∧ (i_1 : Int) ≤ ((s_0.len : Nat) : Int) ∧ (((s_0.len : Nat) : Int) : Int) ≤ ((s_0.cap : Nat) : Int)) (
                  VCopy none w4 5 (cutB l40.base l40.cap 5 (Int.toNat (IntKind.wrap .i64 (i_1 + m_7)))) (l40.len - (Int.toNat (IntKind.wrap .i64 (i_1 + m_7)))) (s_0.len - (Int.toNat i_1)) (fun news => Seg w4 (cutB s_0.base s_0.cap 5 (Int.toNat i_1)) (Nat.min (s_0.len - (Int.toNat i_1)) (l40.len - (Int.toNat (IntKind.wrap .i64 (i_1 + m_7))))) 5 news) fun (w5 : World) =>
                  R (.returned (.slice l40.base l40.len l40.cap)) w5
                )
              )
            )
          )
        ) (
          VCk none ((0 : Int) ≤ 0 ∧ (0 : Int) ≤ IntKind.wrap .i64 (n_8 + m_7) ∧ (IntKind.wrap .i64 (n_8 + m_7) : Int) ≤ ((s_0.cap : Nat) : Int)) (
            VCk none ((0 : Int) ≤ IntKind.wrap .i64 (i_1 + m_7) ∧ (IntKind.wrap .i64 (i_1 + m_7) : Int) ≤ (((Int.toNat (IntKind.wrap .i64 (n_8 + m_7))) - 0 : Nat) : Int) ∧ ((((Int.toNat (IntKind.wrap .i64 (n_8 + m_7))) - 0 : Nat) : Int) : Int) ≤ ((s_0.cap - 0 : Nat) : Int)) (
              VRun none Try.prog (Extern.SlicesOverlaps.overlaps #[38, 38] #[4] #[.slice v_2.base v_2.len v_2.cap, .slice (cutB (cutB s_0.base s_0.cap 5 0) (s_0.cap - 0) 5 (Int.toNat (IntKind.wrap .i64 (i_1 + m_7)))) (((Int.toNat (IntKind.wrap .i64 (n_8 + m_7))) - 0) - (Int.toNat (IntKind.wrap .i64 (i_1 + m_7)))) ((s_0.cap - 0) - (Int.toNat (IntKind.wrap .i64 (i_1 + m_7))))]) w (.bool false) fun (r67 : Bool) (w6 : World) =>
              VIf (!r67) (
                ∀ (w7 : World), w7 = World.drew w6 →
                VCk none ((0 : Int) ≤ IntKind.wrap .i64 (i_1 + m_7) ∧ (IntKind.wrap .i64 (i_1 + m_7) : Int) ≤ (((Int.toNat (IntKind.wrap .i64 (n_8 + m_7))) - 0 : Nat) : Int) ∧ ((((Int.toNat (IntKind.wrap .i64 (n_8 + m_7))) - 0 : Nat) : Int) : Int) ≤ ((s_0.cap - 0 : Nat) : Int)) (
                  VCk none ((0 : Int) ≤ i_1 ∧ (i_1 : Int) ≤ (((Int.toNat (IntKind.wrap .i64 (n_8 + m_7))) - 0 : Nat) : Int) ∧ ((((Int.toNat (IntKind.wrap .i64 (n_8 + m_7))) - 0 : Nat) : Int) : Int) ≤ ((s_0.cap - 0 : Nat) : Int)) (
                    VCopy none w7 5 (cutB (cutB s_0.base s_0.cap 5 0) (s_0.cap - 0) 5 (Int.toNat (IntKind.wrap .i64 (i_1 + m_7)))) (((Int.toNat (IntKind.wrap .i64 (n_8 + m_7))) - 0) - (Int.toNat (IntKind.wrap .i64 (i_1 + m_7)))) (((Int.toNat (IntKind.wrap .i64 (n_8 + m_7))) - 0) - (Int.toNat i_1)) (fun news => Seg w7 (cutB (cutB s_0.base s_0.cap 5 0) (s_0.cap - 0) 5 (Int.toNat i_1)) (Nat.min (((Int.toNat (IntKind.wrap .i64 (n_8 + m_7))) - 0) - (Int.toNat i_1)) (((Int.toNat (IntKind.wrap .i64 (n_8 + m_7))) - 0) - (Int.toNat (IntKind.wrap .i64 (i_1 + m_7))))) 5 news) fun (w8 : World) =>
                    VCk none ((0 : Int) ≤ i_1 ∧ (i_1 : Int) ≤ (((Int.toNat (IntKind.wrap .i64 (n_8 + m_7))) - 0 : Nat) : Int) ∧ ((((Int.toNat (IntKind.wrap .i64 (n_8 + m_7))) - 0 : Nat) : Int) : Int) ≤ ((s_0.cap - 0 : Nat) : Int)) (
                      VCopy none w8 5 (cutB (cutB s_0.base s_0.cap 5 0) (s_0.cap - 0) 5 (Int.toNat i_1)) (((Int.toNat (IntKind.wrap .i64 (n_8 + m_7))) - 0) - (Int.toNat i_1)) v_2.len (fun news => Seg w8 v_2.base (Nat.min v_2.len (((Int.toNat (IntKind.wrap .i64 (n_8 + m_7))) - 0) - (Int.toNat i_1))) 5 news) fun (w9 : World) =>
                      R (.returned (.slice (cutB s_0.base s_0.cap 5 0) ((Int.toNat (IntKind.wrap .i64 (n_8 + m_7))) - 0) (s_0.cap - 0))) w9
                    )
                  )
                )
              ) (
                VCk none ((0 : Int) ≤ n_8 ∧ (n_8 : Int) ≤ (((Int.toNat (IntKind.wrap .i64 (n_8 + m_7))) - 0 : Nat) : Int) ∧ ((((Int.toNat (IntKind.wrap .i64 (n_8 + m_7))) - 0 : Nat) : Int) : Int) ≤ ((s_0.cap - 0 : Nat) : Int)) (
                  VCopy none w6 5 (cutB (cutB s_0.base s_0.cap 5 0) (s_0.cap - 0) 5 (Int.toNat n_8)) (((Int.toNat (IntKind.wrap .i64 (n_8 + m_7))) - 0) - (Int.toNat n_8)) v_2.len (fun news => Seg w6 v_2.base (Nat.min v_2.len (((Int.toNat (IntKind.wrap .i64 (n_8 + m_7))) - 0) - (Int.toNat n_8))) 5 news) fun (w10 : World) =>
                  VCk none ((0 : Int) ≤ i_1 ∧ (i_1 : Int) ≤ (((Int.toNat (IntKind.wrap .i64 (n_8 + m_7))) - 0 : Nat) : Int) ∧ ((((Int.toNat (IntKind.wrap .i64 (n_8 + m_7))) - 0 : Nat) : Int) : Int) ≤ ((s_0.cap - 0 : Nat) : Int)) (
                    VCall none Try.prog 50 #[.slice (cutB (cutB s_0.base s_0.cap 5 0) (s_0.cap - 0) 5 (Int.toNat i_1)) (((Int.toNat (IntKind.wrap .i64 (n_8 + m_7))) - 0) - (Int.toNat i_1)) ((s_0.cap - 0) - (Int.toNat i_1)), .int .i64 m_7] w10 (.tuple #[]) fun (w11 : World) =>
                    R (.returned (.slice (cutB s_0.base s_0.cap 5 0) ((Int.toNat (IntKind.wrap .i64 (n_8 + m_7))) - 0) (s_0.cap - 0))) w11
                  )
                )
              )
            )
          )
        )
      )
    )
  )
theorem sh_slices_Insert'_ok (s_0 : Sl) (i_1 : Int) (v_2 : Sl) (w : World) (R : Ending → World → Prop) (h : sh_slices_Insert' s_0 i_1 v_2 w R) : Calls Try.prog 46 #[.slice s_0.base s_0.len s_0.cap, .int .i64 i_1, .slice v_2.base v_2.len v_2.cap] w R :=
  calls_of_sh (args := [.slice s_0.base s_0.len s_0.cap, .int .i64 i_1, .slice v_2.base v_2.len v_2.cap]) (.two .auto (.two .auto (.two .auto (.two (.two .auto (.two (.two .auto .auto) .auto)) (.two .auto (.two (.two .auto (.two (.two .auto .auto) .auto)) (.two (.two .auto (.two (.two .auto (.two .auto (.two .auto (.two .auto .auto)))) .auto)) (.two .auto (.two (.two .auto (.two (.two .auto (.two .auto (.two .auto .auto))) .auto)) (.two .auto (.two .auto (.two .auto .auto)))))))))))) Try.func46 (by kernel_rfl) (by kernel_rfl) (by kernel_rfl) h

/-- 48: slices.rotateRight of buttery/api.Pair -/
def sh_slices_rotateRight (s_0 : Sl) (r_1 : Int) (w : World) (R : Ending → World → Prop) : Prop :=
  VCall none Try.prog 51 #[.slice s_0.base s_0.len s_0.cap, .int .i64 (IntKind.wrap .i64 (((s_0.len : Nat) : Int) - r_1))] w (.tuple #[]) fun (w1 : World) =>
  R (.returned (.tuple #[])) w1
theorem sh_slices_rotateRight_ok (s_0 : Sl) (r_1 : Int) (w : World) (R : Ending → World → Prop) (h : sh_slices_rotateRight s_0 r_1 w R) : Calls Try.prog 48 #[.slice s_0.base s_0.len s_0.cap, .int .i64 r_1] w R :=
  calls_of_sh (args := [.slice s_0.base s_0.len s_0.cap, .int .i64 r_1]) .auto Try.func48 (by kernel_rfl) (by kernel_rfl) (by kernel_rfl) h

/-- 50: slices.rotateRight of buttery/api.Last -/
def sh_slices_rotateRight' (s_0 : Sl) (r_1 : Int) (w : World) (R : Ending → World → Prop) : Prop :=
  VCall none Try.prog 52 #[.slice s_0.base s_0.len s_0.cap, .int .i64 (IntKind.wrap .i64 (((s_0.len : Nat) : Int) - r_1))] w (.tuple #[]) fun (w1 : World) =>
  R (.returned (.tuple #[])) w1
theorem sh_slices_rotateRight'_ok (s_0 : Sl) (r_1 : Int) (w : World) (R : Ending → World → Prop) (h : sh_slices_rotateRight' s_0 r_1 w R) : Calls Try.prog 50 #[.slice s_0.base s_0.len s_0.cap, .int .i64 r_1] w R :=
  calls_of_sh (args := [.slice s_0.base s_0.len s_0.cap, .int .i64 r_1]) .auto Try.func50 (by kernel_rfl) (by kernel_rfl) (by kernel_rfl) h

/-- 51: slices.rotateLeft of buttery/api.Pair -/
def sh_slices_rotateLeft (s_0 : Sl) (r_1 : Int) (w : World) (R : Ending → World → Prop) : Prop :=
  VCk none ((0 : Int) ≤ 0 ∧ (0 : Int) ≤ r_1 ∧ (r_1 : Int) ≤ ((s_0.cap : Nat) : Int)) (
    VCall none Try.prog 53 #[.slice (cutB s_0.base s_0.cap 2 0) ((Int.toNat r_1) - 0) (s_0.cap - 0)] w (.tuple #[]) fun (w1 : World) =>
    VCk none ((0 : Int) ≤ r_1 ∧ (r_1 : Int) ≤ ((s_0.len : Nat) : Int) ∧ (((s_0.len : Nat) : Int) : Int) ≤ ((s_0.cap : Nat) : Int)) (
      VCall none Try.prog 53 #[.slice (cutB s_0.base s_0.cap 2 (Int.toNat r_1)) (s_0.len - (Int.toNat r_1)) (s_0.cap - (Int.toNat r_1))] w1 (.tuple #[]) fun (w2 : World) =>
      VCall none Try.prog 53 #[.slice s_0.base s_0.len s_0.cap] w2 (.tuple #[]) fun (w3 : World) =>
      R (.returned (.tuple #[])) w3
    )
  )
theorem sh_slices_rotateLeft_ok (s_0 : Sl) (r_1 : Int) (w : World) (R : Ending → World → Prop) (h : sh_slices_rotateLeft s_0 r_1 w R) : Calls Try.prog 51 #[.slice s_0.base s_0.len s_0.cap, .int .i64 r_1] w R :=
  calls_of_sh (args := [.slice s_0.base s_0.len s_0.cap, .int .i64 r_1]) (.two .auto (.two .auto .auto)) Try.func51 (by kernel_rfl) (by kernel_rfl) (by kernel_rfl) h

/-- 52: slices.rotateLeft of buttery/api.Last -/
def sh_slices_rotateLeft' (s_0 : Sl) (r_1 : Int) (w : World) (R : Ending → World → Prop) : Prop :=
  VCk none ((0 : Int) ≤ 0 ∧ (0 : Int) ≤ r_1 ∧ (r_1 : Int) ≤ ((s_0.cap : Nat) : Int)) (
    VCall none Try.prog 54 #[.slice (cutB s_0.base s_0.cap 5 0) ((Int.toNat r_1) - 0) (s_0.cap - 0)] w (.tuple #[]) fun (w1 : World) =>
    VCk none ((0 : Int) ≤ r_1 ∧ (r_1 : Int) ≤ ((s_0.len : Nat) : Int) ∧ (((s_0.len : Nat) : Int) : Int) ≤ ((s_0.cap : Nat) : Int)) (
      VCall none Try.prog 54 #[.slice (cutB s_0.base s_0.cap 5 (Int.toNat r_1)) (s_0.len - (Int.toNat r_1)) (s_0.cap - (Int.toNat r_1))] w1 (.tuple #[]) fun (w2 : World) =>
      VCall none Try.prog 54 #[.slice s_0.base s_0.len s_0.cap] w2 (.tuple #[]) fun (w3 : World) =>
      R (.returned (.tuple #[])) w3
    )
  )
theorem sh_slices_rotateLeft'_ok (s_0 : Sl) (r_1 : Int) (w : World) (R : Ending → World → Prop) (h : sh_slices_rotateLeft' s_0 r_1 w R) : Calls Try.prog 52 #[.slice s_0.base s_0.len s_0.cap, .int .i64 r_1] w R :=
  calls_of_sh (args := [.slice s_0.base s_0.len s_0.cap, .int .i64 r_1]) (.two .auto (.two .auto .auto)) Try.func52 (by kernel_rfl) (by kernel_rfl) (by kernel_rfl) h

/-- 53: slices.Reverse of  of buttery/api.Pair,buttery/api.Pair -/
def sh_slices_Reverse (s_0 : Sl) (w : World) (R : Ending → World → Prop) : Prop :=
  VSet (IntKind.wrap .i64 (((s_0.len : Nat) : Int) - 1)) fun (j_3 : Int) =>
  ∃ I1 : Nat → Int → Int → World → Prop, (∃ k, I1 k 0 j_3 w) ∧ ∀ k1 (i_2 : Int) (j_3' : Int) (w1 : World), I1 k1 i_2 j_3' w1 →
  VIf (decide (i_2 < j_3')) (
    ∀ (w2 : World), w2 = World.drew w1 →
    VIx none s_0.base s_0.len j_3' fun (a20 : Addr) =>
    VLd none w2 (Addr.add a20 ((Int.toNat j_3') * 2)) [CT.str, CT.str] fun (v21_0 : ByteArray) (v21_1 : ByteArray) =>
    VIx none s_0.base s_0.len i_2 fun (a24 : Addr) =>
    VLd none w2 (Addr.add a24 ((Int.toNat i_2) * 2)) [CT.str, CT.str] fun (v25_0 : ByteArray) (v25_1 : ByteArray) =>
    VIx none s_0.base s_0.len i_2 fun (a26 : Addr) =>
    VSt none w2 (Addr.add a26 ((Int.toNat i_2) * 2)) [.string v21_0, .string v21_1] fun (w3 : World) =>
    VIx none s_0.base s_0.len j_3' fun (a27 : Addr) =>
    VSt none w3 (Addr.add a27 ((Int.toNat j_3') * 2)) [.string v25_0, .string v25_1] fun (w4 : World) =>
    VSet (IntKind.wrap .i64 (i_2 + 1)) fun (i_2' : Int) =>
    VSet (IntKind.wrap .i64 (j_3' - 1)) fun (j_3'' : Int) =>
    ∃ k', k' < k1 ∧ I1 k' i_2' j_3'' w4
  ) (
    R (.returned (.tuple #[])) w1
  )
theorem sh_slices_Reverse_ok (s_0 : Sl) (w : World) (R : Ending → World → Prop) (h : sh_slices_Reverse s_0 w R) : Calls Try.prog 53 #[.slice s_0.base s_0.len s_0.cap] w R :=
  calls_of_sh (args := [.slice s_0.base s_0.len s_0.cap]) (.two .auto (.one (.loop [(2, .int .i64 0), (3, .int .i64 0)] (.two (.two .auto (.two .auto .auto)) (.two (.one .auto) .auto))))) Try.func53 (by kernel_rfl) (by kernel_rfl) (by kernel_rfl) h

/-- 54: slices.Reverse of  of buttery/api.Last,buttery/api.Last -/
def sh_slices_Reverse' (s_0 : Sl) (w : World) (R : Ending → World → Prop) : Prop :=
  VSet (IntKind.wrap .i64 (((s_0.len : Nat) : Int) - 1)) fun (j_3 : Int) =>
  ∃ I1 : Nat → Int → Int → World → Prop, (∃ k, I1 k 0 j_3 w) ∧ ∀ k1 (i_2 : Int) (j_3' : Int) (w1 : World), I1 k1 i_2 j_3' w1 →
  VIf (decide (i_2 < j_3')) (
    ∀ (w2 : World), w2 = World.drew w1 →
    VIx none s_0.base s_0.len j_3' fun (a20 : Addr) =>
    VLd none w2 (Addr.add a20 ((Int.toNat j_3') * 5)) [CT.int .i64, CT.int .i64, CT.int .u8, CT.bool, CT.str] fun (v21_0 : Int) (v21_1 : Int) (v21_2 : Int) (v21_3 : Bool) (v21_4 : ByteArray) =>
    VIx none s_0.base s_0.len i_2 fun (a24 : Addr) =>
    VLd none w2 (Addr.add a24 ((Int.toNat i_2) * 5)) [CT.int .i64, CT.int .i64, CT.int .u8, CT.bool, CT.str] fun (v25_0 : Int) (v25_1 : Int) (v25_2 : Int) (v25_3 : Bool) (v25_4 : ByteArray) =>
    VIx none s_0.base s_0.len i_2 fun (a26 : Addr) =>
    VSt none w2 (Addr.add a26 ((Int.toNat i_2) * 5)) [.int .i64 v21_0, .int .i64 v21_1, .int .u8 v21_2, .bool v21_3, .string v21_4] fun (w3 : World) =>
    VIx none s_0.base s_0.len j_3' fun (a27 : Addr) =>
    VSt none w3 (Addr.add a27 ((Int.toNat j_3') * 5)) [.int .i64 v25_0, .int .i64 v25_1, .int .u8 v25_2, .bool v25_3, .string v25_4] fun (w4 : World) =>
    VSet (IntKind.wrap .i64 (i_2 + 1)) fun (i_2' : Int) =>
    VSet (IntKind.wrap .i64 (j_3' - 1)) fun (j_3'' : Int) =>
    ∃ k', k' < k1 ∧ I1 k' i_2' j_3'' w4
  ) (
    R (.returned (.tuple #[])) w1
  )
theorem sh_slices_Reverse'_ok (s_0 : Sl) (w : World) (R : Ending → World → Prop) (h : sh_slices_Reverse' s_0 w R) : Calls Try.prog 54 #[.slice s_0.base s_0.len s_0.cap] w R :=
  calls_of_sh (args := [.slice s_0.base s_0.len s_0.cap]) (.two .auto (.one (.loop [(2, .int .i64 0), (3, .int .i64 0)] (.two (.two .auto (.two .auto .auto)) (.two (.one .auto) .auto))))) Try.func54 (by kernel_rfl) (by kernel_rfl) (by kernel_rfl) h

end Go.Proofs.Ytlnomdjmjeabhaa
