/-
  By program (own tool): what the code of each function asks, in plain text, and that it suffices (the kernel compares the two).
-/
import Derived.Test.YthhegdghcnhkbaaRows
import Derived.Test.YthhegdghcnhkbaaEngJ
import Derived.KernelRfl
namespace Go.Proofs.Ythhegdghcnhkbaa
open Go.RowKit
set_option maxRecDepth 100000

/-- 3: buttery/butterylaw25.RouteNewest -/
def sh_butterylaw25_RouteNewest (l_0 : Sl) (by_1 : Int) (w : World) (R : Ending → World → Prop) : Prop :=
  VCall none Try.prog 8 #[] w (.bool false) fun (r26 : Bool) (w1 : World) =>
  VIf ((!r26) || (decide (((l_0.len : Nat) : Int) > 200))) (
    VCall none Try.prog 8 #[] w1 (.bool false) fun (r33 : Bool) (w2 : World) =>
    R (.returned (.bool r33)) w2
  ) (
    VCall none Try.prog 9 #[.int .i64 4, .int .i64 5] w1 (.tuple #[.pointer none, .int .i64 0]) fun (r35_0 : Option Addr) (r35_1 : Int) (w3 : World) =>
    VSet r35_1 fun (e_6 : Int) =>
    VCall none Try.prog 9 #[.int .i64 4, .int .i64 5] w3 (.tuple #[.pointer none, .int .i64 0]) fun (r39_0 : Option Addr) (r39_1 : Int) (w4 : World) =>
    VSet r39_1 fun (f_8 : Int) =>
    VIf ((e_6 != 0) || (f_8 != 0)) (
      R (.returned (.bool false)) w4
    ) (
      VMk none w4 3 1 8 #[.int .i64 0] 4 4 fun (b48 : Nat) (w5 : World) =>
      ∃ I1 : Nat → Int → World → Prop, (∃ k, I1 k 0 w5) ∧ ∀ k1 (i_10 : Int) (w6 : World), I1 k1 i_10 w6 →
      VIf (decide (i_10 < ((l_0.len : Nat) : Int))) (
        ∃ Φ2 : World → Prop, (
          VIx none l_0.base l_0.len i_10 fun (a57 : Addr) =>
          VLd none w6 (Addr.add (Addr.add a57 ((Int.toNat i_10) * 4)) 1) [CT.int .i64] fun (v59 : Int) =>
          VSet (bAnd .i64 v59 3) fun (shard_11 : Int) =>
          VIx none l_0.base l_0.len i_10 fun (a63 : Addr) =>
          VLd none w6 (Addr.add (Addr.add a63 ((Int.toNat i_10) * 4)) 2) [CT.int .i64] fun (v65 : Int) =>
          VSet (bAnd .i64 v65 1023) fun (epoch_12 : Int) =>
          VCall none Try.prog 11 #[.int .i64 shard_11, .int .i64 epoch_12] w6 (.int .i64 0) fun (r72 : Int) (w7 : World) =>
          VCall none Try.prog 10 #[.pointer r35_0, .int .i64 shard_11, .int .i64 epoch_12, .int .i64 r72] w7 (.bool false) fun (r73 : Bool) (w8 : World) =>
          VIx none (some ⟨b48, 0, none⟩) 4 shard_11 fun (a77 : Addr) =>
          VLd none w8 (Addr.add a77 ((Int.toNat shard_11) * 1)) [CT.int .i64] fun (v78 : Int) =>
          VIf (decide (epoch_12 > v78)) (
            VIx none (some ⟨b48, 0, none⟩) 4 shard_11 fun (a83 : Addr) =>
            VSt none w8 (Addr.add a83 ((Int.toNat shard_11) * 1)) [.int .i64 epoch_12] fun (w9 : World) =>
            Φ2 w9
          ) (
            Φ2 w8
          )
        ) ∧ ∀ (w10 : World), Φ2 w10 →
        VSet (IntKind.wrap .i64 (i_10 + 1)) fun (i_10' : Int) =>
        ∃ k', k' < k1 ∧ I1 k' i_10' w10
      ) (
        VSet (IntKind.wrap .i64 ((IntKind.wrap .i64 (2 * (IntKind.wrap .i64 (Int.tmod (IntKind.wrap .u64 by_1) 100)))) + 1)) fun (step_13 : Int) =>
        ∃ I3 : Nat → Int → World → Prop, (∃ k, I3 k 0 w6) ∧ ∀ k3 (i_14 : Int) (w11 : World), I3 k3 i_14 w11 →
        VIf (decide (i_14 < (IntKind.wrap .i64 (2 * ((l_0.len : Nat) : Int))))) (
          VCk none (((l_0.len : Nat) : Int) ≠ 0) <|
          VCk none (((l_0.len : Nat) : Int) ≠ 0) <|
          VSet (Int.tmod (IntKind.wrap .i64 ((IntKind.wrap .i64 (i_14 * step_13)) + (IntKind.wrap .i64 (Int.tdiv i_14 ((l_0.len : Nat) : Int))))) ((l_0.len : Nat) : Int)) fun (k_15 : Int) =>
          VIx none l_0.base l_0.len k_15 fun (a110 : Addr) =>
          VLd none w11 (Addr.add (Addr.add a110 ((Int.toNat k_15) * 4)) 1) [CT.int .i64] fun (v112 : Int) =>
          VSet (bAnd .i64 v112 3) fun (shard_16 : Int) =>
          VIx none l_0.base l_0.len k_15 fun (a116 : Addr) =>
          VLd none w11 (Addr.add (Addr.add a116 ((Int.toNat k_15) * 4)) 2) [CT.int .i64] fun (v118 : Int) =>
          VSet (bAnd .i64 v118 1023) fun (epoch_17 : Int) =>
          VCall none Try.prog 11 #[.int .i64 shard_16, .int .i64 epoch_17] w11 (.int .i64 0) fun (r125 : Int) (w12 : World) =>
          VCall none Try.prog 10 #[.pointer r39_0, .int .i64 shard_16, .int .i64 epoch_17, .int .i64 r125] w12 (.bool false) fun (r126 : Bool) (w13 : World) =>
          VSet (IntKind.wrap .i64 (i_14 + 1)) fun (i_14' : Int) =>
          ∃ k', k' < k3 ∧ I3 k' i_14' w13
        ) (
          ∃ I4 : Nat → Int → World → Prop, (∃ k, I4 k 0 w11) ∧ ∀ k4 (i_18 : Int) (w14 : World), I4 k4 i_18 w14 →
          VIf (decide (i_18 < ((l_0.len : Nat) : Int))) (
            VIx none l_0.base l_0.len i_18 fun (a135 : Addr) =>
            VLd none w14 (Addr.add (Addr.add a135 ((Int.toNat i_18) * 4)) 1) [CT.int .i64] fun (v137 : Int) =>
            VSet (bAnd .i64 v137 3) fun (shard_19 : Int) =>
            VIx none l_0.base l_0.len i_18 fun (a141 : Addr) =>
            VLd none w14 (Addr.add (Addr.add a141 ((Int.toNat i_18) * 4)) 2) [CT.int .i64] fun (v143 : Int) =>
            VSet (bAnd .i64 v143 1023) fun (epoch_20 : Int) =>
            VCall none Try.prog 11 #[.int .i64 shard_19, .int .i64 epoch_20] w14 (.int .i64 0) fun (r150 : Int) (w15 : World) =>
            VCall none Try.prog 10 #[.pointer r39_0, .int .i64 shard_19, .int .i64 epoch_20, .int .i64 r150] w15 (.bool false) fun (r151 : Bool) (w16 : World) =>
            VSet (IntKind.wrap .i64 (i_18 + 1)) fun (i_18' : Int) =>
            ∃ k', k' < k4 ∧ I4 k' i_18' w16
          ) (
            ∃ I5 : Nat → Int → World → Prop, (∃ k, I5 k 0 w14) ∧ ∀ k5 (s_21 : Int) (w17 : World), I5 k5 s_21 w17 →
            VIf (decide (s_21 < 4)) (
              VCall none Try.prog 12 #[.pointer r35_0, .int .i64 s_21] w17 (.tuple #[.int .i64 0, .int .i64 0]) fun (r159_0 : Int) (r159_1 : Int) (w18 : World) =>
              VSet r159_0 fun (o_22 : Int) =>
              VSet r159_1 fun (n_23 : Int) =>
              VCall none Try.prog 12 #[.pointer r39_0, .int .i64 s_21] w18 (.tuple #[.int .i64 0, .int .i64 0]) fun (r165_0 : Int) (r165_1 : Int) (w19 : World) =>
              VSet r165_0 fun (p_24 : Int) =>
              VSet r165_1 fun (m_25 : Int) =>
              VIx none (some ⟨b48, 0, none⟩) 4 s_21 fun (a171 : Addr) =>
              VLd none w19 (Addr.add a171 ((Int.toNat s_21) * 1)) [CT.int .i64] fun (v172 : Int) =>
              VIx (some (!(n_23 != v172))) (some ⟨b48, 0, none⟩) 4 s_21 fun (a178 : Addr) =>
              VLd (some (!(n_23 != v172))) w19 (Addr.add a178 ((Int.toNat s_21) * 1)) [CT.int .i64] fun (v179 : Int) =>
              VCall (some ((!(((n_23 != v172) || (m_25 != v179)) || (o_22 != p_24))) && (decide (n_23 > 0)))) Try.prog 11 #[.int .i64 s_21, .int .i64 n_23] w19 (.int .i64 0) fun (r194 : Int) (w20 : World) =>
              VIf (((((n_23 != v172) || (m_25 != v179)) || (o_22 != p_24)) || ((decide (n_23 > 0)) && (o_22 != r194))) || ((n_23 == 0) && (o_22 != 0))) (
                R (.returned (.bool false)) w20
              ) (
                VSet (IntKind.wrap .i64 (s_21 + 1)) fun (s_21' : Int) =>
                ∃ k', k' < k5 ∧ I5 k' s_21' w20
              )
            ) (
              R (.returned (.bool true)) w17
            )
          )
        )
      )
    )
  )
theorem sh_butterylaw25_RouteNewest_ok (l_0 : Sl) (by_1 : Int) (w : World) (R : Ending → World → Prop) (h : sh_butterylaw25_RouteNewest l_0 by_1 w R) : Calls Try.prog 3 #[.slice l_0.base l_0.len l_0.cap, .int .i64 by_1] w R :=
  calls_of_sh (args := [.slice l_0.base l_0.len l_0.cap, .int .i64 by_1]) (.two .auto (.two (.two .auto (.two (.two .auto .auto) .auto)) (.two .auto (.two .auto (.two (.two .auto (.two (.two .auto .auto) .auto)) (.two .auto (.two (.two .auto (.one (.loop [(10, .int .i64 0)] (.two (.two .auto (.two .auto .auto)) (.two (.bjoin [] (.two .auto (.two .auto (.two .auto (.two .auto (.two .auto .auto)))))) .auto))))) (.two .auto (.two (.two .auto (.one (.loop [(14, .int .i64 0)] (.two (.two .auto (.two .auto .auto)) (.two (.one (.two .auto (.two .auto (.two .auto .auto)))) .auto))))) (.two (.two .auto (.one (.loop [(18, .int .i64 0)] (.two (.two .auto (.two .auto .auto)) (.two (.one (.two .auto (.two .auto .auto))) .auto))))) (.two (.two .auto (.one (.loop [(21, .int .i64 0)] (.two (.two .auto (.two .auto .auto)) (.two (.one (.two .auto (.two .auto (.two .auto (.two (.two .auto .auto) .auto))))) .auto))))) (.two .auto .auto)))))))))))) Try.func3 (by kernel_rfl) (by kernel_rfl) (by kernel_rfl) h

/-- 4: buttery/butterylaw25.RouteTurns -/
def sh_butterylaw25_RouteTurns (stores_0 : Int) (ahead_1 : Int) (l_2 : Sl) (w : World) (R : Ending → World → Prop) : Prop :=
  VCall none Try.prog 8 #[] w (.bool false) fun (r14 : Bool) (w1 : World) =>
  VIf ((!r14) || (decide (((l_2.len : Nat) : Int) > 200))) (
    VCall none Try.prog 8 #[] w1 (.bool false) fun (r21 : Bool) (w2 : World) =>
    R (.returned (.bool r21)) w2
  ) (
    VSet (IntKind.wrap .i64 (1 + (IntKind.wrap .i64 (Int.tmod (IntKind.wrap .u64 stores_0) 5)))) fun (n_7 : Int) =>
    VCall none Try.prog 9 #[.int .i64 2, .int .i64 n_7] w1 (.tuple #[.pointer none, .int .i64 0]) fun (r29_0 : Option Addr) (r29_1 : Int) (w3 : World) =>
    VSet r29_1 fun (e_9 : Int) =>
    VIf (e_9 != 0) (
      R (.returned (.bool false)) w3
    ) (
      ∃ I1 : Nat → Int → World → Prop, (∃ k, I1 k 0 w3) ∧ ∀ k1 (i_10 : Int) (w4 : World), I1 k1 i_10 w4 →
      VIf (decide (i_10 < (IntKind.wrap .i64 (Int.tmod (IntKind.wrap .u64 ahead_1) 20)))) (
        VCall none Try.prog 13 #[.pointer r29_0] w4 (.int .i64 0) fun (r43 : Int) (w5 : World) =>
        VSet (IntKind.wrap .i64 (i_10 + 1)) fun (i_10' : Int) =>
        ∃ k', k' < k1 ∧ I1 k' i_10' w5
      ) (
        VMk none w4 4 1 1 #[.bool false] (IntKind.wrap .i64 (n_7 + 1)) (IntKind.wrap .i64 (n_7 + 1)) fun (b46 : Nat) (w6 : World) =>
        ∃ I2 : Nat → Int → World → Prop, (∃ k, I2 k 0 w6) ∧ ∀ k2 (i_12 : Int) (w7 : World), I2 k2 i_12 w7 →
        VIf (decide (i_12 < n_7)) (
          ∃ Φ3 : World → Prop, (
            VIf (decide (i_12 < ((l_2.len : Nat) : Int))) (
              ∀ (w8 : World), w8 = World.drew w7 →
              VIx none l_2.base l_2.len i_12 fun (a59 : Addr) =>
              VLd none w8 (Addr.add (Addr.add a59 ((Int.toNat i_12) * 4)) 1) [CT.int .i64] fun (v61 : Int) =>
              VIx none l_2.base l_2.len i_12 fun (a64 : Addr) =>
              VLd none w8 (Addr.add (Addr.add a64 ((Int.toNat i_12) * 4)) 2) [CT.int .i64] fun (v66 : Int) =>
              VIx none l_2.base l_2.len i_12 fun (a69 : Addr) =>
              VLd none w8 (Addr.add (Addr.add a69 ((Int.toNat i_12) * 4)) 3) [CT.int .i64] fun (v71 : Int) =>
              VCall none Try.prog 10 #[.pointer r29_0, .int .i64 v61, .int .i64 v66, .int .i64 v71] w8 (.bool false) fun (r72 : Bool) (w9 : World) =>
              Φ3 w9
            ) (
              Φ3 w7
            )
          ) ∧ ∀ (w10 : World), Φ3 w10 →
          VCall none Try.prog 13 #[.pointer r29_0] w10 (.int .i64 0) fun (r74 : Int) (w11 : World) =>
          VSet r74 fun (s_13 : Int) =>
          VIx (some (!((decide (s_13 < 1)) || (decide (s_13 > n_7))))) (some ⟨b46, 0, none⟩) (Int.toNat (IntKind.wrap .i64 (n_7 + 1))) s_13 fun (a85 : Addr) =>
          VLd (some (!((decide (s_13 < 1)) || (decide (s_13 > n_7))))) w11 (Addr.add a85 ((Int.toNat s_13) * 1)) [CT.bool] fun (v86 : Bool) =>
          VIf (((decide (s_13 < 1)) || (decide (s_13 > n_7))) || v86) (
            R (.returned (.bool false)) w11
          ) (
            VIx none (some ⟨b46, 0, none⟩) (Int.toNat (IntKind.wrap .i64 (n_7 + 1))) s_13 fun (a90 : Addr) =>
            VSt none w11 (Addr.add a90 ((Int.toNat s_13) * 1)) [.bool true] fun (w12 : World) =>
            VSet (IntKind.wrap .i64 (i_12 + 1)) fun (i_12' : Int) =>
            ∃ k', k' < k2 ∧ I2 k' i_12' w12
          )
        ) (
          R (.returned (.bool true)) w7
        )
      )
    )
  )
theorem sh_butterylaw25_RouteTurns_ok (stores_0 : Int) (ahead_1 : Int) (l_2 : Sl) (w : World) (R : Ending → World → Prop) (h : sh_butterylaw25_RouteTurns stores_0 ahead_1 l_2 w R) : Calls Try.prog 4 #[.int .i64 stores_0, .int .i64 ahead_1, .slice l_2.base l_2.len l_2.cap] w R :=
  calls_of_sh (args := [.int .i64 stores_0, .int .i64 ahead_1, .slice l_2.base l_2.len l_2.cap]) (.two .auto (.two (.two .auto (.two (.two .auto .auto) .auto)) (.two .auto (.two .auto (.two (.two .auto (.two (.two .auto .auto) .auto)) (.two (.two .auto (.one (.loop [(10, .int .i64 0)] (.two (.two .auto (.two .auto .auto)) (.two (.one .auto) .auto))))) (.two .auto (.two (.two .auto (.one (.loop [(12, .int .i64 0)] (.two (.two .auto (.two .auto .auto)) (.two (.one (.join [] (.two .auto (.two .auto .auto)) (.two .auto (.two (.two .auto (.two (.two .auto .auto) .auto)) .auto)))) .auto))))) (.two .auto .auto))))))))) Try.func4 (by kernel_rfl) (by kernel_rfl) (by kernel_rfl) h

/-- 5: buttery/butterylaw25.RouteSetups -/
def sh_butterylaw25_RouteSetups (s_0_0 : Int) (s_0_1 : Int) (s_0_2 : Int) (s_0_3 : Int) (s_0_4 : Int) (s_0_5 : Int) (s_0_6 : Int) (s_0_7 : Int) (s_0_8 : Int) (s_0_9 : Int) (s_0_10 : Int) (s_0_11 : Int) (s_0_12 : Int) (w : World) (R : Ending → World → Prop) : Prop :=
  VNw none w (.cells #[.int .i64 s_0_0, .int .i64 s_0_1, .int .i64 s_0_2, .int .i64 s_0_3, .int .i64 s_0_4, .int .i64 s_0_5, .int .i64 s_0_6, .int .i64 s_0_7, .int .i64 s_0_8, .int .i64 s_0_9, .int .i64 s_0_10, .int .i64 s_0_11, .int .i64 s_0_12] 41) fun (s_1 : Nat) (w1 : World) =>
  ∀ (w2 : World), w2 = World.drew w1 →
  VLd none w2 ⟨s_1, 0, none⟩ [CT.int .i64, CT.int .i64, CT.int .i64, CT.int .i64, CT.int .i64, CT.int .i64, CT.int .i64, CT.int .i64, CT.int .i64, CT.int .i64, CT.int .i64, CT.int .i64, CT.int .i64] fun (v3_0 : Int) (v3_1 : Int) (v3_2 : Int) (v3_3 : Int) (v3_4 : Int) (v3_5 : Int) (v3_6 : Int) (v3_7 : Int) (v3_8 : Int) (v3_9 : Int) (v3_10 : Int) (v3_11 : Int) (v3_12 : Int) =>
  VLd none w2 ⟨s_1, 0, none⟩ [CT.int .i64, CT.int .i64, CT.int .i64, CT.int .i64, CT.int .i64, CT.int .i64, CT.int .i64, CT.int .i64, CT.int .i64, CT.int .i64, CT.int .i64, CT.int .i64, CT.int .i64] fun (v5_0 : Int) (v5_1 : Int) (v5_2 : Int) (v5_3 : Int) (v5_4 : Int) (v5_5 : Int) (v5_6 : Int) (v5_7 : Int) (v5_8 : Int) (v5_9 : Int) (v5_10 : Int) (v5_11 : Int) (v5_12 : Int) =>
  VCall none Try.prog 14 #[.agg #[.int .i64 v3_0, .int .i64 v3_1, .int .i64 v3_2, .int .i64 v3_3, .int .i64 v3_4, .int .i64 v3_5, .int .i64 v3_6, .int .i64 v3_7, .int .i64 v3_8, .int .i64 v3_9, .int .i64 v3_10, .int .i64 v3_11, .int .i64 v3_12]] w2 (.bool false) fun (r4 : Bool) (w3 : World) =>
  Rd w3 ⟨s_1, 0, none⟩ [.int .i64 v5_0, .int .i64 v5_1, .int .i64 v5_2, .int .i64 v5_3, .int .i64 v5_4, .int .i64 v5_5, .int .i64 v5_6, .int .i64 v5_7, .int .i64 v5_8, .int .i64 v5_9, .int .i64 v5_10, .int .i64 v5_11, .int .i64 v5_12] ∧
  VCall none Try.prog 15 #[.agg #[.int .i64 v5_0, .int .i64 v5_1, .int .i64 v5_2, .int .i64 v5_3, .int .i64 v5_4, .int .i64 v5_5, .int .i64 v5_6, .int .i64 v5_7, .int .i64 v5_8, .int .i64 v5_9, .int .i64 v5_10, .int .i64 v5_11, .int .i64 v5_12]] w3 (.bool false) fun (r6 : Bool) (w4 : World) =>
  VCall (some (r4 == r6)) Try.prog 8 #[] w4 (.bool false) fun (r9 : Bool) (w5 : World) =>
  R (.returned (.bool ((r4 == r6) && r9))) w5
theorem sh_butterylaw25_RouteSetups_ok (s_0_0 : Int) (s_0_1 : Int) (s_0_2 : Int) (s_0_3 : Int) (s_0_4 : Int) (s_0_5 : Int) (s_0_6 : Int) (s_0_7 : Int) (s_0_8 : Int) (s_0_9 : Int) (s_0_10 : Int) (s_0_11 : Int) (s_0_12 : Int) (w : World) (R : Ending → World → Prop) (h : sh_butterylaw25_RouteSetups s_0_0 s_0_1 s_0_2 s_0_3 s_0_4 s_0_5 s_0_6 s_0_7 s_0_8 s_0_9 s_0_10 s_0_11 s_0_12 w R) : Calls Try.prog 5 #[.agg #[.int .i64 s_0_0, .int .i64 s_0_1, .int .i64 s_0_2, .int .i64 s_0_3, .int .i64 s_0_4, .int .i64 s_0_5, .int .i64 s_0_6, .int .i64 s_0_7, .int .i64 s_0_8, .int .i64 s_0_9, .int .i64 s_0_10, .int .i64 s_0_11, .int .i64 s_0_12]] w R :=
  calls_of_sh (args := [.agg #[.int .i64 s_0_0, .int .i64 s_0_1, .int .i64 s_0_2, .int .i64 s_0_3, .int .i64 s_0_4, .int .i64 s_0_5, .int .i64 s_0_6, .int .i64 s_0_7, .int .i64 s_0_8, .int .i64 s_0_9, .int .i64 s_0_10, .int .i64 s_0_11, .int .i64 s_0_12]]) (.two .auto (.two .auto .auto)) Try.func5 (by kernel_rfl) (by kernel_rfl) (by kernel_rfl) h

/-- 6: buttery/butterylaw25.RouteNames -/
def sh_butterylaw25_RouteNames (w : World) (R : Ending → World → Prop) : Prop :=
  VCall none Try.prog 8 #[] w (.bool false) fun (r16 : Bool) (w1 : World) =>
  VIf (((((!r16) || false) || false) || false) || false) (
    R (.returned (.bool false)) w1
  ) (
    VCall none Try.prog 9 #[.int .i64 0, .int .i64 1] w1 (.tuple #[.pointer none, .int .i64 0]) fun (r27_0 : Option Addr) (r27_1 : Int) (w2 : World) =>
    VSet r27_1 fun (a_2 : Int) =>
    VCall none Try.prog 9 #[.int .i64 5, .int .i64 1] w2 (.tuple #[.pointer none, .int .i64 0]) fun (r31_0 : Option Addr) (r31_1 : Int) (w3 : World) =>
    VSet r31_1 fun (b_4 : Int) =>
    VCall none Try.prog 9 #[.int .i64 1, .int .i64 0] w3 (.tuple #[.pointer none, .int .i64 0]) fun (r35_0 : Option Addr) (r35_1 : Int) (w4 : World) =>
    VSet r35_1 fun (c_6 : Int) =>
    VCall none Try.prog 9 #[.int .i64 1, .int .i64 6] w4 (.tuple #[.pointer none, .int .i64 0]) fun (r39_0 : Option Addr) (r39_1 : Int) (w5 : World) =>
    VSet r39_1 fun (d_8 : Int) =>
    VCall none Try.prog 9 #[.int .i64 4, .int .i64 5] w5 (.tuple #[.pointer none, .int .i64 0]) fun (r43_0 : Option Addr) (r43_1 : Int) (w6 : World) =>
    VSet r43_1 fun (e_10 : Int) =>
    VCall none Try.prog 12 #[.pointer none, .int .i64 0] w6 (.tuple #[.int .i64 0, .int .i64 0]) fun (r48_0 : Int) (r48_1 : Int) (w7 : World) =>
    VSet r48_0 fun (x_12 : Int) =>
    VSet r48_1 fun (y_13 : Int) =>
    VCall none Try.prog 12 #[.pointer r43_0, .int .i64 4] w7 (.tuple #[.int .i64 0, .int .i64 0]) fun (r53_0 : Int) (r53_1 : Int) (w8 : World) =>
    VSet r53_0 fun (v_14 : Int) =>
    VSet r53_1 fun (w_15 : Int) =>
    VCall (some (((((((((a_2 == 1) && (b_4 == 1)) && (c_6 == 1)) && (d_8 == 1)) && (e_10 == 0)) && (x_12 == 0)) && (y_13 == 0)) && (v_14 == 0)) && (w_15 == 0))) Try.prog 13 #[.pointer none] w8 (.int .i64 0) fun (r92 : Int) (w9 : World) =>
    VCall (some ((((((((((a_2 == 1) && (b_4 == 1)) && (c_6 == 1)) && (d_8 == 1)) && (e_10 == 0)) && (x_12 == 0)) && (y_13 == 0)) && (v_14 == 0)) && (w_15 == 0)) && (r92 == 0))) Try.prog 16 #[.pointer none] w9 (.pointer none) fun (r97 : Option Addr) (w10 : World) =>
    VCall (some (((((((((((a_2 == 1) && (b_4 == 1)) && (c_6 == 1)) && (d_8 == 1)) && (e_10 == 0)) && (x_12 == 0)) && (y_13 == 0)) && (v_14 == 0)) && (w_15 == 0)) && (r92 == 0)) && r97.isNone)) Try.prog 10 #[.pointer none, .int .i64 0, .int .i64 1, .int .i64 1] w10 (.bool false) fun (r102 : Bool) (w11 : World) =>
    VCall (some ((((((((((((a_2 == 1) && (b_4 == 1)) && (c_6 == 1)) && (d_8 == 1)) && (e_10 == 0)) && (x_12 == 0)) && (y_13 == 0)) && (v_14 == 0)) && (w_15 == 0)) && (r92 == 0)) && r97.isNone) && (!r102))) Try.prog 10 #[.pointer r43_0, .int .i64 4, .int .i64 9, .int .i64 1] w11 (.bool false) fun (r107 : Bool) (w12 : World) =>
    VCall (some (((((((((((((a_2 == 1) && (b_4 == 1)) && (c_6 == 1)) && (d_8 == 1)) && (e_10 == 0)) && (x_12 == 0)) && (y_13 == 0)) && (v_14 == 0)) && (w_15 == 0)) && (r92 == 0)) && r97.isNone) && (!r102)) && (!r107))) Try.prog 10 #[.pointer r43_0, .int .i64 (-1), .int .i64 9, .int .i64 1] w12 (.bool false) fun (r112 : Bool) (w13 : World) =>
    VCall (some ((((((((((((((a_2 == 1) && (b_4 == 1)) && (c_6 == 1)) && (d_8 == 1)) && (e_10 == 0)) && (x_12 == 0)) && (y_13 == 0)) && (v_14 == 0)) && (w_15 == 0)) && (r92 == 0)) && r97.isNone) && (!r102)) && (!r107)) && (!r112))) Try.prog 10 #[.pointer r43_0, .int .i64 0, .int .i64 9, .int .i64 6] w13 (.bool false) fun (r117 : Bool) (w14 : World) =>
    VCall (some (((((((((((((((a_2 == 1) && (b_4 == 1)) && (c_6 == 1)) && (d_8 == 1)) && (e_10 == 0)) && (x_12 == 0)) && (y_13 == 0)) && (v_14 == 0)) && (w_15 == 0)) && (r92 == 0)) && r97.isNone) && (!r102)) && (!r107)) && (!r112)) && (!r117))) Try.prog 10 #[.pointer r43_0, .int .i64 0, .int .i64 9, .int .i64 0] w14 (.bool false) fun (r122 : Bool) (w15 : World) =>
    VCall (some ((((((((((((((((a_2 == 1) && (b_4 == 1)) && (c_6 == 1)) && (d_8 == 1)) && (e_10 == 0)) && (x_12 == 0)) && (y_13 == 0)) && (v_14 == 0)) && (w_15 == 0)) && (r92 == 0)) && r97.isNone) && (!r102)) && (!r107)) && (!r112)) && (!r117)) && (!r122))) Try.prog 10 #[.pointer r43_0, .int .i64 0, .int .i64 0, .int .i64 1] w15 (.bool false) fun (r127 : Bool) (w16 : World) =>
    VCall (some (((((((((((((((((a_2 == 1) && (b_4 == 1)) && (c_6 == 1)) && (d_8 == 1)) && (e_10 == 0)) && (x_12 == 0)) && (y_13 == 0)) && (v_14 == 0)) && (w_15 == 0)) && (r92 == 0)) && r97.isNone) && (!r102)) && (!r107)) && (!r112)) && (!r117)) && (!r122)) && (!r127))) Try.prog 10 #[.pointer r43_0, .int .i64 0, .int .i64 (-1), .int .i64 1] w16 (.bool false) fun (r132 : Bool) (w17 : World) =>
    VCall (some ((((((((((((((((((a_2 == 1) && (b_4 == 1)) && (c_6 == 1)) && (d_8 == 1)) && (e_10 == 0)) && (x_12 == 0)) && (y_13 == 0)) && (v_14 == 0)) && (w_15 == 0)) && (r92 == 0)) && r97.isNone) && (!r102)) && (!r107)) && (!r112)) && (!r117)) && (!r122)) && (!r127)) && (!r132))) Try.prog 10 #[.pointer r43_0, .int .i64 0, .int .i64 2147483648, .int .i64 1] w17 (.bool false) fun (r137 : Bool) (w18 : World) =>
    VCall (some (((((((((((((((((((a_2 == 1) && (b_4 == 1)) && (c_6 == 1)) && (d_8 == 1)) && (e_10 == 0)) && (x_12 == 0)) && (y_13 == 0)) && (v_14 == 0)) && (w_15 == 0)) && (r92 == 0)) && r97.isNone) && (!r102)) && (!r107)) && (!r112)) && (!r117)) && (!r122)) && (!r127)) && (!r132)) && (!r137))) Try.prog 10 #[.pointer r43_0, .int .i64 3, .int .i64 2147483647, .int .i64 5] w18 (.bool false) fun (r142 : Bool) (w19 : World) =>
    VCall (some ((((((((((((((((((((a_2 == 1) && (b_4 == 1)) && (c_6 == 1)) && (d_8 == 1)) && (e_10 == 0)) && (x_12 == 0)) && (y_13 == 0)) && (v_14 == 0)) && (w_15 == 0)) && (r92 == 0)) && r97.isNone) && (!r102)) && (!r107)) && (!r112)) && (!r117)) && (!r122)) && (!r127)) && (!r132)) && (!r137)) && r142)) Try.prog 10 #[.pointer r43_0, .int .i64 3, .int .i64 2147483647, .int .i64 4] w19 (.bool false) fun (r146 : Bool) (w20 : World) =>
    R (.returned (.bool (((((((((((((((((((((a_2 == 1) && (b_4 == 1)) && (c_6 == 1)) && (d_8 == 1)) && (e_10 == 0)) && (x_12 == 0)) && (y_13 == 0)) && (v_14 == 0)) && (w_15 == 0)) && (r92 == 0)) && r97.isNone) && (!r102)) && (!r107)) && (!r112)) && (!r117)) && (!r122)) && (!r127)) && (!r132)) && (!r137)) && r142) && (!r146)))) w20
  )
theorem sh_butterylaw25_RouteNames_ok (w : World) (R : Ending → World → Prop) (h : sh_butterylaw25_RouteNames w R) : Calls Try.prog 6 #[] w R :=
  calls_of_sh (args := []) (.two .auto (.two (.two .auto (.two (.two .auto .auto) .auto)) (.two .auto (.two .auto (.two .auto (.two .auto (.two .auto (.two .auto (.two .auto (.two .auto (.two .auto .auto))))))))))) Try.func6 (by kernel_rfl) (by kernel_rfl) (by kernel_rfl) h

/-- 7: buttery/butterylaw25.RoutePlays -/
def sh_butterylaw25_RoutePlays (shards_0 : Int) (stores_1 : Int) (l_2 : Sl) (w : World) (R : Ending → World → Prop) : Prop :=
  VIf (decide (((l_2.len : Nat) : Int) > 300)) (
    R (.returned (.bool true)) w
  ) (
    VCall none Try.prog 9 #[.int .i64 shards_0, .int .i64 stores_1] w (.tuple #[.pointer none, .int .i64 0]) fun (r25_0 : Option Addr) (r25_1 : Int) (w1 : World) =>
    VSet r25_1 fun (e_8 : Int) =>
    VCall none Try.prog 17 #[.int .i64 shards_0, .int .i64 stores_1] w1 (.tuple #[.pointer none, .bool false]) fun (r31_0 : Option Addr) (r31_1 : Bool) (w2 : World) =>
    VIf (!r31_1) (
      R (.returned (.bool ((e_8 == 1) && r25_0.isNone))) w2
    ) (
      VIf (e_8 != 0) (
        R (.returned (.bool false)) w2
      ) (
        ∃ I1 : Nat → Option Addr → Int → World → Prop, (∃ k, I1 k r25_0 0 w2) ∧ ∀ k1 (r_7 : Option Addr) (i_11 : Int) (w3 : World), I1 k1 r_7 i_11 w3 →
        VIf (decide (i_11 < ((l_2.len : Nat) : Int))) (
          VIx none l_2.base l_2.len i_11 fun (a52 : Addr) =>
          VLd none w3 (Addr.add a52 ((Int.toNat i_11) * 4)) [CT.int .i64, CT.int .i64, CT.int .i64, CT.int .i64] fun (v53_0 : Int) (v53_1 : Int) (v53_2 : Int) (v53_3 : Int) =>
          VNw none w3 (.cells #[.int .i64 0, .int .i64 0, .int .i64 0, .int .i64 0] 30) fun (s_12 : Nat) (w4 : World) =>
          VSt none w4 ⟨s_12, 0, none⟩ [.int .i64 v53_0, .int .i64 v53_1, .int .i64 v53_2, .int .i64 v53_3] fun (w5 : World) =>
          VLd none w5 ⟨s_12, 0, none⟩ [CT.int .i64] fun (v55 : Int) =>
          ∃ Φ2 : Option Addr → World → Prop, (
            VIf (v55 == 0) (
              ∀ (w6 : World), w6 = World.drew w5 →
              VLd none w6 ⟨s_12, 1, none⟩ [CT.int .i64] fun (v67 : Int) =>
              VLd none w6 ⟨s_12, 2, none⟩ [CT.int .i64] fun (v69 : Int) =>
              VLd none w6 ⟨s_12, 3, none⟩ [CT.int .i64] fun (v71 : Int) =>
              VLd none w6 ⟨s_12, 1, none⟩ [CT.int .i64] fun (v75 : Int) =>
              VLd none w6 ⟨s_12, 2, none⟩ [CT.int .i64] fun (v77 : Int) =>
              VLd none w6 ⟨s_12, 3, none⟩ [CT.int .i64] fun (v79 : Int) =>
              VCall none Try.prog 10 #[.pointer r_7, .int .i64 v67, .int .i64 v69, .int .i64 v71] w6 (.bool false) fun (r72 : Bool) (w7 : World) =>
              Rd w7 ⟨s_12, 3, none⟩ [.int .i64 v79] ∧
              Rd w7 ⟨s_12, 2, none⟩ [.int .i64 v77] ∧
              Rd w7 ⟨s_12, 1, none⟩ [.int .i64 v75] ∧
              VCall none Try.prog 18 #[.pointer r31_0, .int .i64 v75, .int .i64 v77, .int .i64 v79] w7 (.bool false) fun (r80 : Bool) (w8 : World) =>
              VIf (!(r72 == r80)) (
                R (.returned (.bool false)) w8
              ) (
                Φ2 r_7 w8
              )
            ) (
              VIf (v55 == 1) (
                VCall none Try.prog 13 #[.pointer r_7] w5 (.int .i64 0) fun (r85 : Int) (w9 : World) =>
                VCall none Try.prog 19 #[.pointer r31_0] w9 (.int .i64 0) fun (r87 : Int) (w10 : World) =>
                VIf (r85 != r87) (
                  R (.returned (.bool false)) w10
                ) (
                  Φ2 r_7 w10
                )
              ) (
                VCall none Try.prog 16 #[.pointer r_7] w5 (.pointer none) fun (r58 : Option Addr) (w11 : World) =>
                VCall none Try.prog 10 #[.pointer r_7, .int .i64 0, .int .i64 2147483647, .int .i64 1] w11 (.bool false) fun (r60 : Bool) (w12 : World) =>
                VCall none Try.prog 13 #[.pointer r_7] w12 (.int .i64 0) fun (r62 : Int) (w13 : World) =>
                Φ2 r58 w13
              )
            )
          ) ∧ ∀ (r_7' : Option Addr) (w14 : World), Φ2 r_7' w14 →
          ∃ I3 : Nat → Int → World → Prop, (∃ k, I3 k (-1) w14) ∧ ∀ k3 (k_14 : Int) (w15 : World), I3 k3 k_14 w15 →
          VIf (decide (k_14 ≤ shards_0)) (
            VCall none Try.prog 12 #[.pointer r_7', .int .i64 k_14] w15 (.tuple #[.int .i64 0, .int .i64 0]) fun (r97_0 : Int) (r97_1 : Int) (w16 : World) =>
            VSet r97_0 fun (a_15 : Int) =>
            VSet r97_1 fun (b_16 : Int) =>
            VCall none Try.prog 20 #[.pointer r31_0, .int .i64 k_14] w16 (.tuple #[.int .i64 0, .int .i64 0]) fun (r103_0 : Int) (r103_1 : Int) (w17 : World) =>
            VSet r103_0 fun (c_17 : Int) =>
            VSet r103_1 fun (d_18 : Int) =>
            VIf ((a_15 != c_17) || (b_16 != d_18)) (
              R (.returned (.bool false)) w17
            ) (
              VSet (IntKind.wrap .i64 (k_14 + 1)) fun (k_14' : Int) =>
              ∃ k', k' < k3 ∧ I3 k' k_14' w17
            )
          ) (
            VSet (IntKind.wrap .i64 (i_11 + 1)) fun (i_11' : Int) =>
            ∃ k', k' < k1 ∧ I1 k' r_7' i_11' w15
          )
        ) (
          R (.returned (.bool true)) w3
        )
      )
    )
  )
theorem sh_butterylaw25_RoutePlays_ok (shards_0 : Int) (stores_1 : Int) (l_2 : Sl) (w : World) (R : Ending → World → Prop) (h : sh_butterylaw25_RoutePlays shards_0 stores_1 l_2 w R) : Calls Try.prog 7 #[.int .i64 shards_0, .int .i64 stores_1, .slice l_2.base l_2.len l_2.cap] w R :=
  calls_of_sh (args := [.int .i64 shards_0, .int .i64 stores_1, .slice l_2.base l_2.len l_2.cap]) (.two .auto (.two (.two .auto (.two (.two .auto .auto) .auto)) (.two .auto (.two .auto (.two (.two .auto (.two (.two .auto .auto) .auto)) (.two (.two .auto (.two (.two .auto .auto) .auto)) (.two (.two .auto (.one (.loop [(7, .pointer none), (11, .int .i64 0)] (.two (.two .auto (.two .auto .auto)) (.two (.one (.two .auto (.two (.two .auto (.bjoin [(7, .pointer none)] (.two .auto (.two (.two .auto (.two (.two .auto .auto) .auto)) (.two .auto (.two (.two .auto (.two (.two .auto .auto) .auto)) (.two .auto (.two .auto (.two .auto .auto))))))))) (.two .auto (.one (.loop [(14, .int .i64 0)] (.two (.two .auto (.two .auto .auto)) (.two (.one (.two .auto (.two .auto (.two .auto (.two (.two .auto .auto) .auto))))) .auto)))))))) .auto))))) (.two .auto .auto)))))))) Try.func7 (by kernel_rfl) (by kernel_rfl) (by kernel_rfl) h

/-- 8: buttery/butterylaw25.works -/
def sh_butterylaw25_works (w : World) (R : Ending → World → Prop) : Prop :=
  VCall none Try.prog 9 #[.int .i64 2, .int .i64 3] w (.tuple #[.pointer none, .int .i64 0]) fun (r8_0 : Option Addr) (r8_1 : Int) (w1 : World) =>
  VSet r8_1 fun (e_2 : Int) =>
  VCall (some (!(e_2 != 0))) Try.prog 10 #[.pointer r8_0, .int .i64 0, .int .i64 3, .int .i64 2] w1 (.bool false) fun (r15 : Bool) (w2 : World) =>
  VCall (some (!((e_2 != 0) || (!r15)))) Try.prog 10 #[.pointer r8_0, .int .i64 0, .int .i64 2, .int .i64 1] w2 (.bool false) fun (r20 : Bool) (w3 : World) =>
  VCall (some (!(((e_2 != 0) || (!r15)) || r20))) Try.prog 10 #[.pointer r8_0, .int .i64 0, .int .i64 3, .int .i64 1] w3 (.bool false) fun (r24 : Bool) (w4 : World) =>
  VIf ((((e_2 != 0) || (!r15)) || r20) || r24) (
    R (.returned (.bool false)) w4
  ) (
    VCall none Try.prog 12 #[.pointer r8_0, .int .i64 0] w4 (.tuple #[.int .i64 0, .int .i64 0]) fun (r28_0 : Int) (r28_1 : Int) (w5 : World) =>
    VSet r28_0 fun (a_3 : Int) =>
    VSet r28_1 fun (b_4 : Int) =>
    VCall none Try.prog 12 #[.pointer r8_0, .int .i64 1] w5 (.tuple #[.int .i64 0, .int .i64 0]) fun (r33_0 : Int) (r33_1 : Int) (w6 : World) =>
    VSet r33_0 fun (c_5 : Int) =>
    VSet r33_1 fun (d_6 : Int) =>
    VCall (some ((((a_3 == 2) && (b_4 == 3)) && (c_5 == 0)) && (d_6 == 0))) Try.prog 10 #[.pointer r8_0, .int .i64 0, .int .i64 4, .int .i64 1] w6 (.bool false) fun (r52 : Bool) (w7 : World) =>
    VCall (some (((((a_3 == 2) && (b_4 == 3)) && (c_5 == 0)) && (d_6 == 0)) && r52)) Try.prog 13 #[.pointer r8_0] w7 (.int .i64 0) fun (r56 : Int) (w8 : World) =>
    VCall (some ((((((a_3 == 2) && (b_4 == 3)) && (c_5 == 0)) && (d_6 == 0)) && r52) && (r56 == 1))) Try.prog 13 #[.pointer r8_0] w8 (.int .i64 0) fun (r61 : Int) (w9 : World) =>
    VCall (some (((((((a_3 == 2) && (b_4 == 3)) && (c_5 == 0)) && (d_6 == 0)) && r52) && (r56 == 1)) && (r61 == 2))) Try.prog 13 #[.pointer r8_0] w9 (.int .i64 0) fun (r66 : Int) (w10 : World) =>
    VCall (some ((((((((a_3 == 2) && (b_4 == 3)) && (c_5 == 0)) && (d_6 == 0)) && r52) && (r56 == 1)) && (r61 == 2)) && (r66 == 3))) Try.prog 13 #[.pointer r8_0] w10 (.int .i64 0) fun (r71 : Int) (w11 : World) =>
    R (.returned (.bool (((((((((a_3 == 2) && (b_4 == 3)) && (c_5 == 0)) && (d_6 == 0)) && r52) && (r56 == 1)) && (r61 == 2)) && (r66 == 3)) && (r71 == 1)))) w11
  )
theorem sh_butterylaw25_works_ok (w : World) (R : Ending → World → Prop) (h : sh_butterylaw25_works w R) : Calls Try.prog 8 #[] w R :=
  calls_of_sh (args := []) (.two .auto (.two .auto (.two (.two .auto (.two (.two .auto .auto) .auto)) (.two .auto (.two .auto (.two .auto .auto)))))) Try.func8 (by kernel_rfl) (by kernel_rfl) (by kernel_rfl) h

/-- 9: buttery/route.New -/
def sh_route_New (shards_0 : Int) (stores_1 : Int) (w : World) (R : Ending → World → Prop) : Prop :=
  VIf ((((decide (shards_0 < 1)) || (decide (shards_0 > 4))) || (decide (stores_1 < 1))) || (decide (stores_1 > 5))) (
    R (.returned (.tuple #[.pointer none, .int .i64 1])) w
  ) (
    VMk none w 53 2 16 #[.int .i64 0, .int .i64 0] shards_0 shards_0 fun (b23 : Nat) (w1 : World) =>
    VNw none w1 (.cells #[.int .i64 stores_1, .int .i64 0, .slice (some ⟨b23, 0, none⟩) (Int.toNat shards_0) (Int.toNat shards_0)] 51) fun (b25 : Nat) (w2 : World) =>
    R (.returned (.tuple #[.pointer (some ⟨b25, 0, none⟩), .int .i64 0])) w2
  )
theorem sh_route_New_ok (shards_0 : Int) (stores_1 : Int) (w : World) (R : Ending → World → Prop) (h : sh_route_New shards_0 stores_1 w R) : Calls Try.prog 9 #[.int .i64 shards_0, .int .i64 stores_1] w R :=
  calls_of_sh (args := [.int .i64 shards_0, .int .i64 stores_1]) (.two .auto (.two (.two .auto (.two (.two .auto .auto) .auto)) (.two .auto .auto))) Try.func9 (by kernel_rfl) (by kernel_rfl) (by kernel_rfl) h

/-- 10: (*buttery/route.Route).Learn -/
def sh_route_Route_Learn (r_0 : Option Addr) (shard_1 : Int) (epoch_2 : Int) (owner_3 : Int) (w : World) (R : Ending → World → Prop) : Prop :=
  VNN (some (!(r_0.isNone || (decide (shard_1 < 0))))) r_0 fun (a19 : Addr) =>
  VLd (some (!(r_0.isNone || (decide (shard_1 < 0))))) w (Addr.add a19 2) [CT.sl] fun (v21 : Sl) =>
  VNN (some (!(((r_0.isNone || (decide (shard_1 < 0))) || (decide (shard_1 ≥ ((v21.len : Nat) : Int)))) || (decide (owner_3 < 1))))) r_0 fun (a32 : Addr) =>
  VLd (some (!(((r_0.isNone || (decide (shard_1 < 0))) || (decide (shard_1 ≥ ((v21.len : Nat) : Int)))) || (decide (owner_3 < 1))))) w a32 [CT.int .i64] fun (v35 : Int) =>
  VIf (((((r_0.isNone || (decide (shard_1 < 0))) || (decide (shard_1 ≥ ((v21.len : Nat) : Int)))) || (decide (owner_3 < 1))) || (decide (owner_3 > v35))) || (decide (epoch_2 > 2147483647))) (
    R (.returned (.bool false)) w
  ) (
    VNN none r_0 fun (a43 : Addr) =>
    VLd none w (Addr.add a43 2) [CT.sl] fun (v45 : Sl) =>
    VIx none v45.base v45.len shard_1 fun (a47 : Addr) =>
    VLd none w (Addr.add a47 ((Int.toNat shard_1) * 2)) [CT.int .i64, CT.int .i64] fun (v48_0 : Int) (v48_1 : Int) =>
    VNw none w (.cells #[.int .i64 0, .int .i64 0] 53) fun (old_9 : Nat) (w1 : World) =>
    VSt none w1 ⟨old_9, 0, none⟩ [.int .i64 v48_0, .int .i64 v48_1] fun (w2 : World) =>
    VLd (some (!(decide (epoch_2 < 1)))) w2 ⟨old_9, 0, none⟩ [CT.int .i64, CT.int .i64] fun (v52_0 : Int) (v52_1 : Int) =>
    VLd (some ((!(decide (epoch_2 < 1))) && (!((v52_0 == 0) && (v52_1 == 0))))) w2 ⟨old_9, 1, none⟩ [CT.int .i64] fun (v58 : Int) =>
    VIf ((decide (epoch_2 < 1)) || ((!((v52_0 == 0) && (v52_1 == 0))) && (decide (epoch_2 ≤ v58)))) (
      R (.returned (.bool false)) w2
    ) (
      VNN none r_0 fun (a63 : Addr) =>
      VLd none w2 (Addr.add a63 2) [CT.sl] fun (v65 : Sl) =>
      VIx none v65.base v65.len shard_1 fun (a70 : Addr) =>
      VSt none w2 (Addr.add a70 ((Int.toNat shard_1) * 2)) [.int .i64 owner_3, .int .i64 epoch_2] fun (w3 : World) =>
      R (.returned (.bool true)) w3
    )
  )
theorem sh_route_Route_Learn_ok (r_0 : Option Addr) (shard_1 : Int) (epoch_2 : Int) (owner_3 : Int) (w : World) (R : Ending → World → Prop) (h : sh_route_Route_Learn r_0 shard_1 epoch_2 owner_3 w R) : Calls Try.prog 10 #[.pointer r_0, .int .i64 shard_1, .int .i64 epoch_2, .int .i64 owner_3] w R :=
  calls_of_sh (args := [.pointer r_0, .int .i64 shard_1, .int .i64 epoch_2, .int .i64 owner_3]) (.two .auto (.two (.two .auto (.two (.two .auto .auto) .auto)) (.two (.two .auto (.two .auto (.two (.two .auto .auto) .auto))) (.two .auto (.two .auto .auto))))) Try.func10 (by kernel_rfl) (by kernel_rfl) (by kernel_rfl) h

/-- 11: buttery/butterylaw25.owner -/
def sh_butterylaw25_owner (shard_0 : Int) (epoch_1 : Int) (w : World) (R : Ending → World → Prop) : Prop :=
  VSet (IntKind.wrap .i64 ((Int.tmod (IntKind.wrap .i64 (shard_0 + (IntKind.wrap .i64 (epoch_1 * 7)))) 5) + 1)) fun (v4 : Int) =>
  R (.returned (.int .i64 v4)) w
theorem sh_butterylaw25_owner_ok (shard_0 : Int) (epoch_1 : Int) (w : World) (R : Ending → World → Prop) (h : sh_butterylaw25_owner shard_0 epoch_1 w R) : Calls Try.prog 11 #[.int .i64 shard_0, .int .i64 epoch_1] w R :=
  calls_of_sh (args := [.int .i64 shard_0, .int .i64 epoch_1]) (.two .auto (.two .auto .auto)) Try.func11 (by kernel_rfl) (by kernel_rfl) (by kernel_rfl) h

/-- 12: (*buttery/route.Route).Owner -/
def sh_route_Route_Owner (r_0 : Option Addr) (shard_1 : Int) (w : World) (R : Ending → World → Prop) : Prop :=
  VNN (some (!(r_0.isNone || (decide (shard_1 < 0))))) r_0 fun (a15 : Addr) =>
  VLd (some (!(r_0.isNone || (decide (shard_1 < 0))))) w (Addr.add a15 2) [CT.sl] fun (v17 : Sl) =>
  VIf ((r_0.isNone || (decide (shard_1 < 0))) || (decide (shard_1 ≥ ((v17.len : Nat) : Int)))) (
    R (.returned (.tuple #[.int .i64 0, .int .i64 0])) w
  ) (
    ∀ (w1 : World), w1 = World.drew w →
    VNN none r_0 fun (a22 : Addr) =>
    VLd none w1 (Addr.add a22 2) [CT.sl] fun (v24 : Sl) =>
    VIx none v24.base v24.len shard_1 fun (a26 : Addr) =>
    VLd none w1 (Addr.add a26 ((Int.toNat shard_1) * 2)) [CT.int .i64] fun (v28 : Int) =>
    VNN none r_0 fun (a30 : Addr) =>
    VLd none w1 (Addr.add a30 2) [CT.sl] fun (v32 : Sl) =>
    VIx none v32.base v32.len shard_1 fun (a34 : Addr) =>
    VLd none w1 (Addr.add (Addr.add a34 ((Int.toNat shard_1) * 2)) 1) [CT.int .i64] fun (v36 : Int) =>
    VSet v28 fun (v4 : Int) =>
    VSet v36 fun (v5 : Int) =>
    R (.returned (.tuple #[.int .i64 v4, .int .i64 v5])) w1
  )
theorem sh_route_Route_Owner_ok (r_0 : Option Addr) (shard_1 : Int) (w : World) (R : Ending → World → Prop) (h : sh_route_Route_Owner r_0 shard_1 w R) : Calls Try.prog 12 #[.pointer r_0, .int .i64 shard_1] w R :=
  calls_of_sh (args := [.pointer r_0, .int .i64 shard_1]) (.two .auto (.two (.two .auto (.two (.two .auto .auto) .auto)) (.two .auto .auto))) Try.func12 (by kernel_rfl) (by kernel_rfl) (by kernel_rfl) h

/-- 13: (*buttery/route.Route).Turn -/
def sh_route_Route_Turn (r_0 : Option Addr) (w : World) (R : Ending → World → Prop) : Prop :=
  VIf r_0.isNone (
    R (.returned (.int .i64 0)) w
  ) (
    VNN none r_0 fun (a6 : Addr) =>
    VCall none Try.prog 21 #[.pointer (some a6)] w (.int .i64 0) fun (r8 : Int) (w1 : World) =>
    VSet r8 fun (v2 : Int) =>
    R (.returned (.int .i64 v2)) w1
  )
theorem sh_route_Route_Turn_ok (r_0 : Option Addr) (w : World) (R : Ending → World → Prop) (h : sh_route_Route_Turn r_0 w R) : Calls Try.prog 13 #[.pointer r_0] w R :=
  calls_of_sh (args := [.pointer r_0]) (.two .auto (.two (.two .auto (.two (.two .auto .auto) .auto)) (.two .auto .auto))) Try.func13 (by kernel_rfl) (by kernel_rfl) (by kernel_rfl) h

/-- 14: buttery/route.May -/
def sh_route_May (s_0_0 : Int) (s_0_1 : Int) (s_0_2 : Int) (s_0_3 : Int) (s_0_4 : Int) (s_0_5 : Int) (s_0_6 : Int) (s_0_7 : Int) (s_0_8 : Int) (s_0_9 : Int) (s_0_10 : Int) (s_0_11 : Int) (s_0_12 : Int) (w : World) (R : Ending → World → Prop) : Prop :=
  VNw none w (.cells #[.int .i64 s_0_0, .int .i64 s_0_1, .int .i64 s_0_2, .int .i64 s_0_3, .int .i64 s_0_4, .int .i64 s_0_5, .int .i64 s_0_6, .int .i64 s_0_7, .int .i64 s_0_8, .int .i64 s_0_9, .int .i64 s_0_10, .int .i64 s_0_11, .int .i64 s_0_12] 41) fun (s_1 : Nat) (w1 : World) =>
  VLd none w1 ⟨s_1, 0, none⟩ [CT.int .i64] fun (v6 : Int) =>
  VCall none Try.prog 22 #[.int .i64 v6, .int .i64 1, .int .i64 5] w1 (.bool false) fun (r7 : Bool) (w2 : World) =>
  VLd (some r7) w2 ⟨s_1, 1, none⟩ [CT.int .i64] fun (v10 : Int) =>
  VCall (some r7) Try.prog 22 #[.int .i64 v10, .int .i64 0, .int .i64 3] w2 (.bool false) fun (r11 : Bool) (w3 : World) =>
  VLd (some (r7 && r11)) w3 ⟨s_1, 2, none⟩ [CT.int .i64] fun (v15 : Int) =>
  VCall (some (r7 && r11)) Try.prog 22 #[.int .i64 v15, .int .i64 1, .int .i64 3] w3 (.bool false) fun (r16 : Bool) (w4 : World) =>
  VLd (some ((r7 && r11) && r16)) w4 ⟨s_1, 3, none⟩ [CT.int .i64] fun (v20 : Int) =>
  VCall (some ((r7 && r11) && r16)) Try.prog 22 #[.int .i64 v20, .int .i64 1, .int .i64 4] w4 (.bool false) fun (r21 : Bool) (w5 : World) =>
  VLd (some (((r7 && r11) && r16) && r21)) w5 ⟨s_1, 4, none⟩ [CT.int .i64] fun (v25 : Int) =>
  VCall (some (((r7 && r11) && r16) && r21)) Try.prog 22 #[.int .i64 v25, .int .i64 2000, .int .i64 65536] w5 (.bool false) fun (r26 : Bool) (w6 : World) =>
  VLd none w6 ⟨s_1, 5, none⟩ [CT.int .i64] fun (v29 : Int) =>
  VCall none Try.prog 22 #[.int .i64 v29, .int .i64 1, .int .i64 1000] w6 (.bool false) fun (r30 : Bool) (w7 : World) =>
  VLd (some r30) w7 ⟨s_1, 6, none⟩ [CT.int .i64] fun (v33 : Int) =>
  VCall (some r30) Try.prog 22 #[.int .i64 v33, .int .i64 1, .int .i64 4] w7 (.bool false) fun (r34 : Bool) (w8 : World) =>
  VLd (some (r30 && r34)) w8 ⟨s_1, 9, none⟩ [CT.int .i64] fun (v38 : Int) =>
  VCall (some (r30 && r34)) Try.prog 22 #[.int .i64 v38, .int .i64 8, .int .i64 1000] w8 (.bool false) fun (r39 : Bool) (w9 : World) =>
  VLd (some ((r30 && r34) && r39)) w9 ⟨s_1, 10, none⟩ [CT.int .i64] fun (v43 : Int) =>
  VLd (some ((r30 && r34) && r39)) w9 ⟨s_1, 9, none⟩ [CT.int .i64] fun (v45 : Int) =>
  VCall (some ((r30 && r34) && r39)) Try.prog 22 #[.int .i64 v43, .int .i64 1, .int .i64 (IntKind.wrap .i64 (Int.tdiv v45 4))] w9 (.bool false) fun (r47 : Bool) (w10 : World) =>
  VLd (some (((((r7 && r11) && r16) && r21) && r26) && (((r30 && r34) && r39) && r47))) w10 ⟨s_1, 7, none⟩ [CT.int .i64] fun (v55 : Int) =>
  VCall (some (((((r7 && r11) && r16) && r21) && r26) && (((r30 && r34) && r39) && r47))) Try.prog 22 #[.int .i64 v55, .int .i64 0, .int .i64 1000] w10 (.bool false) fun (r56 : Bool) (w11 : World) =>
  VLd (some ((((((r7 && r11) && r16) && r21) && r26) && (((r30 && r34) && r39) && r47)) && r56)) w11 ⟨s_1, 8, none⟩ [CT.int .i64] fun (v60 : Int) =>
  VCall (some ((((((r7 && r11) && r16) && r21) && r26) && (((r30 && r34) && r39) && r47)) && r56)) Try.prog 22 #[.int .i64 v60, .int .i64 0, .int .i64 100000] w11 (.bool false) fun (r61 : Bool) (w12 : World) =>
  VLd (some (((((((r7 && r11) && r16) && r21) && r26) && (((r30 && r34) && r39) && r47)) && r56) && r61)) w12 ⟨s_1, 11, none⟩ [CT.int .i64] fun (v65 : Int) =>
  VCall (some (((((((r7 && r11) && r16) && r21) && r26) && (((r30 && r34) && r39) && r47)) && r56) && r61)) Try.prog 22 #[.int .i64 v65, .int .i64 1, .int .i64 1000] w12 (.bool false) fun (r66 : Bool) (w13 : World) =>
  VLd (some ((((((((r7 && r11) && r16) && r21) && r26) && (((r30 && r34) && r39) && r47)) && r56) && r61) && r66)) w13 ⟨s_1, 12, none⟩ [CT.int .i64] fun (v70 : Int) =>
  VCall (some ((((((((r7 && r11) && r16) && r21) && r26) && (((r30 && r34) && r39) && r47)) && r56) && r61) && r66)) Try.prog 22 #[.int .i64 v70, .int .i64 0, .int .i64 1000] w13 (.bool false) fun (r71 : Bool) (w14 : World) =>
  R (.returned (.bool (((((((((r7 && r11) && r16) && r21) && r26) && (((r30 && r34) && r39) && r47)) && r56) && r61) && r66) && r71))) w14
theorem sh_route_May_ok (s_0_0 : Int) (s_0_1 : Int) (s_0_2 : Int) (s_0_3 : Int) (s_0_4 : Int) (s_0_5 : Int) (s_0_6 : Int) (s_0_7 : Int) (s_0_8 : Int) (s_0_9 : Int) (s_0_10 : Int) (s_0_11 : Int) (s_0_12 : Int) (w : World) (R : Ending → World → Prop) (h : sh_route_May s_0_0 s_0_1 s_0_2 s_0_3 s_0_4 s_0_5 s_0_6 s_0_7 s_0_8 s_0_9 s_0_10 s_0_11 s_0_12 w R) : Calls Try.prog 14 #[.agg #[.int .i64 s_0_0, .int .i64 s_0_1, .int .i64 s_0_2, .int .i64 s_0_3, .int .i64 s_0_4, .int .i64 s_0_5, .int .i64 s_0_6, .int .i64 s_0_7, .int .i64 s_0_8, .int .i64 s_0_9, .int .i64 s_0_10, .int .i64 s_0_11, .int .i64 s_0_12]] w R :=
  calls_of_sh (args := [.agg #[.int .i64 s_0_0, .int .i64 s_0_1, .int .i64 s_0_2, .int .i64 s_0_3, .int .i64 s_0_4, .int .i64 s_0_5, .int .i64 s_0_6, .int .i64 s_0_7, .int .i64 s_0_8, .int .i64 s_0_9, .int .i64 s_0_10, .int .i64 s_0_11, .int .i64 s_0_12]]) (.two .auto (.two .auto (.two .auto (.two .auto .auto)))) Try.func14 (by kernel_rfl) (by kernel_rfl) (by kernel_rfl) h

/-- 15: buttery/butteryref25.May -/
def sh_butteryref25_May (s_0_0 : Int) (s_0_1 : Int) (s_0_2 : Int) (s_0_3 : Int) (s_0_4 : Int) (s_0_5 : Int) (s_0_6 : Int) (s_0_7 : Int) (s_0_8 : Int) (s_0_9 : Int) (s_0_10 : Int) (s_0_11 : Int) (s_0_12 : Int) (w : World) (R : Ending → World → Prop) : Prop :=
  VNw none w (.cells #[.int .i64 s_0_0, .int .i64 s_0_1, .int .i64 s_0_2, .int .i64 s_0_3, .int .i64 s_0_4, .int .i64 s_0_5, .int .i64 s_0_6, .int .i64 s_0_7, .int .i64 s_0_8, .int .i64 s_0_9, .int .i64 s_0_10, .int .i64 s_0_11, .int .i64 s_0_12] 41) fun (s_1 : Nat) (w1 : World) =>
  VLd none w1 ⟨s_1, 0, none⟩ [CT.int .i64] fun (v4 : Int) =>
  VLd (some (!(decide (v4 < 1)))) w1 ⟨s_1, 0, none⟩ [CT.int .i64] fun (v8 : Int) =>
  VLd (some (!((decide (v4 < 1)) || (decide (v8 > 5))))) w1 ⟨s_1, 1, none⟩ [CT.int .i64] fun (v13 : Int) =>
  VLd (some (!(((decide (v4 < 1)) || (decide (v8 > 5))) || (decide (v13 < 0))))) w1 ⟨s_1, 1, none⟩ [CT.int .i64] fun (v18 : Int) =>
  VLd (some (!((((decide (v4 < 1)) || (decide (v8 > 5))) || (decide (v13 < 0))) || (decide (v18 > 3))))) w1 ⟨s_1, 2, none⟩ [CT.int .i64] fun (v23 : Int) =>
  VLd (some (!(((((decide (v4 < 1)) || (decide (v8 > 5))) || (decide (v13 < 0))) || (decide (v18 > 3))) || (decide (v23 < 1))))) w1 ⟨s_1, 2, none⟩ [CT.int .i64] fun (v28 : Int) =>
  VLd (some (!((((((decide (v4 < 1)) || (decide (v8 > 5))) || (decide (v13 < 0))) || (decide (v18 > 3))) || (decide (v23 < 1))) || (decide (v28 > 3))))) w1 ⟨s_1, 3, none⟩ [CT.int .i64] fun (v33 : Int) =>
  VLd (some (!(((((((decide (v4 < 1)) || (decide (v8 > 5))) || (decide (v13 < 0))) || (decide (v18 > 3))) || (decide (v23 < 1))) || (decide (v28 > 3))) || (decide (v33 < 1))))) w1 ⟨s_1, 3, none⟩ [CT.int .i64] fun (v38 : Int) =>
  VLd (some (!((((((((decide (v4 < 1)) || (decide (v8 > 5))) || (decide (v13 < 0))) || (decide (v18 > 3))) || (decide (v23 < 1))) || (decide (v28 > 3))) || (decide (v33 < 1))) || (decide (v38 > 4))))) w1 ⟨s_1, 4, none⟩ [CT.int .i64] fun (v43 : Int) =>
  VLd (some (!(((((((((decide (v4 < 1)) || (decide (v8 > 5))) || (decide (v13 < 0))) || (decide (v18 > 3))) || (decide (v23 < 1))) || (decide (v28 > 3))) || (decide (v33 < 1))) || (decide (v38 > 4))) || (decide (v43 < 2000))))) w1 ⟨s_1, 4, none⟩ [CT.int .i64] fun (v48 : Int) =>
  VIf ((((((((((decide (v4 < 1)) || (decide (v8 > 5))) || (decide (v13 < 0))) || (decide (v18 > 3))) || (decide (v23 < 1))) || (decide (v28 > 3))) || (decide (v33 < 1))) || (decide (v38 > 4))) || (decide (v43 < 2000))) || (decide (v48 > 65536))) (
    R (.returned (.bool false)) w1
  ) (
    VLd none w1 ⟨s_1, 5, none⟩ [CT.int .i64] fun (v52 : Int) =>
    VLd (some (!(decide (v52 < 1)))) w1 ⟨s_1, 5, none⟩ [CT.int .i64] fun (v56 : Int) =>
    VLd (some (!((decide (v52 < 1)) || (decide (v56 > 1000))))) w1 ⟨s_1, 6, none⟩ [CT.int .i64] fun (v61 : Int) =>
    VLd (some (!(((decide (v52 < 1)) || (decide (v56 > 1000))) || (decide (v61 < 1))))) w1 ⟨s_1, 6, none⟩ [CT.int .i64] fun (v66 : Int) =>
    VLd (some (!((((decide (v52 < 1)) || (decide (v56 > 1000))) || (decide (v61 < 1))) || (decide (v66 > 4))))) w1 ⟨s_1, 7, none⟩ [CT.int .i64] fun (v71 : Int) =>
    VLd (some (!(((((decide (v52 < 1)) || (decide (v56 > 1000))) || (decide (v61 < 1))) || (decide (v66 > 4))) || (decide (v71 < 0))))) w1 ⟨s_1, 7, none⟩ [CT.int .i64] fun (v76 : Int) =>
    VLd (some (!((((((decide (v52 < 1)) || (decide (v56 > 1000))) || (decide (v61 < 1))) || (decide (v66 > 4))) || (decide (v71 < 0))) || (decide (v76 > 1000))))) w1 ⟨s_1, 8, none⟩ [CT.int .i64] fun (v81 : Int) =>
    VLd (some (!(((((((decide (v52 < 1)) || (decide (v56 > 1000))) || (decide (v61 < 1))) || (decide (v66 > 4))) || (decide (v71 < 0))) || (decide (v76 > 1000))) || (decide (v81 < 0))))) w1 ⟨s_1, 8, none⟩ [CT.int .i64] fun (v86 : Int) =>
    VIf ((((((((decide (v52 < 1)) || (decide (v56 > 1000))) || (decide (v61 < 1))) || (decide (v66 > 4))) || (decide (v71 < 0))) || (decide (v76 > 1000))) || (decide (v81 < 0))) || (decide (v86 > 100000))) (
      R (.returned (.bool false)) w1
    ) (
      VLd none w1 ⟨s_1, 9, none⟩ [CT.int .i64] fun (v90 : Int) =>
      VLd (some (decide (v90 ≥ 8))) w1 ⟨s_1, 9, none⟩ [CT.int .i64] fun (v94 : Int) =>
      VLd (some ((decide (v90 ≥ 8)) && (decide (v94 ≤ 1000)))) w1 ⟨s_1, 10, none⟩ [CT.int .i64] fun (v99 : Int) =>
      VLd (some (((decide (v90 ≥ 8)) && (decide (v94 ≤ 1000))) && (decide (v99 ≥ 1)))) w1 ⟨s_1, 10, none⟩ [CT.int .i64] fun (v104 : Int) =>
      VLd (some (((decide (v90 ≥ 8)) && (decide (v94 ≤ 1000))) && (decide (v99 ≥ 1)))) w1 ⟨s_1, 9, none⟩ [CT.int .i64] fun (v106 : Int) =>
      VLd (some ((((decide (v90 ≥ 8)) && (decide (v94 ≤ 1000))) && (decide (v99 ≥ 1))) && (decide (v104 ≤ (IntKind.wrap .i64 (Int.tdiv v106 4)))))) w1 ⟨s_1, 11, none⟩ [CT.int .i64] fun (v112 : Int) =>
      VLd (some (((((decide (v90 ≥ 8)) && (decide (v94 ≤ 1000))) && (decide (v99 ≥ 1))) && (decide (v104 ≤ (IntKind.wrap .i64 (Int.tdiv v106 4))))) && (decide (v112 ≥ 1)))) w1 ⟨s_1, 11, none⟩ [CT.int .i64] fun (v117 : Int) =>
      VLd (some ((((((decide (v90 ≥ 8)) && (decide (v94 ≤ 1000))) && (decide (v99 ≥ 1))) && (decide (v104 ≤ (IntKind.wrap .i64 (Int.tdiv v106 4))))) && (decide (v112 ≥ 1))) && (decide (v117 ≤ 1000)))) w1 ⟨s_1, 12, none⟩ [CT.int .i64] fun (v122 : Int) =>
      VLd (some (((((((decide (v90 ≥ 8)) && (decide (v94 ≤ 1000))) && (decide (v99 ≥ 1))) && (decide (v104 ≤ (IntKind.wrap .i64 (Int.tdiv v106 4))))) && (decide (v112 ≥ 1))) && (decide (v117 ≤ 1000))) && (decide (v122 ≥ 0)))) w1 ⟨s_1, 12, none⟩ [CT.int .i64] fun (v127 : Int) =>
      R (.returned (.bool ((((((((decide (v90 ≥ 8)) && (decide (v94 ≤ 1000))) && (decide (v99 ≥ 1))) && (decide (v104 ≤ (IntKind.wrap .i64 (Int.tdiv v106 4))))) && (decide (v112 ≥ 1))) && (decide (v117 ≤ 1000))) && (decide (v122 ≥ 0))) && (decide (v127 ≤ 1000))))) w1
    )
  )
theorem sh_butteryref25_May_ok (s_0_0 : Int) (s_0_1 : Int) (s_0_2 : Int) (s_0_3 : Int) (s_0_4 : Int) (s_0_5 : Int) (s_0_6 : Int) (s_0_7 : Int) (s_0_8 : Int) (s_0_9 : Int) (s_0_10 : Int) (s_0_11 : Int) (s_0_12 : Int) (w : World) (R : Ending → World → Prop) (h : sh_butteryref25_May s_0_0 s_0_1 s_0_2 s_0_3 s_0_4 s_0_5 s_0_6 s_0_7 s_0_8 s_0_9 s_0_10 s_0_11 s_0_12 w R) : Calls Try.prog 15 #[.agg #[.int .i64 s_0_0, .int .i64 s_0_1, .int .i64 s_0_2, .int .i64 s_0_3, .int .i64 s_0_4, .int .i64 s_0_5, .int .i64 s_0_6, .int .i64 s_0_7, .int .i64 s_0_8, .int .i64 s_0_9, .int .i64 s_0_10, .int .i64 s_0_11, .int .i64 s_0_12]] w R :=
  calls_of_sh (args := [.agg #[.int .i64 s_0_0, .int .i64 s_0_1, .int .i64 s_0_2, .int .i64 s_0_3, .int .i64 s_0_4, .int .i64 s_0_5, .int .i64 s_0_6, .int .i64 s_0_7, .int .i64 s_0_8, .int .i64 s_0_9, .int .i64 s_0_10, .int .i64 s_0_11, .int .i64 s_0_12]]) (.two .auto (.two (.two .auto (.two (.two .auto .auto) .auto)) (.two (.two .auto (.two (.two .auto .auto) .auto)) (.two .auto .auto)))) Try.func15 (by kernel_rfl) (by kernel_rfl) (by kernel_rfl) h

/-- 16: (*buttery/route.Route).Copy -/
def sh_route_Route_Copy (r_0 : Option Addr) (w : World) (R : Ending → World → Prop) : Prop :=
  VIf r_0.isNone (
    R (.returned (.pointer none)) w
  ) (
    ∀ (w1 : World), w1 = World.drew w →
    VNN none r_0 fun (a6 : Addr) =>
    VLd none w1 a6 [CT.int .i64, CT.int .i64] fun (v8_0 : Int) (v8_1 : Int) =>
    VNN none r_0 fun (a10 : Addr) =>
    VLd none w1 (Addr.add a10 2) [CT.sl] fun (v12 : Sl) =>
    VCall none Try.prog 23 #[.slice v12.base v12.len v12.cap] w1 (.slice none 0 0) fun (r13 : Sl) (w2 : World) =>
    Rd w2 a6 [.int .i64 v8_0, .int .i64 v8_1] ∧
    VNw none w2 (.cells #[.int .i64 v8_0, .int .i64 v8_1, .slice r13.base r13.len r13.cap] 51) fun (b15 : Nat) (w3 : World) =>
    R (.returned (.pointer (some ⟨b15, 0, none⟩))) w3
  )
theorem sh_route_Route_Copy_ok (r_0 : Option Addr) (w : World) (R : Ending → World → Prop) (h : sh_route_Route_Copy r_0 w R) : Calls Try.prog 16 #[.pointer r_0] w R :=
  calls_of_sh (args := [.pointer r_0]) (.two .auto (.two (.two .auto (.two (.two .auto .auto) .auto)) (.two .auto .auto))) Try.func16 (by kernel_rfl) (by kernel_rfl) (by kernel_rfl) h

/-- 17: buttery/butteryref25.New -/
def sh_butteryref25_New (shards_0 : Int) (stores_1 : Int) (w : World) (R : Ending → World → Prop) : Prop :=
  VIf ((((decide (shards_0 < 1)) || (decide (shards_0 > 4))) || (decide (stores_1 < 1))) || (decide (stores_1 > 5))) (
    R (.returned (.tuple #[.pointer none, .bool false])) w
  ) (
    ∃ Φ1 : Option Addr → Bool → World → Prop, (
      ∀ (w1 : World), w1 = World.drew w →
      (
        VMk none w1 3 1 8 #[.int .i64 0] shards_0 shards_0 fun (b21 : Nat) (w2 : World) =>
        VMk none w2 3 1 8 #[.int .i64 0] shards_0 shards_0 fun (b23 : Nat) (w3 : World) =>
        VNw none w3 (.cells #[.slice (some ⟨b21, 0, none⟩) (Int.toNat shards_0) (Int.toNat shards_0), .slice (some ⟨b23, 0, none⟩) (Int.toNat shards_0) (Int.toNat shards_0), .int .i64 stores_1, .int .i64 0] 56) fun (b26 : Nat) (w4 : World) =>
        Φ1 (some ⟨b26, 0, none⟩) true w4
      ) ∧ (
        VMk none w1 3 1 8 #[.int .i64 0] shards_0 shards_0 fun (b23 : Nat) (w5 : World) =>
        VMk none w5 3 1 8 #[.int .i64 0] shards_0 shards_0 fun (b21 : Nat) (w6 : World) =>
        VNw none w6 (.cells #[.slice (some ⟨b21, 0, none⟩) (Int.toNat shards_0) (Int.toNat shards_0), .slice (some ⟨b23, 0, none⟩) (Int.toNat shards_0) (Int.toNat shards_0), .int .i64 stores_1, .int .i64 0] 56) fun (b26 : Nat) (w7 : World) =>
        Φ1 (some ⟨b26, 0, none⟩) true w7
      )
    ) ∧ ∀ (x4 : Option Addr) (x5 : Bool) (w8 : World), Φ1 x4 x5 w8 →
    R (.returned (.tuple #[.pointer x4, .bool x5])) w8
  )
theorem sh_butteryref25_New_ok (shards_0 : Int) (stores_1 : Int) (w : World) (R : Ending → World → Prop) (h : sh_butteryref25_New shards_0 stores_1 w R) : Calls Try.prog 17 #[.int .i64 shards_0, .int .i64 stores_1] w R :=
  calls_of_sh (args := [.int .i64 shards_0, .int .i64 stores_1]) (.two .auto (.two (.two .auto (.two (.two .auto .auto) .auto)) (.two (.bjoin [(4, .pointer none), (5, .bool false)] .auto) .auto))) Try.func17 (by kernel_rfl) (by kernel_rfl) (by kernel_rfl) h

/-- 18: (*buttery/butteryref25.Route).Learn -/
def sh_butteryref25_Route_Learn (r_0 : Option Addr) (shard_1 : Int) (epoch_2 : Int) (owner_3 : Int) (w : World) (R : Ending → World → Prop) : Prop :=
  VNN (some (!(decide (shard_1 < 0)))) r_0 fun (a14 : Addr) =>
  VLd (some (!(decide (shard_1 < 0)))) w a14 [CT.sl] fun (v16 : Sl) =>
  VNN (some (!(((decide (shard_1 < 0)) || (decide (shard_1 ≥ ((v16.len : Nat) : Int)))) || (decide (owner_3 < 1))))) r_0 fun (a27 : Addr) =>
  VLd (some (!(((decide (shard_1 < 0)) || (decide (shard_1 ≥ ((v16.len : Nat) : Int)))) || (decide (owner_3 < 1))))) w (Addr.add a27 2) [CT.int .i64] fun (v29 : Int) =>
  VNN (some (!((((decide (shard_1 < 0)) || (decide (shard_1 ≥ ((v16.len : Nat) : Int)))) || (decide (owner_3 < 1))) || (decide (owner_3 > v29))))) r_0 fun (a35 : Addr) =>
  VLd (some (!((((decide (shard_1 < 0)) || (decide (shard_1 ≥ ((v16.len : Nat) : Int)))) || (decide (owner_3 < 1))) || (decide (owner_3 > v29))))) w (Addr.add a35 1) [CT.sl] fun (v37 : Sl) =>
  VIx (some (!((((decide (shard_1 < 0)) || (decide (shard_1 ≥ ((v16.len : Nat) : Int)))) || (decide (owner_3 < 1))) || (decide (owner_3 > v29))))) v37.base v37.len shard_1 fun (a39 : Addr) =>
  VLd (some (!((((decide (shard_1 < 0)) || (decide (shard_1 ≥ ((v16.len : Nat) : Int)))) || (decide (owner_3 < 1))) || (decide (owner_3 > v29))))) w (Addr.add a39 ((Int.toNat shard_1) * 1)) [CT.int .i64] fun (v40 : Int) =>
  VIf ((((((decide (shard_1 < 0)) || (decide (shard_1 ≥ ((v16.len : Nat) : Int)))) || (decide (owner_3 < 1))) || (decide (owner_3 > v29))) || (decide (epoch_2 ≤ v40))) || (decide (epoch_2 > 2147483647))) (
    R (.returned (.bool false)) w
  ) (
    VNN none r_0 fun (a48 : Addr) =>
    VLd none w a48 [CT.sl] fun (v50 : Sl) =>
    VIx none v50.base v50.len shard_1 fun (a53 : Addr) =>
    VSt none w (Addr.add a53 ((Int.toNat shard_1) * 1)) [.int .i64 owner_3] fun (w1 : World) =>
    VNN none r_0 fun (a55 : Addr) =>
    VLd none w1 (Addr.add a55 1) [CT.sl] fun (v57 : Sl) =>
    VIx none v57.base v57.len shard_1 fun (a60 : Addr) =>
    VSt none w1 (Addr.add a60 ((Int.toNat shard_1) * 1)) [.int .i64 epoch_2] fun (w2 : World) =>
    R (.returned (.bool true)) w2
  )
theorem sh_butteryref25_Route_Learn_ok (r_0 : Option Addr) (shard_1 : Int) (epoch_2 : Int) (owner_3 : Int) (w : World) (R : Ending → World → Prop) (h : sh_butteryref25_Route_Learn r_0 shard_1 epoch_2 owner_3 w R) : Calls Try.prog 18 #[.pointer r_0, .int .i64 shard_1, .int .i64 epoch_2, .int .i64 owner_3] w R :=
  calls_of_sh (args := [.pointer r_0, .int .i64 shard_1, .int .i64 epoch_2, .int .i64 owner_3]) (.two .auto (.two (.two .auto (.two (.two .auto .auto) .auto)) (.two .auto (.two .auto (.two .auto .auto))))) Try.func18 (by kernel_rfl) (by kernel_rfl) (by kernel_rfl) h

/-- 19: (*buttery/butteryref25.Route).Turn -/
def sh_butteryref25_Route_Turn (r_0 : Option Addr) (w : World) (R : Ending → World → Prop) : Prop :=
  VNN none r_0 fun (a5 : Addr) =>
  VLd none w (Addr.add a5 3) [CT.int .i64] fun (v7 : Int) =>
  VNN none r_0 fun (a9 : Addr) =>
  VSt none w (Addr.add a9 3) [.int .i64 (IntKind.wrap .i64 (v7 + 1))] fun (w1 : World) =>
  ∀ (w2 : World), w2 = World.drew w1 →
  VNN none r_0 fun (a12 : Addr) =>
  VLd none w2 (Addr.add a12 3) [CT.int .i64] fun (v14 : Int) =>
  VNN none r_0 fun (a17 : Addr) =>
  VLd none w2 (Addr.add a17 2) [CT.int .i64] fun (v19 : Int) =>
  VCk none (v19 ≠ 0) <|
  VSet (IntKind.wrap .i64 ((Int.tmod (IntKind.wrap .i64 (v14 - 1)) v19) + 1)) fun (v2 : Int) =>
  R (.returned (.int .i64 v2)) w2
theorem sh_butteryref25_Route_Turn_ok (r_0 : Option Addr) (w : World) (R : Ending → World → Prop) (h : sh_butteryref25_Route_Turn r_0 w R) : Calls Try.prog 19 #[.pointer r_0] w R :=
  calls_of_sh (args := [.pointer r_0]) (.two .auto (.two .auto (.two .auto .auto))) Try.func19 (by kernel_rfl) (by kernel_rfl) (by kernel_rfl) h

/-- 20: (*buttery/butteryref25.Route).Owner -/
def sh_butteryref25_Route_Owner (r_0 : Option Addr) (shard_1 : Int) (w : World) (R : Ending → World → Prop) : Prop :=
  VNN (some (!(decide (shard_1 < 0)))) r_0 fun (a11 : Addr) =>
  VLd (some (!(decide (shard_1 < 0)))) w a11 [CT.sl] fun (v13 : Sl) =>
  VIf ((decide (shard_1 < 0)) || (decide (shard_1 ≥ ((v13.len : Nat) : Int)))) (
    R (.returned (.tuple #[.int .i64 0, .int .i64 0])) w
  ) (
    ∀ (w1 : World), w1 = World.drew w →
    VNN none r_0 fun (a18 : Addr) =>
    VLd none w1 a18 [CT.sl] fun (v20 : Sl) =>
    VIx none v20.base v20.len shard_1 fun (a22 : Addr) =>
    VLd none w1 (Addr.add a22 ((Int.toNat shard_1) * 1)) [CT.int .i64] fun (v23 : Int) =>
    VNN none r_0 fun (a25 : Addr) =>
    VLd none w1 (Addr.add a25 1) [CT.sl] fun (v27 : Sl) =>
    VIx none v27.base v27.len shard_1 fun (a29 : Addr) =>
    VLd none w1 (Addr.add a29 ((Int.toNat shard_1) * 1)) [CT.int .i64] fun (v30 : Int) =>
    VSet v23 fun (v4 : Int) =>
    VSet v30 fun (v5 : Int) =>
    R (.returned (.tuple #[.int .i64 v4, .int .i64 v5])) w1
  )
theorem sh_butteryref25_Route_Owner_ok (r_0 : Option Addr) (shard_1 : Int) (w : World) (R : Ending → World → Prop) (h : sh_butteryref25_Route_Owner r_0 shard_1 w R) : Calls Try.prog 20 #[.pointer r_0, .int .i64 shard_1] w R :=
  calls_of_sh (args := [.pointer r_0, .int .i64 shard_1]) (.two .auto (.two (.two .auto (.two (.two .auto .auto) .auto)) (.two .auto .auto))) Try.func20 (by kernel_rfl) (by kernel_rfl) (by kernel_rfl) h

/-- 21: (*buttery/route.turn).next -/
def sh_route_turn_next (t_0 : Option Addr) (w : World) (R : Ending → World → Prop) : Prop :=
  ∀ (w1 : World), w1 = World.drew w →
  VNN none t_0 fun (a5 : Addr) =>
  VLd none w1 (Addr.add a5 1) [CT.int .i64] fun (v7 : Int) =>
  VNN none t_0 fun (a9 : Addr) =>
  VLd none w1 a9 [CT.int .i64] fun (v11 : Int) =>
  VCk none (v11 ≠ 0) <|
  VNN none t_0 fun (a14 : Addr) =>
  VSt none w1 (Addr.add a14 1) [.int .i64 (IntKind.wrap .i64 ((Int.tmod v7 v11) + 1))] fun (w2 : World) =>
  VNN none t_0 fun (a17 : Addr) =>
  VLd none w2 (Addr.add a17 1) [CT.int .i64] fun (v19 : Int) =>
  VSet v19 fun (v2 : Int) =>
  R (.returned (.int .i64 v2)) w2
theorem sh_route_turn_next_ok (t_0 : Option Addr) (w : World) (R : Ending → World → Prop) (h : sh_route_turn_next t_0 w R) : Calls Try.prog 21 #[.pointer t_0] w R :=
  calls_of_sh (args := [.pointer t_0]) (.two .auto (.two .auto (.two .auto .auto))) Try.func21 (by kernel_rfl) (by kernel_rfl) (by kernel_rfl) h

/-- 22: buttery/route.in -/
def sh_route_in (n_0 : Int) (least_1 : Int) (most_2 : Int) (w : World) (R : Ending → World → Prop) : Prop :=
  R (.returned (.bool ((decide (n_0 ≥ least_1)) && (decide (n_0 ≤ most_2))))) w
theorem sh_route_in_ok (n_0 : Int) (least_1 : Int) (most_2 : Int) (w : World) (R : Ending → World → Prop) (h : sh_route_in n_0 least_1 most_2 w R) : Calls Try.prog 22 #[.int .i64 n_0, .int .i64 least_1, .int .i64 most_2] w R :=
  calls_of_sh (args := [.int .i64 n_0, .int .i64 least_1, .int .i64 most_2]) (.two .auto (.two .auto .auto)) Try.func22 (by kernel_rfl) (by kernel_rfl) (by kernel_rfl) h

/-- 23: slices.Clone of  of buttery/route.belief,buttery/route.belief -/
def sh_slices_Clone (s_0 : Sl) (w : World) (R : Ending → World → Prop) : Prop :=
  VIf s_0.base.isNone (
    R (.returned (.slice none 0 0)) w
  ) (
    VNw none w (.cells #[] 53) fun (b5 : Nat) (w1 : World) =>
    VApp none w1 53 2 16 #[.int .i64 0, .int .i64 0] (some ⟨b5, 0, none⟩) 0 0 s_0.len (fun news => Seg w1 s_0.base s_0.len 2 news) fun (l7 : Sl) (w2 : World) =>
    R (.returned (.slice l7.base l7.len l7.cap)) w2
  )
theorem sh_slices_Clone_ok (s_0 : Sl) (w : World) (R : Ending → World → Prop) (h : sh_slices_Clone s_0 w R) : Calls Try.prog 23 #[.slice s_0.base s_0.len s_0.cap] w R :=
  calls_of_sh (args := [.slice s_0.base s_0.len s_0.cap]) (.two .auto (.two (.two .auto (.two (.two .auto .auto) .auto)) (.two .auto .auto))) Try.func23 (by kernel_rfl) (by kernel_rfl) (by kernel_rfl) h

end Go.Proofs.Ythhegdghcnhkbaa
