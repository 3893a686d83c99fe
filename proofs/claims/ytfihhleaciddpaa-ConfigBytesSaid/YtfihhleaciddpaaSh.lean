/-
  By program (own tool): what the code of each function asks, in plain text, and that it suffices (the kernel compares the two).
-/
import Derived.Test.YtfihhleaciddpaaRows
import Derived.Test.YtfihhleaciddpaaEngJ
import Derived.KernelRfl
namespace Go.Proofs.Ytfihhleaciddpaa
open Go.RowKit
set_option maxRecDepth 100000

/-- 3: buttery/butterylaw17.ConfigOne -/
def sh_butterylaw17_ConfigOne (shards_0 : Int) (stores_1 : Int) (l_2 : Sl) (w : World) (R : Ending → World → Prop) : Prop :=
  VCall none Try.prog 7 #[] w (.bool false) fun (r15 : Bool) (w1 : World) =>
  VIf ((!r15) || (decide (((l_2.len : Nat) : Int) > 300))) (
    VCall none Try.prog 7 #[] w1 (.bool false) fun (r22 : Bool) (w2 : World) =>
    R (.returned (.bool r22)) w2
  ) (
    VCall none Try.prog 8 #[.int .i64 (IntKind.wrap .i64 (1 + (IntKind.wrap .i64 (Int.tmod (IntKind.wrap .u64 shards_0) 4)))), .int .i64 (IntKind.wrap .i64 (1 + (IntKind.wrap .i64 (Int.tmod (IntKind.wrap .u64 stores_1) 5))))] w1 (.tuple #[.pointer none, .int .i64 0]) fun (r34_0 : Option Addr) (r34_1 : Int) (w3 : World) =>
    VSet r34_1 fun (e_8 : Int) =>
    VIf (e_8 != 0) (
      R (.returned (.bool false)) w3
    ) (
      ∃ I1 : Nat → Int → World → Prop, (∃ k, I1 k 0 w3) ∧ ∀ k1 (i_9 : Int) (w4 : World), I1 k1 i_9 w4 →
      VIf (decide (i_9 < ((l_2.len : Nat) : Int))) (
        VCall none Try.prog 9 #[.pointer r34_0] w4 (.slice none 0 0) fun (r46 : Sl) (w5 : World) =>
        VIx none l_2.base l_2.len i_9 fun (a50 : Addr) =>
        VLd none w5 (Addr.add a50 ((Int.toNat i_9) * 4)) [CT.int .u8, CT.int .i64, CT.int .i64, CT.int .i64] fun (v51_0 : Int) (v51_1 : Int) (v51_2 : Int) (v51_3 : Int) =>
        VCall none Try.prog 10 #[.pointer r34_0, .agg #[.int .u8 v51_0, .int .i64 v51_1, .int .i64 v51_2, .int .i64 v51_3]] w5 (.bool false) fun (r52 : Bool) (w6 : World) =>
        VCall none Try.prog 9 #[.pointer r34_0] w6 (.slice none 0 0) fun (r54 : Sl) (w7 : World) =>
        ∃ I2 : Nat → Int → Int → World → Prop, (∃ k, I2 k 0 0 w7) ∧ ∀ k2 (changed_13 : Int) (k_14 : Int) (w8 : World), I2 k2 changed_13 k_14 w8 →
        VIf (decide (k_14 < ((r46.len : Nat) : Int))) (
          ∃ Φ3 : Int → World → Prop, (
            ∀ (w9 : World), w9 = World.drew w8 →
            VIx none r46.base r46.len k_14 fun (a63 : Addr) =>
            VLd none w9 (Addr.add a63 ((Int.toNat k_14) * 3)) [CT.int .i64, CT.int .i64, CT.int .i64] fun (v64_0 : Int) (v64_1 : Int) (v64_2 : Int) =>
            VIx none r54.base r54.len k_14 fun (a67 : Addr) =>
            VLd none w9 (Addr.add a67 ((Int.toNat k_14) * 3)) [CT.int .i64, CT.int .i64, CT.int .i64] fun (v68_0 : Int) (v68_1 : Int) (v68_2 : Int) =>
            VIf ((v64_0 == v68_0) && ((v64_1 == v68_1) && (v64_2 == v68_2))) (
              Φ3 changed_13 w9
            ) (
              VSet (IntKind.wrap .i64 (changed_13 + 1)) fun (changed_13'' : Int) =>
              ∀ (w10 : World), w10 = World.drew w9 →
              VIx none l_2.base l_2.len i_9 fun (a75 : Addr) =>
              VLd none w10 (Addr.add (Addr.add a75 ((Int.toNat i_9) * 4)) 1) [CT.int .i64] fun (v77 : Int) =>
              VIx (some (!(k_14 != v77))) r54.base r54.len k_14 fun (a82 : Addr) =>
              VLd (some (!(k_14 != v77))) w10 (Addr.add a82 ((Int.toNat k_14) * 3)) [CT.int .i64] fun (v84 : Int) =>
              VIx (some (!(k_14 != v77))) r46.base r46.len k_14 fun (a87 : Addr) =>
              VLd (some (!(k_14 != v77))) w10 (Addr.add a87 ((Int.toNat k_14) * 3)) [CT.int .i64] fun (v89 : Int) =>
              VIx (some (!((k_14 != v77) || (v84 != (IntKind.wrap .i64 (v89 + 1)))))) l_2.base l_2.len i_9 fun (a96 : Addr) =>
              VLd (some (!((k_14 != v77) || (v84 != (IntKind.wrap .i64 (v89 + 1)))))) w10 (Addr.add (Addr.add a96 ((Int.toNat i_9) * 4)) 3) [CT.int .i64] fun (v98 : Int) =>
              VIx (some (!((k_14 != v77) || (v84 != (IntKind.wrap .i64 (v89 + 1)))))) r46.base r46.len k_14 fun (a101 : Addr) =>
              VLd (some (!((k_14 != v77) || (v84 != (IntKind.wrap .i64 (v89 + 1)))))) w10 (Addr.add a101 ((Int.toNat k_14) * 3)) [CT.int .i64] fun (v103 : Int) =>
              VIx (some (!(((k_14 != v77) || (v84 != (IntKind.wrap .i64 (v89 + 1)))) || (v98 != v103)))) r54.base r54.len k_14 fun (a109 : Addr) =>
              VLd (some (!(((k_14 != v77) || (v84 != (IntKind.wrap .i64 (v89 + 1)))) || (v98 != v103)))) w10 (Addr.add (Addr.add a109 ((Int.toNat k_14) * 3)) 1) [CT.int .i64] fun (v111 : Int) =>
              VIx (some (!((((k_14 != v77) || (v84 != (IntKind.wrap .i64 (v89 + 1)))) || (v98 != v103)) || (v111 == 0)))) r54.base r54.len k_14 fun (a117 : Addr) =>
              VLd (some (!((((k_14 != v77) || (v84 != (IntKind.wrap .i64 (v89 + 1)))) || (v98 != v103)) || (v111 == 0)))) w10 (Addr.add (Addr.add a117 ((Int.toNat k_14) * 3)) 2) [CT.int .i64] fun (v119 : Int) =>
              VIx (some (!((((k_14 != v77) || (v84 != (IntKind.wrap .i64 (v89 + 1)))) || (v98 != v103)) || (v111 == 0)))) r54.base r54.len k_14 fun (a122 : Addr) =>
              VLd (some (!((((k_14 != v77) || (v84 != (IntKind.wrap .i64 (v89 + 1)))) || (v98 != v103)) || (v111 == 0)))) w10 (Addr.add (Addr.add a122 ((Int.toNat k_14) * 3)) 1) [CT.int .i64] fun (v124 : Int) =>
              VIf (((((k_14 != v77) || (v84 != (IntKind.wrap .i64 (v89 + 1)))) || (v98 != v103)) || (v111 == 0)) || (v119 == v124)) (
                R (.returned (.bool false)) w10
              ) (
                ∀ (w11 : World), w11 = World.drew w10 →
                VIx none r54.base r54.len k_14 fun (a129 : Addr) =>
                VLd none w11 (Addr.add (Addr.add a129 ((Int.toNat k_14) * 3)) 1) [CT.int .i64] fun (v131 : Int) =>
                VIx none r46.base r46.len k_14 fun (a134 : Addr) =>
                VLd none w11 (Addr.add (Addr.add a134 ((Int.toNat k_14) * 3)) 1) [CT.int .i64] fun (v136 : Int) =>
                VIx (some (v131 != v136)) r46.base r46.len k_14 fun (a141 : Addr) =>
                VLd (some (v131 != v136)) w11 (Addr.add (Addr.add a141 ((Int.toNat k_14) * 3)) 1) [CT.int .i64] fun (v143 : Int) =>
                VIx (some ((v131 != v136) && (v143 != 0))) r46.base r46.len k_14 fun (a149 : Addr) =>
                VLd (some ((v131 != v136) && (v143 != 0))) w11 (Addr.add (Addr.add a149 ((Int.toNat k_14) * 3)) 2) [CT.int .i64] fun (v151 : Int) =>
                VIx (some ((v131 != v136) && (v143 != 0))) r54.base r54.len k_14 fun (a154 : Addr) =>
                VLd (some ((v131 != v136) && (v143 != 0))) w11 (Addr.add (Addr.add a154 ((Int.toNat k_14) * 3)) 1) [CT.int .i64] fun (v156 : Int) =>
                VIx (some (((v131 != v136) && (v143 != 0)) && (!(v151 != v156)))) r54.base r54.len k_14 fun (a161 : Addr) =>
                VLd (some (((v131 != v136) && (v143 != 0)) && (!(v151 != v156)))) w11 (Addr.add (Addr.add a161 ((Int.toNat k_14) * 3)) 2) [CT.int .i64] fun (v163 : Int) =>
                VIf (((v131 != v136) && (v143 != 0)) && ((v151 != v156) || (v163 != 0))) (
                  R (.returned (.bool false)) w11
                ) (
                  Φ3 changed_13'' w11
                )
              )
            )
          ) ∧ ∀ (changed_13' : Int) (w12 : World), Φ3 changed_13' w12 →
          VSet (IntKind.wrap .i64 (k_14 + 1)) fun (k_14' : Int) =>
          ∃ k', k' < k2 ∧ I2 k' changed_13' k_14' w12
        ) (
          VIx (some ((!((decide (changed_13 > 1)) || ((changed_13 == 1) && (!r52)))) && (r52 && (changed_13 == 0)))) l_2.base l_2.len i_9 fun (a186 : Addr) =>
          VLd (some ((!((decide (changed_13 > 1)) || ((changed_13 == 1) && (!r52)))) && (r52 && (changed_13 == 0)))) w8 (Addr.add a186 ((Int.toNat i_9) * 4)) [CT.int .u8] fun (v188 : Int) =>
          VIx (some ((!((decide (changed_13 > 1)) || ((changed_13 == 1) && (!r52)))) && ((r52 && (changed_13 == 0)) && (v188 != 5)))) l_2.base l_2.len i_9 fun (a194 : Addr) =>
          VLd (some ((!((decide (changed_13 > 1)) || ((changed_13 == 1) && (!r52)))) && ((r52 && (changed_13 == 0)) && (v188 != 5)))) w8 (Addr.add a194 ((Int.toNat i_9) * 4)) [CT.int .u8] fun (v196 : Int) =>
          VIf (((decide (changed_13 > 1)) || ((changed_13 == 1) && (!r52))) || (((r52 && (changed_13 == 0)) && (v188 != 5)) && (v196 != 6))) (
            R (.returned (.bool false)) w8
          ) (
            VSet (IntKind.wrap .i64 (i_9 + 1)) fun (i_9' : Int) =>
            ∃ k', k' < k1 ∧ I1 k' i_9' w8
          )
        )
      ) (
        R (.returned (.bool true)) w4
      )
    )
  )
theorem sh_butterylaw17_ConfigOne_ok (shards_0 : Int) (stores_1 : Int) (l_2 : Sl) (w : World) (R : Ending → World → Prop) (h : sh_butterylaw17_ConfigOne shards_0 stores_1 l_2 w R) : Calls Try.prog 3 #[.int .i64 shards_0, .int .i64 stores_1, .slice l_2.base l_2.len l_2.cap] w R :=
  calls_of_sh (args := [.int .i64 shards_0, .int .i64 stores_1, .slice l_2.base l_2.len l_2.cap]) (.two .auto (.two (.two .auto (.two (.two .auto .auto) .auto)) (.two .auto (.two (.two .auto (.two (.two .auto .auto) .auto)) (.two (.two .auto (.one (.loop [(9, .int .i64 0)] (.two (.two .auto (.two .auto .auto)) (.two (.one (.two .auto (.two .auto (.two .auto (.two .auto (.two (.two .auto (.one (.loop [(13, .int .i64 0), (14, .int .i64 0)] (.two (.two .auto (.two .auto .auto)) (.two (.bjoin [(13, .int .i64 0)] (.two (.two .auto (.two .auto .auto)) (.two .auto (.two (.two .auto (.two (.two .auto .auto) .auto)) (.two .auto (.two (.two .auto .auto) .auto)))))) .auto))))) (.two .auto (.two (.two .auto .auto) .auto)))))))) .auto))))) (.two .auto .auto)))))) Try.func3 (by kernel_rfl) (by kernel_rfl) (by kernel_rfl) h

/-- 4: buttery/butterylaw17.ConfigLate -/
def sh_butterylaw17_ConfigLate (shards_0 : Int) (stores_1 : Int) (l_2 : Sl) (w : World) (R : Ending → World → Prop) : Prop :=
  VCall none Try.prog 7 #[] w (.bool false) fun (r13 : Bool) (w1 : World) =>
  VIf ((!r13) || (decide (((l_2.len : Nat) : Int) > 300))) (
    VCall none Try.prog 7 #[] w1 (.bool false) fun (r20 : Bool) (w2 : World) =>
    R (.returned (.bool r20)) w2
  ) (
    VCall none Try.prog 8 #[.int .i64 (IntKind.wrap .i64 (1 + (IntKind.wrap .i64 (Int.tmod (IntKind.wrap .u64 shards_0) 4)))), .int .i64 (IntKind.wrap .i64 (1 + (IntKind.wrap .i64 (Int.tmod (IntKind.wrap .u64 stores_1) 5))))] w1 (.tuple #[.pointer none, .int .i64 0]) fun (r32_0 : Option Addr) (r32_1 : Int) (w3 : World) =>
    VSet r32_1 fun (e_8 : Int) =>
    VIf (e_8 != 0) (
      R (.returned (.bool false)) w3
    ) (
      ∃ I1 : Nat → Sl → Int → World → Prop, (∃ k, I1 k ⟨none, 0, 0⟩ 0 w3) ∧ ∀ k1 (done_9 : Sl) (i_10 : Int) (w4 : World), I1 k1 done_9 i_10 w4 →
      VIf (decide (i_10 < ((l_2.len : Nat) : Int))) (
        ∃ Φ2 : Sl → World → Prop, (
          VIx none l_2.base l_2.len i_10 fun (a46 : Addr) =>
          VLd none w4 (Addr.add a46 ((Int.toNat i_10) * 4)) [CT.int .u8, CT.int .i64, CT.int .i64, CT.int .i64] fun (v47_0 : Int) (v47_1 : Int) (v47_2 : Int) (v47_3 : Int) =>
          VCall none Try.prog 10 #[.pointer r32_0, .agg #[.int .u8 v47_0, .int .i64 v47_1, .int .i64 v47_2, .int .i64 v47_3]] w4 (.bool false) fun (r48 : Bool) (w5 : World) =>
          VIx (some r48) l_2.base l_2.len i_10 fun (a52 : Addr) =>
          VLd (some r48) w5 (Addr.add a52 ((Int.toNat i_10) * 4)) [CT.int .u8] fun (v54 : Int) =>
          VIf (r48 && (decide (v54 < 5))) (
            VIx none l_2.base l_2.len i_10 fun (a60 : Addr) =>
            VLd none w5 (Addr.add a60 ((Int.toNat i_10) * 4)) [CT.int .u8, CT.int .i64, CT.int .i64, CT.int .i64] fun (v61_0 : Int) (v61_1 : Int) (v61_2 : Int) (v61_3 : Int) =>
            VNw none w5 (.cells #[.int .u8 v61_0, .int .i64 v61_1, .int .i64 v61_2, .int .i64 v61_3] 33) fun (b62 : Nat) (w6 : World) =>
            VApp none w6 33 4 32 #[.int .u8 0, .int .i64 0, .int .i64 0, .int .i64 0] done_9.base done_9.len done_9.cap 1 (fun news => Seg w6 (some ⟨b62, 0, none⟩) 1 4 news) fun (l63 : Sl) (w7 : World) =>
            Φ2 l63 w7
          ) (
            Φ2 done_9 w5
          )
        ) ∧ ∀ (done_9' : Sl) (w8 : World), Φ2 done_9' w8 →
        VSet (IntKind.wrap .i64 (i_10 + 1)) fun (i_10' : Int) =>
        ∃ k', k' < k1 ∧ I1 k' ⟨done_9'.base, done_9'.len, done_9'.cap⟩ i_10' w8
      ) (
        VCall none Try.prog 11 #[.pointer r32_0] w4 (.string ByteArray.empty) fun (r65 : ByteArray) (w9 : World) =>
        ∃ I3 : Nat → Int → World → Prop, (∃ k, I3 k 0 w9) ∧ ∀ k3 (i_12 : Int) (w10 : World), I3 k3 i_12 w10 →
        VIf (decide (i_12 < ((done_9.len : Nat) : Int))) (
          VIx none done_9.base done_9.len i_12 fun (a75 : Addr) =>
          VLd none w10 (Addr.add a75 ((Int.toNat i_12) * 4)) [CT.int .u8, CT.int .i64, CT.int .i64, CT.int .i64] fun (v76_0 : Int) (v76_1 : Int) (v76_2 : Int) (v76_3 : Int) =>
          VCall none Try.prog 10 #[.pointer r32_0, .agg #[.int .u8 v76_0, .int .i64 v76_1, .int .i64 v76_2, .int .i64 v76_3]] w10 (.bool false) fun (r77 : Bool) (w11 : World) =>
          VCall (some (!r77)) Try.prog 11 #[.pointer r32_0] w11 (.string ByteArray.empty) fun (r80 : ByteArray) (w12 : World) =>
          VIf (r77 || (!(r80.toList == r65.toList))) (
            R (.returned (.bool false)) w12
          ) (
            VSet (IntKind.wrap .i64 (i_12 + 1)) fun (i_12' : Int) =>
            ∃ k', k' < k3 ∧ I3 k' i_12' w12
          )
        ) (
          R (.returned (.bool true)) w10
        )
      )
    )
  )
theorem sh_butterylaw17_ConfigLate_ok (shards_0 : Int) (stores_1 : Int) (l_2 : Sl) (w : World) (R : Ending → World → Prop) (h : sh_butterylaw17_ConfigLate shards_0 stores_1 l_2 w R) : Calls Try.prog 4 #[.int .i64 shards_0, .int .i64 stores_1, .slice l_2.base l_2.len l_2.cap] w R :=
  calls_of_sh (args := [.int .i64 shards_0, .int .i64 stores_1, .slice l_2.base l_2.len l_2.cap]) (.two .auto (.two (.two .auto (.two (.two .auto .auto) .auto)) (.two .auto (.two (.two .auto (.two (.two .auto .auto) .auto)) (.two .auto (.two (.two .auto (.one (.loop [(9, .slice none 0 0), (10, .int .i64 0)] (.two (.two .auto (.two .auto .auto)) (.two (.bjoin [(9, .slice none 0 0)] (.two .auto (.two .auto .auto))) .auto))))) (.two .auto (.two (.two .auto (.one (.loop [(12, .int .i64 0)] (.two (.two .auto (.two .auto .auto)) (.two (.one (.two .auto (.two (.two .auto .auto) .auto))) .auto))))) (.two .auto .auto))))))))) Try.func4 (by kernel_rfl) (by kernel_rfl) (by kernel_rfl) h

/-- 5: buttery/butterylaw17.ConfigBytes -/
def sh_butterylaw17_ConfigBytes (s_0 : ByteArray) (x_1_0 : Int) (x_1_1 : Int) (x_1_2 : Int) (x_1_3 : Int) (w : World) (R : Ending → World → Prop) : Prop :=
  VNw none w (.cells #[.int .u8 x_1_0, .int .i64 x_1_1, .int .i64 x_1_2, .int .i64 x_1_3] 33) fun (x_3 : Nat) (w1 : World) =>
  VIf (decide (((s_0.size : Nat) : Int) > 10000)) (
    R (.returned (.bool true)) w1
  ) (
    VCall none Try.prog 12 #[.string s_0] w1 (.tuple #[.pointer none, .int .i64 0]) fun (r18_0 : Option Addr) (r18_1 : Int) (w2 : World) =>
    VSet r18_1 fun (e_6 : Int) =>
    VCall none Try.prog 13 #[.string s_0] w2 (.tuple #[.pointer none, .bool false]) fun (r23_0 : Option Addr) (r23_1 : Bool) (w3 : World) =>
    VCall (some ((!((!(r23_1 == (e_6 == 0))) || ((!r23_1) && ((e_6 != 4) || (!r18_0.isNone))))) && r23_1)) Try.prog 14 #[.pointer r18_0, .pointer r23_0] w3 (.bool false) fun (r47 : Bool) (w4 : World) =>
    VIf (((!(r23_1 == (e_6 == 0))) || ((!r23_1) && ((e_6 != 4) || (!r18_0.isNone)))) || (r23_1 && (!r47))) (
      R (.returned (.bool false)) w4
    ) (
      VCall none Try.prog 15 #[.string s_0] w4 (.tuple #[.agg #[.int .u8 0, .int .i64 0, .int .i64 0, .int .i64 0], .int .i64 0]) fun (r53_0 : Int) (r53_1 : Int) (r53_2 : Int) (r53_3 : Int) (r53_4 : Int) (w5 : World) =>
      VNw none w5 (.cells #[.int .u8 0, .int .i64 0, .int .i64 0, .int .i64 0] 33) fun (a_9 : Nat) (w6 : World) =>
      VSt none w6 ⟨a_9, 0, none⟩ [.int .u8 r53_0, .int .i64 r53_1, .int .i64 r53_2, .int .i64 r53_3] fun (w7 : World) =>
      VSet r53_4 fun (f_10 : Int) =>
      VCall none Try.prog 16 #[.string s_0] w7 (.tuple #[.agg #[.int .u8 0, .int .i64 0, .int .i64 0, .int .i64 0], .bool false]) fun (r58_0 : Int) (r58_1 : Int) (r58_2 : Int) (r58_3 : Int) (r58_4 : Bool) (w8 : World) =>
      VNw none w8 (.cells #[.int .u8 0, .int .i64 0, .int .i64 0, .int .i64 0] 33) fun (b_11 : Nat) (w9 : World) =>
      VSt none w9 ⟨b_11, 0, none⟩ [.int .u8 r58_0, .int .i64 r58_1, .int .i64 r58_2, .int .i64 r58_3] fun (w10 : World) =>
      ∀ (w11 : World), w11 = World.drew w10 →
      VLd none w11 ⟨a_9, 0, none⟩ [CT.int .u8, CT.int .i64, CT.int .i64, CT.int .i64] fun (v61_0 : Int) (v61_1 : Int) (v61_2 : Int) (v61_3 : Int) =>
      VLd none w11 ⟨b_11, 0, none⟩ [CT.int .u8, CT.int .i64, CT.int .i64, CT.int .i64] fun (v62_0 : Int) (v62_1 : Int) (v62_2 : Int) (v62_3 : Int) =>
      VLd (some ((((v61_0 == v62_0) && ((v61_1 == v62_1) && ((v61_2 == v62_2) && (v61_3 == v62_3)))) && (r58_4 == (f_10 == 0))) && (r58_4 || (f_10 == 4)))) w11 ⟨x_3, 0, none⟩ [CT.int .u8, CT.int .i64, CT.int .i64, CT.int .i64] fun (v78_0 : Int) (v78_1 : Int) (v78_2 : Int) (v78_3 : Int) =>
      VLd (some ((((v61_0 == v62_0) && ((v61_1 == v62_1) && ((v61_2 == v62_2) && (v61_3 == v62_3)))) && (r58_4 == (f_10 == 0))) && (r58_4 || (f_10 == 4)))) w11 ⟨x_3, 0, none⟩ [CT.int .u8, CT.int .i64, CT.int .i64, CT.int .i64] fun (v80_0 : Int) (v80_1 : Int) (v80_2 : Int) (v80_3 : Int) =>
      VCall (some ((((v61_0 == v62_0) && ((v61_1 == v62_1) && ((v61_2 == v62_2) && (v61_3 == v62_3)))) && (r58_4 == (f_10 == 0))) && (r58_4 || (f_10 == 4)))) Try.prog 17 #[.agg #[.int .u8 v78_0, .int .i64 v78_1, .int .i64 v78_2, .int .i64 v78_3]] w11 (.string ByteArray.empty) fun (r79 : ByteArray) (w12 : World) =>
      (((((v61_0 == v62_0) && ((v61_1 == v62_1) && ((v61_2 == v62_2) && (v61_3 == v62_3)))) && (r58_4 == (f_10 == 0))) && (r58_4 || (f_10 == 4))) = true → Rd w12 ⟨x_3, 0, none⟩ [.int .u8 v80_0, .int .i64 v80_1, .int .i64 v80_2, .int .i64 v80_3]) ∧
      VCall (some ((((v61_0 == v62_0) && ((v61_1 == v62_1) && ((v61_2 == v62_2) && (v61_3 == v62_3)))) && (r58_4 == (f_10 == 0))) && (r58_4 || (f_10 == 4)))) Try.prog 18 #[.agg #[.int .u8 v80_0, .int .i64 v80_1, .int .i64 v80_2, .int .i64 v80_3]] w12 (.string ByteArray.empty) fun (r81 : ByteArray) (w13 : World) =>
      R (.returned (.bool (((((v61_0 == v62_0) && ((v61_1 == v62_1) && ((v61_2 == v62_2) && (v61_3 == v62_3)))) && (r58_4 == (f_10 == 0))) && (r58_4 || (f_10 == 4))) && (r79.toList == r81.toList)))) w13
    )
  )
theorem sh_butterylaw17_ConfigBytes_ok (s_0 : ByteArray) (x_1_0 : Int) (x_1_1 : Int) (x_1_2 : Int) (x_1_3 : Int) (w : World) (R : Ending → World → Prop) (h : sh_butterylaw17_ConfigBytes s_0 x_1_0 x_1_1 x_1_2 x_1_3 w R) : Calls Try.prog 5 #[.string s_0, .agg #[.int .u8 x_1_0, .int .i64 x_1_1, .int .i64 x_1_2, .int .i64 x_1_3]] w R :=
  calls_of_sh (args := [.string s_0, .agg #[.int .u8 x_1_0, .int .i64 x_1_1, .int .i64 x_1_2, .int .i64 x_1_3]]) (.two .auto (.two (.two .auto (.two (.two .auto .auto) .auto)) (.two .auto (.two .auto (.two (.two .auto (.two (.two .auto .auto) .auto)) (.two .auto (.two .auto (.two .auto .auto)))))))) Try.func5 (by kernel_rfl) (by kernel_rfl) (by kernel_rfl) h

/-- 6: buttery/butterylaw17.ConfigBack -/
def sh_butterylaw17_ConfigBack (shards_0 : Int) (stores_1 : Int) (l_2 : Sl) (m_3 : Sl) (s_4 : ByteArray) (w : World) (R : Ending → World → Prop) : Prop :=
  VCall none Try.prog 7 #[] w (.bool false) fun (r22 : Bool) (w1 : World) =>
  VIf ((((!r22) || (decide (((l_2.len : Nat) : Int) > 300))) || (decide (((m_3.len : Nat) : Int) > 300))) || (decide (((s_4.size : Nat) : Int) > 1000))) (
    VCall none Try.prog 7 #[] w1 (.bool false) fun (r39 : Bool) (w2 : World) =>
    R (.returned (.bool r39)) w2
  ) (
    VCall none Try.prog 8 #[.int .i64 (IntKind.wrap .i64 (1 + (IntKind.wrap .i64 (Int.tmod (IntKind.wrap .u64 shards_0) 4)))), .int .i64 (IntKind.wrap .i64 (1 + (IntKind.wrap .i64 (Int.tmod (IntKind.wrap .u64 stores_1) 5))))] w1 (.tuple #[.pointer none, .int .i64 0]) fun (r51_0 : Option Addr) (r51_1 : Int) (w3 : World) =>
    VSet r51_1 fun (e_12 : Int) =>
    VIf (e_12 != 0) (
      R (.returned (.bool false)) w3
    ) (
      ∃ I1 : Nat → Int → World → Prop, (∃ k, I1 k 0 w3) ∧ ∀ k1 (i_13 : Int) (w4 : World), I1 k1 i_13 w4 →
      VIf (decide (i_13 < ((l_2.len : Nat) : Int))) (
        VIx none l_2.base l_2.len i_13 fun (a65 : Addr) =>
        VLd none w4 (Addr.add a65 ((Int.toNat i_13) * 4)) [CT.int .u8, CT.int .i64, CT.int .i64, CT.int .i64] fun (v66_0 : Int) (v66_1 : Int) (v66_2 : Int) (v66_3 : Int) =>
        VCall none Try.prog 10 #[.pointer r51_0, .agg #[.int .u8 v66_0, .int .i64 v66_1, .int .i64 v66_2, .int .i64 v66_3]] w4 (.bool false) fun (r67 : Bool) (w5 : World) =>
        VSet (IntKind.wrap .i64 (i_13 + 1)) fun (i_13' : Int) =>
        ∃ k', k' < k1 ∧ I1 k' i_13' w5
      ) (
        VCall none Try.prog 11 #[.pointer r51_0] w4 (.string ByteArray.empty) fun (r70 : ByteArray) (w6 : World) =>
        VCall none Try.prog 12 #[.string r70] w6 (.tuple #[.pointer none, .int .i64 0]) fun (r71_0 : Option Addr) (r71_1 : Int) (w7 : World) =>
        VSet r71_1 fun (e_12' : Int) =>
        VIf (e_12' != 0) (
          R (.returned (.bool false)) w7
        ) (
          ∃ I2 : Nat → Int → World → Prop, (∃ k, I2 k 0 w7) ∧ ∀ k2 (i_15 : Int) (w8 : World), I2 k2 i_15 w8 →
          VIf (decide (i_15 < ((m_3.len : Nat) : Int))) (
            VIx none m_3.base m_3.len i_15 fun (a85 : Addr) =>
            VLd none w8 (Addr.add a85 ((Int.toNat i_15) * 4)) [CT.int .u8, CT.int .i64, CT.int .i64, CT.int .i64] fun (v86_0 : Int) (v86_1 : Int) (v86_2 : Int) (v86_3 : Int) =>
            VCall none Try.prog 17 #[.agg #[.int .u8 v86_0, .int .i64 v86_1, .int .i64 v86_2, .int .i64 v86_3]] w8 (.string ByteArray.empty) fun (r87 : ByteArray) (w9 : World) =>
            VCall none Try.prog 15 #[.string r87] w9 (.tuple #[.agg #[.int .u8 0, .int .i64 0, .int .i64 0, .int .i64 0], .int .i64 0]) fun (r88_0 : Int) (r88_1 : Int) (r88_2 : Int) (r88_3 : Int) (r88_4 : Int) (w10 : World) =>
            VNw none w10 (.cells #[.int .u8 0, .int .i64 0, .int .i64 0, .int .i64 0] 33) fun (x_16 : Nat) (w11 : World) =>
            VSt none w11 ⟨x_16, 0, none⟩ [.int .u8 r88_0, .int .i64 r88_1, .int .i64 r88_2, .int .i64 r88_3] fun (w12 : World) =>
            VSet r88_4 fun (f_17 : Int) =>
            ∀ (w13 : World), w13 = World.drew w12 →
            VLd (some (!(f_17 != 0))) w13 ⟨x_16, 0, none⟩ [CT.int .u8, CT.int .i64, CT.int .i64, CT.int .i64] fun (v94_0 : Int) (v94_1 : Int) (v94_2 : Int) (v94_3 : Int) =>
            VIx (some (!(f_17 != 0))) m_3.base m_3.len i_15 fun (a97 : Addr) =>
            VLd (some (!(f_17 != 0))) w13 (Addr.add a97 ((Int.toNat i_15) * 4)) [CT.int .u8, CT.int .i64, CT.int .i64, CT.int .i64] fun (v98_0 : Int) (v98_1 : Int) (v98_2 : Int) (v98_3 : Int) =>
            VIx (some (!((f_17 != 0) || (!((v94_0 == v98_0) && ((v94_1 == v98_1) && ((v94_2 == v98_2) && (v94_3 == v98_3)))))))) m_3.base m_3.len i_15 fun (a105 : Addr) =>
            VLd (some (!((f_17 != 0) || (!((v94_0 == v98_0) && ((v94_1 == v98_1) && ((v94_2 == v98_2) && (v94_3 == v98_3)))))))) w13 (Addr.add a105 ((Int.toNat i_15) * 4)) [CT.int .u8, CT.int .i64, CT.int .i64, CT.int .i64] fun (v106_0 : Int) (v106_1 : Int) (v106_2 : Int) (v106_3 : Int) =>
            VLd (some (!((f_17 != 0) || (!((v94_0 == v98_0) && ((v94_1 == v98_1) && ((v94_2 == v98_2) && (v94_3 == v98_3)))))))) w13 ⟨x_16, 0, none⟩ [CT.int .u8, CT.int .i64, CT.int .i64, CT.int .i64] fun (v109_0 : Int) (v109_1 : Int) (v109_2 : Int) (v109_3 : Int) =>
            VCall (some (!((f_17 != 0) || (!((v94_0 == v98_0) && ((v94_1 == v98_1) && ((v94_2 == v98_2) && (v94_3 == v98_3)))))))) Try.prog 10 #[.pointer r51_0, .agg #[.int .u8 v106_0, .int .i64 v106_1, .int .i64 v106_2, .int .i64 v106_3]] w13 (.bool false) fun (r107 : Bool) (w14 : World) =>
            ((!((f_17 != 0) || (!((v94_0 == v98_0) && ((v94_1 == v98_1) && ((v94_2 == v98_2) && (v94_3 == v98_3))))))) = true → Rd w14 ⟨x_16, 0, none⟩ [.int .u8 v109_0, .int .i64 v109_1, .int .i64 v109_2, .int .i64 v109_3]) ∧
            VCall (some (!((f_17 != 0) || (!((v94_0 == v98_0) && ((v94_1 == v98_1) && ((v94_2 == v98_2) && (v94_3 == v98_3)))))))) Try.prog 10 #[.pointer r71_0, .agg #[.int .u8 v109_0, .int .i64 v109_1, .int .i64 v109_2, .int .i64 v109_3]] w14 (.bool false) fun (r110 : Bool) (w15 : World) =>
            VCall (some (!(((f_17 != 0) || (!((v94_0 == v98_0) && ((v94_1 == v98_1) && ((v94_2 == v98_2) && (v94_3 == v98_3)))))) || (!(r107 == r110))))) Try.prog 11 #[.pointer r51_0] w15 (.string ByteArray.empty) fun (r115 : ByteArray) (w16 : World) =>
            VCall (some (!(((f_17 != 0) || (!((v94_0 == v98_0) && ((v94_1 == v98_1) && ((v94_2 == v98_2) && (v94_3 == v98_3)))))) || (!(r107 == r110))))) Try.prog 11 #[.pointer r71_0] w16 (.string ByteArray.empty) fun (r117 : ByteArray) (w17 : World) =>
            VIf ((((f_17 != 0) || (!((v94_0 == v98_0) && ((v94_1 == v98_1) && ((v94_2 == v98_2) && (v94_3 == v98_3)))))) || (!(r107 == r110))) || (!(r115.toList == r117.toList))) (
              R (.returned (.bool false)) w17
            ) (
              VSet (IntKind.wrap .i64 (i_15 + 1)) fun (i_15' : Int) =>
              ∃ k', k' < k2 ∧ I2 k' i_15' w17
            )
          ) (
            VCall none Try.prog 12 #[.string s_4] w8 (.tuple #[.pointer none, .int .i64 0]) fun (r122_0 : Option Addr) (r122_1 : Int) (w18 : World) =>
            VSet r122_1 fun (f_19 : Int) =>
            VCall (some (f_19 == 0)) Try.prog 11 #[.pointer r122_0] w18 (.string ByteArray.empty) fun (r129 : ByteArray) (w19 : World) =>
            VIf ((f_19 == 0) && (!(r129.toList == s_4.toList))) (
              R (.returned (.bool false)) w19
            ) (
              VCall none Try.prog 15 #[.string s_4] w19 (.tuple #[.agg #[.int .u8 0, .int .i64 0, .int .i64 0, .int .i64 0], .int .i64 0]) fun (r135_0 : Int) (r135_1 : Int) (r135_2 : Int) (r135_3 : Int) (r135_4 : Int) (w20 : World) =>
              VNw none w20 (.cells #[.int .u8 0, .int .i64 0, .int .i64 0, .int .i64 0] 33) fun (x_20 : Nat) (w21 : World) =>
              VSt none w21 ⟨x_20, 0, none⟩ [.int .u8 r135_0, .int .i64 r135_1, .int .i64 r135_2, .int .i64 r135_3] fun (w22 : World) =>
              VSet r135_4 fun (g_21 : Int) =>
              VLd (some (!(g_21 != 0))) w22 ⟨x_20, 0, none⟩ [CT.int .u8, CT.int .i64, CT.int .i64, CT.int .i64] fun (v141_0 : Int) (v141_1 : Int) (v141_2 : Int) (v141_3 : Int) =>
              VCall (some (!(g_21 != 0))) Try.prog 17 #[.agg #[.int .u8 v141_0, .int .i64 v141_1, .int .i64 v141_2, .int .i64 v141_3]] w22 (.string ByteArray.empty) fun (r142 : ByteArray) (w23 : World) =>
              R (.returned (.bool ((g_21 != 0) || (r142.toList == s_4.toList)))) w23
            )
          )
        )
      )
    )
  )
theorem sh_butterylaw17_ConfigBack_ok (shards_0 : Int) (stores_1 : Int) (l_2 : Sl) (m_3 : Sl) (s_4 : ByteArray) (w : World) (R : Ending → World → Prop) (h : sh_butterylaw17_ConfigBack shards_0 stores_1 l_2 m_3 s_4 w R) : Calls Try.prog 6 #[.int .i64 shards_0, .int .i64 stores_1, .slice l_2.base l_2.len l_2.cap, .slice m_3.base m_3.len m_3.cap, .string s_4] w R :=
  calls_of_sh (args := [.int .i64 shards_0, .int .i64 stores_1, .slice l_2.base l_2.len l_2.cap, .slice m_3.base m_3.len m_3.cap, .string s_4]) (.two .auto (.two (.two .auto (.two (.two .auto .auto) .auto)) (.two .auto (.two (.two .auto (.two (.two .auto .auto) .auto)) (.two (.two .auto (.one (.loop [(13, .int .i64 0)] (.two (.two .auto (.two .auto .auto)) (.two (.one .auto) .auto))))) (.two .auto (.two (.two .auto (.two (.two .auto .auto) .auto)) (.two (.two .auto (.one (.loop [(15, .int .i64 0)] (.two (.two .auto (.two .auto .auto)) (.two (.one (.two .auto (.two .auto (.two (.two .auto .auto) .auto)))) .auto))))) (.two .auto (.two (.two .auto (.two (.two .auto .auto) .auto)) (.two .auto (.two .auto .auto)))))))))))) Try.func6 (by kernel_rfl) (by kernel_rfl) (by kernel_rfl) h

/-- 7: buttery/butterylaw17.works -/
def sh_butterylaw17_works (w : World) (R : Ending → World → Prop) : Prop :=
  VCall none Try.prog 8 #[.int .i64 2, .int .i64 3] w (.tuple #[.pointer none, .int .i64 0]) fun (r5_0 : Option Addr) (r5_1 : Int) (w1 : World) =>
  VSet r5_1 fun (e_2 : Int) =>
  VCall (some (!(e_2 != 0))) Try.prog 10 #[.pointer r5_0, .agg #[.int .u8 2, .int .i64 0, .int .i64 2, .int .i64 0]] w1 (.bool false) fun (r13 : Bool) (w2 : World) =>
  VCall (some (!((e_2 != 0) || r13))) Try.prog 10 #[.pointer r5_0, .agg #[.int .u8 1, .int .i64 0, .int .i64 1, .int .i64 0]] w2 (.bool false) fun (r18 : Bool) (w3 : World) =>
  VCall (some (!(((e_2 != 0) || r13) || (!r18)))) Try.prog 10 #[.pointer r5_0, .agg #[.int .u8 1, .int .i64 0, .int .i64 1, .int .i64 0]] w3 (.bool false) fun (r24 : Bool) (w4 : World) =>
  VCall (some (!((((e_2 != 0) || r13) || (!r18)) || r24))) Try.prog 10 #[.pointer r5_0, .agg #[.int .u8 2, .int .i64 0, .int .i64 2, .int .i64 1]] w4 (.bool false) fun (r29 : Bool) (w5 : World) =>
  VIf (((((e_2 != 0) || r13) || (!r18)) || r24) || (!r29)) (
    R (.returned (.bool false)) w5
  ) (
    VCall none Try.prog 9 #[.pointer r5_0] w5 (.slice none 0 0) fun (r33 : Sl) (w6 : World) =>
    VIx none r33.base r33.len 0 fun (a34 : Addr) =>
    VLd none w6 a34 [CT.int .i64, CT.int .i64, CT.int .i64] fun (v35_0 : Int) (v35_1 : Int) (v35_2 : Int) =>
    VNw none w6 (.cells #[.int .i64 0, .int .i64 0, .int .i64 0] 35) fun (moving_3 : Nat) (w7 : World) =>
    VSt none w7 ⟨moving_3, 0, none⟩ [.int .i64 v35_0, .int .i64 v35_1, .int .i64 v35_2] fun (w8 : World) =>
    VCall none Try.prog 10 #[.pointer r5_0, .agg #[.int .u8 3, .int .i64 0, .int .i64 2, .int .i64 2]] w8 (.bool false) fun (r38 : Bool) (w9 : World) =>
    VLd (some r38) w9 ⟨moving_3, 0, none⟩ [CT.int .i64, CT.int .i64, CT.int .i64] fun (v40_0 : Int) (v40_1 : Int) (v40_2 : Int) =>
    VCall (some (r38 && ((v40_0 == 2) && ((v40_1 == 1) && (v40_2 == 2))))) Try.prog 9 #[.pointer r5_0] w9 (.slice none 0 0) fun (r46 : Sl) (w10 : World) =>
    VIx (some (r38 && ((v40_0 == 2) && ((v40_1 == 1) && (v40_2 == 2))))) r46.base r46.len 0 fun (a47 : Addr) =>
    VLd (some (r38 && ((v40_0 == 2) && ((v40_1 == 1) && (v40_2 == 2))))) w10 a47 [CT.int .i64, CT.int .i64, CT.int .i64] fun (v48_0 : Int) (v48_1 : Int) (v48_2 : Int) =>
    VCall (some ((r38 && ((v40_0 == 2) && ((v40_1 == 1) && (v40_2 == 2)))) && ((v48_0 == 3) && ((v48_1 == 2) && (v48_2 == 0))))) Try.prog 9 #[.pointer r5_0] w10 (.slice none 0 0) fun (r54 : Sl) (w11 : World) =>
    VIx (some ((r38 && ((v40_0 == 2) && ((v40_1 == 1) && (v40_2 == 2)))) && ((v48_0 == 3) && ((v48_1 == 2) && (v48_2 == 0))))) r54.base r54.len 1 fun (a55 : Addr) =>
    VLd (some ((r38 && ((v40_0 == 2) && ((v40_1 == 1) && (v40_2 == 2)))) && ((v48_0 == 3) && ((v48_1 == 2) && (v48_2 == 0))))) w11 (Addr.add a55 3) [CT.int .i64, CT.int .i64, CT.int .i64] fun (v56_0 : Int) (v56_1 : Int) (v56_2 : Int) =>
    R (.returned (.bool (((r38 && ((v40_0 == 2) && ((v40_1 == 1) && (v40_2 == 2)))) && ((v48_0 == 3) && ((v48_1 == 2) && (v48_2 == 0)))) && ((v56_0 == 0) && ((v56_1 == 0) && (v56_2 == 0)))))) w11
  )
theorem sh_butterylaw17_works_ok (w : World) (R : Ending → World → Prop) (h : sh_butterylaw17_works w R) : Calls Try.prog 7 #[] w R :=
  calls_of_sh (args := []) (.two .auto (.two .auto (.two (.two .auto (.two (.two .auto .auto) .auto)) (.two .auto (.two .auto .auto))))) Try.func7 (by kernel_rfl) (by kernel_rfl) (by kernel_rfl) h

/-- 8: buttery/config.New -/
def sh_config_New (shards_0 : Int) (stores_1 : Int) (w : World) (R : Ending → World → Prop) : Prop :=
  VIf ((((decide (shards_0 < 1)) || (decide (shards_0 > 4))) || (decide (stores_1 < 1))) || (decide (stores_1 > 5))) (
    R (.returned (.tuple #[.pointer none, .int .i64 1])) w
  ) (
    ∃ Φ1 : Option Addr → Int → World → Prop, (
      ∀ (w1 : World), w1 = World.drew w →
      (
        VMk none w1 35 3 24 #[.int .i64 0, .int .i64 0, .int .i64 0] shards_0 shards_0 fun (b21 : Nat) (w2 : World) =>
        VMk none w2 4 1 1 #[.bool false] stores_1 stores_1 fun (b23 : Nat) (w3 : World) =>
        VNw none w3 (.cells #[.slice (some ⟨b21, 0, none⟩) (Int.toNat shards_0) (Int.toNat shards_0), .slice (some ⟨b23, 0, none⟩) (Int.toNat stores_1) (Int.toNat stores_1)] 52) fun (b25 : Nat) (w4 : World) =>
        Φ1 (some ⟨b25, 0, none⟩) 0 w4
      ) ∧ (
        VMk none w1 4 1 1 #[.bool false] stores_1 stores_1 fun (b23 : Nat) (w5 : World) =>
        VMk none w5 35 3 24 #[.int .i64 0, .int .i64 0, .int .i64 0] shards_0 shards_0 fun (b21 : Nat) (w6 : World) =>
        VNw none w6 (.cells #[.slice (some ⟨b21, 0, none⟩) (Int.toNat shards_0) (Int.toNat shards_0), .slice (some ⟨b23, 0, none⟩) (Int.toNat stores_1) (Int.toNat stores_1)] 52) fun (b25 : Nat) (w7 : World) =>
        Φ1 (some ⟨b25, 0, none⟩) 0 w7
      )
    ) ∧ ∀ (x4 : Option Addr) (x5 : Int) (w8 : World), Φ1 x4 x5 w8 →
    R (.returned (.tuple #[.pointer x4, .int .i64 x5])) w8
  )
theorem sh_config_New_ok (shards_0 : Int) (stores_1 : Int) (w : World) (R : Ending → World → Prop) (h : sh_config_New shards_0 stores_1 w R) : Calls Try.prog 8 #[.int .i64 shards_0, .int .i64 stores_1] w R :=
  calls_of_sh (args := [.int .i64 shards_0, .int .i64 stores_1]) (.two .auto (.two (.two .auto (.two (.two .auto .auto) .auto)) (.two (.bjoin [(4, .pointer none), (5, .int .i64 0)] .auto) .auto))) Try.func8 (by kernel_rfl) (by kernel_rfl) (by kernel_rfl) h

/-- 9: (*buttery/config.Config).Places -/
def sh_config_Config_Places (c_0 : Option Addr) (w : World) (R : Ending → World → Prop) : Prop :=
  VIf c_0.isNone (
    R (.returned (.slice none 0 0)) w
  ) (
    VNN none c_0 fun (a6 : Addr) =>
    VLd none w a6 [CT.sl] fun (v8 : Sl) =>
    VCall none Try.prog 19 #[.slice v8.base v8.len v8.cap] w (.slice none 0 0) fun (r9 : Sl) (w1 : World) =>
    R (.returned (.slice r9.base r9.len r9.cap)) w1
  )
theorem sh_config_Config_Places_ok (c_0 : Option Addr) (w : World) (R : Ending → World → Prop) (h : sh_config_Config_Places c_0 w R) : Calls Try.prog 9 #[.pointer c_0] w R :=
  calls_of_sh (args := [.pointer c_0]) (.two .auto (.two (.two .auto (.two (.two .auto .auto) .auto)) (.two .auto .auto))) Try.func9 (by kernel_rfl) (by kernel_rfl) (by kernel_rfl) h

/-- 10: (*buttery/config.Config).Do -/
def sh_config_Config_Do (c_0 : Option Addr) (x_1_0 : Int) (x_1_1 : Int) (x_1_2 : Int) (x_1_3 : Int) (w : World) (R : Ending → World → Prop) : Prop :=
  VNw none w (.cells #[.int .u8 x_1_0, .int .i64 x_1_1, .int .i64 x_1_2, .int .i64 x_1_3] 33) fun (x_3 : Nat) (w1 : World) =>
  VLd (some (!c_0.isNone)) w1 ⟨x_3, 0, none⟩ [CT.int .u8] fun (v12 : Int) =>
  VLd (some (!(c_0.isNone || (decide (v12 < 1))))) w1 ⟨x_3, 0, none⟩ [CT.int .u8] fun (v17 : Int) =>
  VIf ((c_0.isNone || (decide (v12 < 1))) || (decide (v17 > 6))) (
    R (.returned (.bool false)) w1
  ) (
    ∀ (w2 : World), w2 = World.drew w1 →
    VLd none w2 ⟨x_3, 2, none⟩ [CT.int .i64] fun (v21 : Int) =>
    VLd (some (decide (v21 ≥ 1))) w2 ⟨x_3, 2, none⟩ [CT.int .i64] fun (v25 : Int) =>
    VNN (some (decide (v21 ≥ 1))) c_0 fun (a27 : Addr) =>
    VLd (some (decide (v21 ≥ 1))) w2 (Addr.add a27 1) [CT.sl] fun (v29 : Sl) =>
    VLd none w2 ⟨x_3, 0, none⟩ [CT.int .u8] fun (v34 : Int) =>
    VIf (decide (v34 ≥ 5)) (
      VLd none w2 ⟨x_3, 0, none⟩ [CT.int .u8] fun (v37 : Int) =>
      ∀ (w3 : World), w3 = World.drew w2 →
      VNN (some (!(!((decide (v21 ≥ 1)) && (decide (v25 ≤ ((v29.len : Nat) : Int))))))) c_0 fun (a43 : Addr) =>
      VLd (some (!(!((decide (v21 ≥ 1)) && (decide (v25 ≤ ((v29.len : Nat) : Int))))))) w3 (Addr.add a43 1) [CT.sl] fun (v45 : Sl) =>
      VLd (some (!(!((decide (v21 ≥ 1)) && (decide (v25 ≤ ((v29.len : Nat) : Int))))))) w3 ⟨x_3, 2, none⟩ [CT.int .i64] fun (v47 : Int) =>
      VIx (some (!(!((decide (v21 ≥ 1)) && (decide (v25 ≤ ((v29.len : Nat) : Int))))))) v45.base v45.len (IntKind.wrap .i64 (v47 - 1)) fun (a49 : Addr) =>
      VLd (some (!(!((decide (v21 ≥ 1)) && (decide (v25 ≤ ((v29.len : Nat) : Int))))))) w3 (Addr.add a49 ((Int.toNat (IntKind.wrap .i64 (v47 - 1))) * 1)) [CT.bool] fun (v50 : Bool) =>
      VIf ((!((decide (v21 ≥ 1)) && (decide (v25 ≤ ((v29.len : Nat) : Int))))) || (v50 == (v37 == 5))) (
        R (.returned (.bool false)) w3
      ) (
        ∀ (w4 : World), w4 = World.drew w3 →
        VNN none c_0 fun (a55 : Addr) =>
        VLd none w4 (Addr.add a55 1) [CT.sl] fun (v57 : Sl) =>
        VLd none w4 ⟨x_3, 2, none⟩ [CT.int .i64] fun (v59 : Int) =>
        VIx none v57.base v57.len (IntKind.wrap .i64 (v59 - 1)) fun (a62 : Addr) =>
        VSt none w4 (Addr.add a62 ((Int.toNat (IntKind.wrap .i64 (v59 - 1))) * 1)) [.bool (v37 == 5)] fun (w5 : World) =>
        R (.returned (.bool true)) w5
      )
    ) (
      ∀ (w6 : World), w6 = World.drew w2 →
      VLd none w6 ⟨x_3, 1, none⟩ [CT.int .i64] fun (v64 : Int) =>
      VLd (some (!(decide (v64 < 0)))) w6 ⟨x_3, 1, none⟩ [CT.int .i64] fun (v68 : Int) =>
      VNN (some (!(decide (v64 < 0)))) c_0 fun (a70 : Addr) =>
      VLd (some (!(decide (v64 < 0)))) w6 a70 [CT.sl] fun (v72 : Sl) =>
      VLd (some ((!((decide (v64 < 0)) || (decide (v68 ≥ ((v72.len : Nat) : Int))))) && (!((decide (v21 ≥ 1)) && (decide (v25 ≤ ((v29.len : Nat) : Int))))))) w6 ⟨x_3, 0, none⟩ [CT.int .u8] fun (v81 : Int) =>
      VIf (((decide (v64 < 0)) || (decide (v68 ≥ ((v72.len : Nat) : Int)))) || ((!((decide (v21 ≥ 1)) && (decide (v25 ≤ ((v29.len : Nat) : Int))))) && (v81 != 4))) (
        R (.returned (.bool false)) w6
      ) (
        ∀ (w7 : World), w7 = World.drew w6 →
        VNN none c_0 fun (a86 : Addr) =>
        VLd none w7 a86 [CT.sl] fun (v88 : Sl) =>
        VLd none w7 ⟨x_3, 1, none⟩ [CT.int .i64] fun (v90 : Int) =>
        VIx none v88.base v88.len v90 fun (a91 : Addr) =>
        VLd none w7 (Addr.add a91 ((Int.toNat v90) * 3)) [CT.int .i64, CT.int .i64, CT.int .i64] fun (v92_0 : Int) (v92_1 : Int) (v92_2 : Int) =>
        VNw none w7 (.cells #[.int .i64 0, .int .i64 0, .int .i64 0] 35) fun (p_7 : Nat) (w8 : World) =>
        Rd w8 (Addr.add a91 ((Int.toNat v90) * 3)) [.int .i64 v92_0, .int .i64 v92_1, .int .i64 v92_2] ∧
        Rd w8 ⟨x_3, 1, none⟩ [.int .i64 v90] ∧
        Rd w8 a86 [.slice v88.base v88.len v88.cap] ∧
        VSt none w8 ⟨p_7, 0, none⟩ [.int .i64 v92_0, .int .i64 v92_1, .int .i64 v92_2] fun (w9 : World) =>
        ∀ (w10 : World), w10 = World.drew w9 →
        VLd none w10 ⟨p_7, 0, none⟩ [CT.int .i64] fun (v94 : Int) =>
        VLd none w10 ⟨x_3, 3, none⟩ [CT.int .i64] fun (v96 : Int) =>
        VLd (some (!(v94 != v96))) w10 ⟨p_7, 0, none⟩ [CT.int .i64] fun (v100 : Int) =>
        VLd (some (!((v94 != v96) || (decide (v100 ≥ 2147483647))))) w10 ⟨x_3, 0, none⟩ [CT.int .u8] fun (v106 : Int) =>
        VLd (some (!((v94 != v96) || (decide (v100 ≥ 2147483647))))) w10 ⟨x_3, 0, none⟩ [CT.int .u8, CT.int .i64, CT.int .i64, CT.int .i64] fun (v109_0 : Int) (v109_1 : Int) (v109_2 : Int) (v109_3 : Int) =>
        VCall (some (!((v94 != v96) || (decide (v100 ≥ 2147483647))))) Try.prog 20 #[] w10 (.agg #[.nilFunc, .nilFunc, .nilFunc, .nilFunc, .nilFunc]) fun (r104_0 : Value) (r104_1 : Value) (r104_2 : Value) (r104_3 : Value) (r104_4 : Value) (w11 : World) =>
        ((!((v94 != v96) || (decide (v100 ≥ 2147483647)))) = true → Rd w11 ⟨x_3, 0, none⟩ [.int .u8 v109_0, .int .i64 v109_1, .int .i64 v109_2, .int .i64 v109_3]) ∧
        ((!((v94 != v96) || (decide (v100 ≥ 2147483647)))) = true → Rd w11 ⟨x_3, 0, none⟩ [.int .u8 v106]) ∧
        VCk (some (!((v94 != v96) || (decide (v100 ≥ 2147483647))))) ((0 : Int) ≤ v106 ∧ (v106 : Int) < ((5 : Nat) : Int)) (
          VDyn (some (!((v94 != v96) || (decide (v100 ≥ 2147483647))))) Try.prog (Array.getD #[r104_0, r104_1, r104_2, r104_3, r104_4] (Int.toNat v106) undef) #[.pointer c_0, .pointer (some ⟨p_7, 0, none⟩), .agg #[.int .u8 v109_0, .int .i64 v109_1, .int .i64 v109_2, .int .i64 v109_3]] w11 (.bool false) fun (r110 : Bool) (w12 : World) =>
          VIf (((v94 != v96) || (decide (v100 ≥ 2147483647))) || (!r110)) (
            R (.returned (.bool false)) w12
          ) (
            VLd none w12 ⟨p_7, 0, none⟩ [CT.int .i64] fun (v114 : Int) =>
            VSt none w12 ⟨p_7, 0, none⟩ [.int .i64 (IntKind.wrap .i64 (v114 + 1))] fun (w13 : World) =>
            ∀ (w14 : World), w14 = World.drew w13 →
            VNN none c_0 fun (a118 : Addr) =>
            VLd none w14 a118 [CT.sl] fun (v120 : Sl) =>
            VLd none w14 ⟨x_3, 1, none⟩ [CT.int .i64] fun (v122 : Int) =>
            VLd none w14 ⟨p_7, 0, none⟩ [CT.int .i64, CT.int .i64, CT.int .i64] fun (v123_0 : Int) (v123_1 : Int) (v123_2 : Int) =>
            VIx none v120.base v120.len v122 fun (a124 : Addr) =>
            VSt none w14 (Addr.add a124 ((Int.toNat v122) * 3)) [.int .i64 v123_0, .int .i64 v123_1, .int .i64 v123_2] fun (w15 : World) =>
            R (.returned (.bool true)) w15
          )
        )
      )
    )
  )
theorem sh_config_Config_Do_ok (c_0 : Option Addr) (x_1_0 : Int) (x_1_1 : Int) (x_1_2 : Int) (x_1_3 : Int) (w : World) (R : Ending → World → Prop) (h : sh_config_Config_Do c_0 x_1_0 x_1_1 x_1_2 x_1_3 w R) : Calls Try.prog 10 #[.pointer c_0, .agg #[.int .u8 x_1_0, .int .i64 x_1_1, .int .i64 x_1_2, .int .i64 x_1_3]] w R :=
  calls_of_sh (args := [.pointer c_0, .agg #[.int .u8 x_1_0, .int .i64 x_1_1, .int .i64 x_1_2, .int .i64 x_1_3]]) (.two .auto (.two (.two .auto (.two (.two .auto .auto) .auto)) (.two .auto (.two (.two .auto (.two (.two .auto (.two (.two .auto (.two (.two .auto .auto) .auto)) (.two .auto (.two .auto .auto)))) .auto)) (.two (.two .auto (.two (.two .auto .auto) .auto)) (.two .auto (.two (.two .auto (.two (.two .auto .auto) .auto)) (.two .auto (.two .auto (.two .auto .auto)))))))))) Try.func10 (by kernel_rfl) (by kernel_rfl) (by kernel_rfl) h

/-- 11: (*buttery/config.Config).Encode -/
def sh_config_Config_Encode (c_0 : Option Addr) (w : World) (R : Ending → World → Prop) : Prop :=
  VIf c_0.isNone (
    R (.returned (.string (ByteArray.mk #[]))) w
  ) (
    ∀ (w1 : World), w1 = World.drew w →
    VNN none c_0 fun (a11 : Addr) =>
    VLd none w1 a11 [CT.sl] fun (v13 : Sl) =>
    VNN none c_0 fun (a17 : Addr) =>
    VLd none w1 (Addr.add a17 1) [CT.sl] fun (v19 : Sl) =>
    VCall none Try.prog 21 #[.slice none 0 0, .int .i64 ((v13.len : Nat) : Int)] w1 (.slice none 0 0) fun (r15 : Sl) (w2 : World) =>
    Rd w2 (Addr.add a17 1) [.slice v19.base v19.len v19.cap] ∧
    VCall none Try.prog 21 #[.slice r15.base r15.len r15.cap, .int .i64 ((v19.len : Nat) : Int)] w2 (.slice none 0 0) fun (r21 : Sl) (w3 : World) =>
    VNN none c_0 fun (a23 : Addr) =>
    VLd none w3 a23 [CT.sl] fun (v25 : Sl) =>
    ∃ I1 : Nat → Sl → Int → World → Prop, (∃ k, I1 k r21 0 w3) ∧ ∀ k1 (b_3 : Sl) (x27 : Int) (w4 : World), I1 k1 b_3 x27 w4 →
    VIf (decide (x27 < ((v25.len : Nat) : Int))) (
      VIx none v25.base v25.len x27 fun (a29 : Addr) =>
      VLd none w4 (Addr.add a29 ((Int.toNat x27) * 3)) [CT.int .i64, CT.int .i64, CT.int .i64] fun (v30_0 : Int) (v30_1 : Int) (v30_2 : Int) =>
      VNw none w4 (.cells #[.int .i64 0, .int .i64 0, .int .i64 0] 35) fun (p_5 : Nat) (w5 : World) =>
      VSt none w5 ⟨p_5, 0, none⟩ [.int .i64 v30_0, .int .i64 v30_1, .int .i64 v30_2] fun (w6 : World) =>
      ∀ (w7 : World), w7 = World.drew w6 →
      VLd none w7 ⟨p_5, 0, none⟩ [CT.int .i64] fun (v33 : Int) =>
      VLd none w7 ⟨p_5, 1, none⟩ [CT.int .i64] fun (v36 : Int) =>
      VLd none w7 ⟨p_5, 2, none⟩ [CT.int .i64] fun (v39 : Int) =>
      VCall none Try.prog 21 #[.slice b_3.base b_3.len b_3.cap, .int .i64 v33] w7 (.slice none 0 0) fun (r34 : Sl) (w8 : World) =>
      Rd w8 ⟨p_5, 2, none⟩ [.int .i64 v39] ∧
      Rd w8 ⟨p_5, 1, none⟩ [.int .i64 v36] ∧
      VCall none Try.prog 21 #[.slice r34.base r34.len r34.cap, .int .i64 v36] w8 (.slice none 0 0) fun (r37 : Sl) (w9 : World) =>
      Rd w9 ⟨p_5, 2, none⟩ [.int .i64 v39] ∧
      VCall none Try.prog 21 #[.slice r37.base r37.len r37.cap, .int .i64 v39] w9 (.slice none 0 0) fun (r40 : Sl) (w10 : World) =>
      ∃ k', k' < k1 ∧ I1 k' r40 (IntKind.wrap .i64 (x27 + 1)) w10
    ) (
      VNN none c_0 fun (a43 : Addr) =>
      VLd none w4 (Addr.add a43 1) [CT.sl] fun (v45 : Sl) =>
      ∃ I2 : Nat → Sl → Int → World → Prop, (∃ k, I2 k b_3 0 w4) ∧ ∀ k2 (b_3' : Sl) (x47 : Int) (w11 : World), I2 k2 b_3' x47 w11 →
      VIf (decide (x47 < ((v45.len : Nat) : Int))) (
        VIx none v45.base v45.len x47 fun (a49 : Addr) =>
        VLd none w11 (Addr.add a49 ((Int.toNat x47) * 1)) [CT.bool] fun (v50 : Bool) =>
        VCall none Try.prog 22 #[.slice b_3'.base b_3'.len b_3'.cap, .bool v50] w11 (.slice none 0 0) fun (r53 : Sl) (w12 : World) =>
        ∃ k', k' < k2 ∧ I2 k' r53 (IntKind.wrap .i64 (x47 + 1)) w12
      ) (
        VStr none w11 b_3'.base b_3'.len fun (s56 : ByteArray) =>
        R (.returned (.string s56)) w11
      )
    )
  )
theorem sh_config_Config_Encode_ok (c_0 : Option Addr) (w : World) (R : Ending → World → Prop) (h : sh_config_Config_Encode c_0 w R) : Calls Try.prog 11 #[.pointer c_0] w R :=
  calls_of_sh (args := [.pointer c_0]) (.two .auto (.two (.two .auto (.two (.two .auto .auto) .auto)) (.two .auto (.two (.two .auto (.one (.loop [(3, .slice none 0 0), (27, .int .i64 0)] (.two .auto (.two (.two .auto .auto) (.two (.one (.two .auto .auto)) .auto)))))) (.two (.two .auto (.one (.loop [(3, .slice none 0 0), (47, .int .i64 0)] (.two .auto (.two (.two .auto .auto) (.two (.one (.two .auto .auto)) .auto)))))) (.two .auto .auto)))))) Try.func11 (by kernel_rfl) (by kernel_rfl) (by kernel_rfl) h

/-- 12: buttery/config.Decode -/
def sh_config_Decode (s_0 : ByteArray) (w : World) (R : Ending → World → Prop) : Prop :=
  VBytes none w 5 s_0 fun (b11 cb11 : Nat) (w1 : World) =>
  VCall none Try.prog 23 #[.slice (some ⟨b11, 0, none⟩) s_0.size cb11] w1 (.pointer none) fun (r12 : Option Addr) (w2 : World) =>
  VCall none Try.prog 24 #[.pointer r12, .int .i64 4] w2 (.int .i64 0) fun (r15 : Int) (w3 : World) =>
  VCall none Try.prog 24 #[.pointer r12, .int .i64 5] w3 (.int .i64 0) fun (r17 : Int) (w4 : World) =>
  VCall none Try.prog 8 #[.int .i64 r15, .int .i64 r17] w4 (.tuple #[.pointer none, .int .i64 0]) fun (r18_0 : Option Addr) (r18_1 : Int) (w5 : World) =>
  VSet r18_1 fun (e_6 : Int) =>
  VIf (e_6 != 0) (
    R (.returned (.tuple #[.pointer none, .int .i64 4])) w5
  ) (
    VNN none r18_0 fun (a24 : Addr) =>
    VLd none w5 a24 [CT.sl] fun (v26 : Sl) =>
    ∃ I1 : Nat → Bool → Int → World → Prop, (∃ k, I1 k true 0 w5) ∧ ∀ k1 (ok_7 : Bool) (x28 : Int) (w6 : World), I1 k1 ok_7 x28 w6 →
    VIf (decide (x28 < ((v26.len : Nat) : Int))) (
      VSet x28 fun (i_8 : Int) =>
      ∀ (w7 : World), w7 = World.drew w6 →
      VNN none r18_0 fun (a32 : Addr) =>
      VLd none w7 a32 [CT.sl] fun (v34 : Sl) =>
      VNN none r18_0 fun (a40 : Addr) =>
      VLd none w7 (Addr.add a40 1) [CT.sl] fun (v42 : Sl) =>
      VNN none r18_0 fun (a47 : Addr) =>
      VLd none w7 (Addr.add a47 1) [CT.sl] fun (v49 : Sl) =>
      VCall none Try.prog 24 #[.pointer r12, .int .i64 2147483647] w7 (.int .i64 0) fun (r37 : Int) (w8 : World) =>
      Rd w8 (Addr.add a47 1) [.slice v49.base v49.len v49.cap] ∧
      Rd w8 (Addr.add a40 1) [.slice v42.base v42.len v42.cap] ∧
      Rd w8 a32 [.slice v34.base v34.len v34.cap] ∧
      VCall none Try.prog 24 #[.pointer r12, .int .i64 ((v42.len : Nat) : Int)] w8 (.int .i64 0) fun (r44 : Int) (w9 : World) =>
      Rd w9 (Addr.add a47 1) [.slice v49.base v49.len v49.cap] ∧
      Rd w9 a32 [.slice v34.base v34.len v34.cap] ∧
      VCall none Try.prog 24 #[.pointer r12, .int .i64 ((v49.len : Nat) : Int)] w9 (.int .i64 0) fun (r51 : Int) (w10 : World) =>
      Rd w10 a32 [.slice v34.base v34.len v34.cap] ∧
      VIx none v34.base v34.len i_8 fun (a53 : Addr) =>
      VSt none w10 (Addr.add a53 ((Int.toNat i_8) * 3)) [.int .i64 r37, .int .i64 r44, .int .i64 r51] fun (w11 : World) =>
      VNN (some ok_7) r18_0 fun (a57 : Addr) =>
      VLd (some ok_7) w11 a57 [CT.sl] fun (v59 : Sl) =>
      VIx (some ok_7) v59.base v59.len i_8 fun (a61 : Addr) =>
      VLd (some ok_7) w11 (Addr.add a61 ((Int.toNat i_8) * 3)) [CT.int .i64, CT.int .i64, CT.int .i64] fun (v62_0 : Int) (v62_1 : Int) (v62_2 : Int) =>
      VCall (some ok_7) Try.prog 25 #[.agg #[.int .i64 v62_0, .int .i64 v62_1, .int .i64 v62_2]] w11 (.bool false) fun (r63 : Bool) (w12 : World) =>
      ∃ k', k' < k1 ∧ I1 k' (ok_7 && r63) (IntKind.wrap .i64 (x28 + 1)) w12
    ) (
      VNN none r18_0 fun (a67 : Addr) =>
      VLd none w6 (Addr.add a67 1) [CT.sl] fun (v69 : Sl) =>
      ∃ I2 : Nat → Int → World → Prop, (∃ k, I2 k 0 w6) ∧ ∀ k2 (x71 : Int) (w13 : World), I2 k2 x71 w13 →
      VIf (decide (x71 < ((v69.len : Nat) : Int))) (
        VSet x71 fun (i_9 : Int) =>
        ∀ (w14 : World), w14 = World.drew w13 →
        VNN none r18_0 fun (a75 : Addr) =>
        VLd none w14 (Addr.add a75 1) [CT.sl] fun (v77 : Sl) =>
        VCall none Try.prog 26 #[.pointer r12] w14 (.bool false) fun (r80 : Bool) (w15 : World) =>
        Rd w15 (Addr.add a75 1) [.slice v77.base v77.len v77.cap] ∧
        VIx none v77.base v77.len i_9 fun (a81 : Addr) =>
        VSt none w15 (Addr.add a81 ((Int.toNat i_9) * 1)) [.bool r80] fun (w16 : World) =>
        ∃ k', k' < k2 ∧ I2 k' (IntKind.wrap .i64 (x71 + 1)) w16
      ) (
        VCall (some (!(!ok_7))) Try.prog 27 #[.pointer r12] w13 (.bool false) fun (r87 : Bool) (w17 : World) =>
        VIf ((!ok_7) || (!r87)) (
          R (.returned (.tuple #[.pointer none, .int .i64 4])) w17
        ) (
          R (.returned (.tuple #[.pointer r18_0, .int .i64 0])) w17
        )
      )
    )
  )
theorem sh_config_Decode_ok (s_0 : ByteArray) (w : World) (R : Ending → World → Prop) (h : sh_config_Decode s_0 w R) : Calls Try.prog 12 #[.string s_0] w R :=
  calls_of_sh (args := [.string s_0]) (.two .auto (.two .auto (.two .auto (.two (.two .auto (.two (.two .auto .auto) .auto)) (.two .auto (.two (.two .auto (.one (.loop [(7, .bool false), (28, .int .i64 0)] (.two .auto (.two (.two .auto .auto) (.two (.one (.two .auto (.two .auto .auto))) .auto)))))) (.two (.two .auto (.one (.loop [(71, .int .i64 0)] (.two .auto (.two (.two .auto .auto) (.two (.one (.two .auto .auto)) .auto)))))) (.two (.two .auto (.two (.two .auto .auto) .auto)) (.two .auto .auto))))))))) Try.func12 (by kernel_rfl) (by kernel_rfl) (by kernel_rfl) h

/-- 13: buttery/butteryref17.Decode -/
def sh_butteryref17_Decode (s_0 : ByteArray) (w : World) (R : Ending → World → Prop) : Prop :=
  VBytes none w 5 s_0 fun (b13 cb13 : Nat) (w1 : World) =>
  VCall none Try.prog 28 #[.slice (some ⟨b13, 0, none⟩) s_0.size cb13] w1 (.pointer none) fun (r14 : Option Addr) (w2 : World) =>
  VCall none Try.prog 29 #[.pointer r14, .int .i64 1048576] w2 (.int .i64 0) fun (r16 : Int) (w3 : World) =>
  VSet r16 fun (shards_5 : Int) =>
  VCall none Try.prog 29 #[.pointer r14, .int .i64 1048576] w3 (.int .i64 0) fun (r18 : Int) (w4 : World) =>
  VSet r18 fun (stores_6 : Int) =>
  VCall none Try.prog 30 #[.int .i64 shards_5, .int .i64 stores_6] w4 (.tuple #[.pointer none, .bool false]) fun (r22_0 : Option Addr) (r22_1 : Bool) (w5 : World) =>
  VCall (some (!(!r22_1))) Try.prog 31 #[.pointer r14] w5 (.bool false) fun (r29 : Bool) (w6 : World) =>
  VIf ((!r22_1) || (!r29)) (
    R (.returned (.tuple #[.pointer none, .bool false])) w6
  ) (
    ∃ I1 : Nat → Int → World → Prop, (∃ k, I1 k 0 w6) ∧ ∀ k1 (i_9 : Int) (w7 : World), I1 k1 i_9 w7 →
    VIf (decide (i_9 < shards_5)) (
      VCall none Try.prog 29 #[.pointer r14, .int .i64 2147483647] w7 (.int .i64 0) fun (r38 : Int) (w8 : World) =>
      VNw none w8 (.cells #[.int .i64 0, .int .i64 0, .int .i64 0] 35) fun (p_10 : Nat) (w9 : World) =>
      VSt none w9 ⟨p_10, 0, none⟩ [.int .i64 r38, .int .i64 0, .int .i64 0] fun (w10 : World) =>
      VCall none Try.prog 29 #[.pointer r14, .int .i64 1048576] w10 (.int .i64 0) fun (r41 : Int) (w11 : World) =>
      VSt none w11 ⟨p_10, 1, none⟩ [.int .i64 r41] fun (w12 : World) =>
      VCall none Try.prog 29 #[.pointer r14, .int .i64 1048576] w12 (.int .i64 0) fun (r44 : Int) (w13 : World) =>
      VSt none w13 ⟨p_10, 2, none⟩ [.int .i64 r44] fun (w14 : World) =>
      VLd none w14 ⟨p_10, 1, none⟩ [CT.int .i64] fun (v47 : Int) =>
      VLd (some (!(decide (v47 > stores_6)))) w14 ⟨p_10, 2, none⟩ [CT.int .i64] fun (v52 : Int) =>
      VLd (some (!((decide (v47 > stores_6)) || (decide (v52 > stores_6))))) w14 ⟨p_10, 0, none⟩ [CT.int .i64] fun (v58 : Int) =>
      VLd (some (!((decide (v47 > stores_6)) || (decide (v52 > stores_6))))) w14 ⟨p_10, 1, none⟩ [CT.int .i64] fun (v61 : Int) =>
      VLd (some (!(((decide (v47 > stores_6)) || (decide (v52 > stores_6))) || (!((v58 == 0) == (v61 == 0)))))) w14 ⟨p_10, 1, none⟩ [CT.int .i64] fun (v67 : Int) =>
      VLd (some ((!(((decide (v47 > stores_6)) || (decide (v52 > stores_6))) || (!((v58 == 0) == (v61 == 0))))) && (v67 == 0))) w14 ⟨p_10, 2, none⟩ [CT.int .i64] fun (v71 : Int) =>
      VLd (some (!((((decide (v47 > stores_6)) || (decide (v52 > stores_6))) || (!((v58 == 0) == (v61 == 0)))) || ((v67 == 0) && (v71 != 0))))) w14 ⟨p_10, 2, none⟩ [CT.int .i64] fun (v77 : Int) =>
      VLd (some ((!((((decide (v47 > stores_6)) || (decide (v52 > stores_6))) || (!((v58 == 0) == (v61 == 0)))) || ((v67 == 0) && (v71 != 0)))) && (v77 != 0))) w14 ⟨p_10, 2, none⟩ [CT.int .i64] fun (v81 : Int) =>
      VLd (some ((!((((decide (v47 > stores_6)) || (decide (v52 > stores_6))) || (!((v58 == 0) == (v61 == 0)))) || ((v67 == 0) && (v71 != 0)))) && (v77 != 0))) w14 ⟨p_10, 1, none⟩ [CT.int .i64] fun (v83 : Int) =>
      VIf (((((decide (v47 > stores_6)) || (decide (v52 > stores_6))) || (!((v58 == 0) == (v61 == 0)))) || ((v67 == 0) && (v71 != 0))) || ((v77 != 0) && (v81 == v83))) (
        R (.returned (.tuple #[.pointer none, .bool false])) w14
      ) (
        ∀ (w15 : World), w15 = World.drew w14 →
        VNN none r22_0 fun (a88 : Addr) =>
        VLd none w15 a88 [CT.sl] fun (v90 : Sl) =>
        VLd none w15 ⟨p_10, 0, none⟩ [CT.int .i64, CT.int .i64, CT.int .i64] fun (v92_0 : Int) (v92_1 : Int) (v92_2 : Int) =>
        VIx none v90.base v90.len i_9 fun (a93 : Addr) =>
        VSt none w15 (Addr.add a93 ((Int.toNat i_9) * 3)) [.int .i64 v92_0, .int .i64 v92_1, .int .i64 v92_2] fun (w16 : World) =>
        VSet (IntKind.wrap .i64 (i_9 + 1)) fun (i_9' : Int) =>
        ∃ k', k' < k1 ∧ I1 k' i_9' w16
      )
    ) (
      ∃ I2 : Nat → Int → World → Prop, (∃ k, I2 k 0 w7) ∧ ∀ k2 (i_11 : Int) (w17 : World), I2 k2 i_11 w17 →
      VIf (decide (i_11 < stores_6)) (
        ∀ (w18 : World), w18 = World.drew w17 →
        VNN none r22_0 fun (a100 : Addr) =>
        VLd none w18 (Addr.add a100 1) [CT.sl] fun (v102 : Sl) =>
        VCall none Try.prog 32 #[.pointer r14] w18 (.bool false) fun (r105 : Bool) (w19 : World) =>
        Rd w19 (Addr.add a100 1) [.slice v102.base v102.len v102.cap] ∧
        VIx none v102.base v102.len i_11 fun (a106 : Addr) =>
        VSt none w19 (Addr.add a106 ((Int.toNat i_11) * 1)) [.bool r105] fun (w20 : World) =>
        VSet (IntKind.wrap .i64 (i_11 + 1)) fun (i_11' : Int) =>
        ∃ k', k' < k2 ∧ I2 k' i_11' w20
      ) (
        VCall none Try.prog 33 #[.pointer r14] w17 (.bool false) fun (r108 : Bool) (w21 : World) =>
        VIf (!r108) (
          R (.returned (.tuple #[.pointer none, .bool false])) w21
        ) (
          R (.returned (.tuple #[.pointer r22_0, .bool true])) w21
        )
      )
    )
  )
theorem sh_butteryref17_Decode_ok (s_0 : ByteArray) (w : World) (R : Ending → World → Prop) (h : sh_butteryref17_Decode s_0 w R) : Calls Try.prog 13 #[.string s_0] w R :=
  calls_of_sh (args := [.string s_0]) (.two .auto (.two .auto (.two .auto (.two .auto (.two .auto (.two (.two .auto (.two (.two .auto .auto) .auto)) (.two (.two .auto (.one (.loop [(9, .int .i64 0)] (.two (.two .auto (.two .auto .auto)) (.two (.one (.two .auto (.two .auto (.two .auto (.two (.two .auto (.two (.two .auto .auto) .auto)) .auto))))) .auto))))) (.two (.two .auto (.one (.loop [(11, .int .i64 0)] (.two (.two .auto (.two .auto .auto)) (.two (.one .auto) .auto))))) (.two (.two .auto (.two (.two .auto .auto) .auto)) (.two .auto .auto)))))))))) Try.func13 (by kernel_rfl) (by kernel_rfl) (by kernel_rfl) h

/-- 14: buttery/butterylaw17.stands -/
def sh_butterylaw17_stands (c_0 : Option Addr) (x_1 : Option Addr) (w : World) (R : Ending → World → Prop) : Prop :=
  VCall none Try.prog 9 #[.pointer c_0] w (.slice none 0 0) fun (r11 : Sl) (w1 : World) =>
  VCall none Try.prog 34 #[.pointer c_0] w1 (.slice none 0 0) fun (r13 : Sl) (w2 : World) =>
  VCall none Try.prog 35 #[.pointer x_1] w2 (.slice none 0 0) fun (r15 : Sl) (w3 : World) =>
  ∀ (w4 : World), w4 = World.drew w3 →
  VNN none x_1 fun (a19 : Addr) =>
  VLd none w4 a19 [CT.sl] fun (v21 : Sl) =>
  VNN (some (!((((r11.len : Nat) : Int) != ((v21.len : Nat) : Int)) || (((r13.len : Nat) : Int) != ((r15.len : Nat) : Int))))) x_1 fun (a35 : Addr) =>
  VLd (some (!((((r11.len : Nat) : Int) != ((v21.len : Nat) : Int)) || (((r13.len : Nat) : Int) != ((r15.len : Nat) : Int))))) w4 (Addr.add a35 1) [CT.sl] fun (v37 : Sl) =>
  VCall (some (!((((r11.len : Nat) : Int) != ((v21.len : Nat) : Int)) || (((r13.len : Nat) : Int) != ((r15.len : Nat) : Int))))) Try.prog 36 #[.pointer c_0] w4 (.int .i64 0) fun (r33 : Int) (w5 : World) =>
  ((!((((r11.len : Nat) : Int) != ((v21.len : Nat) : Int)) || (((r13.len : Nat) : Int) != ((r15.len : Nat) : Int)))) = true → Rd w5 (Addr.add a35 1) [.slice v37.base v37.len v37.cap]) ∧
  VCall (some (!(((((r11.len : Nat) : Int) != ((v21.len : Nat) : Int)) || (((r13.len : Nat) : Int) != ((r15.len : Nat) : Int))) || (r33 != ((v37.len : Nat) : Int))))) Try.prog 11 #[.pointer c_0] w5 (.string ByteArray.empty) fun (r43 : ByteArray) (w6 : World) =>
  VCall (some (!(((((r11.len : Nat) : Int) != ((v21.len : Nat) : Int)) || (((r13.len : Nat) : Int) != ((r15.len : Nat) : Int))) || (r33 != ((v37.len : Nat) : Int))))) Try.prog 37 #[.pointer x_1] w6 (.string ByteArray.empty) fun (r45 : ByteArray) (w7 : World) =>
  VIf ((((((r11.len : Nat) : Int) != ((v21.len : Nat) : Int)) || (((r13.len : Nat) : Int) != ((r15.len : Nat) : Int))) || (r33 != ((v37.len : Nat) : Int))) || (!(r43.toList == r45.toList))) (
    R (.returned (.bool false)) w7
  ) (
    ∃ I1 : Nat → Int → World → Prop, (∃ k, I1 k 0 w7) ∧ ∀ k1 (i_8 : Int) (w8 : World), I1 k1 i_8 w8 →
    VIf (decide (i_8 < ((r11.len : Nat) : Int))) (
      ∀ (w9 : World), w9 = World.drew w8 →
      VIx none r11.base r11.len i_8 fun (a56 : Addr) =>
      VLd none w9 (Addr.add a56 ((Int.toNat i_8) * 3)) [CT.int .i64, CT.int .i64, CT.int .i64] fun (v57_0 : Int) (v57_1 : Int) (v57_2 : Int) =>
      VNN none x_1 fun (a59 : Addr) =>
      VLd none w9 a59 [CT.sl] fun (v61 : Sl) =>
      VIx none v61.base v61.len i_8 fun (a63 : Addr) =>
      VLd none w9 (Addr.add a63 ((Int.toNat i_8) * 3)) [CT.int .i64, CT.int .i64, CT.int .i64] fun (v64_0 : Int) (v64_1 : Int) (v64_2 : Int) =>
      VIf (!((v57_0 == v64_0) && ((v57_1 == v64_1) && (v57_2 == v64_2)))) (
        R (.returned (.bool false)) w9
      ) (
        VIx none r11.base r11.len i_8 fun (a68 : Addr) =>
        VSt none w9 (Addr.add (Addr.add a68 ((Int.toNat i_8) * 3)) 1) [.int .i64 9] fun (w10 : World) =>
        VSet (IntKind.wrap .i64 (i_8 + 1)) fun (i_8' : Int) =>
        ∃ k', k' < k1 ∧ I1 k' i_8' w10
      )
    ) (
      ∃ I2 : Nat → Int → World → Prop, (∃ k, I2 k 0 w8) ∧ ∀ k2 (i_9 : Int) (w11 : World), I2 k2 i_9 w11 →
      VIf (decide (i_9 < ((r13.len : Nat) : Int))) (
        ∀ (w12 : World), w12 = World.drew w11 →
        VIx none r13.base r13.len i_9 fun (a78 : Addr) =>
        VLd none w12 (Addr.add a78 ((Int.toNat i_9) * 1)) [CT.int .i64] fun (v79 : Int) =>
        VIx none r15.base r15.len i_9 fun (a82 : Addr) =>
        VLd none w12 (Addr.add a82 ((Int.toNat i_9) * 1)) [CT.int .i64] fun (v83 : Int) =>
        VIf (v79 != v83) (
          R (.returned (.bool false)) w12
        ) (
          VIx none r13.base r13.len i_9 fun (a87 : Addr) =>
          VSt none w12 (Addr.add a87 ((Int.toNat i_9) * 1)) [.int .i64 (-1)] fun (w13 : World) =>
          VSet (IntKind.wrap .i64 (i_9 + 1)) fun (i_9' : Int) =>
          ∃ k', k' < k2 ∧ I2 k' i_9' w13
        )
      ) (
        R (.returned (.bool true)) w11
      )
    )
  )
theorem sh_butterylaw17_stands_ok (c_0 : Option Addr) (x_1 : Option Addr) (w : World) (R : Ending → World → Prop) (h : sh_butterylaw17_stands c_0 x_1 w R) : Calls Try.prog 14 #[.pointer c_0, .pointer x_1] w R :=
  calls_of_sh (args := [.pointer c_0, .pointer x_1]) (.two .auto (.two .auto (.two .auto (.two .auto (.two (.two .auto (.two (.two .auto .auto) .auto)) (.two (.two .auto (.one (.loop [(8, .int .i64 0)] (.two (.two .auto (.two .auto .auto)) (.two (.one (.two (.two .auto (.two (.two .auto .auto) .auto)) .auto)) .auto))))) (.two (.two .auto (.one (.loop [(9, .int .i64 0)] (.two (.two .auto (.two .auto .auto)) (.two (.one (.two (.two .auto (.two (.two .auto .auto) .auto)) .auto)) .auto))))) (.two .auto .auto)))))))) Try.func14 (by kernel_rfl) (by kernel_rfl) (by kernel_rfl) h

/-- 15: buttery/config.ReadCommand -/
def sh_config_ReadCommand (s_0 : ByteArray) (w : World) (R : Ending → World → Prop) : Prop :=
  VNw none w (.cells #[.int .u8 0, .int .i64 0, .int .i64 0, .int .i64 0] 33) fun (b2 : Nat) (w1 : World) =>
  VBytes none w1 5 s_0 fun (b7 cb7 : Nat) (w2 : World) =>
  VCall none Try.prog 23 #[.slice (some ⟨b7, 0, none⟩) s_0.size cb7] w2 (.pointer none) fun (r8 : Option Addr) (w3 : World) =>
  VCall none Try.prog 24 #[.pointer r8, .int .i64 255] w3 (.int .i64 0) fun (r10 : Int) (w4 : World) =>
  VCall none Try.prog 38 #[.pointer r8] w4 (.int .i64 0) fun (r13 : Int) (w5 : World) =>
  VCall none Try.prog 38 #[.pointer r8] w5 (.int .i64 0) fun (r15 : Int) (w6 : World) =>
  VCall none Try.prog 38 #[.pointer r8] w6 (.int .i64 0) fun (r17 : Int) (w7 : World) =>
  VNw none w7 (.cells #[.int .u8 0, .int .i64 0, .int .i64 0, .int .i64 0] 33) fun (x_5 : Nat) (w8 : World) =>
  VSt none w8 ⟨x_5, 0, none⟩ [.int .u8 (IntKind.wrap .u8 r10), .int .i64 r13, .int .i64 r15, .int .i64 r17] fun (w9 : World) =>
  VCall none Try.prog 27 #[.pointer r8] w9 (.bool false) fun (r20 : Bool) (w10 : World) =>
  VIf (!r20) (
    VSt none w10 ⟨b2, 0, none⟩ [.int .u8 0, .int .i64 0, .int .i64 0, .int .i64 0] fun (w11 : World) =>
    VLd none w11 ⟨b2, 0, none⟩ [CT.int .u8, CT.int .i64, CT.int .i64, CT.int .i64] fun (res2_0 : Int) (res2_1 : Int) (res2_2 : Int) (res2_3 : Int) =>
    R (.returned (.tuple #[.agg #[.int .u8 res2_0, .int .i64 res2_1, .int .i64 res2_2, .int .i64 res2_3], .int .i64 4])) w11
  ) (
    VLd none w10 ⟨x_5, 0, none⟩ [CT.int .u8, CT.int .i64, CT.int .i64, CT.int .i64] fun (v23_0 : Int) (v23_1 : Int) (v23_2 : Int) (v23_3 : Int) =>
    VSt none w10 ⟨b2, 0, none⟩ [.int .u8 v23_0, .int .i64 v23_1, .int .i64 v23_2, .int .i64 v23_3] fun (w12 : World) =>
    VLd none w12 ⟨b2, 0, none⟩ [CT.int .u8, CT.int .i64, CT.int .i64, CT.int .i64] fun (res2_0 : Int) (res2_1 : Int) (res2_2 : Int) (res2_3 : Int) =>
    R (.returned (.tuple #[.agg #[.int .u8 res2_0, .int .i64 res2_1, .int .i64 res2_2, .int .i64 res2_3], .int .i64 0])) w12
  )
theorem sh_config_ReadCommand_ok (s_0 : ByteArray) (w : World) (R : Ending → World → Prop) (h : sh_config_ReadCommand s_0 w R) : Calls Try.prog 15 #[.string s_0] w R :=
  calls_of_sh (args := [.string s_0]) (.two .auto (.two .auto (.two .auto (.two (.two .auto (.two (.two .auto .auto) .auto)) (.two .auto .auto))))) Try.func15 (by kernel_rfl) (by kernel_rfl) (by kernel_rfl) h

/-- 16: buttery/butteryref17.ReadCommand -/
def sh_butteryref17_ReadCommand (s_0 : ByteArray) (w : World) (R : Ending → World → Prop) : Prop :=
  VNw none w (.cells #[.int .u8 0, .int .i64 0, .int .i64 0, .int .i64 0] 33) fun (b2 : Nat) (w1 : World) =>
  VBytes none w1 5 s_0 fun (b7 cb7 : Nat) (w2 : World) =>
  VCall none Try.prog 28 #[.slice (some ⟨b7, 0, none⟩) s_0.size cb7] w2 (.pointer none) fun (r8 : Option Addr) (w3 : World) =>
  VCall none Try.prog 29 #[.pointer r8, .int .i64 255] w3 (.int .i64 0) fun (r10 : Int) (w4 : World) =>
  VNw none w4 (.cells #[.int .u8 0, .int .i64 0, .int .i64 0, .int .i64 0] 33) fun (x_5 : Nat) (w5 : World) =>
  VSt none w5 ⟨x_5, 0, none⟩ [.int .u8 (IntKind.wrap .u8 r10), .int .i64 0, .int .i64 0, .int .i64 0] fun (w6 : World) =>
  VCall none Try.prog 39 #[.pointer r8] w6 (.int .i64 0) fun (r14 : Int) (w7 : World) =>
  VSt none w7 ⟨x_5, 1, none⟩ [.int .i64 r14] fun (w8 : World) =>
  VCall none Try.prog 39 #[.pointer r8] w8 (.int .i64 0) fun (r17 : Int) (w9 : World) =>
  VSt none w9 ⟨x_5, 2, none⟩ [.int .i64 r17] fun (w10 : World) =>
  VCall none Try.prog 39 #[.pointer r8] w10 (.int .i64 0) fun (r20 : Int) (w11 : World) =>
  VSt none w11 ⟨x_5, 3, none⟩ [.int .i64 r20] fun (w12 : World) =>
  VCall none Try.prog 33 #[.pointer r8] w12 (.bool false) fun (r23 : Bool) (w13 : World) =>
  VIf (!r23) (
    VSt none w13 ⟨b2, 0, none⟩ [.int .u8 0, .int .i64 0, .int .i64 0, .int .i64 0] fun (w14 : World) =>
    VLd none w14 ⟨b2, 0, none⟩ [CT.int .u8, CT.int .i64, CT.int .i64, CT.int .i64] fun (res2_0 : Int) (res2_1 : Int) (res2_2 : Int) (res2_3 : Int) =>
    R (.returned (.tuple #[.agg #[.int .u8 res2_0, .int .i64 res2_1, .int .i64 res2_2, .int .i64 res2_3], .bool false])) w14
  ) (
    VLd none w13 ⟨x_5, 0, none⟩ [CT.int .u8, CT.int .i64, CT.int .i64, CT.int .i64] fun (v26_0 : Int) (v26_1 : Int) (v26_2 : Int) (v26_3 : Int) =>
    VSt none w13 ⟨b2, 0, none⟩ [.int .u8 v26_0, .int .i64 v26_1, .int .i64 v26_2, .int .i64 v26_3] fun (w15 : World) =>
    VLd none w15 ⟨b2, 0, none⟩ [CT.int .u8, CT.int .i64, CT.int .i64, CT.int .i64] fun (res2_0 : Int) (res2_1 : Int) (res2_2 : Int) (res2_3 : Int) =>
    R (.returned (.tuple #[.agg #[.int .u8 res2_0, .int .i64 res2_1, .int .i64 res2_2, .int .i64 res2_3], .bool true])) w15
  )
theorem sh_butteryref17_ReadCommand_ok (s_0 : ByteArray) (w : World) (R : Ending → World → Prop) (h : sh_butteryref17_ReadCommand s_0 w R) : Calls Try.prog 16 #[.string s_0] w R :=
  calls_of_sh (args := [.string s_0]) (.two .auto (.two .auto (.two .auto (.two .auto (.two .auto (.two .auto (.two (.two .auto (.two (.two .auto .auto) .auto)) (.two .auto .auto)))))))) Try.func16 (by kernel_rfl) (by kernel_rfl) (by kernel_rfl) h

/-- 17: buttery/config.Command -/
def sh_config_Command (x_0_0 : Int) (x_0_1 : Int) (x_0_2 : Int) (x_0_3 : Int) (w : World) (R : Ending → World → Prop) : Prop :=
  VNw none w (.cells #[.int .u8 x_0_0, .int .i64 x_0_1, .int .i64 x_0_2, .int .i64 x_0_3] 33) fun (x_1 : Nat) (w1 : World) =>
  VLd none w1 ⟨x_1, 0, none⟩ [CT.int .u8] fun (v7 : Int) =>
  VCall none Try.prog 21 #[.slice none 0 0, .int .i64 (IntKind.wrap .i64 v7)] w1 (.slice none 0 0) fun (r9 : Sl) (w2 : World) =>
  VLd none w2 ⟨x_1, 1, none⟩ [CT.int .i64] fun (v11 : Int) =>
  VLd none w2 ⟨x_1, 2, none⟩ [CT.int .i64] fun (v13 : Int) =>
  VLd none w2 ⟨x_1, 3, none⟩ [CT.int .i64] fun (v15 : Int) =>
  VNw none w2 (.cells #[.int .i64 v11, .int .i64 v13, .int .i64 v15] 3) fun (b16 : Nat) (w3 : World) =>
  ∃ I1 : Nat → Sl → Int → World → Prop, (∃ k, I1 k r9 0 w3) ∧ ∀ k1 (b_3 : Sl) (x18 : Int) (w4 : World), I1 k1 b_3 x18 w4 →
  VIf (decide (x18 < ((3 : Nat) : Int))) (
    VIx none (some ⟨b16, 0, none⟩) 3 x18 fun (a20 : Addr) =>
    VLd none w4 (Addr.add a20 ((Int.toNat x18) * 1)) [CT.int .i64] fun (v21 : Int) =>
    VSet v21 fun (n_5 : Int) =>
    VCall none Try.prog 40 #[.slice b_3.base b_3.len b_3.cap, .int .i64 n_5] w4 (.slice none 0 0) fun (r24 : Sl) (w5 : World) =>
    ∃ k', k' < k1 ∧ I1 k' r24 (IntKind.wrap .i64 (x18 + 1)) w5
  ) (
    VStr none w4 b_3.base b_3.len fun (s27 : ByteArray) =>
    R (.returned (.string s27)) w4
  )
theorem sh_config_Command_ok (x_0_0 : Int) (x_0_1 : Int) (x_0_2 : Int) (x_0_3 : Int) (w : World) (R : Ending → World → Prop) (h : sh_config_Command x_0_0 x_0_1 x_0_2 x_0_3 w R) : Calls Try.prog 17 #[.agg #[.int .u8 x_0_0, .int .i64 x_0_1, .int .i64 x_0_2, .int .i64 x_0_3]] w R :=
  calls_of_sh (args := [.agg #[.int .u8 x_0_0, .int .i64 x_0_1, .int .i64 x_0_2, .int .i64 x_0_3]]) (.two .auto (.two .auto (.two (.two .auto (.one (.loop [(3, .slice none 0 0), (18, .int .i64 0)] (.two .auto (.two (.two .auto .auto) (.two (.one (.two .auto .auto)) .auto)))))) (.two .auto .auto)))) Try.func17 (by kernel_rfl) (by kernel_rfl) (by kernel_rfl) h

/-- 18: buttery/butteryref17.Command -/
def sh_butteryref17_Command (x_0_0 : Int) (x_0_1 : Int) (x_0_2 : Int) (x_0_3 : Int) (w : World) (R : Ending → World → Prop) : Prop :=
  VNw none w (.cells #[.int .u8 x_0_0, .int .i64 x_0_1, .int .i64 x_0_2, .int .i64 x_0_3] 33) fun (x_1 : Nat) (w1 : World) =>
  VLd none w1 ⟨x_1, 0, none⟩ [CT.int .u8] fun (v5 : Int) =>
  VCall none Try.prog 41 #[.slice none 0 0, .int .i64 (IntKind.wrap .i64 v5)] w1 (.slice none 0 0) fun (r7 : Sl) (w2 : World) =>
  VLd none w2 ⟨x_1, 1, none⟩ [CT.int .i64] fun (v10 : Int) =>
  VCall none Try.prog 42 #[.slice r7.base r7.len r7.cap, .int .i64 v10] w2 (.slice none 0 0) fun (r11 : Sl) (w3 : World) =>
  VLd none w3 ⟨x_1, 2, none⟩ [CT.int .i64] fun (v14 : Int) =>
  VCall none Try.prog 42 #[.slice r11.base r11.len r11.cap, .int .i64 v14] w3 (.slice none 0 0) fun (r15 : Sl) (w4 : World) =>
  VLd none w4 ⟨x_1, 3, none⟩ [CT.int .i64] fun (v18 : Int) =>
  VCall none Try.prog 42 #[.slice r15.base r15.len r15.cap, .int .i64 v18] w4 (.slice none 0 0) fun (r19 : Sl) (w5 : World) =>
  VStr none w5 r19.base r19.len fun (s20 : ByteArray) =>
  R (.returned (.string s20)) w5
theorem sh_butteryref17_Command_ok (x_0_0 : Int) (x_0_1 : Int) (x_0_2 : Int) (x_0_3 : Int) (w : World) (R : Ending → World → Prop) (h : sh_butteryref17_Command x_0_0 x_0_1 x_0_2 x_0_3 w R) : Calls Try.prog 18 #[.agg #[.int .u8 x_0_0, .int .i64 x_0_1, .int .i64 x_0_2, .int .i64 x_0_3]] w R :=
  calls_of_sh (args := [.agg #[.int .u8 x_0_0, .int .i64 x_0_1, .int .i64 x_0_2, .int .i64 x_0_3]]) (.two .auto (.two .auto (.two .auto (.two .auto (.two .auto .auto))))) Try.func18 (by kernel_rfl) (by kernel_rfl) (by kernel_rfl) h

/-- 19: slices.Clone of  of buttery/api.Place,buttery/api.Place -/
def sh_slices_Clone (s_0 : Sl) (w : World) (R : Ending → World → Prop) : Prop :=
  VIf s_0.base.isNone (
    R (.returned (.slice none 0 0)) w
  ) (
    VNw none w (.cells #[] 35) fun (b5 : Nat) (w1 : World) =>
    VApp none w1 35 3 24 #[.int .i64 0, .int .i64 0, .int .i64 0] (some ⟨b5, 0, none⟩) 0 0 s_0.len (fun news => Seg w1 s_0.base s_0.len 3 news) fun (l7 : Sl) (w2 : World) =>
    R (.returned (.slice l7.base l7.len l7.cap)) w2
  )
theorem sh_slices_Clone_ok (s_0 : Sl) (w : World) (R : Ending → World → Prop) (h : sh_slices_Clone s_0 w R) : Calls Try.prog 19 #[.slice s_0.base s_0.len s_0.cap] w R :=
  calls_of_sh (args := [.slice s_0.base s_0.len s_0.cap]) (.two .auto (.two (.two .auto (.two (.two .auto .auto) .auto)) (.two .auto .auto))) Try.func19 (by kernel_rfl) (by kernel_rfl) (by kernel_rfl) h

/-- 20: buttery/config.changes -/
def sh_config_changes (w : World) (R : Ending → World → Prop) : Prop :=
  VNw none w (.cells #[.nilFunc, .nilFunc, .nilFunc, .nilFunc, .nilFunc] 55) fun (b0 : Nat) (w1 : World) =>
  VSt none w1 ⟨b0, 0, none⟩ [.nilFunc, .func (.func 43) #[] #[], .func (.func 44) #[] #[], .func (.func 45) #[] #[], .func (.func 46) #[] #[]] fun (w2 : World) =>
  VLd none w2 ⟨b0, 0, none⟩ [CT.any, CT.any, CT.any, CT.any, CT.any] fun (res0_0 : Value) (res0_1 : Value) (res0_2 : Value) (res0_3 : Value) (res0_4 : Value) =>
  R (.returned (.agg #[res0_0, res0_1, res0_2, res0_3, res0_4])) w2
theorem sh_config_changes_ok (w : World) (R : Ending → World → Prop) (h : sh_config_changes w R) : Calls Try.prog 20 #[] w R :=
  calls_of_sh (args := []) (.two .auto (.two .auto .auto)) Try.func20 (by kernel_rfl) (by kernel_rfl) (by kernel_rfl) h

/-- 21: buttery/code.Count -/
def sh_code_Count (b_0 : Sl) (n_1 : Int) (w : World) (R : Ending → World → Prop) : Prop :=
  VIf ((decide (n_1 < 0)) || (decide (n_1 > 2147483647))) (
    VCall none Try.prog 47 #[.slice b_0.base b_0.len b_0.cap] w (.slice none 0 0) fun (r12 : Sl) (w1 : World) =>
    R (.returned (.slice r12.base r12.len r12.cap)) w1
  ) (
    VCall none Try.prog 48 #[.slice b_0.base b_0.len b_0.cap, .int .u64 (IntKind.wrap .u64 n_1)] w (.slice none 0 0) fun (r16 : Sl) (w2 : World) =>
    R (.returned (.slice r16.base r16.len r16.cap)) w2
  )
theorem sh_code_Count_ok (b_0 : Sl) (n_1 : Int) (w : World) (R : Ending → World → Prop) (h : sh_code_Count b_0 n_1 w R) : Calls Try.prog 21 #[.slice b_0.base b_0.len b_0.cap, .int .i64 n_1] w R :=
  calls_of_sh (args := [.slice b_0.base b_0.len b_0.cap, .int .i64 n_1]) (.two .auto (.two (.two .auto (.two (.two .auto .auto) .auto)) (.two .auto .auto))) Try.func21 (by kernel_rfl) (by kernel_rfl) (by kernel_rfl) h

/-- 22: buttery/code.Flag -/
def sh_code_Flag (b_0 : Sl) (v_1 : Bool) (w : World) (R : Ending → World → Prop) : Prop :=
  ∃ Φ1 : Int → World → Prop, (
    VIf v_1 (
      Φ1 1 w
    ) (
      Φ1 0 w
    )
  ) ∧ ∀ (n_5 : Int) (w1 : World), Φ1 n_5 w1 →
  VCall none Try.prog 21 #[.slice b_0.base b_0.len b_0.cap, .int .i64 n_5] w1 (.slice none 0 0) fun (r9 : Sl) (w2 : World) =>
  R (.returned (.slice r9.base r9.len r9.cap)) w2
theorem sh_code_Flag_ok (b_0 : Sl) (v_1 : Bool) (w : World) (R : Ending → World → Prop) (h : sh_code_Flag b_0 v_1 w R) : Calls Try.prog 22 #[.slice b_0.base b_0.len b_0.cap, .bool v_1] w R :=
  calls_of_sh (args := [.slice b_0.base b_0.len b_0.cap, .bool v_1]) (.two .auto (.two .auto (.join [(5, .int .i64 0)] (.two .auto (.two .auto .auto)) (.two .auto .auto)))) Try.func22 (by kernel_rfl) (by kernel_rfl) (by kernel_rfl) h

/-- 23: buttery/code.NewReader -/
def sh_code_NewReader (b_0 : Sl) (w : World) (R : Ending → World → Prop) : Prop :=
  VCall none Try.prog 47 #[.slice b_0.base b_0.len b_0.cap] w (.slice none 0 0) fun (r4 : Sl) (w1 : World) =>
  VNw none w1 (.cells #[.slice r4.base r4.len r4.cap, .bool false] 81) fun (b6 : Nat) (w2 : World) =>
  VNw none w2 (.cells #[.pointer (some ⟨b6, 0, none⟩)] 83) fun (b8 : Nat) (w3 : World) =>
  R (.returned (.pointer (some ⟨b8, 0, none⟩))) w3
theorem sh_code_NewReader_ok (b_0 : Sl) (w : World) (R : Ending → World → Prop) (h : sh_code_NewReader b_0 w R) : Calls Try.prog 23 #[.slice b_0.base b_0.len b_0.cap] w R :=
  calls_of_sh (args := [.slice b_0.base b_0.len b_0.cap]) (.two .auto (.two .auto .auto)) Try.func23 (by kernel_rfl) (by kernel_rfl) (by kernel_rfl) h

/-- 24: (*buttery/code.Reader).Count -/
def sh_code_Reader_Count (r_0 : Option Addr) (most_1 : Int) (w : World) (R : Ending → World → Prop) : Prop :=
  VIf r_0.isNone (
    R (.returned (.int .i64 0)) w
  ) (
    VCall none Try.prog 49 #[.pointer r_0] w (.tuple #[.int .u64 0, .bool false]) fun (r11_0 : Int) (r11_1 : Bool) (w1 : World) =>
    VSet r11_0 fun (u_5 : Int) =>
    VCall none Try.prog 50 #[.pointer r_0, .int .i64 (IntKind.wrap .i64 u_5), .bool (((r11_1 && (decide (most_1 ≥ 0))) && (decide (u_5 ≤ 2147483647))) && (decide ((IntKind.wrap .i64 u_5) ≤ most_1)))] w1 (.int .i64 0) fun (r32 : Int) (w2 : World) =>
    VSet r32 fun (v4 : Int) =>
    R (.returned (.int .i64 v4)) w2
  )
theorem sh_code_Reader_Count_ok (r_0 : Option Addr) (most_1 : Int) (w : World) (R : Ending → World → Prop) (h : sh_code_Reader_Count r_0 most_1 w R) : Calls Try.prog 24 #[.pointer r_0, .int .i64 most_1] w R :=
  calls_of_sh (args := [.pointer r_0, .int .i64 most_1]) (.two .auto (.two (.two .auto (.two (.two .auto .auto) .auto)) (.two .auto (.two .auto .auto)))) Try.func24 (by kernel_rfl) (by kernel_rfl) (by kernel_rfl) h

/-- 25: buttery/config.may -/
def sh_config_may (p_0_0 : Int) (p_0_1 : Int) (p_0_2 : Int) (w : World) (R : Ending → World → Prop) : Prop :=
  VNw none w (.cells #[.int .i64 p_0_0, .int .i64 p_0_1, .int .i64 p_0_2] 35) fun (p_1 : Nat) (w1 : World) =>
  VLd none w1 ⟨p_1, 1, none⟩ [CT.int .i64] fun (v5 : Int) =>
  VIf (v5 == 0) (
    VLd none w1 ⟨p_1, 0, none⟩ [CT.int .i64] fun (v8 : Int) =>
    VLd (some (v8 == 0)) w1 ⟨p_1, 2, none⟩ [CT.int .i64] fun (v12 : Int) =>
    R (.returned (.bool ((v8 == 0) && (v12 == 0)))) w1
  ) (
    VLd none w1 ⟨p_1, 0, none⟩ [CT.int .i64] fun (v17 : Int) =>
    VIf (v17 == 0) (
      R (.returned (.bool false)) w1
    ) (
      VLd none w1 ⟨p_1, 2, none⟩ [CT.int .i64] fun (v20 : Int) =>
      VLd none w1 ⟨p_1, 1, none⟩ [CT.int .i64] fun (v22 : Int) =>
      R (.returned (.bool (v20 != v22))) w1
    )
  )
theorem sh_config_may_ok (p_0_0 : Int) (p_0_1 : Int) (p_0_2 : Int) (w : World) (R : Ending → World → Prop) (h : sh_config_may p_0_0 p_0_1 p_0_2 w R) : Calls Try.prog 25 #[.agg #[.int .i64 p_0_0, .int .i64 p_0_1, .int .i64 p_0_2]] w R :=
  calls_of_sh (args := [.agg #[.int .i64 p_0_0, .int .i64 p_0_1, .int .i64 p_0_2]]) (.two .auto (.two (.one (.two .auto (.two (.two .auto .auto) (.two .auto (.two (.two .auto .auto) .auto))))) (.two .auto .auto))) Try.func25 (by kernel_rfl) (by kernel_rfl) (by kernel_rfl) h

/-- 26: (*buttery/code.Reader).Flag -/
def sh_code_Reader_Flag (r_0 : Option Addr) (w : World) (R : Ending → World → Prop) : Prop :=
  VIf r_0.isNone (
    R (.returned (.bool false)) w
  ) (
    VCall none Try.prog 24 #[.pointer r_0, .int .i64 1] w (.int .i64 0) fun (r6 : Int) (w1 : World) =>
    R (.returned (.bool (r6 == 1))) w1
  )
theorem sh_code_Reader_Flag_ok (r_0 : Option Addr) (w : World) (R : Ending → World → Prop) (h : sh_code_Reader_Flag r_0 w R) : Calls Try.prog 26 #[.pointer r_0] w R :=
  calls_of_sh (args := [.pointer r_0]) (.two .auto (.two (.two .auto (.two (.two .auto .auto) .auto)) (.two .auto .auto))) Try.func26 (by kernel_rfl) (by kernel_rfl) (by kernel_rfl) h

/-- 27: (*buttery/code.Reader).Done -/
def sh_code_Reader_Done (r_0 : Option Addr) (w : World) (R : Ending → World → Prop) : Prop :=
  VCall none Try.prog 51 #[.pointer r_0] w (.bool false) fun (r4 : Bool) (w1 : World) =>
  VCall (some r4) Try.prog 52 #[.pointer r_0] w1 (.int .i64 0) fun (r7 : Int) (w2 : World) =>
  R (.returned (.bool (r4 && (r7 == 0)))) w2
theorem sh_code_Reader_Done_ok (r_0 : Option Addr) (w : World) (R : Ending → World → Prop) (h : sh_code_Reader_Done r_0 w R) : Calls Try.prog 27 #[.pointer r_0] w R :=
  calls_of_sh (args := [.pointer r_0]) (.two .auto (.two .auto .auto)) Try.func27 (by kernel_rfl) (by kernel_rfl) (by kernel_rfl) h

/-- 28: buttery/butteryref01.NewReader -/
def sh_butteryref01_NewReader (b_0 : Sl) (w : World) (R : Ending → World → Prop) : Prop :=
  VNw none w (.cells #[] 5) fun (b3 : Nat) (w1 : World) =>
  VApp none w1 5 1 1 #[.int .u8 0] (some ⟨b3, 0, none⟩) 0 0 b_0.len (fun news => Seg w1 b_0.base b_0.len 1 news) fun (l5 : Sl) (w2 : World) =>
  VNw none w2 (.cells #[.slice l5.base l5.len l5.cap, .bool false] 88) fun (b7 : Nat) (w3 : World) =>
  R (.returned (.pointer (some ⟨b7, 0, none⟩))) w3
theorem sh_butteryref01_NewReader_ok (b_0 : Sl) (w : World) (R : Ending → World → Prop) (h : sh_butteryref01_NewReader b_0 w R) : Calls Try.prog 28 #[.slice b_0.base b_0.len b_0.cap] w R :=
  calls_of_sh (args := [.slice b_0.base b_0.len b_0.cap]) (.two .auto (.two .auto .auto)) Try.func28 (by kernel_rfl) (by kernel_rfl) (by kernel_rfl) h

/-- 29: (*buttery/butteryref01.Reader).Count -/
def sh_butteryref01_Reader_Count (r_0 : Option Addr) (most_1 : Int) (w : World) (R : Ending → World → Prop) : Prop :=
  VCall none Try.prog 53 #[.pointer r_0] w (.int .u64 0) fun (r7 : Int) (w1 : World) =>
  VSet r7 fun (u_5 : Int) =>
  VNN none r_0 fun (a9 : Addr) =>
  VLd none w1 (Addr.add a9 1) [CT.bool] fun (v11 : Bool) =>
  VIf (((v11 || (decide (most_1 < 0))) || (decide (u_5 > 2147483647))) || (decide ((IntKind.wrap .i64 u_5) > most_1))) (
    VCall none Try.prog 54 #[.pointer r_0] w1 (.tuple #[]) fun (w2 : World) =>
    R (.returned (.int .i64 0)) w2
  ) (
    VSet (IntKind.wrap .i64 u_5) fun (v4 : Int) =>
    R (.returned (.int .i64 v4)) w1
  )
theorem sh_butteryref01_Reader_Count_ok (r_0 : Option Addr) (most_1 : Int) (w : World) (R : Ending → World → Prop) (h : sh_butteryref01_Reader_Count r_0 most_1 w R) : Calls Try.prog 29 #[.pointer r_0, .int .i64 most_1] w R :=
  calls_of_sh (args := [.pointer r_0, .int .i64 most_1]) (.two .auto (.two .auto (.two (.two .auto (.two (.two .auto (.two .auto .auto)) .auto)) (.two .auto .auto)))) Try.func29 (by kernel_rfl) (by kernel_rfl) (by kernel_rfl) h

/-- 30: buttery/butteryref17.New -/
def sh_butteryref17_New (shards_0 : Int) (stores_1 : Int) (w : World) (R : Ending → World → Prop) : Prop :=
  VIf ((((decide (shards_0 < 1)) || (decide (shards_0 > 4))) || (decide (stores_1 < 1))) || (decide (stores_1 > 5))) (
    R (.returned (.tuple #[.pointer none, .bool false])) w
  ) (
    ∃ Φ1 : Option Addr → Bool → World → Prop, (
      ∀ (w1 : World), w1 = World.drew w →
      (
        VMk none w1 35 3 24 #[.int .i64 0, .int .i64 0, .int .i64 0] shards_0 shards_0 fun (b21 : Nat) (w2 : World) =>
        VMk none w2 4 1 1 #[.bool false] stores_1 stores_1 fun (b23 : Nat) (w3 : World) =>
        VNw none w3 (.cells #[.slice (some ⟨b21, 0, none⟩) (Int.toNat shards_0) (Int.toNat shards_0), .slice (some ⟨b23, 0, none⟩) (Int.toNat stores_1) (Int.toNat stores_1)] 69) fun (b25 : Nat) (w4 : World) =>
        Φ1 (some ⟨b25, 0, none⟩) true w4
      ) ∧ (
        VMk none w1 4 1 1 #[.bool false] stores_1 stores_1 fun (b23 : Nat) (w5 : World) =>
        VMk none w5 35 3 24 #[.int .i64 0, .int .i64 0, .int .i64 0] shards_0 shards_0 fun (b21 : Nat) (w6 : World) =>
        VNw none w6 (.cells #[.slice (some ⟨b21, 0, none⟩) (Int.toNat shards_0) (Int.toNat shards_0), .slice (some ⟨b23, 0, none⟩) (Int.toNat stores_1) (Int.toNat stores_1)] 69) fun (b25 : Nat) (w7 : World) =>
        Φ1 (some ⟨b25, 0, none⟩) true w7
      )
    ) ∧ ∀ (x4 : Option Addr) (x5 : Bool) (w8 : World), Φ1 x4 x5 w8 →
    R (.returned (.tuple #[.pointer x4, .bool x5])) w8
  )
theorem sh_butteryref17_New_ok (shards_0 : Int) (stores_1 : Int) (w : World) (R : Ending → World → Prop) (h : sh_butteryref17_New shards_0 stores_1 w R) : Calls Try.prog 30 #[.int .i64 shards_0, .int .i64 stores_1] w R :=
  calls_of_sh (args := [.int .i64 shards_0, .int .i64 stores_1]) (.two .auto (.two (.two .auto (.two (.two .auto .auto) .auto)) (.two (.bjoin [(4, .pointer none), (5, .bool false)] .auto) .auto))) Try.func30 (by kernel_rfl) (by kernel_rfl) (by kernel_rfl) h

/-- 31: (*buttery/butteryref01.Reader).OK -/
def sh_butteryref01_Reader_OK (r_0 : Option Addr) (w : World) (R : Ending → World → Prop) : Prop :=
  VNN none r_0 fun (a4 : Addr) =>
  VLd none w (Addr.add a4 1) [CT.bool] fun (v6 : Bool) =>
  R (.returned (.bool (!v6))) w
theorem sh_butteryref01_Reader_OK_ok (r_0 : Option Addr) (w : World) (R : Ending → World → Prop) (h : sh_butteryref01_Reader_OK r_0 w R) : Calls Try.prog 31 #[.pointer r_0] w R :=
  calls_of_sh (args := [.pointer r_0]) (.two .auto (.two .auto .auto)) Try.func31 (by kernel_rfl) (by kernel_rfl) (by kernel_rfl) h

/-- 32: (*buttery/butteryref01.Reader).Flag -/
def sh_butteryref01_Reader_Flag (r_0 : Option Addr) (w : World) (R : Ending → World → Prop) : Prop :=
  VCall none Try.prog 29 #[.pointer r_0, .int .i64 1] w (.int .i64 0) fun (r4 : Int) (w1 : World) =>
  R (.returned (.bool (r4 == 1))) w1
theorem sh_butteryref01_Reader_Flag_ok (r_0 : Option Addr) (w : World) (R : Ending → World → Prop) (h : sh_butteryref01_Reader_Flag r_0 w R) : Calls Try.prog 32 #[.pointer r_0] w R :=
  calls_of_sh (args := [.pointer r_0]) (.two .auto (.two .auto .auto)) Try.func32 (by kernel_rfl) (by kernel_rfl) (by kernel_rfl) h

/-- 33: (*buttery/butteryref01.Reader).Done -/
def sh_butteryref01_Reader_Done (r_0 : Option Addr) (w : World) (R : Ending → World → Prop) : Prop :=
  VNN none r_0 fun (a4 : Addr) =>
  VLd none w (Addr.add a4 1) [CT.bool] fun (v6 : Bool) =>
  VNN (some (!v6)) r_0 fun (a10 : Addr) =>
  VLd (some (!v6)) w a10 [CT.sl] fun (v12 : Sl) =>
  R (.returned (.bool ((!v6) && (((v12.len : Nat) : Int) == 0)))) w
theorem sh_butteryref01_Reader_Done_ok (r_0 : Option Addr) (w : World) (R : Ending → World → Prop) (h : sh_butteryref01_Reader_Done r_0 w R) : Calls Try.prog 33 #[.pointer r_0] w R :=
  calls_of_sh (args := [.pointer r_0]) (.two .auto (.two .auto .auto)) Try.func33 (by kernel_rfl) (by kernel_rfl) (by kernel_rfl) h

/-- 34: (*buttery/config.Config).Downs -/
def sh_config_Config_Downs (c_0 : Option Addr) (w : World) (R : Ending → World → Prop) : Prop :=
  VCall none Try.prog 36 #[.pointer c_0] w (.int .i64 0) fun (r6 : Int) (w1 : World) =>
  ∃ I1 : Nat → Sl → Int → World → Prop, (∃ k, I1 k ⟨none, 0, 0⟩ 0 w1) ∧ ∀ k1 (out_3 : Sl) (x7 : Int) (w2 : World), I1 k1 out_3 x7 w2 →
  VIf (decide (x7 < r6)) (
    ∃ Φ2 : Sl → World → Prop, (
      VSet x7 fun (i_4 : Int) =>
      VNN none c_0 fun (a11 : Addr) =>
      VLd none w2 (Addr.add a11 1) [CT.sl] fun (v13 : Sl) =>
      VIx none v13.base v13.len i_4 fun (a15 : Addr) =>
      VLd none w2 (Addr.add a15 ((Int.toNat i_4) * 1)) [CT.bool] fun (v16 : Bool) =>
      VIf v16 (
        VNw none w2 (.cells #[.int .i64 (IntKind.wrap .i64 (i_4 + 1))] 3) fun (b20 : Nat) (w3 : World) =>
        VApp none w3 3 1 8 #[.int .i64 0] out_3.base out_3.len out_3.cap 1 (fun news => Seg w3 (some ⟨b20, 0, none⟩) 1 1 news) fun (l21 : Sl) (w4 : World) =>
        Φ2 l21 w4
      ) (
        Φ2 out_3 w2
      )
    ) ∧ ∀ (out_3' : Sl) (w5 : World), Φ2 out_3' w5 →
    ∃ k', k' < k1 ∧ I1 k' ⟨out_3'.base, out_3'.len, out_3'.cap⟩ (IntKind.wrap .i64 (x7 + 1)) w5
  ) (
    R (.returned (.slice out_3.base out_3.len out_3.cap)) w2
  )
theorem sh_config_Config_Downs_ok (c_0 : Option Addr) (w : World) (R : Ending → World → Prop) (h : sh_config_Config_Downs c_0 w R) : Calls Try.prog 34 #[.pointer c_0] w R :=
  calls_of_sh (args := [.pointer c_0]) (.two .auto (.two .auto (.two (.two .auto (.one (.loop [(3, .slice none 0 0), (7, .int .i64 0)] (.two .auto (.two (.two .auto .auto) (.two (.bjoin [(3, .slice none 0 0)] (.two .auto (.two .auto (.two .auto .auto)))) .auto)))))) (.two .auto .auto)))) Try.func34 (by kernel_rfl) (by kernel_rfl) (by kernel_rfl) h

/-- 35: (*buttery/butteryref17.Config).Downs -/
def sh_butteryref17_Config_Downs (c_0 : Option Addr) (w : World) (R : Ending → World → Prop) : Prop :=
  ∃ I1 : Nat → Sl → Int → World → Prop, (∃ k, I1 k ⟨none, 0, 0⟩ 0 w) ∧ ∀ k1 (out_3 : Sl) (i_4 : Int) (w1 : World), I1 k1 out_3 i_4 w1 →
  VNN none c_0 fun (a7 : Addr) =>
  VLd none w1 (Addr.add a7 1) [CT.sl] fun (v9 : Sl) =>
  VIf (decide (i_4 < ((v9.len : Nat) : Int))) (
    ∃ Φ2 : Sl → World → Prop, (
      VNN none c_0 fun (a15 : Addr) =>
      VLd none w1 (Addr.add a15 1) [CT.sl] fun (v17 : Sl) =>
      VIx none v17.base v17.len i_4 fun (a19 : Addr) =>
      VLd none w1 (Addr.add a19 ((Int.toNat i_4) * 1)) [CT.bool] fun (v20 : Bool) =>
      VIf v20 (
        VNw none w1 (.cells #[.int .i64 (IntKind.wrap .i64 (i_4 + 1))] 3) fun (b24 : Nat) (w2 : World) =>
        VApp none w2 3 1 8 #[.int .i64 0] out_3.base out_3.len out_3.cap 1 (fun news => Seg w2 (some ⟨b24, 0, none⟩) 1 1 news) fun (l25 : Sl) (w3 : World) =>
        Φ2 l25 w3
      ) (
        Φ2 out_3 w1
      )
    ) ∧ ∀ (out_3' : Sl) (w4 : World), Φ2 out_3' w4 →
    VSet (IntKind.wrap .i64 (i_4 + 1)) fun (i_4' : Int) =>
    ∃ k', k' < k1 ∧ I1 k' ⟨out_3'.base, out_3'.len, out_3'.cap⟩ i_4' w4
  ) (
    R (.returned (.slice out_3.base out_3.len out_3.cap)) w1
  )
theorem sh_butteryref17_Config_Downs_ok (c_0 : Option Addr) (w : World) (R : Ending → World → Prop) (h : sh_butteryref17_Config_Downs c_0 w R) : Calls Try.prog 35 #[.pointer c_0] w R :=
  calls_of_sh (args := [.pointer c_0]) (.two .auto (.two .auto (.two (.two .auto (.one (.loop [(3, .slice none 0 0), (4, .int .i64 0)] (.two (.two .auto (.two .auto .auto)) (.two (.bjoin [(3, .slice none 0 0)] (.two .auto (.two .auto .auto))) .auto))))) (.two .auto .auto)))) Try.func35 (by kernel_rfl) (by kernel_rfl) (by kernel_rfl) h

/-- 36: (*buttery/config.Config).Stores -/
def sh_config_Config_Stores (c_0 : Option Addr) (w : World) (R : Ending → World → Prop) : Prop :=
  VIf c_0.isNone (
    R (.returned (.int .i64 0)) w
  ) (
    VNN none c_0 fun (a6 : Addr) =>
    VLd none w (Addr.add a6 1) [CT.sl] fun (v8 : Sl) =>
    VSet ((v8.len : Nat) : Int) fun (v2 : Int) =>
    R (.returned (.int .i64 v2)) w
  )
theorem sh_config_Config_Stores_ok (c_0 : Option Addr) (w : World) (R : Ending → World → Prop) (h : sh_config_Config_Stores c_0 w R) : Calls Try.prog 36 #[.pointer c_0] w R :=
  calls_of_sh (args := [.pointer c_0]) (.two .auto (.two (.two .auto (.two (.two .auto .auto) .auto)) (.two .auto .auto))) Try.func36 (by kernel_rfl) (by kernel_rfl) (by kernel_rfl) h

/-- 37: (*buttery/butteryref17.Config).Encode -/
def sh_butteryref17_Config_Encode (c_0 : Option Addr) (w : World) (R : Ending → World → Prop) : Prop :=
  ∀ (w1 : World), w1 = World.drew w →
  VNN none c_0 fun (a7 : Addr) =>
  VLd none w1 a7 [CT.sl] fun (v9 : Sl) =>
  VNN none c_0 fun (a13 : Addr) =>
  VLd none w1 (Addr.add a13 1) [CT.sl] fun (v15 : Sl) =>
  VCall none Try.prog 41 #[.slice none 0 0, .int .i64 ((v9.len : Nat) : Int)] w1 (.slice none 0 0) fun (r11 : Sl) (w2 : World) =>
  Rd w2 (Addr.add a13 1) [.slice v15.base v15.len v15.cap] ∧
  VCall none Try.prog 41 #[.slice r11.base r11.len r11.cap, .int .i64 ((v15.len : Nat) : Int)] w2 (.slice none 0 0) fun (r17 : Sl) (w3 : World) =>
  ∃ I1 : Nat → Sl → Int → World → Prop, (∃ k, I1 k r17 0 w3) ∧ ∀ k1 (b_3 : Sl) (i_4 : Int) (w4 : World), I1 k1 b_3 i_4 w4 →
  VNN none c_0 fun (a20 : Addr) =>
  VLd none w4 a20 [CT.sl] fun (v22 : Sl) =>
  VIf (decide (i_4 < ((v22.len : Nat) : Int))) (
    VNN none c_0 fun (a29 : Addr) =>
    VLd none w4 a29 [CT.sl] fun (v31 : Sl) =>
    VIx none v31.base v31.len i_4 fun (a33 : Addr) =>
    VLd none w4 (Addr.add a33 ((Int.toNat i_4) * 3)) [CT.int .i64] fun (v35 : Int) =>
    VCall none Try.prog 41 #[.slice b_3.base b_3.len b_3.cap, .int .i64 v35] w4 (.slice none 0 0) fun (r36 : Sl) (w5 : World) =>
    VNN none c_0 fun (a39 : Addr) =>
    VLd none w5 a39 [CT.sl] fun (v41 : Sl) =>
    VIx none v41.base v41.len i_4 fun (a43 : Addr) =>
    VLd none w5 (Addr.add (Addr.add a43 ((Int.toNat i_4) * 3)) 1) [CT.int .i64] fun (v45 : Int) =>
    VCall none Try.prog 41 #[.slice r36.base r36.len r36.cap, .int .i64 v45] w5 (.slice none 0 0) fun (r46 : Sl) (w6 : World) =>
    VNN none c_0 fun (a49 : Addr) =>
    VLd none w6 a49 [CT.sl] fun (v51 : Sl) =>
    VIx none v51.base v51.len i_4 fun (a53 : Addr) =>
    VLd none w6 (Addr.add (Addr.add a53 ((Int.toNat i_4) * 3)) 2) [CT.int .i64] fun (v55 : Int) =>
    VCall none Try.prog 41 #[.slice r46.base r46.len r46.cap, .int .i64 v55] w6 (.slice none 0 0) fun (r56 : Sl) (w7 : World) =>
    VSet (IntKind.wrap .i64 (i_4 + 1)) fun (i_4' : Int) =>
    ∃ k', k' < k1 ∧ I1 k' r56 i_4' w7
  ) (
    ∃ I2 : Nat → Sl → Int → World → Prop, (∃ k, I2 k b_3 0 w4) ∧ ∀ k2 (b_3' : Sl) (i_5 : Int) (w8 : World), I2 k2 b_3' i_5 w8 →
    VNN none c_0 fun (a59 : Addr) =>
    VLd none w8 (Addr.add a59 1) [CT.sl] fun (v61 : Sl) =>
    VIf (decide (i_5 < ((v61.len : Nat) : Int))) (
      VNN none c_0 fun (a68 : Addr) =>
      VLd none w8 (Addr.add a68 1) [CT.sl] fun (v70 : Sl) =>
      VIx none v70.base v70.len i_5 fun (a72 : Addr) =>
      VLd none w8 (Addr.add a72 ((Int.toNat i_5) * 1)) [CT.bool] fun (v73 : Bool) =>
      VCall none Try.prog 55 #[.slice b_3'.base b_3'.len b_3'.cap, .bool v73] w8 (.slice none 0 0) fun (r74 : Sl) (w9 : World) =>
      VSet (IntKind.wrap .i64 (i_5 + 1)) fun (i_5' : Int) =>
      ∃ k', k' < k2 ∧ I2 k' r74 i_5' w9
    ) (
      VStr none w8 b_3'.base b_3'.len fun (s76 : ByteArray) =>
      R (.returned (.string s76)) w8
    )
  )
theorem sh_butteryref17_Config_Encode_ok (c_0 : Option Addr) (w : World) (R : Ending → World → Prop) (h : sh_butteryref17_Config_Encode c_0 w R) : Calls Try.prog 37 #[.pointer c_0] w R :=
  calls_of_sh (args := [.pointer c_0]) (.two .auto (.two .auto (.two (.two .auto (.one (.loop [(3, .slice none 0 0), (4, .int .i64 0)] (.two (.two .auto (.two .auto .auto)) (.two (.one (.two .auto (.two .auto .auto))) .auto))))) (.two (.two .auto (.one (.loop [(3, .slice none 0 0), (5, .int .i64 0)] (.two (.two .auto (.two .auto .auto)) (.two (.one .auto) .auto))))) (.two .auto .auto))))) Try.func37 (by kernel_rfl) (by kernel_rfl) (by kernel_rfl) h

/-- 38: (*buttery/code.Reader).Num -/
def sh_code_Reader_Num (r_0 : Option Addr) (w : World) (R : Ending → World → Prop) : Prop :=
  VIf r_0.isNone (
    R (.returned (.int .i64 0)) w
  ) (
    VCall none Try.prog 49 #[.pointer r_0] w (.tuple #[.int .u64 0, .bool false]) fun (r9_0 : Int) (r9_1 : Bool) (w1 : World) =>
    VSet r9_0 fun (u_3 : Int) =>
    VCall none Try.prog 56 #[.pointer r_0, .int .i64 (bXor .i64 (IntKind.wrap .i64 (Int.fdiv u_3 (2 ^ 1))) (IntKind.wrap .i64 (0 - (IntKind.wrap .i64 (bAnd .u64 u_3 1))))), .bool r9_1] w1 (.int .i64 0) fun (r22 : Int) (w2 : World) =>
    VSet r22 fun (v2 : Int) =>
    R (.returned (.int .i64 v2)) w2
  )
theorem sh_code_Reader_Num_ok (r_0 : Option Addr) (w : World) (R : Ending → World → Prop) (h : sh_code_Reader_Num r_0 w R) : Calls Try.prog 38 #[.pointer r_0] w R :=
  calls_of_sh (args := [.pointer r_0]) (.two .auto (.two (.two .auto (.two (.two .auto .auto) .auto)) (.two .auto (.two .auto .auto)))) Try.func38 (by kernel_rfl) (by kernel_rfl) (by kernel_rfl) h

/-- 39: (*buttery/butteryref01.Reader).Num -/
def sh_butteryref01_Reader_Num (r_0 : Option Addr) (w : World) (R : Ending → World → Prop) : Prop :=
  VCall none Try.prog 53 #[.pointer r_0] w (.int .u64 0) fun (r5 : Int) (w1 : World) =>
  VSet r5 fun (u_3 : Int) =>
  VNN none r_0 fun (a7 : Addr) =>
  VLd none w1 (Addr.add a7 1) [CT.bool] fun (v9 : Bool) =>
  VIf v9 (
    R (.returned (.int .i64 0)) w1
  ) (
    VIf ((Int.tmod u_3 2) == 0) (
      VSet (IntKind.wrap .i64 (IntKind.wrap .u64 (Int.tdiv u_3 2))) fun (v2 : Int) =>
      R (.returned (.int .i64 v2)) w1
    ) (
      VSet (IntKind.wrap .i64 ((IntKind.wrap .i64 (0 - (IntKind.wrap .i64 (IntKind.wrap .u64 (Int.tdiv u_3 2))))) - 1)) fun (v2' : Int) =>
      R (.returned (.int .i64 v2')) w1
    )
  )
theorem sh_butteryref01_Reader_Num_ok (r_0 : Option Addr) (w : World) (R : Ending → World → Prop) (h : sh_butteryref01_Reader_Num r_0 w R) : Calls Try.prog 39 #[.pointer r_0] w R :=
  calls_of_sh (args := [.pointer r_0]) (.two .auto (.two .auto (.two (.two .auto (.two (.two .auto .auto) .auto)) (.two (.two .auto (.two (.two .auto .auto) .auto)) (.two .auto .auto))))) Try.func39 (by kernel_rfl) (by kernel_rfl) (by kernel_rfl) h

/-- 40: buttery/code.Num -/
def sh_code_Num (b_0 : Sl) (n_1 : Int) (w : World) (R : Ending → World → Prop) : Prop :=
  VCall none Try.prog 48 #[.slice b_0.base b_0.len b_0.cap, .int .u64 (bXor .u64 (IntKind.wrap .u64 ((IntKind.wrap .u64 n_1) * 2 ^ 1)) (IntKind.wrap .u64 (Int.fdiv n_1 (2 ^ 63))))] w (.slice none 0 0) fun (r13 : Sl) (w1 : World) =>
  R (.returned (.slice r13.base r13.len r13.cap)) w1
theorem sh_code_Num_ok (b_0 : Sl) (n_1 : Int) (w : World) (R : Ending → World → Prop) (h : sh_code_Num b_0 n_1 w R) : Calls Try.prog 40 #[.slice b_0.base b_0.len b_0.cap, .int .i64 n_1] w R :=
  calls_of_sh (args := [.slice b_0.base b_0.len b_0.cap, .int .i64 n_1]) (.two .auto (.two .auto .auto)) Try.func40 (by kernel_rfl) (by kernel_rfl) (by kernel_rfl) h

/-- 41: buttery/butteryref01.Count -/
def sh_butteryref01_Count (b_0 : Sl) (n_1 : Int) (w : World) (R : Ending → World → Prop) : Prop :=
  VIf ((decide (n_1 < 0)) || (decide (n_1 > 2147483647))) (
    VCall none Try.prog 57 #[.slice b_0.base b_0.len b_0.cap, .slice none 0 0] w (.slice none 0 0) fun (r12 : Sl) (w1 : World) =>
    R (.returned (.slice r12.base r12.len r12.cap)) w1
  ) (
    VCall none Try.prog 58 #[.int .u64 (IntKind.wrap .u64 n_1)] w (.slice none 0 0) fun (r16 : Sl) (w2 : World) =>
    VCall none Try.prog 57 #[.slice b_0.base b_0.len b_0.cap, .slice r16.base r16.len r16.cap] w2 (.slice none 0 0) fun (r17 : Sl) (w3 : World) =>
    R (.returned (.slice r17.base r17.len r17.cap)) w3
  )
theorem sh_butteryref01_Count_ok (b_0 : Sl) (n_1 : Int) (w : World) (R : Ending → World → Prop) (h : sh_butteryref01_Count b_0 n_1 w R) : Calls Try.prog 41 #[.slice b_0.base b_0.len b_0.cap, .int .i64 n_1] w R :=
  calls_of_sh (args := [.slice b_0.base b_0.len b_0.cap, .int .i64 n_1]) (.two .auto (.two (.two .auto (.two (.two .auto .auto) .auto)) (.two .auto .auto))) Try.func41 (by kernel_rfl) (by kernel_rfl) (by kernel_rfl) h

/-- 42: buttery/butteryref01.Num -/
def sh_butteryref01_Num (b_0 : Sl) (n_1 : Int) (w : World) (R : Ending → World → Prop) : Prop :=
  VIf (decide (n_1 ≥ 0)) (
    VCall none Try.prog 58 #[.int .u64 (IntKind.wrap .u64 ((IntKind.wrap .u64 n_1) * 2))] w (.slice none 0 0) fun (r11 : Sl) (w1 : World) =>
    VCall none Try.prog 57 #[.slice b_0.base b_0.len b_0.cap, .slice r11.base r11.len r11.cap] w1 (.slice none 0 0) fun (r12 : Sl) (w2 : World) =>
    R (.returned (.slice r12.base r12.len r12.cap)) w2
  ) (
    VCall none Try.prog 58 #[.int .u64 (IntKind.wrap .u64 ((IntKind.wrap .u64 ((IntKind.wrap .u64 (IntKind.wrap .i64 (0 - (IntKind.wrap .i64 (n_1 + 1))))) * 2)) + 1))] w (.slice none 0 0) fun (r20 : Sl) (w3 : World) =>
    VCall none Try.prog 57 #[.slice b_0.base b_0.len b_0.cap, .slice r20.base r20.len r20.cap] w3 (.slice none 0 0) fun (r21 : Sl) (w4 : World) =>
    R (.returned (.slice r21.base r21.len r21.cap)) w4
  )
theorem sh_butteryref01_Num_ok (b_0 : Sl) (n_1 : Int) (w : World) (R : Ending → World → Prop) (h : sh_butteryref01_Num b_0 n_1 w R) : Calls Try.prog 42 #[.slice b_0.base b_0.len b_0.cap, .int .i64 n_1] w R :=
  calls_of_sh (args := [.slice b_0.base b_0.len b_0.cap, .int .i64 n_1]) (.two .auto (.two (.two .auto (.two (.two .auto .auto) .auto)) (.two .auto .auto))) Try.func42 (by kernel_rfl) (by kernel_rfl) (by kernel_rfl) h

/-- 43: (*buttery/config.Config).assign -/
def sh_config_Config_assign (c_0 : Option Addr) (p_1 : Option Addr) (x_2_0 : Int) (x_2_1 : Int) (x_2_2 : Int) (x_2_3 : Int) (w : World) (R : Ending → World → Prop) : Prop :=
  VNw none w (.cells #[.int .u8 x_2_0, .int .i64 x_2_1, .int .i64 x_2_2, .int .i64 x_2_3] 33) fun (x_5 : Nat) (w1 : World) =>
  VNN none p_1 fun (a8 : Addr) =>
  VLd none w1 a8 [CT.int .i64] fun (v10 : Int) =>
  VNN (some (!(v10 != 0))) p_1 fun (a14 : Addr) =>
  VLd (some (!(v10 != 0))) w1 (Addr.add a14 1) [CT.int .i64] fun (v16 : Int) =>
  VIf ((v10 != 0) || (v16 != 0)) (
    R (.returned (.bool false)) w1
  ) (
    VLd none w1 ⟨x_5, 2, none⟩ [CT.int .i64] fun (v21 : Int) =>
    VNN none p_1 fun (a22 : Addr) =>
    VSt none w1 (Addr.add a22 1) [.int .i64 v21] fun (w2 : World) =>
    R (.returned (.bool true)) w2
  )
theorem sh_config_Config_assign_ok (c_0 : Option Addr) (p_1 : Option Addr) (x_2_0 : Int) (x_2_1 : Int) (x_2_2 : Int) (x_2_3 : Int) (w : World) (R : Ending → World → Prop) (h : sh_config_Config_assign c_0 p_1 x_2_0 x_2_1 x_2_2 x_2_3 w R) : Calls Try.prog 43 #[.pointer c_0, .pointer p_1, .agg #[.int .u8 x_2_0, .int .i64 x_2_1, .int .i64 x_2_2, .int .i64 x_2_3]] w R :=
  calls_of_sh (args := [.pointer c_0, .pointer p_1, .agg #[.int .u8 x_2_0, .int .i64 x_2_1, .int .i64 x_2_2, .int .i64 x_2_3]]) (.two .auto (.two (.two .auto (.two (.two .auto .auto) .auto)) (.two .auto (.two .auto .auto)))) Try.func43 (by kernel_rfl) (by kernel_rfl) (by kernel_rfl) h

/-- 44: (*buttery/config.Config).move -/
def sh_config_Config_move (c_0 : Option Addr) (p_1 : Option Addr) (x_2_0 : Int) (x_2_1 : Int) (x_2_2 : Int) (x_2_3 : Int) (w : World) (R : Ending → World → Prop) : Prop :=
  VNw none w (.cells #[.int .u8 x_2_0, .int .i64 x_2_1, .int .i64 x_2_2, .int .i64 x_2_3] 33) fun (x_5 : Nat) (w1 : World) =>
  ∀ (w2 : World), w2 = World.drew w1 →
  VNN none p_1 fun (a8 : Addr) =>
  VLd none w2 (Addr.add a8 1) [CT.int .i64] fun (v10 : Int) =>
  VNN (some (!(v10 == 0))) p_1 fun (a14 : Addr) =>
  VLd (some (!(v10 == 0))) w2 (Addr.add a14 2) [CT.int .i64] fun (v16 : Int) =>
  VLd (some (!((v10 == 0) || (v16 != 0)))) w2 ⟨x_5, 2, none⟩ [CT.int .i64] fun (v21 : Int) =>
  VNN (some (!((v10 == 0) || (v16 != 0)))) p_1 fun (a23 : Addr) =>
  VLd (some (!((v10 == 0) || (v16 != 0)))) w2 (Addr.add a23 1) [CT.int .i64] fun (v25 : Int) =>
  VNN (some (!(((v10 == 0) || (v16 != 0)) || (v21 == v25)))) c_0 fun (a30 : Addr) =>
  VLd (some (!(((v10 == 0) || (v16 != 0)) || (v21 == v25)))) w2 (Addr.add a30 1) [CT.sl] fun (v32 : Sl) =>
  VLd (some (!(((v10 == 0) || (v16 != 0)) || (v21 == v25)))) w2 ⟨x_5, 2, none⟩ [CT.int .i64] fun (v34 : Int) =>
  VIx (some (!(((v10 == 0) || (v16 != 0)) || (v21 == v25)))) v32.base v32.len (IntKind.wrap .i64 (v34 - 1)) fun (a36 : Addr) =>
  VLd (some (!(((v10 == 0) || (v16 != 0)) || (v21 == v25)))) w2 (Addr.add a36 ((Int.toNat (IntKind.wrap .i64 (v34 - 1))) * 1)) [CT.bool] fun (v37 : Bool) =>
  VIf ((((v10 == 0) || (v16 != 0)) || (v21 == v25)) || v37) (
    R (.returned (.bool false)) w2
  ) (
    VLd none w2 ⟨x_5, 2, none⟩ [CT.int .i64] fun (v41 : Int) =>
    VNN none p_1 fun (a42 : Addr) =>
    VSt none w2 (Addr.add a42 2) [.int .i64 v41] fun (w3 : World) =>
    R (.returned (.bool true)) w3
  )
theorem sh_config_Config_move_ok (c_0 : Option Addr) (p_1 : Option Addr) (x_2_0 : Int) (x_2_1 : Int) (x_2_2 : Int) (x_2_3 : Int) (w : World) (R : Ending → World → Prop) (h : sh_config_Config_move c_0 p_1 x_2_0 x_2_1 x_2_2 x_2_3 w R) : Calls Try.prog 44 #[.pointer c_0, .pointer p_1, .agg #[.int .u8 x_2_0, .int .i64 x_2_1, .int .i64 x_2_2, .int .i64 x_2_3]] w R :=
  calls_of_sh (args := [.pointer c_0, .pointer p_1, .agg #[.int .u8 x_2_0, .int .i64 x_2_1, .int .i64 x_2_2, .int .i64 x_2_3]]) (.two .auto (.two (.two .auto (.two (.two .auto .auto) .auto)) (.two .auto (.two .auto .auto)))) Try.func44 (by kernel_rfl) (by kernel_rfl) (by kernel_rfl) h

/-- 45: (*buttery/config.Config).settle -/
def sh_config_Config_settle (c_0 : Option Addr) (p_1 : Option Addr) (x_2_0 : Int) (x_2_1 : Int) (x_2_2 : Int) (x_2_3 : Int) (w : World) (R : Ending → World → Prop) : Prop :=
  VNw none w (.cells #[.int .u8 x_2_0, .int .i64 x_2_1, .int .i64 x_2_2, .int .i64 x_2_3] 33) fun (x_5 : Nat) (w1 : World) =>
  ∀ (w2 : World), w2 = World.drew w1 →
  VNN none p_1 fun (a8 : Addr) =>
  VLd none w2 (Addr.add a8 2) [CT.int .i64] fun (v10 : Int) =>
  VNN (some (!(v10 == 0))) p_1 fun (a14 : Addr) =>
  VLd (some (!(v10 == 0))) w2 (Addr.add a14 2) [CT.int .i64] fun (v16 : Int) =>
  VLd (some (!(v10 == 0))) w2 ⟨x_5, 2, none⟩ [CT.int .i64] fun (v18 : Int) =>
  VIf ((v10 == 0) || (v16 != v18)) (
    R (.returned (.bool false)) w2
  ) (
    VLd none w2 ⟨x_5, 2, none⟩ [CT.int .i64] fun (v24 : Int) =>
    VNN none p_1 fun (a25 : Addr) =>
    VSt none w2 (Addr.add a25 1) [.int .i64 v24] fun (w3 : World) =>
    VNN none p_1 fun (a27 : Addr) =>
    VSt none w3 (Addr.add a27 2) [.int .i64 0] fun (w4 : World) =>
    R (.returned (.bool true)) w4
  )
theorem sh_config_Config_settle_ok (c_0 : Option Addr) (p_1 : Option Addr) (x_2_0 : Int) (x_2_1 : Int) (x_2_2 : Int) (x_2_3 : Int) (w : World) (R : Ending → World → Prop) (h : sh_config_Config_settle c_0 p_1 x_2_0 x_2_1 x_2_2 x_2_3 w R) : Calls Try.prog 45 #[.pointer c_0, .pointer p_1, .agg #[.int .u8 x_2_0, .int .i64 x_2_1, .int .i64 x_2_2, .int .i64 x_2_3]] w R :=
  calls_of_sh (args := [.pointer c_0, .pointer p_1, .agg #[.int .u8 x_2_0, .int .i64 x_2_1, .int .i64 x_2_2, .int .i64 x_2_3]]) (.two .auto (.two (.two .auto (.two (.two .auto .auto) .auto)) (.two .auto (.two .auto .auto)))) Try.func45 (by kernel_rfl) (by kernel_rfl) (by kernel_rfl) h

/-- 46: (*buttery/config.Config).abandon -/
def sh_config_Config_abandon (c_0 : Option Addr) (p_1 : Option Addr) (p2_0 : Int) (p2_1 : Int) (p2_2 : Int) (p2_3 : Int) (w : World) (R : Ending → World → Prop) : Prop :=
  VNw none w (.cells #[.int .u8 p2_0, .int .i64 p2_1, .int .i64 p2_2, .int .i64 p2_3] 33) fun (b5 : Nat) (w1 : World) =>
  VNN none p_1 fun (a8 : Addr) =>
  VLd none w1 (Addr.add a8 2) [CT.int .i64] fun (v10 : Int) =>
  VIf (v10 == 0) (
    R (.returned (.bool false)) w1
  ) (
    VNN none p_1 fun (a13 : Addr) =>
    VSt none w1 (Addr.add a13 2) [.int .i64 0] fun (w2 : World) =>
    R (.returned (.bool true)) w2
  )
theorem sh_config_Config_abandon_ok (c_0 : Option Addr) (p_1 : Option Addr) (p2_0 : Int) (p2_1 : Int) (p2_2 : Int) (p2_3 : Int) (w : World) (R : Ending → World → Prop) (h : sh_config_Config_abandon c_0 p_1 p2_0 p2_1 p2_2 p2_3 w R) : Calls Try.prog 46 #[.pointer c_0, .pointer p_1, .agg #[.int .u8 p2_0, .int .i64 p2_1, .int .i64 p2_2, .int .i64 p2_3]] w R :=
  calls_of_sh (args := [.pointer c_0, .pointer p_1, .agg #[.int .u8 p2_0, .int .i64 p2_1, .int .i64 p2_2, .int .i64 p2_3]]) (.two .auto (.two (.two .auto (.two (.two .auto .auto) .auto)) (.two .auto (.two .auto .auto)))) Try.func46 (by kernel_rfl) (by kernel_rfl) (by kernel_rfl) h

/-- 47: bytes.Clone -/
def sh_bytes_Clone (b_0 : Sl) (w : World) (R : Ending → World → Prop) : Prop :=
  VIf b_0.base.isNone (
    R (.returned (.slice none 0 0)) w
  ) (
    VNw none w (.cells #[] 5) fun (b5 : Nat) (w1 : World) =>
    VApp none w1 5 1 1 #[.int .u8 0] (some ⟨b5, 0, none⟩) 0 0 b_0.len (fun news => Seg w1 b_0.base b_0.len 1 news) fun (l7 : Sl) (w2 : World) =>
    R (.returned (.slice l7.base l7.len l7.cap)) w2
  )
theorem sh_bytes_Clone_ok (b_0 : Sl) (w : World) (R : Ending → World → Prop) (h : sh_bytes_Clone b_0 w R) : Calls Try.prog 47 #[.slice b_0.base b_0.len b_0.cap] w R :=
  calls_of_sh (args := [.slice b_0.base b_0.len b_0.cap]) (.two .auto (.two (.two .auto (.two (.two .auto .auto) .auto)) (.two .auto .auto))) Try.func47 (by kernel_rfl) (by kernel_rfl) (by kernel_rfl) h

/-- 48: buttery/code.uvarint -/
def sh_code_uvarint (b_0 : Sl) (u_1 : Int) (w : World) (R : Ending → World → Prop) : Prop :=
  VCall none Try.prog 47 #[.slice b_0.base b_0.len b_0.cap] w (.slice none 0 0) fun (r7 : Sl) (w1 : World) =>
  ∃ I1 : Nat → Int → Sl → World → Prop, (∃ k, I1 k u_1 r7 w1) ∧ ∀ k1 (u_1 : Int) (out_5 : Sl) (w2 : World), I1 k1 u_1 out_5 w2 →
  VIf (decide (u_1 > 127)) (
    VNw none w2 (.cells #[.int .u8 (bOr .u8 (IntKind.wrap .u8 u_1) 128)] 5) fun (b16 : Nat) (w3 : World) =>
    VApp none w3 5 1 1 #[.int .u8 0] out_5.base out_5.len out_5.cap 1 (fun news => Seg w3 (some ⟨b16, 0, none⟩) 1 1 news) fun (l17 : Sl) (w4 : World) =>
    VSet (Int.fdiv u_1 (2 ^ 7)) fun (u_1' : Int) =>
    ∃ k', k' < k1 ∧ I1 k' u_1' l17 w4
  ) (
    VNw none w2 (.cells #[.int .u8 (IntKind.wrap .u8 u_1)] 5) fun (b21 : Nat) (w5 : World) =>
    VApp none w5 5 1 1 #[.int .u8 0] out_5.base out_5.len out_5.cap 1 (fun news => Seg w5 (some ⟨b21, 0, none⟩) 1 1 news) fun (l22 : Sl) (w6 : World) =>
    R (.returned (.slice l22.base l22.len l22.cap)) w6
  )
theorem sh_code_uvarint_ok (b_0 : Sl) (u_1 : Int) (w : World) (R : Ending → World → Prop) (h : sh_code_uvarint b_0 u_1 w R) : Calls Try.prog 48 #[.slice b_0.base b_0.len b_0.cap, .int .u64 u_1] w R :=
  calls_of_sh (args := [.slice b_0.base b_0.len b_0.cap, .int .u64 u_1]) (.two .auto (.two .auto (.two (.one (.loop [(1, .int .u64 0), (5, .slice none 0 0)] (.two (.two .auto (.two .auto .auto)) (.two (.one .auto) .auto)))) (.two .auto .auto)))) Try.func48 (by kernel_rfl) (by kernel_rfl) (by kernel_rfl) h

/-- 49: (*buttery/code.Reader).uvarint -/
def sh_code_Reader_uvarint (r_0 : Option Addr) (w : World) (R : Ending → World → Prop) : Prop :=
  VCall none Try.prog 51 #[.pointer r_0] w (.bool false) fun (r7 : Bool) (w1 : World) =>
  VIf (!r7) (
    R (.returned (.tuple #[.int .u64 0, .bool false])) w1
  ) (
    VNN none r_0 fun (a11 : Addr) =>
    VLd none w1 a11 [CT.ptr] fun (v13 : Option Addr) =>
    VNN none v13 fun (a14 : Addr) =>
    VLd none w1 a14 [CT.sl] fun (v16 : Sl) =>
    VCall none Try.prog 59 #[.slice v16.base v16.len v16.cap] w1 (.tuple #[.int .u64 0, .int .i64 0]) fun (r17_0 : Int) (r17_1 : Int) (w2 : World) =>
    VSet r17_0 fun (u_4 : Int) =>
    VSet r17_1 fun (n_5 : Int) =>
    VNN (some ((!(decide (n_5 ≤ 0))) && (decide (n_5 > 1)))) r_0 fun (a27 : Addr) =>
    VLd (some ((!(decide (n_5 ≤ 0))) && (decide (n_5 > 1)))) w2 a27 [CT.ptr] fun (v29 : Option Addr) =>
    VNN (some ((!(decide (n_5 ≤ 0))) && (decide (n_5 > 1)))) v29 fun (a30 : Addr) =>
    VLd (some ((!(decide (n_5 ≤ 0))) && (decide (n_5 > 1)))) w2 a30 [CT.sl] fun (v32 : Sl) =>
    VIx (some ((!(decide (n_5 ≤ 0))) && (decide (n_5 > 1)))) v32.base v32.len (IntKind.wrap .i64 (n_5 - 1)) fun (a35 : Addr) =>
    VLd (some ((!(decide (n_5 ≤ 0))) && (decide (n_5 > 1)))) w2 (Addr.add a35 ((Int.toNat (IntKind.wrap .i64 (n_5 - 1))) * 1)) [CT.int .u8] fun (v36 : Int) =>
    VIf ((decide (n_5 ≤ 0)) || ((decide (n_5 > 1)) && (v36 == 0))) (
      R (.returned (.tuple #[.int .u64 0, .bool false])) w2
    ) (
      VNN none r_0 fun (a41 : Addr) =>
      VLd none w2 a41 [CT.ptr] fun (v43 : Option Addr) =>
      VCall none Try.prog 60 #[.pointer v43, .int .i64 n_5] w2 (.slice none 0 0) fun (r45 : Sl) (w3 : World) =>
      VSet u_4 fun (v2 : Int) =>
      R (.returned (.tuple #[.int .u64 v2, .bool true])) w3
    )
  )
theorem sh_code_Reader_uvarint_ok (r_0 : Option Addr) (w : World) (R : Ending → World → Prop) (h : sh_code_Reader_uvarint r_0 w R) : Calls Try.prog 49 #[.pointer r_0] w R :=
  calls_of_sh (args := [.pointer r_0]) (.two .auto (.two (.two .auto (.two (.two .auto .auto) .auto)) (.two .auto (.two (.two .auto (.two (.two .auto .auto) .auto)) (.two .auto (.two .auto .auto)))))) Try.func49 (by kernel_rfl) (by kernel_rfl) (by kernel_rfl) h

/-- 50: buttery/code.told of int -/
def sh_code_told (r_0 : Option Addr) (v_1 : Int) (ok_2 : Bool) (w : World) (R : Ending → World → Prop) : Prop :=
  ∃ Φ1 : World → Prop, (
    VIf (!ok_2) (
      VNN none r_0 fun (a11 : Addr) =>
      VLd none w a11 [CT.ptr] fun (v13 : Option Addr) =>
      VNN none v13 fun (a14 : Addr) =>
      VSt none w (Addr.add a14 1) [.bool true] fun (w1 : World) =>
      Φ1 w1
    ) (
      Φ1 w
    )
  ) ∧ ∀ (w2 : World), Φ1 w2 →
  VNN none r_0 fun (a17 : Addr) =>
  VLd none w2 a17 [CT.ptr] fun (v19 : Option Addr) =>
  VNN none v19 fun (a20 : Addr) =>
  VLd none w2 (Addr.add a20 1) [CT.bool] fun (v22 : Bool) =>
  VIf v22 (
    VSet 0 fun (v6 : Int) =>
    R (.returned (.int .i64 v6)) w2
  ) (
    VSet v_1 fun (v6' : Int) =>
    R (.returned (.int .i64 v6')) w2
  )
theorem sh_code_told_ok (r_0 : Option Addr) (v_1 : Int) (ok_2 : Bool) (w : World) (R : Ending → World → Prop) (h : sh_code_told r_0 v_1 ok_2 w R) : Calls Try.prog 50 #[.pointer r_0, .int .i64 v_1, .bool ok_2] w R :=
  calls_of_sh (args := [.pointer r_0, .int .i64 v_1, .bool ok_2]) (.two .auto (.join [] (.two .auto (.two .auto .auto)) (.two (.two .auto (.two (.two .auto (.two .auto .auto)) .auto)) (.two .auto .auto)))) Try.func50 (by kernel_rfl) (by kernel_rfl) (by kernel_rfl) h

/-- 51: (*buttery/code.Reader).OK -/
def sh_code_Reader_OK (r_0 : Option Addr) (w : World) (R : Ending → World → Prop) : Prop :=
  VNN (some (!r_0.isNone)) r_0 fun (a7 : Addr) =>
  VLd (some (!r_0.isNone)) w a7 [CT.ptr] fun (v9 : Option Addr) =>
  VCall (some (!r_0.isNone)) Try.prog 61 #[.pointer v9] w (.bool false) fun (r10 : Bool) (w1 : World) =>
  R (.returned (.bool ((!r_0.isNone) && r10))) w1
theorem sh_code_Reader_OK_ok (r_0 : Option Addr) (w : World) (R : Ending → World → Prop) (h : sh_code_Reader_OK r_0 w R) : Calls Try.prog 51 #[.pointer r_0] w R :=
  calls_of_sh (args := [.pointer r_0]) (.two .auto (.two .auto .auto)) Try.func51 (by kernel_rfl) (by kernel_rfl) (by kernel_rfl) h

/-- 52: (*buttery/code.Reader).Left -/
def sh_code_Reader_Left (r_0 : Option Addr) (w : World) (R : Ending → World → Prop) : Prop :=
  VIf r_0.isNone (
    R (.returned (.int .i64 0)) w
  ) (
    VNN none r_0 fun (a6 : Addr) =>
    VLd none w a6 [CT.ptr] fun (v8 : Option Addr) =>
    VCall none Try.prog 62 #[.pointer v8] w (.int .i64 0) fun (r9 : Int) (w1 : World) =>
    VSet r9 fun (v2 : Int) =>
    R (.returned (.int .i64 v2)) w1
  )
theorem sh_code_Reader_Left_ok (r_0 : Option Addr) (w : World) (R : Ending → World → Prop) (h : sh_code_Reader_Left r_0 w R) : Calls Try.prog 52 #[.pointer r_0] w R :=
  calls_of_sh (args := [.pointer r_0]) (.two .auto (.two (.two .auto (.two (.two .auto .auto) .auto)) (.two .auto .auto))) Try.func52 (by kernel_rfl) (by kernel_rfl) (by kernel_rfl) h

/-- 53: (*buttery/butteryref01.Reader).uint -/
def sh_butteryref01_Reader_uint (r_0 : Option Addr) (w : World) (R : Ending → World → Prop) : Prop :=
  ∃ Φ1 : World → Prop, (
    ∃ I2 : Nat → Int → Int → Int → World → Prop, (∃ k, I2 k 0 1 0 w) ∧ ∀ k2 (u_3 : Int) (scale_4 : Int) (i_5 : Int) (w1 : World), I2 k2 u_3 scale_4 i_5 w1 →
    VNN none r_0 fun (a9 : Addr) =>
    VLd none w1 a9 [CT.sl] fun (v11 : Sl) =>
    VIf ((decide (i_5 < ((v11.len : Nat) : Int))) && (decide (i_5 < 10))) (
      VNN none r_0 fun (a21 : Addr) =>
      VLd none w1 a21 [CT.sl] fun (v23 : Sl) =>
      VIx none v23.base v23.len i_5 fun (a25 : Addr) =>
      VLd none w1 (Addr.add a25 ((Int.toNat i_5) * 1)) [CT.int .u8] fun (v26 : Int) =>
      VSet (IntKind.wrap .u64 v26) fun (c_6 : Int) =>
      VIf ((i_5 == 9) && (decide (c_6 > 1))) (
        Φ1 w1
      ) (
        VSet (IntKind.wrap .u64 (u_3 + (IntKind.wrap .u64 ((Int.tmod c_6 128) * scale_4)))) fun (u_3' : Int) =>
        VSet (IntKind.wrap .u64 (scale_4 * 128)) fun (scale_4' : Int) =>
        VIf (decide (c_6 ≥ 128)) (
          VSet (IntKind.wrap .i64 (i_5 + 1)) fun (i_5' : Int) =>
          ∃ k', k' < k2 ∧ I2 k' u_3' scale_4' i_5' w1
        ) (
          VIf ((decide (i_5 > 0)) && (c_6 == 0)) (
            Φ1 w1
          ) (
            VNN none r_0 fun (a52 : Addr) =>
            VLd none w1 a52 [CT.sl] fun (v54 : Sl) =>
            VCk none ((0 : Int) ≤ IntKind.wrap .i64 (i_5 + 1) ∧ (IntKind.wrap .i64 (i_5 + 1) : Int) ≤ ((v54.len : Nat) : Int) ∧ (((v54.len : Nat) : Int) : Int) ≤ ((v54.cap : Nat) : Int)) (
              VNN none r_0 fun (a58 : Addr) =>
              VSt none w1 a58 [.slice (cutB v54.base v54.cap 1 (Int.toNat (IntKind.wrap .i64 (i_5 + 1)))) (v54.len - (Int.toNat (IntKind.wrap .i64 (i_5 + 1)))) (v54.cap - (Int.toNat (IntKind.wrap .i64 (i_5 + 1))))] fun (w2 : World) =>
              VSet u_3' fun (v2 : Int) =>
              R (.returned (.int .u64 v2)) w2
            )
          )
        )
      )
    ) (
      Φ1 w1
    )
  ) ∧ ∀ (w3 : World), Φ1 w3 →
  VCall none Try.prog 54 #[.pointer r_0] w3 (.tuple #[]) fun (w4 : World) =>
  R (.returned (.int .u64 0)) w4
theorem sh_butteryref01_Reader_uint_ok (r_0 : Option Addr) (w : World) (R : Ending → World → Prop) (h : sh_butteryref01_Reader_uint r_0 w R) : Calls Try.prog 53 #[.pointer r_0] w R :=
  calls_of_sh (args := [.pointer r_0]) (.two .auto (.two .auto (.two .auto (.two (.two .auto (.bjoin [] (.loop [(3, .int .u64 0), (4, .int .u64 0), (5, .int .i64 0)] (.two (.two .auto (.two .auto .auto)) (.two (.one (.two .auto (.two (.two .auto (.two .auto .auto)) (.two .auto (.two .auto (.two (.two .auto (.two .auto .auto)) (.two (.two .auto (.two .auto .auto)) (.two .auto (.two .auto .auto))))))))) .auto))))) (.two .auto (.two .auto .auto)))))) Try.func53 (by kernel_rfl) (by kernel_rfl) (by kernel_rfl) h

/-- 54: (*buttery/butteryref01.Reader).fail -/
def sh_butteryref01_Reader_fail (r_0 : Option Addr) (w : World) (R : Ending → World → Prop) : Prop :=
  VNN none r_0 fun (a3 : Addr) =>
  VSt none w (Addr.add a3 1) [.bool true] fun (w1 : World) =>
  VNN none r_0 fun (a6 : Addr) =>
  VSt none w1 a6 [.slice none 0 0] fun (w2 : World) =>
  R (.returned (.tuple #[])) w2
theorem sh_butteryref01_Reader_fail_ok (r_0 : Option Addr) (w : World) (R : Ending → World → Prop) (h : sh_butteryref01_Reader_fail r_0 w R) : Calls Try.prog 54 #[.pointer r_0] w R :=
  calls_of_sh (args := [.pointer r_0]) (.two .auto .auto) Try.func54 (by kernel_rfl) (by kernel_rfl) (by kernel_rfl) h

/-- 55: buttery/butteryref01.Flag -/
def sh_butteryref01_Flag (b_0 : Sl) (v_1 : Bool) (w : World) (R : Ending → World → Prop) : Prop :=
  VIf v_1 (
    VNw none w (.cells #[.int .u8 1] 5) fun (b7 : Nat) (w1 : World) =>
    VCall none Try.prog 57 #[.slice b_0.base b_0.len b_0.cap, .slice (some ⟨b7, 0, none⟩) 1 1] w1 (.slice none 0 0) fun (r8 : Sl) (w2 : World) =>
    R (.returned (.slice r8.base r8.len r8.cap)) w2
  ) (
    VNw none w (.cells #[.int .u8 0] 5) fun (b10 : Nat) (w3 : World) =>
    VCall none Try.prog 57 #[.slice b_0.base b_0.len b_0.cap, .slice (some ⟨b10, 0, none⟩) 1 1] w3 (.slice none 0 0) fun (r11 : Sl) (w4 : World) =>
    R (.returned (.slice r11.base r11.len r11.cap)) w4
  )
theorem sh_butteryref01_Flag_ok (b_0 : Sl) (v_1 : Bool) (w : World) (R : Ending → World → Prop) (h : sh_butteryref01_Flag b_0 v_1 w R) : Calls Try.prog 55 #[.slice b_0.base b_0.len b_0.cap, .bool v_1] w R :=
  calls_of_sh (args := [.slice b_0.base b_0.len b_0.cap, .bool v_1]) (.two .auto (.two (.two .auto (.two (.two .auto .auto) .auto)) (.two .auto .auto))) Try.func55 (by kernel_rfl) (by kernel_rfl) (by kernel_rfl) h

/-- 56: buttery/code.told of int64 -/
def sh_code_told' (r_0 : Option Addr) (v_1 : Int) (ok_2 : Bool) (w : World) (R : Ending → World → Prop) : Prop :=
  ∃ Φ1 : World → Prop, (
    VIf (!ok_2) (
      VNN none r_0 fun (a11 : Addr) =>
      VLd none w a11 [CT.ptr] fun (v13 : Option Addr) =>
      VNN none v13 fun (a14 : Addr) =>
      VSt none w (Addr.add a14 1) [.bool true] fun (w1 : World) =>
      Φ1 w1
    ) (
      Φ1 w
    )
  ) ∧ ∀ (w2 : World), Φ1 w2 →
  VNN none r_0 fun (a17 : Addr) =>
  VLd none w2 a17 [CT.ptr] fun (v19 : Option Addr) =>
  VNN none v19 fun (a20 : Addr) =>
  VLd none w2 (Addr.add a20 1) [CT.bool] fun (v22 : Bool) =>
  VIf v22 (
    VSet 0 fun (v6 : Int) =>
    R (.returned (.int .i64 v6)) w2
  ) (
    VSet v_1 fun (v6' : Int) =>
    R (.returned (.int .i64 v6')) w2
  )
theorem sh_code_told'_ok (r_0 : Option Addr) (v_1 : Int) (ok_2 : Bool) (w : World) (R : Ending → World → Prop) (h : sh_code_told' r_0 v_1 ok_2 w R) : Calls Try.prog 56 #[.pointer r_0, .int .i64 v_1, .bool ok_2] w R :=
  calls_of_sh (args := [.pointer r_0, .int .i64 v_1, .bool ok_2]) (.two .auto (.join [] (.two .auto (.two .auto .auto)) (.two (.two .auto (.two (.two .auto (.two .auto .auto)) .auto)) (.two .auto .auto)))) Try.func56 (by kernel_rfl) (by kernel_rfl) (by kernel_rfl) h

/-- 57: buttery/butteryref01.with -/
def sh_butteryref01_with (b_0 : Sl) (c_1 : Sl) (w : World) (R : Ending → World → Prop) : Prop :=
  VNw none w (.cells #[] 5) fun (b6 : Nat) (w1 : World) =>
  VApp none w1 5 1 1 #[.int .u8 0] (some ⟨b6, 0, none⟩) 0 0 b_0.len (fun news => Seg w1 b_0.base b_0.len 1 news) fun (l8 : Sl) (w2 : World) =>
  VApp none w2 5 1 1 #[.int .u8 0] l8.base l8.len l8.cap c_1.len (fun news => Seg w2 c_1.base c_1.len 1 news) fun (l11 : Sl) (w3 : World) =>
  R (.returned (.slice l11.base l11.len l11.cap)) w3
theorem sh_butteryref01_with_ok (b_0 : Sl) (c_1 : Sl) (w : World) (R : Ending → World → Prop) (h : sh_butteryref01_with b_0 c_1 w R) : Calls Try.prog 57 #[.slice b_0.base b_0.len b_0.cap, .slice c_1.base c_1.len c_1.cap] w R :=
  calls_of_sh (args := [.slice b_0.base b_0.len b_0.cap, .slice c_1.base c_1.len c_1.cap]) (.two .auto (.two .auto (.two .auto .auto))) Try.func57 (by kernel_rfl) (by kernel_rfl) (by kernel_rfl) h

/-- 58: buttery/butteryref01.Uint -/
def sh_butteryref01_Uint (u_0 : Int) (w : World) (R : Ending → World → Prop) : Prop :=
  ∃ I1 : Nat → Int → Sl → World → Prop, (∃ k, I1 k u_0 ⟨none, 0, 0⟩ w) ∧ ∀ k1 (u_0 : Int) (out_3 : Sl) (w1 : World), I1 k1 u_0 out_3 w1 →
  VIf (decide (u_0 ≥ 128)) (
    VNw none w1 (.cells #[.int .u8 (IntKind.wrap .u8 (IntKind.wrap .u64 ((Int.tmod u_0 128) + 128)))] 5) fun (b11 : Nat) (w2 : World) =>
    VApp none w2 5 1 1 #[.int .u8 0] out_3.base out_3.len out_3.cap 1 (fun news => Seg w2 (some ⟨b11, 0, none⟩) 1 1 news) fun (l12 : Sl) (w3 : World) =>
    VSet (IntKind.wrap .u64 (Int.tdiv u_0 128)) fun (u_0' : Int) =>
    ∃ k', k' < k1 ∧ I1 k' u_0' l12 w3
  ) (
    VNw none w1 (.cells #[.int .u8 (IntKind.wrap .u8 u_0)] 5) fun (b18 : Nat) (w4 : World) =>
    VApp none w4 5 1 1 #[.int .u8 0] out_3.base out_3.len out_3.cap 1 (fun news => Seg w4 (some ⟨b18, 0, none⟩) 1 1 news) fun (l19 : Sl) (w5 : World) =>
    R (.returned (.slice l19.base l19.len l19.cap)) w5
  )
theorem sh_butteryref01_Uint_ok (u_0 : Int) (w : World) (R : Ending → World → Prop) (h : sh_butteryref01_Uint u_0 w R) : Calls Try.prog 58 #[.int .u64 u_0] w R :=
  calls_of_sh (args := [.int .u64 u_0]) (.two .auto (.two .auto (.two (.one (.loop [(0, .int .u64 0), (3, .slice none 0 0)] (.two (.two .auto (.two .auto .auto)) (.one (.two .auto .auto))))) (.two .auto .auto)))) Try.func58 (by kernel_rfl) (by kernel_rfl) (by kernel_rfl) h

/-- 59: buttery/code.first -/
def sh_code_first (b_0 : Sl) (w : World) (R : Ending → World → Prop) : Prop :=
  ∃ I1 : Nat → Int → Int → World → Prop, (∃ k, I1 k 0 0 w) ∧ ∀ k1 (u_4 : Int) (x9 : Int) (w1 : World), I1 k1 u_4 x9 w1 →
  VIf (decide (x9 < ((b_0.len : Nat) : Int))) (
    VIx none b_0.base b_0.len x9 fun (a12 : Addr) =>
    VLd none w1 (Addr.add a12 ((Int.toNat x9) * 1)) [CT.int .u8] fun (v13 : Int) =>
    VSet x9 fun (i_5 : Int) =>
    VSet v13 fun (c_6 : Int) =>
    VIf ((i_5 == 10) || ((i_5 == 9) && (decide (c_6 > 1)))) (
      R (.returned (.tuple #[.int .u64 0, .int .i64 0])) w1
    ) (
      VCk none ((0 : Int) ≤ (IntKind.wrap .i64 (7 * i_5))) (
        VSet (bOr .u64 u_4 (IntKind.wrap .u64 ((IntKind.wrap .u64 (bAnd .u8 c_6 127)) * 2 ^ (min (Int.toNat (IntKind.wrap .i64 (7 * i_5))) (IntKind.bits .u64))))) fun (u_4' : Int) =>
        VIf (decide (c_6 < 128)) (
          VSet u_4' fun (v2 : Int) =>
          VSet (IntKind.wrap .i64 (i_5 + 1)) fun (v3 : Int) =>
          R (.returned (.tuple #[.int .u64 v2, .int .i64 v3])) w1
        ) (
          ∃ k', k' < k1 ∧ I1 k' u_4' (IntKind.wrap .i64 (x9 + 1)) w1
        )
      )
    )
  ) (
    R (.returned (.tuple #[.int .u64 0, .int .i64 0])) w1
  )
theorem sh_code_first_ok (b_0 : Sl) (w : World) (R : Ending → World → Prop) (h : sh_code_first b_0 w R) : Calls Try.prog 59 #[.slice b_0.base b_0.len b_0.cap] w R :=
  calls_of_sh (args := [.slice b_0.base b_0.len b_0.cap]) (.two .auto (.two .auto (.two (.two .auto (.one (.loop [(4, .int .u64 0), (9, .int .i64 0)] (.two .auto (.two (.two .auto .auto) (.two (.one (.two .auto (.two (.two .auto (.two (.two .auto .auto) .auto)) (.two .auto (.two .auto (.two (.two .auto .auto) .auto)))))) .auto)))))) (.two .auto .auto)))) Try.func59 (by kernel_rfl) (by kernel_rfl) (by kernel_rfl) h

/-- 60: (*buttery/code.rest).take -/
def sh_code_rest_take (r_0 : Option Addr) (n_1 : Int) (w : World) (R : Ending → World → Prop) : Prop :=
  VNN none r_0 fun (a7 : Addr) =>
  VLd none w a7 [CT.sl] fun (v9 : Sl) =>
  VCk none ((0 : Int) ≤ 0 ∧ (0 : Int) ≤ n_1 ∧ (n_1 : Int) ≤ ((v9.cap : Nat) : Int)) (
    VNN none r_0 fun (a14 : Addr) =>
    VLd none w a14 [CT.sl] fun (v16 : Sl) =>
    VCk none ((0 : Int) ≤ n_1 ∧ (n_1 : Int) ≤ ((v16.len : Nat) : Int) ∧ (((v16.len : Nat) : Int) : Int) ≤ ((v16.cap : Nat) : Int)) (
      VNN none r_0 fun (a19 : Addr) =>
      VSt none w a19 [.slice (cutB v16.base v16.cap 1 (Int.toNat n_1)) (v16.len - (Int.toNat n_1)) (v16.cap - (Int.toNat n_1))] fun (w1 : World) =>
      R (.returned (.slice (cutB v9.base v9.cap 1 0) ((Int.toNat n_1) - 0) (v9.cap - 0))) w1
    )
  )
theorem sh_code_rest_take_ok (r_0 : Option Addr) (n_1 : Int) (w : World) (R : Ending → World → Prop) (h : sh_code_rest_take r_0 n_1 w R) : Calls Try.prog 60 #[.pointer r_0, .int .i64 n_1] w R :=
  calls_of_sh (args := [.pointer r_0, .int .i64 n_1]) (.two .auto (.two .auto (.two .auto (.two .auto .auto)))) Try.func60 (by kernel_rfl) (by kernel_rfl) (by kernel_rfl) h

/-- 61: (*buttery/code.rest).OK -/
def sh_code_rest_OK (r_0 : Option Addr) (w : World) (R : Ending → World → Prop) : Prop :=
  VNN (some (!r_0.isNone)) r_0 fun (a7 : Addr) =>
  VLd (some (!r_0.isNone)) w (Addr.add a7 1) [CT.bool] fun (v9 : Bool) =>
  R (.returned (.bool ((!r_0.isNone) && (!v9)))) w
theorem sh_code_rest_OK_ok (r_0 : Option Addr) (w : World) (R : Ending → World → Prop) (h : sh_code_rest_OK r_0 w R) : Calls Try.prog 61 #[.pointer r_0] w R :=
  calls_of_sh (args := [.pointer r_0]) (.two .auto (.two .auto .auto)) Try.func61 (by kernel_rfl) (by kernel_rfl) (by kernel_rfl) h

/-- 62: (*buttery/code.rest).Left -/
def sh_code_rest_Left (r_0 : Option Addr) (w : World) (R : Ending → World → Prop) : Prop :=
  VNN (some (!r_0.isNone)) r_0 fun (a7 : Addr) =>
  VLd (some (!r_0.isNone)) w (Addr.add a7 1) [CT.bool] fun (v9 : Bool) =>
  VIf (r_0.isNone || v9) (
    R (.returned (.int .i64 0)) w
  ) (
    VNN none r_0 fun (a12 : Addr) =>
    VLd none w a12 [CT.sl] fun (v14 : Sl) =>
    VSet ((v14.len : Nat) : Int) fun (v2 : Int) =>
    R (.returned (.int .i64 v2)) w
  )
theorem sh_code_rest_Left_ok (r_0 : Option Addr) (w : World) (R : Ending → World → Prop) (h : sh_code_rest_Left r_0 w R) : Calls Try.prog 62 #[.pointer r_0] w R :=
  calls_of_sh (args := [.pointer r_0]) (.two .auto (.two (.two .auto (.two (.two .auto .auto) .auto)) (.two .auto .auto))) Try.func62 (by kernel_rfl) (by kernel_rfl) (by kernel_rfl) h

end Go.Proofs.Ytfihhleaciddpaa
