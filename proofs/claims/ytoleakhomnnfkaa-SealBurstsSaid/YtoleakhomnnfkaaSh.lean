/-
  By program (own tool): what the code of each function asks, in plain text, and that it suffices (the kernel compares the two).
-/
import Derived.Test.YtoleakhomnnfkaaRows
import Derived.Test.YtoleakhomnnfkaaEngJ
import Derived.KernelRfl
namespace Go.Proofs.Ytoleakhomnnfkaa
open Go.RowKit
set_option maxRecDepth 100000

/-- 3: buttery/butterylaw02.SealFrames -/
def sh_butterylaw02_SealFrames (kind_0 : Int) (body_1 : Sl) (b_2 : Sl) (w : World) (R : Ending → World → Prop) : Prop :=
  VIf ((decide (((body_1.len : Nat) : Int) > 20000)) || (decide (((b_2.len : Nat) : Int) > 20000))) (
    VCall none Try.prog 9 #[] w (.bool false) fun (r32 : Bool) (w1 : World) =>
    R (.returned (.bool r32)) w1
  ) (
    VNw none w (.cells #[] 5) fun (b33 : Nat) (w2 : World) =>
    VApp none w2 5 1 1 #[.int .u8 0] (some ⟨b33, 0, none⟩) 0 0 body_1.len (fun news => Seg w2 body_1.base body_1.len 1 news) fun (l35 : Sl) (w3 : World) =>
    VNw none w3 (.cells #[] 5) fun (b36 : Nat) (w4 : World) =>
    VApp none w4 5 1 1 #[.int .u8 0] (some ⟨b36, 0, none⟩) 0 0 b_2.len (fun news => Seg w4 b_2.base b_2.len 1 news) fun (l38 : Sl) (w5 : World) =>
    VCall none Try.prog 10 #[.int .u8 kind_0, .slice body_1.base body_1.len body_1.cap] w5 (.tuple #[.slice none 0 0, .int .i64 0]) fun (r42_0 : Sl) (r42_1 : Int) (w6 : World) =>
    VSet r42_1 fun (e_10 : Int) =>
    VCall none Try.prog 11 #[.int .u8 kind_0, .slice l35.base l35.len l35.cap] w6 (.tuple #[.slice none 0 0, .int .i64 0]) fun (r48_0 : Sl) (r48_1 : Int) (w7 : World) =>
    VSet r48_1 fun (f_12 : Int) =>
    VCall none Try.prog 11 #[.int .u8 kind_0, .slice l35.base l35.len l35.cap] w7 (.tuple #[.slice none 0 0, .int .i64 0]) fun (r54_0 : Sl) (r54_1 : Int) (w8 : World) =>
    VSet r54_1 fun (v14 : Int) =>
    VCall (some (!(e_10 != f_12))) Try.prog 12 #[.slice r48_0.base r48_0.len r48_0.cap, .slice r42_0.base r42_0.len r42_0.cap] w8 (.bool false) fun (r63 : Bool) (w9 : World) =>
    VIf ((e_10 != f_12) || (!r63)) (
      R (.returned (.bool false)) w9
    ) (
      ∃ I1 : Nat → Int → World → Prop, (∃ k, I1 k 0 w9) ∧ ∀ k1 (i_15 : Int) (w10 : World), I1 k1 i_15 w10 →
      VIf (decide (i_15 < ((r48_0.len : Nat) : Int))) (
        VIx none r48_0.base r48_0.len i_15 fun (a74 : Addr) =>
        VSt none w10 (Addr.add a74 ((Int.toNat i_15) * 1)) [.int .u8 85] fun (w11 : World) =>
        VSet (IntKind.wrap .i64 (i_15 + 1)) fun (i_15' : Int) =>
        ∃ k', k' < k1 ∧ I1 k' i_15' w11
      ) (
        VNw none w10 (.cells #[.int .u8 1, .int .u8 2, .int .u8 3] 5) fun (b76 : Nat) (w12 : World) =>
        VApp none w12 5 1 1 #[.int .u8 0] r48_0.base r48_0.len r48_0.cap 3 (fun news => Seg w12 (some ⟨b76, 0, none⟩) 3 1 news) fun (l77 : Sl) (w13 : World) =>
        VCall (some (!(((l77.len : Nat) : Int) != (IntKind.wrap .i64 (((r42_0.len : Nat) : Int) + 3))))) Try.prog 12 #[.slice r54_0.base r54_0.len r54_0.cap, .slice r42_0.base r42_0.len r42_0.cap] w13 (.bool false) fun (r87 : Bool) (w14 : World) =>
        VCall (some (!((((l77.len : Nat) : Int) != (IntKind.wrap .i64 (((r42_0.len : Nat) : Int) + 3))) || (!r87)))) Try.prog 12 #[.slice l35.base l35.len l35.cap, .slice body_1.base body_1.len body_1.cap] w14 (.bool false) fun (r93 : Bool) (w15 : World) =>
        VIf (((((l77.len : Nat) : Int) != (IntKind.wrap .i64 (((r42_0.len : Nat) : Int) + 3))) || (!r87)) || (!r93)) (
          R (.returned (.bool false)) w15
        ) (
          VCall none Try.prog 13 #[.slice b_2.base b_2.len b_2.cap] w15 (.tuple #[.int .u8 0, .slice none 0 0, .int .i64 0]) fun (r98_0 : Int) (r98_1 : Sl) (r98_2 : Int) (w16 : World) =>
          VSet r98_0 fun (k_16 : Int) =>
          VSet r98_2 fun (e_10' : Int) =>
          VCall none Try.prog 14 #[.slice l38.base l38.len l38.cap] w16 (.tuple #[.int .u8 0, .slice none 0 0, .int .i64 0]) fun (r104_0 : Int) (r104_1 : Sl) (r104_2 : Int) (w17 : World) =>
          VSet r104_0 fun (l_18 : Int) =>
          VSet r104_2 fun (f_12' : Int) =>
          VCall none Try.prog 14 #[.slice l38.base l38.len l38.cap] w17 (.tuple #[.int .u8 0, .slice none 0 0, .int .i64 0]) fun (r110_0 : Int) (r110_1 : Sl) (r110_2 : Int) (w18 : World) =>
          VSet r110_0 fun (v20 : Int) =>
          VSet r110_2 fun (v22 : Int) =>
          VCall (some (!((e_10' != f_12') || (k_16 != l_18)))) Try.prog 12 #[.slice r104_1.base r104_1.len r104_1.cap, .slice r98_1.base r98_1.len r98_1.cap] w18 (.bool false) fun (r125 : Bool) (w19 : World) =>
          VIf (((e_10' != f_12') || (k_16 != l_18)) || (!r125)) (
            R (.returned (.bool false)) w19
          ) (
            ∃ I2 : Nat → Int → World → Prop, (∃ k, I2 k 0 w19) ∧ ∀ k2 (i_23 : Int) (w20 : World), I2 k2 i_23 w20 →
            VIf (decide (i_23 < ((r104_1.len : Nat) : Int))) (
              VIx none r104_1.base r104_1.len i_23 fun (a136 : Addr) =>
              VSt none w20 (Addr.add a136 ((Int.toNat i_23) * 1)) [.int .u8 85] fun (w21 : World) =>
              VSet (IntKind.wrap .i64 (i_23 + 1)) fun (i_23' : Int) =>
              ∃ k', k' < k2 ∧ I2 k' i_23' w21
            ) (
              VNw none w20 (.cells #[.int .u8 1, .int .u8 2, .int .u8 3] 5) fun (b138 : Nat) (w22 : World) =>
              VApp none w22 5 1 1 #[.int .u8 0] r104_1.base r104_1.len r104_1.cap 3 (fun news => Seg w22 (some ⟨b138, 0, none⟩) 3 1 news) fun (l139 : Sl) (w23 : World) =>
              VCall (some (((l139.len : Nat) : Int) == (IntKind.wrap .i64 (((r98_1.len : Nat) : Int) + 3)))) Try.prog 12 #[.slice r110_1.base r110_1.len r110_1.cap, .slice r98_1.base r98_1.len r98_1.cap] w23 (.bool false) fun (r149 : Bool) (w24 : World) =>
              VCall (some ((((l139.len : Nat) : Int) == (IntKind.wrap .i64 (((r98_1.len : Nat) : Int) + 3))) && r149)) Try.prog 12 #[.slice l38.base l38.len l38.cap, .slice b_2.base b_2.len b_2.cap] w24 (.bool false) fun (r154 : Bool) (w25 : World) =>
              VCall (some (((((l139.len : Nat) : Int) == (IntKind.wrap .i64 (((r98_1.len : Nat) : Int) + 3))) && r149) && r154)) Try.prog 9 #[] w25 (.bool false) fun (r157 : Bool) (w26 : World) =>
              R (.returned (.bool ((((((l139.len : Nat) : Int) == (IntKind.wrap .i64 (((r98_1.len : Nat) : Int) + 3))) && r149) && r154) && r157))) w26
            )
          )
        )
      )
    )
  )
theorem sh_butterylaw02_SealFrames_ok (kind_0 : Int) (body_1 : Sl) (b_2 : Sl) (w : World) (R : Ending → World → Prop) (h : sh_butterylaw02_SealFrames kind_0 body_1 b_2 w R) : Calls Try.prog 3 #[.int .u8 kind_0, .slice body_1.base body_1.len body_1.cap, .slice b_2.base b_2.len b_2.cap] w R :=
  calls_of_sh (args := [.int .u8 kind_0, .slice body_1.base body_1.len body_1.cap, .slice b_2.base b_2.len b_2.cap]) (.two .auto (.two (.two .auto (.two (.two .auto .auto) .auto)) (.two .auto (.two .auto (.two .auto (.two .auto (.two (.two .auto (.two (.two .auto .auto) .auto)) (.two (.two .auto (.one (.loop [(15, .int .i64 0)] (.two (.two .auto (.two .auto .auto)) (.two (.one .auto) .auto))))) (.two .auto (.two (.two .auto (.two (.two .auto .auto) .auto)) (.two .auto (.two .auto (.two .auto (.two (.two .auto (.two (.two .auto .auto) .auto)) (.two (.two .auto (.one (.loop [(23, .int .i64 0)] (.two (.two .auto (.two .auto .auto)) (.two (.one .auto) .auto))))) (.two .auto (.two .auto .auto))))))))))))))))) Try.func3 (by kernel_rfl) (by kernel_rfl) (by kernel_rfl) h

/-- 4: buttery/butterylaw02.SealBack -/
def sh_butterylaw02_SealBack (kind_0 : Int) (body_1 : Sl) (b_2 : Sl) (w : World) (R : Ending → World → Prop) : Prop :=
  VCall (some (!((decide (((body_1.len : Nat) : Int) > 20000)) || (decide (((b_2.len : Nat) : Int) > 20000))))) Try.prog 9 #[] w (.bool false) fun (r25 : Bool) (w1 : World) =>
  VIf (((decide (((body_1.len : Nat) : Int) > 20000)) || (decide (((b_2.len : Nat) : Int) > 20000))) || (!r25)) (
    VCall none Try.prog 9 #[] w1 (.bool false) fun (r28 : Bool) (w2 : World) =>
    R (.returned (.bool r28)) w2
  ) (
    VCall none Try.prog 11 #[.int .u8 kind_0, .slice body_1.base body_1.len body_1.cap] w1 (.tuple #[.slice none 0 0, .int .i64 0]) fun (r32_0 : Sl) (r32_1 : Int) (w3 : World) =>
    VSet r32_1 fun (e_8 : Int) =>
    ∃ Φ1 : World → Prop, (
      VIf (e_8 == 0) (
        VCall none Try.prog 14 #[.slice r32_0.base r32_0.len r32_0.cap] w3 (.tuple #[.int .u8 0, .slice none 0 0, .int .i64 0]) fun (r39_0 : Int) (r39_1 : Sl) (r39_2 : Int) (w4 : World) =>
        VSet r39_0 fun (k_9 : Int) =>
        VSet r39_2 fun (f_11 : Int) =>
        VCall (some (!((f_11 != 0) || (k_9 != kind_0)))) Try.prog 12 #[.slice r39_1.base r39_1.len r39_1.cap, .slice body_1.base body_1.len body_1.cap] w4 (.bool false) fun (r53 : Bool) (w5 : World) =>
        VIf (((f_11 != 0) || (k_9 != kind_0)) || (!r53)) (
          R (.returned (.bool false)) w5
        ) (
          Φ1 w5
        )
      ) (
        Φ1 w3
      )
    ) ∧ ∀ (w6 : World), Φ1 w6 →
    VCall none Try.prog 14 #[.slice b_2.base b_2.len b_2.cap] w6 (.tuple #[.int .u8 0, .slice none 0 0, .int .i64 0]) fun (r58_0 : Int) (r58_1 : Sl) (r58_2 : Int) (w7 : World) =>
    VSet r58_0 fun (k_12 : Int) =>
    VSet r58_2 fun (f_14 : Int) =>
    VIf (f_14 != 0) (
      R (.returned (.bool true)) w7
    ) (
      VCall none Try.prog 11 #[.int .u8 k_12, .slice r58_1.base r58_1.len r58_1.cap] w7 (.tuple #[.slice none 0 0, .int .i64 0]) fun (r67_0 : Sl) (r67_1 : Int) (w8 : World) =>
      VSet r67_1 fun (e_8' : Int) =>
      VCall (some (e_8' == 0)) Try.prog 12 #[.slice r67_0.base r67_0.len r67_0.cap, .slice b_2.base b_2.len b_2.cap] w8 (.bool false) fun (r75 : Bool) (w9 : World) =>
      R (.returned (.bool ((e_8' == 0) && r75))) w9
    )
  )
theorem sh_butterylaw02_SealBack_ok (kind_0 : Int) (body_1 : Sl) (b_2 : Sl) (w : World) (R : Ending → World → Prop) (h : sh_butterylaw02_SealBack kind_0 body_1 b_2 w R) : Calls Try.prog 4 #[.int .u8 kind_0, .slice body_1.base body_1.len body_1.cap, .slice b_2.base b_2.len b_2.cap] w R :=
  calls_of_sh (args := [.int .u8 kind_0, .slice body_1.base body_1.len body_1.cap, .slice b_2.base b_2.len b_2.cap]) (.two .auto (.two (.two .auto (.two (.two .auto .auto) .auto)) (.two .auto (.join [] (.two .auto (.two (.two .auto (.two .auto (.two (.two .auto .auto) .auto))) .auto)) (.two .auto (.two (.two .auto (.two (.two .auto .auto) .auto)) (.two .auto (.two .auto .auto)))))))) Try.func4 (by kernel_rfl) (by kernel_rfl) (by kernel_rfl) h

/-- 5: buttery/butterylaw02.SealBursts -/
def sh_butterylaw02_SealBursts (kind_0 : Int) (body_1 : Sl) (at_2 : Int) (mask_3 : Int) (w : World) (R : Ending → World → Prop) : Prop :=
  VCall (some (!(decide (((body_1.len : Nat) : Int) > 5000)))) Try.prog 9 #[] w (.bool false) fun (r20 : Bool) (w1 : World) =>
  VIf ((decide (((body_1.len : Nat) : Int) > 5000)) || (!r20)) (
    VCall none Try.prog 9 #[] w1 (.bool false) fun (r23 : Bool) (w2 : World) =>
    R (.returned (.bool r23)) w2
  ) (
    VCall none Try.prog 11 #[.int .u8 kind_0, .slice body_1.base body_1.len body_1.cap] w1 (.tuple #[.slice none 0 0, .int .i64 0]) fun (r27_0 : Sl) (r27_1 : Int) (w3 : World) =>
    VSet r27_1 fun (e_10 : Int) =>
    VIf (e_10 != 0) (
      R (.returned (.bool false)) w3
    ) (
      VCk none (((IntKind.wrap .u64 (IntKind.wrap .i64 (8 * ((r27_0.len : Nat) : Int)))) : Int) ≠ 0) (
        VSet (IntKind.wrap .i64 (Int.tmod (IntKind.wrap .u64 at_2) (IntKind.wrap .u64 (IntKind.wrap .i64 (8 * ((r27_0.len : Nat) : Int)))))) fun (at_2 : Int) =>
        ∃ I1 : Nat → Bool → Int → World → Prop, (∃ k, I1 k false 0 w3) ∧ ∀ k1 (turned_11 : Bool) (i_12 : Int) (w4 : World), I1 k1 turned_11 i_12 w4 →
        VIf ((decide (i_12 < 32)) && (decide ((IntKind.wrap .i64 (at_2 + i_12)) < (IntKind.wrap .i64 (8 * ((r27_0.len : Nat) : Int)))))) (
          ∃ Φ2 : Bool → World → Prop, (
            VCk none ((0 : Int) ≤ i_12) (
              VIf ((bAnd .u32 (Int.fdiv mask_3 (2 ^ (min (Int.toNat i_12) (IntKind.bits .u32)))) 1) == 1) (
                ∀ (w5 : World), w5 = World.drew w4 →
                VIx none r27_0.base r27_0.len (IntKind.wrap .i64 (Int.tdiv (IntKind.wrap .i64 (at_2 + i_12)) 8)) fun (a68 : Addr) =>
                VLd none w5 (Addr.add a68 ((Int.toNat (IntKind.wrap .i64 (Int.tdiv (IntKind.wrap .i64 (at_2 + i_12)) 8))) * 1)) [CT.int .u8] fun (v69 : Int) =>
                VCk none ((0 : Int) ≤ (Int.tmod (IntKind.wrap .i64 (at_2 + i_12)) 8)) (
                  VIx none r27_0.base r27_0.len (IntKind.wrap .i64 (Int.tdiv (IntKind.wrap .i64 (at_2 + i_12)) 8)) fun (a76 : Addr) =>
                  VSt none w5 (Addr.add a76 ((Int.toNat (IntKind.wrap .i64 (Int.tdiv (IntKind.wrap .i64 (at_2 + i_12)) 8))) * 1)) [.int .u8 (bXor .u8 v69 (IntKind.wrap .u8 (1 * 2 ^ (min (Int.toNat (Int.tmod (IntKind.wrap .i64 (at_2 + i_12)) 8)) (IntKind.bits .u8)))))] fun (w6 : World) =>
                  Φ2 true w6
                )
              ) (
                Φ2 turned_11 w4
              )
            )
          ) ∧ ∀ (turned_11' : Bool) (w7 : World), Φ2 turned_11' w7 →
          VSet (IntKind.wrap .i64 (i_12 + 1)) fun (i_12' : Int) =>
          ∃ k', k' < k1 ∧ I1 k' turned_11' i_12' w7
        ) (
          VCall none Try.prog 14 #[.slice r27_0.base r27_0.len r27_0.cap] w4 (.tuple #[.int .u8 0, .slice none 0 0, .int .i64 0]) fun (r79_0 : Int) (r79_1 : Sl) (r79_2 : Int) (w8 : World) =>
          VSet r79_0 fun (v13 : Int) =>
          VSet r79_2 fun (f_15 : Int) =>
          VIf (!turned_11) (
            VCall (some (f_15 == 0)) Try.prog 12 #[.slice r79_1.base r79_1.len r79_1.cap, .slice body_1.base body_1.len body_1.cap] w8 (.bool false) fun (r90 : Bool) (w9 : World) =>
            R (.returned (.bool ((f_15 == 0) && r90))) w9
          ) (
            R (.returned (.bool ((f_15 == 30) || (f_15 == 4)))) w8
          )
        )
      )
    )
  )
theorem sh_butterylaw02_SealBursts_ok (kind_0 : Int) (body_1 : Sl) (at_2 : Int) (mask_3 : Int) (w : World) (R : Ending → World → Prop) (h : sh_butterylaw02_SealBursts kind_0 body_1 at_2 mask_3 w R) : Calls Try.prog 5 #[.int .u8 kind_0, .slice body_1.base body_1.len body_1.cap, .int .i64 at_2, .int .u32 mask_3] w R :=
  calls_of_sh (args := [.int .u8 kind_0, .slice body_1.base body_1.len body_1.cap, .int .i64 at_2, .int .u32 mask_3]) (.two .auto (.two (.two .auto (.two (.two .auto .auto) .auto)) (.two .auto (.two (.two .auto (.two (.two .auto .auto) .auto)) (.two .auto (.two .auto (.two (.two .auto (.one (.loop [(11, .bool false), (12, .int .i64 0)] (.two (.two .auto (.two .auto .auto)) (.two (.bjoin [(11, .bool false)] (.two .auto (.two (.two .auto .auto) .auto))) .auto))))) (.two .auto (.two (.two .auto (.two (.two .auto .auto) .auto)) (.two .auto .auto)))))))))) Try.func5 (by kernel_rfl) (by kernel_rfl) (by kernel_rfl) h

/-- 6: buttery/butterylaw02.SealSums -/
def sh_butterylaw02_SealSums (b_0 : Sl) (sum_1 : Int) (w : World) (R : Ending → World → Prop) : Prop :=
  VIf (decide (((b_0.len : Nat) : Int) > 20000)) (
    VCall none Try.prog 9 #[] w (.bool false) fun (r9 : Bool) (w1 : World) =>
    R (.returned (.bool r9)) w1
  ) (
    VNw none w (.cells #[] 5) fun (b10 : Nat) (w2 : World) =>
    VApp none w2 5 1 1 #[.int .u8 0] (some ⟨b10, 0, none⟩) 0 0 b_0.len (fun news => Seg w2 b_0.base b_0.len 1 news) fun (l12 : Sl) (w3 : World) =>
    VCall none Try.prog 15 #[.slice l12.base l12.len l12.cap] w3 (.int .u32 0) fun (r14 : Int) (w4 : World) =>
    VCall none Try.prog 16 #[.slice b_0.base b_0.len b_0.cap] w4 (.int .u32 0) fun (r16 : Int) (w5 : World) =>
    VCall (some (r14 == r16)) Try.prog 17 #[.int .u32 sum_1, .slice l12.base l12.len l12.cap] w5 (.int .u32 0) fun (r21 : Int) (w6 : World) =>
    VCall (some (r14 == r16)) Try.prog 18 #[.int .u32 sum_1, .slice b_0.base b_0.len b_0.cap] w6 (.int .u32 0) fun (r24 : Int) (w7 : World) =>
    VCall (some ((r14 == r16) && (r21 == r24))) Try.prog 12 #[.slice l12.base l12.len l12.cap, .slice b_0.base b_0.len b_0.cap] w7 (.bool false) fun (r30 : Bool) (w8 : World) =>
    VCall (some (((r14 == r16) && (r21 == r24)) && r30)) Try.prog 9 #[] w8 (.bool false) fun (r33 : Bool) (w9 : World) =>
    R (.returned (.bool ((((r14 == r16) && (r21 == r24)) && r30) && r33))) w9
  )
theorem sh_butterylaw02_SealSums_ok (b_0 : Sl) (sum_1 : Int) (w : World) (R : Ending → World → Prop) (h : sh_butterylaw02_SealSums b_0 sum_1 w R) : Calls Try.prog 6 #[.slice b_0.base b_0.len b_0.cap, .int .u32 sum_1] w R :=
  calls_of_sh (args := [.slice b_0.base b_0.len b_0.cap, .int .u32 sum_1]) (.two .auto (.two (.two .auto (.two (.two .auto .auto) .auto)) (.two .auto (.two .auto .auto)))) Try.func6 (by kernel_rfl) (by kernel_rfl) (by kernel_rfl) h

/-- 7: buttery/butterylaw02.SealNames -/
def sh_butterylaw02_SealNames (w : World) (R : Ending → World → Prop) : Prop :=
  VMk none w 5 1 1 #[.int .u8 0] 8193 8193 fun (b17 : Nat) (w1 : World) =>
  VCall none Try.prog 11 #[.int .u8 1, .slice (some ⟨b17, 0, none⟩) 8193 8193] w1 (.tuple #[.slice none 0 0, .int .i64 0]) fun (r20_0 : Sl) (r20_1 : Int) (w2 : World) =>
  VSet r20_1 fun (a_3 : Int) =>
  VCk none ((0 : Int) ≤ 0 ∧ (0 : Int) ≤ 8192 ∧ (8192 : Int) ≤ ((8193 : Nat) : Int)) (
    VCall none Try.prog 11 #[.int .u8 1, .slice (cutB (some ⟨b17, 0, none⟩) 8193 1 0) (8192 - 0) (8193 - 0)] w2 (.tuple #[.slice none 0 0, .int .i64 0]) fun (r26_0 : Sl) (r26_1 : Int) (w3 : World) =>
    VSet r26_1 fun (b_5 : Int) =>
    VCall none Try.prog 14 #[.slice r26_0.base r26_0.len r26_0.cap] w3 (.tuple #[.int .u8 0, .slice none 0 0, .int .i64 0]) fun (r31_0 : Int) (r31_1 : Sl) (r31_2 : Int) (w4 : World) =>
    VSet r31_0 fun (k_6 : Int) =>
    VSet r31_2 fun (c_8 : Int) =>
    VNw none w4 (.cells #[.int .u8 0] 5) fun (b37 : Nat) (w5 : World) =>
    VApp none w5 5 1 1 #[.int .u8 0] r26_0.base r26_0.len r26_0.cap 1 (fun news => Seg w5 (some ⟨b37, 0, none⟩) 1 1 news) fun (l38 : Sl) (w6 : World) =>
    VCall none Try.prog 14 #[.slice l38.base l38.len l38.cap] w6 (.tuple #[.int .u8 0, .slice none 0 0, .int .i64 0]) fun (r39_0 : Int) (r39_1 : Sl) (r39_2 : Int) (w7 : World) =>
    VSet r39_0 fun (v9 : Int) =>
    VSet r39_2 fun (d_11 : Int) =>
    VCall none Try.prog 14 #[.slice none 0 0] w7 (.tuple #[.int .u8 0, .slice none 0 0, .int .i64 0]) fun (r44_0 : Int) (r44_1 : Sl) (r44_2 : Int) (w8 : World) =>
    VSet r44_0 fun (v12 : Int) =>
    VSet r44_2 fun (e_14 : Int) =>
    VCall none Try.prog 11 #[.int .u8 0, .slice none 0 0] w8 (.tuple #[.slice none 0 0, .int .i64 0]) fun (r49_0 : Sl) (r49_1 : Int) (w9 : World) =>
    VSet r49_1 fun (h_16 : Int) =>
    VCall none Try.prog 15 #[.slice none 0 0] w9 (.int .u32 0) fun (r52 : Int) (w10 : World) =>
    VNw (some (r52 == 0)) w10 (.cells #[.int .u8 49, .int .u8 50, .int .u8 51, .int .u8 52, .int .u8 53, .int .u8 54, .int .u8 55, .int .u8 56, .int .u8 57] 5) fun (b55 : Nat) (w11 : World) =>
    VMark (some (r52 == 0)) w11 ⟨b55, 0, none⟩ fun (w12 : World) =>
    VCall (some (r52 == 0)) Try.prog 15 #[.slice (some ⟨b55, 0, none⟩) 9 9] w12 (.int .u32 0) fun (r57 : Int) (w13 : World) =>
    VNw (some ((r52 == 0) && (r57 == 3421780262))) w13 (.cells #[.int .u8 49, .int .u8 50, .int .u8 51, .int .u8 52] 5) fun (b61 : Nat) (w14 : World) =>
    VMark (some ((r52 == 0) && (r57 == 3421780262))) w14 ⟨b61, 0, none⟩ fun (w15 : World) =>
    VCall (some ((r52 == 0) && (r57 == 3421780262))) Try.prog 15 #[.slice (some ⟨b61, 0, none⟩) 4 4] w15 (.int .u32 0) fun (r63 : Int) (w16 : World) =>
    VNw (some ((r52 == 0) && (r57 == 3421780262))) w16 (.cells #[.int .u8 53, .int .u8 54, .int .u8 55, .int .u8 56, .int .u8 57] 5) fun (b64 : Nat) (w17 : World) =>
    VMark (some ((r52 == 0) && (r57 == 3421780262))) w17 ⟨b64, 0, none⟩ fun (w18 : World) =>
    VCall (some ((r52 == 0) && (r57 == 3421780262))) Try.prog 17 #[.int .u32 r63, .slice (some ⟨b64, 0, none⟩) 5 5] w18 (.int .u32 0) fun (r66 : Int) (w19 : World) =>
    VCall (some (((((((((((((r52 == 0) && (r57 == 3421780262)) && (r66 == 3421780262)) && (a_3 == 40)) && (b_5 == 0)) && (c_8 == 0)) && (k_6 == 1)) && (((r31_1.len : Nat) : Int) == 8192)) && (d_11 == 4)) && (e_14 == 4)) && (((r49_0.len : Nat) : Int) == 7)) && (h_16 == 0)) || false)) Try.prog 9 #[] w19 (.bool false) fun (r110 : Bool) (w20 : World) =>
    R (.returned (.bool ((((((((((((((r52 == 0) && (r57 == 3421780262)) && (r66 == 3421780262)) && (a_3 == 40)) && (b_5 == 0)) && (c_8 == 0)) && (k_6 == 1)) && (((r31_1.len : Nat) : Int) == 8192)) && (d_11 == 4)) && (e_14 == 4)) && (((r49_0.len : Nat) : Int) == 7)) && (h_16 == 0)) || false) && r110))) w20
  )
theorem sh_butterylaw02_SealNames_ok (w : World) (R : Ending → World → Prop) (h : sh_butterylaw02_SealNames w R) : Calls Try.prog 7 #[] w R :=
  calls_of_sh (args := []) (.two .auto (.two .auto (.two .auto (.two .auto (.two .auto (.two .auto (.two .auto (.two .auto (.two .auto .auto))))))))) Try.func7 (by kernel_rfl) (by kernel_rfl) (by kernel_rfl) h

/-- 8: buttery/butterylaw02.SealCuts -/
def sh_butterylaw02_SealCuts (b_0 : Sl) (cut_1 : Int) (a_2 : Sl) (c_3 : Sl) (w : World) (R : Ending → World → Prop) : Prop :=
  VCall (some (!(decide (((b_0.len : Nat) : Int) > 5000)))) Try.prog 9 #[] w (.bool false) fun (r17 : Bool) (w1 : World) =>
  VIf ((decide (((b_0.len : Nat) : Int) > 5000)) || (!r17)) (
    VCall none Try.prog 9 #[] w1 (.bool false) fun (r20 : Bool) (w2 : World) =>
    R (.returned (.bool r20)) w2
  ) (
    VCk none (((IntKind.wrap .u64 (IntKind.wrap .i64 (((b_0.len : Nat) : Int) + 1))) : Int) ≠ 0) (
      VSet (IntKind.wrap .i64 (Int.tmod (IntKind.wrap .u64 cut_1) (IntKind.wrap .u64 (IntKind.wrap .i64 (((b_0.len : Nat) : Int) + 1))))) fun (k_9 : Int) =>
      ∀ (w3 : World), w3 = World.drew w1 →
      VCk none ((0 : Int) ≤ 0 ∧ (0 : Int) ≤ k_9 ∧ (k_9 : Int) ≤ ((b_0.cap : Nat) : Int)) (
        VCk none ((0 : Int) ≤ k_9 ∧ (k_9 : Int) ≤ ((b_0.len : Nat) : Int) ∧ (((b_0.len : Nat) : Int) : Int) ≤ ((b_0.cap : Nat) : Int)) (
          VCall none Try.prog 15 #[.slice (cutB b_0.base b_0.cap 1 0) ((Int.toNat k_9) - 0) (b_0.cap - 0)] w3 (.int .u32 0) fun (r32 : Int) (w4 : World) =>
          VCall none Try.prog 17 #[.int .u32 r32, .slice (cutB b_0.base b_0.cap 1 (Int.toNat k_9)) (b_0.len - (Int.toNat k_9)) (b_0.cap - (Int.toNat k_9))] w4 (.int .u32 0) fun (r36 : Int) (w5 : World) =>
          VCall none Try.prog 15 #[.slice b_0.base b_0.len b_0.cap] w5 (.int .u32 0) fun (r38 : Int) (w6 : World) =>
          VIf (r36 != r38) (
            R (.returned (.bool false)) w6
          ) (
            VSet (if ((c_3.len : Nat) : Int) < (if ((b_0.len : Nat) : Int) < ((a_2.len : Nat) : Int) then ((b_0.len : Nat) : Int) else ((a_2.len : Nat) : Int)) then ((c_3.len : Nat) : Int) else if ((b_0.len : Nat) : Int) < ((a_2.len : Nat) : Int) then ((b_0.len : Nat) : Int) else ((a_2.len : Nat) : Int)) fun (n_10 : Int) =>
            VMk none w6 5 1 1 #[.int .u8 0] n_10 n_10 fun (b48 : Nat) (w7 : World) =>
            ∃ I1 : Nat → Int → World → Prop, (∃ k, I1 k 0 w7) ∧ ∀ k1 (i_12 : Int) (w8 : World), I1 k1 i_12 w8 →
            VIf (decide (i_12 < n_10)) (
              ∀ (w9 : World), w9 = World.drew w8 →
              VIx none a_2.base a_2.len i_12 fun (a58 : Addr) =>
              VLd none w9 (Addr.add a58 ((Int.toNat i_12) * 1)) [CT.int .u8] fun (v59 : Int) =>
              VIx none b_0.base b_0.len i_12 fun (a62 : Addr) =>
              VLd none w9 (Addr.add a62 ((Int.toNat i_12) * 1)) [CT.int .u8] fun (v63 : Int) =>
              VIx none c_3.base c_3.len i_12 fun (a67 : Addr) =>
              VLd none w9 (Addr.add a67 ((Int.toNat i_12) * 1)) [CT.int .u8] fun (v68 : Int) =>
              VIx none (some ⟨b48, 0, none⟩) (Int.toNat n_10) i_12 fun (a70 : Addr) =>
              VSt none w9 (Addr.add a70 ((Int.toNat i_12) * 1)) [.int .u8 (bXor .u8 (bXor .u8 v59 v63) v68)] fun (w10 : World) =>
              VSet (IntKind.wrap .i64 (i_12 + 1)) fun (i_12' : Int) =>
              ∃ k', k' < k1 ∧ I1 k' i_12' w10
            ) (
              ∀ (w11 : World), w11 = World.drew w8 →
              VCk none ((0 : Int) ≤ 0 ∧ (0 : Int) ≤ n_10 ∧ (n_10 : Int) ≤ ((a_2.cap : Nat) : Int)) (
                VCk none ((0 : Int) ≤ 0 ∧ (0 : Int) ≤ n_10 ∧ (n_10 : Int) ≤ ((b_0.cap : Nat) : Int)) (
                  VCk none ((0 : Int) ≤ 0 ∧ (0 : Int) ≤ n_10 ∧ (n_10 : Int) ≤ ((c_3.cap : Nat) : Int)) (
                    VCall none Try.prog 15 #[.slice (cutB a_2.base a_2.cap 1 0) ((Int.toNat n_10) - 0) (a_2.cap - 0)] w11 (.int .u32 0) fun (r74 : Int) (w12 : World) =>
                    VCall none Try.prog 15 #[.slice (cutB b_0.base b_0.cap 1 0) ((Int.toNat n_10) - 0) (b_0.cap - 0)] w12 (.int .u32 0) fun (r78 : Int) (w13 : World) =>
                    VCall none Try.prog 15 #[.slice (cutB c_3.base c_3.cap 1 0) ((Int.toNat n_10) - 0) (c_3.cap - 0)] w13 (.int .u32 0) fun (r83 : Int) (w14 : World) =>
                    VCall none Try.prog 15 #[.slice (some ⟨b48, 0, none⟩) (Int.toNat n_10) (Int.toNat n_10)] w14 (.int .u32 0) fun (r86 : Int) (w15 : World) =>
                    R (.returned (.bool ((bXor .u32 (bXor .u32 (bXor .u32 r74 r78) r83) r86) == 0))) w15
                  )
                )
              )
            )
          )
        )
      )
    )
  )
theorem sh_butterylaw02_SealCuts_ok (b_0 : Sl) (cut_1 : Int) (a_2 : Sl) (c_3 : Sl) (w : World) (R : Ending → World → Prop) (h : sh_butterylaw02_SealCuts b_0 cut_1 a_2 c_3 w R) : Calls Try.prog 8 #[.slice b_0.base b_0.len b_0.cap, .int .i64 cut_1, .slice a_2.base a_2.len a_2.cap, .slice c_3.base c_3.len c_3.cap] w R :=
  calls_of_sh (args := [.slice b_0.base b_0.len b_0.cap, .int .i64 cut_1, .slice a_2.base a_2.len a_2.cap, .slice c_3.base c_3.len c_3.cap]) (.two .auto (.two (.two .auto (.two (.two .auto .auto) .auto)) (.two .auto (.two (.two .auto (.two (.two .auto .auto) .auto)) (.two .auto (.two .auto (.two (.two .auto (.one (.loop [(12, .int .i64 0)] (.two (.two .auto (.two .auto .auto)) (.two (.one .auto) .auto))))) (.two .auto .auto)))))))) Try.func8 (by kernel_rfl) (by kernel_rfl) (by kernel_rfl) h

/-- 9: buttery/butterylaw02.awake -/
def sh_butterylaw02_awake (w : World) (R : Ending → World → Prop) : Prop :=
  VNw none w (.cells #[.int .u8 97, .int .u8 98] 5) fun (b9 : Nat) (w1 : World) =>
  VMark none w1 ⟨b9, 0, none⟩ fun (w2 : World) =>
  VCall none Try.prog 11 #[.int .u8 7, .slice (some ⟨b9, 0, none⟩) 2 2] w2 (.tuple #[.slice none 0 0, .int .i64 0]) fun (r11_0 : Sl) (r11_1 : Int) (w3 : World) =>
  VSet r11_1 fun (e_2 : Int) =>
  VIx (some (!((e_2 != 0) || (((r11_0.len : Nat) : Int) != 9)))) r11_0.base r11_0.len 0 fun (a23 : Addr) =>
  VLd (some (!((e_2 != 0) || (((r11_0.len : Nat) : Int) != 9)))) w3 a23 [CT.int .u8] fun (v24 : Int) =>
  VIx (some (!(((e_2 != 0) || (((r11_0.len : Nat) : Int) != 9)) || (v24 != 7)))) r11_0.base r11_0.len 1 fun (a29 : Addr) =>
  VLd (some (!(((e_2 != 0) || (((r11_0.len : Nat) : Int) != 9)) || (v24 != 7)))) w3 (Addr.add a29 1) [CT.int .u8] fun (v30 : Int) =>
  VIx (some (!((((e_2 != 0) || (((r11_0.len : Nat) : Int) != 9)) || (v24 != 7)) || (v30 != 2)))) r11_0.base r11_0.len 2 fun (a35 : Addr) =>
  VLd (some (!((((e_2 != 0) || (((r11_0.len : Nat) : Int) != 9)) || (v24 != 7)) || (v30 != 2)))) w3 (Addr.add a35 2) [CT.int .u8] fun (v36 : Int) =>
  VIx (some (!(((((e_2 != 0) || (((r11_0.len : Nat) : Int) != 9)) || (v24 != 7)) || (v30 != 2)) || (v36 != 0)))) r11_0.base r11_0.len 3 fun (a41 : Addr) =>
  VLd (some (!(((((e_2 != 0) || (((r11_0.len : Nat) : Int) != 9)) || (v24 != 7)) || (v30 != 2)) || (v36 != 0)))) w3 (Addr.add a41 3) [CT.int .u8] fun (v42 : Int) =>
  VIf ((((((e_2 != 0) || (((r11_0.len : Nat) : Int) != 9)) || (v24 != 7)) || (v30 != 2)) || (v36 != 0)) || (v42 != 97)) (
    R (.returned (.bool false)) w3
  ) (
    VCall none Try.prog 14 #[.slice r11_0.base r11_0.len r11_0.cap] w3 (.tuple #[.int .u8 0, .slice none 0 0, .int .i64 0]) fun (r47_0 : Int) (r47_1 : Sl) (r47_2 : Int) (w4 : World) =>
    VSet r47_0 fun (k_3 : Int) =>
    VSet r47_2 fun (e_2' : Int) =>
    VIx none r11_0.base r11_0.len 0 fun (a52 : Addr) =>
    VSt none w4 a52 [.int .u8 6] fun (w5 : World) =>
    VCall none Try.prog 14 #[.slice r11_0.base r11_0.len r11_0.cap] w5 (.tuple #[.int .u8 0, .slice none 0 0, .int .i64 0]) fun (r55_0 : Int) (r55_1 : Sl) (r55_2 : Int) (w6 : World) =>
    VSet r55_0 fun (v5 : Int) =>
    VSet r55_2 fun (f_7 : Int) =>
    VStr (some ((e_2' == 0) && (k_3 == 7))) w6 r47_1.base r47_1.len fun (s67 : ByteArray) =>
    R (.returned (.bool ((((e_2' == 0) && (k_3 == 7)) && (s67.toList == (ByteArray.mk #[97, 98]).toList)) && (f_7 == 30)))) w6
  )
theorem sh_butterylaw02_awake_ok (w : World) (R : Ending → World → Prop) (h : sh_butterylaw02_awake w R) : Calls Try.prog 9 #[] w R :=
  calls_of_sh (args := []) (.two .auto (.two .auto (.two (.two .auto (.two (.two .auto .auto) .auto)) (.two .auto (.two .auto (.two .auto (.two .auto .auto))))))) Try.func9 (by kernel_rfl) (by kernel_rfl) (by kernel_rfl) h

/-- 10: buttery/butteryref02.Seal -/
def sh_butteryref02_Seal (kind_0 : Int) (body_1 : Sl) (w : World) (R : Ending → World → Prop) : Prop :=
  VIf (decide (((body_1.len : Nat) : Int) > 8192)) (
    R (.returned (.tuple #[.slice none 0 0, .int .i64 40])) w
  ) (
    VNw none w (.cells #[.int .u8 kind_0, .int .u8 (IntKind.wrap .u8 (Int.tmod ((body_1.len : Nat) : Int) 256)), .int .u8 (IntKind.wrap .u8 (IntKind.wrap .i64 (Int.tdiv ((body_1.len : Nat) : Int) 256)))] 5) fun (b20 : Nat) (w1 : World) =>
    VApp none w1 5 1 1 #[.int .u8 0] (some ⟨b20, 0, none⟩) 3 3 body_1.len (fun news => Seg w1 body_1.base body_1.len 1 news) fun (l23 : Sl) (w2 : World) =>
    VCall none Try.prog 16 #[.slice l23.base l23.len l23.cap] w2 (.int .u32 0) fun (r25 : Int) (w3 : World) =>
    VSet r25 fun (s_7 : Int) =>
    VNw none w3 (.cells #[.int .u8 (IntKind.wrap .u8 s_7), .int .u8 (IntKind.wrap .u8 (Int.fdiv s_7 (2 ^ 8))), .int .u8 (IntKind.wrap .u8 (Int.fdiv s_7 (2 ^ 16))), .int .u8 (IntKind.wrap .u8 (Int.fdiv s_7 (2 ^ 24)))] 5) fun (b38 : Nat) (w4 : World) =>
    VApp none w4 5 1 1 #[.int .u8 0] l23.base l23.len l23.cap 4 (fun news => Seg w4 (some ⟨b38, 0, none⟩) 4 1 news) fun (l39 : Sl) (w5 : World) =>
    R (.returned (.tuple #[.slice l39.base l39.len l39.cap, .int .i64 0])) w5
  )
theorem sh_butteryref02_Seal_ok (kind_0 : Int) (body_1 : Sl) (w : World) (R : Ending → World → Prop) (h : sh_butteryref02_Seal kind_0 body_1 w R) : Calls Try.prog 10 #[.int .u8 kind_0, .slice body_1.base body_1.len body_1.cap] w R :=
  calls_of_sh (args := [.int .u8 kind_0, .slice body_1.base body_1.len body_1.cap]) (.two .auto (.two (.two .auto (.two (.two .auto .auto) .auto)) (.two .auto (.two .auto (.two .auto (.two .auto .auto)))))) Try.func10 (by kernel_rfl) (by kernel_rfl) (by kernel_rfl) h

/-- 11: buttery/seal.Seal -/
def sh_seal_Seal (kind_0 : Int) (body_1 : Sl) (w : World) (R : Ending → World → Prop) : Prop :=
  VSet ((body_1.len : Nat) : Int) fun (n_6 : Int) =>
  VIf (decide (n_6 > 8192)) (
    R (.returned (.tuple #[.slice none 0 0, .int .i64 40])) w
  ) (
    VNw none w (.cells #[.int .u8 kind_0, .int .u8 (IntKind.wrap .u8 n_6), .int .u8 (IntKind.wrap .u8 (Int.fdiv n_6 (2 ^ 8)))] 5) fun (b18 : Nat) (w1 : World) =>
    VApp none w1 5 1 1 #[.int .u8 0] (some ⟨b18, 0, none⟩) 3 3 body_1.len (fun news => Seg w1 body_1.base body_1.len 1 news) fun (l20 : Sl) (w2 : World) =>
    VCall none Try.prog 15 #[.slice l20.base l20.len l20.cap] w2 (.int .u32 0) fun (r23 : Int) (w3 : World) =>
    VCall none Try.prog 19 #[.int .u32 r23] w3 (.slice none 0 0) fun (r24 : Sl) (w4 : World) =>
    VApp none w4 5 1 1 #[.int .u8 0] l20.base l20.len l20.cap r24.len (fun news => Seg w4 r24.base r24.len 1 news) fun (l25 : Sl) (w5 : World) =>
    R (.returned (.tuple #[.slice l25.base l25.len l25.cap, .int .i64 0])) w5
  )
theorem sh_seal_Seal_ok (kind_0 : Int) (body_1 : Sl) (w : World) (R : Ending → World → Prop) (h : sh_seal_Seal kind_0 body_1 w R) : Calls Try.prog 11 #[.int .u8 kind_0, .slice body_1.base body_1.len body_1.cap] w R :=
  calls_of_sh (args := [.int .u8 kind_0, .slice body_1.base body_1.len body_1.cap]) (.two .auto (.two .auto (.two (.two .auto (.two (.two .auto .auto) .auto)) (.two .auto (.two .auto .auto))))) Try.func11 (by kernel_rfl) (by kernel_rfl) (by kernel_rfl) h

/-- 12: buttery/butteryref02.Same -/
def sh_butteryref02_Same (a_0 : Sl) (b_1 : Sl) (w : World) (R : Ending → World → Prop) : Prop :=
  VIf (((a_0.len : Nat) : Int) != ((b_1.len : Nat) : Int)) (
    R (.returned (.bool false)) w
  ) (
    ∃ I1 : Nat → Int → World → Prop, (∃ k, I1 k 0 w) ∧ ∀ k1 (i_5 : Int) (w1 : World), I1 k1 i_5 w1 →
    VIf (decide (i_5 < ((a_0.len : Nat) : Int))) (
      ∀ (w2 : World), w2 = World.drew w1 →
      VIx none a_0.base a_0.len i_5 fun (a19 : Addr) =>
      VLd none w2 (Addr.add a19 ((Int.toNat i_5) * 1)) [CT.int .u8] fun (v20 : Int) =>
      VIx none b_1.base b_1.len i_5 fun (a23 : Addr) =>
      VLd none w2 (Addr.add a23 ((Int.toNat i_5) * 1)) [CT.int .u8] fun (v24 : Int) =>
      VIf (v20 != v24) (
        R (.returned (.bool false)) w2
      ) (
        VSet (IntKind.wrap .i64 (i_5 + 1)) fun (i_5' : Int) =>
        ∃ k', k' < k1 ∧ I1 k' i_5' w2
      )
    ) (
      R (.returned (.bool true)) w1
    )
  )
theorem sh_butteryref02_Same_ok (a_0 : Sl) (b_1 : Sl) (w : World) (R : Ending → World → Prop) (h : sh_butteryref02_Same a_0 b_1 w R) : Calls Try.prog 12 #[.slice a_0.base a_0.len a_0.cap, .slice b_1.base b_1.len b_1.cap] w R :=
  calls_of_sh (args := [.slice a_0.base a_0.len a_0.cap, .slice b_1.base b_1.len b_1.cap]) (.two .auto (.two (.two .auto (.two (.two .auto .auto) .auto)) (.two (.two .auto (.one (.loop [(5, .int .i64 0)] (.two (.two .auto (.two .auto .auto)) (.two (.one (.two .auto (.two (.two .auto .auto) .auto))) .auto))))) (.two .auto .auto)))) Try.func12 (by kernel_rfl) (by kernel_rfl) (by kernel_rfl) h

/-- 13: buttery/butteryref02.Open -/
def sh_butteryref02_Open (b_0 : Sl) (w : World) (R : Ending → World → Prop) : Prop :=
  ∀ (w1 : World), w1 = World.drew w →
  VIx (some (!((decide (((b_0.len : Nat) : Int) < 7)) || (decide (((b_0.len : Nat) : Int) > 8199))))) b_0.base b_0.len 1 fun (a21 : Addr) =>
  VLd (some (!((decide (((b_0.len : Nat) : Int) < 7)) || (decide (((b_0.len : Nat) : Int) > 8199))))) w1 (Addr.add a21 1) [CT.int .u8] fun (v22 : Int) =>
  VIx (some (!((decide (((b_0.len : Nat) : Int) < 7)) || (decide (((b_0.len : Nat) : Int) > 8199))))) b_0.base b_0.len 2 fun (a25 : Addr) =>
  VLd (some (!((decide (((b_0.len : Nat) : Int) < 7)) || (decide (((b_0.len : Nat) : Int) > 8199))))) w1 (Addr.add a25 2) [CT.int .u8] fun (v26 : Int) =>
  VIf (((decide (((b_0.len : Nat) : Int) < 7)) || (decide (((b_0.len : Nat) : Int) > 8199))) || ((IntKind.wrap .i64 (((b_0.len : Nat) : Int) - 7)) != (IntKind.wrap .i64 ((IntKind.wrap .i64 v22) + (IntKind.wrap .i64 (256 * (IntKind.wrap .i64 v26))))))) (
    R (.returned (.tuple #[.int .u8 0, .slice none 0 0, .int .i64 4])) w1
  ) (
    VSet (IntKind.wrap .i64 (((b_0.len : Nat) : Int) - 4)) fun (n_5 : Int) =>
    VCk none ((0 : Int) ≤ 0 ∧ (0 : Int) ≤ n_5 ∧ (n_5 : Int) ≤ ((b_0.cap : Nat) : Int)) (
      VCall none Try.prog 16 #[.slice (cutB b_0.base b_0.cap 1 0) ((Int.toNat n_5) - 0) (b_0.cap - 0)] w1 (.int .u32 0) fun (r38 : Int) (w2 : World) =>
      VSet r38 fun (s_6 : Int) =>
      ∃ I1 : Nat → Int → World → Prop, (∃ k, I1 k 0 w2) ∧ ∀ k1 (i_7 : Int) (w3 : World), I1 k1 i_7 w3 →
      VIf (decide (i_7 < 4)) (
        ∀ (w4 : World), w4 = World.drew w3 →
        VIx none b_0.base b_0.len (IntKind.wrap .i64 (n_5 + i_7)) fun (a47 : Addr) =>
        VLd none w4 (Addr.add a47 ((Int.toNat (IntKind.wrap .i64 (n_5 + i_7))) * 1)) [CT.int .u8] fun (v48 : Int) =>
        VCk none ((0 : Int) ≤ (IntKind.wrap .i64 (8 * i_7))) (
          VIf (v48 != (IntKind.wrap .u8 (Int.fdiv s_6 (2 ^ (min (Int.toNat (IntKind.wrap .i64 (8 * i_7))) (IntKind.bits .u32)))))) (
            R (.returned (.tuple #[.int .u8 0, .slice none 0 0, .int .i64 30])) w4
          ) (
            VSet (IntKind.wrap .i64 (i_7 + 1)) fun (i_7' : Int) =>
            ∃ k', k' < k1 ∧ I1 k' i_7' w4
          )
        )
      ) (
        ∀ (w5 : World), w5 = World.drew w3 →
        VIx none b_0.base b_0.len 0 fun (a56 : Addr) =>
        VLd none w5 a56 [CT.int .u8] fun (v57 : Int) =>
        VCk none ((0 : Int) ≤ 3 ∧ (3 : Int) ≤ n_5 ∧ (n_5 : Int) ≤ ((b_0.cap : Nat) : Int)) (
          VNw none w5 (.cells #[] 5) fun (b58 : Nat) (w6 : World) =>
          Rd w6 a56 [.int .u8 v57] ∧
          VApp none w6 5 1 1 #[.int .u8 0] (some ⟨b58, 0, none⟩) 0 0 ((Int.toNat n_5) - 3) (fun news => Seg w6 (cutB b_0.base b_0.cap 1 3) ((Int.toNat n_5) - 3) 1 news) fun (l62 : Sl) (w7 : World) =>
          Rd w7 a56 [.int .u8 v57] ∧
          VSet v57 fun (v2 : Int) =>
          R (.returned (.tuple #[.int .u8 v2, .slice l62.base l62.len l62.cap, .int .i64 0])) w7
        )
      )
    )
  )
theorem sh_butteryref02_Open_ok (b_0 : Sl) (w : World) (R : Ending → World → Prop) (h : sh_butteryref02_Open b_0 w R) : Calls Try.prog 13 #[.slice b_0.base b_0.len b_0.cap] w R :=
  calls_of_sh (args := [.slice b_0.base b_0.len b_0.cap]) (.two .auto (.two (.two .auto (.two (.two .auto .auto) .auto)) (.two .auto (.two .auto (.two (.two .auto (.one (.loop [(7, .int .i64 0)] (.two (.two .auto (.two .auto .auto)) (.two (.one (.two .auto (.two (.two .auto .auto) .auto))) .auto))))) (.two .auto .auto)))))) Try.func13 (by kernel_rfl) (by kernel_rfl) (by kernel_rfl) h

/-- 14: buttery/seal.Open -/
def sh_seal_Open (b_0 : Sl) (w : World) (R : Ending → World → Prop) : Prop :=
  VSet (IntKind.wrap .i64 (((b_0.len : Nat) : Int) - 4)) fun (n_5 : Int) =>
  ∀ (w1 : World), w1 = World.drew w →
  VIx (some (!((decide (n_5 < 3)) || (decide ((IntKind.wrap .i64 (n_5 - 3)) > 8192))))) b_0.base b_0.len 1 fun (a18 : Addr) =>
  VLd (some (!((decide (n_5 < 3)) || (decide ((IntKind.wrap .i64 (n_5 - 3)) > 8192))))) w1 (Addr.add a18 1) [CT.int .u8] fun (v19 : Int) =>
  VIx (some (!((decide (n_5 < 3)) || (decide ((IntKind.wrap .i64 (n_5 - 3)) > 8192))))) b_0.base b_0.len 2 fun (a22 : Addr) =>
  VLd (some (!((decide (n_5 < 3)) || (decide ((IntKind.wrap .i64 (n_5 - 3)) > 8192))))) w1 (Addr.add a22 2) [CT.int .u8] fun (v23 : Int) =>
  VIf (((decide (n_5 < 3)) || (decide ((IntKind.wrap .i64 (n_5 - 3)) > 8192))) || ((bOr .i64 (IntKind.wrap .i64 v19) (IntKind.wrap .i64 ((IntKind.wrap .i64 v23) * 2 ^ 8))) != (IntKind.wrap .i64 (n_5 - 3)))) (
    R (.returned (.tuple #[.int .u8 0, .slice none 0 0, .int .i64 4])) w1
  ) (
    ∀ (w2 : World), w2 = World.drew w1 →
    VCk none ((0 : Int) ≤ n_5 ∧ (n_5 : Int) ≤ ((b_0.len : Nat) : Int) ∧ (((b_0.len : Nat) : Int) : Int) ≤ ((b_0.cap : Nat) : Int)) (
      VCk none ((0 : Int) ≤ 0 ∧ (0 : Int) ≤ n_5 ∧ (n_5 : Int) ≤ ((b_0.cap : Nat) : Int)) (
        VCall none Try.prog 15 #[.slice (cutB b_0.base b_0.cap 1 0) ((Int.toNat n_5) - 0) (b_0.cap - 0)] w2 (.int .u32 0) fun (r37 : Int) (w3 : World) =>
        VCall none Try.prog 19 #[.int .u32 r37] w3 (.slice none 0 0) fun (r38 : Sl) (w4 : World) =>
        VCall none Try.prog 20 #[.slice (cutB b_0.base b_0.cap 1 (Int.toNat n_5)) (b_0.len - (Int.toNat n_5)) (b_0.cap - (Int.toNat n_5)), .slice r38.base r38.len r38.cap] w4 (.bool false) fun (r39 : Bool) (w5 : World) =>
        VIf (!r39) (
          R (.returned (.tuple #[.int .u8 0, .slice none 0 0, .int .i64 30])) w5
        ) (
          ∀ (w6 : World), w6 = World.drew w5 →
          VIx none b_0.base b_0.len 0 fun (a42 : Addr) =>
          VLd none w6 a42 [CT.int .u8] fun (v43 : Int) =>
          VCk none ((0 : Int) ≤ 3 ∧ (3 : Int) ≤ n_5 ∧ (n_5 : Int) ≤ ((b_0.cap : Nat) : Int)) (
            VCall none Try.prog 21 #[.slice (cutB b_0.base b_0.cap 1 3) ((Int.toNat n_5) - 3) (b_0.cap - 3)] w6 (.slice none 0 0) fun (r47 : Sl) (w7 : World) =>
            Rd w7 a42 [.int .u8 v43] ∧
            VSet v43 fun (v2 : Int) =>
            R (.returned (.tuple #[.int .u8 v2, .slice r47.base r47.len r47.cap, .int .i64 0])) w7
          )
        )
      )
    )
  )
theorem sh_seal_Open_ok (b_0 : Sl) (w : World) (R : Ending → World → Prop) (h : sh_seal_Open b_0 w R) : Calls Try.prog 14 #[.slice b_0.base b_0.len b_0.cap] w R :=
  calls_of_sh (args := [.slice b_0.base b_0.len b_0.cap]) (.two .auto (.two .auto (.two (.two .auto (.two (.two .auto .auto) .auto)) (.two (.two .auto (.two (.two .auto .auto) .auto)) (.two .auto .auto))))) Try.func14 (by kernel_rfl) (by kernel_rfl) (by kernel_rfl) h

/-- 15: buttery/seal.Sum -/
def sh_seal_Sum (b_0 : Sl) (w : World) (R : Ending → World → Prop) : Prop :=
  VCall none Try.prog 22 #[.int .u32 4294967295] w (.nilFunc) fun (r3 : Value) (w1 : World) =>
  VDyn none Try.prog r3 #[.slice b_0.base b_0.len b_0.cap] w1 (.int .u32 0) fun (r5 : Int) (w2 : World) =>
  VSet r5 fun (v2 : Int) =>
  R (.returned (.int .u32 v2)) w2
theorem sh_seal_Sum_ok (b_0 : Sl) (w : World) (R : Ending → World → Prop) (h : sh_seal_Sum b_0 w R) : Calls Try.prog 15 #[.slice b_0.base b_0.len b_0.cap] w R :=
  calls_of_sh (args := [.slice b_0.base b_0.len b_0.cap]) (.two .auto (.two .auto .auto)) Try.func15 (by kernel_rfl) (by kernel_rfl) (by kernel_rfl) h

/-- 16: buttery/butteryref02.Sum -/
def sh_butteryref02_Sum (b_0 : Sl) (w : World) (R : Ending → World → Prop) : Prop :=
  VCall none Try.prog 23 #[.int .u32 4294967295, .slice b_0.base b_0.len b_0.cap] w (.int .u32 0) fun (r4 : Int) (w1 : World) =>
  VSet (bXor .u32 (IntKind.max .u32) r4) fun (v2 : Int) =>
  R (.returned (.int .u32 v2)) w1
theorem sh_butteryref02_Sum_ok (b_0 : Sl) (w : World) (R : Ending → World → Prop) (h : sh_butteryref02_Sum b_0 w R) : Calls Try.prog 16 #[.slice b_0.base b_0.len b_0.cap] w R :=
  calls_of_sh (args := [.slice b_0.base b_0.len b_0.cap]) (.two .auto (.two .auto .auto)) Try.func16 (by kernel_rfl) (by kernel_rfl) (by kernel_rfl) h

/-- 17: buttery/seal.More -/
def sh_seal_More (sum_0 : Int) (b_1 : Sl) (w : World) (R : Ending → World → Prop) : Prop :=
  VCall none Try.prog 22 #[.int .u32 (bXor .u32 (IntKind.max .u32) sum_0)] w (.nilFunc) fun (r7 : Value) (w1 : World) =>
  VDyn none Try.prog r7 #[.slice b_1.base b_1.len b_1.cap] w1 (.int .u32 0) fun (r9 : Int) (w2 : World) =>
  VSet r9 fun (v4 : Int) =>
  R (.returned (.int .u32 v4)) w2
theorem sh_seal_More_ok (sum_0 : Int) (b_1 : Sl) (w : World) (R : Ending → World → Prop) (h : sh_seal_More sum_0 b_1 w R) : Calls Try.prog 17 #[.int .u32 sum_0, .slice b_1.base b_1.len b_1.cap] w R :=
  calls_of_sh (args := [.int .u32 sum_0, .slice b_1.base b_1.len b_1.cap]) (.two .auto (.two .auto .auto)) Try.func17 (by kernel_rfl) (by kernel_rfl) (by kernel_rfl) h

/-- 18: buttery/butteryref02.More -/
def sh_butteryref02_More (sum_0 : Int) (b_1 : Sl) (w : World) (R : Ending → World → Prop) : Prop :=
  VCall none Try.prog 23 #[.int .u32 (bXor .u32 (IntKind.max .u32) sum_0), .slice b_1.base b_1.len b_1.cap] w (.int .u32 0) fun (r8 : Int) (w1 : World) =>
  VSet (bXor .u32 (IntKind.max .u32) r8) fun (v4 : Int) =>
  R (.returned (.int .u32 v4)) w1
theorem sh_butteryref02_More_ok (sum_0 : Int) (b_1 : Sl) (w : World) (R : Ending → World → Prop) (h : sh_butteryref02_More sum_0 b_1 w R) : Calls Try.prog 18 #[.int .u32 sum_0, .slice b_1.base b_1.len b_1.cap] w R :=
  calls_of_sh (args := [.int .u32 sum_0, .slice b_1.base b_1.len b_1.cap]) (.two .auto (.two .auto .auto)) Try.func18 (by kernel_rfl) (by kernel_rfl) (by kernel_rfl) h

/-- 19: buttery/seal.four -/
def sh_seal_four (n_0 : Int) (w : World) (R : Ending → World → Prop) : Prop :=
  ∃ I1 : Nat → Sl → Int → World → Prop, (∃ k, I1 k ⟨none, 0, 0⟩ 0 w) ∧ ∀ k1 (out_3 : Sl) (x5 : Int) (w1 : World), I1 k1 out_3 x5 w1 →
  VIf (decide (x5 < 4)) (
    VSet x5 fun (i_4 : Int) =>
    VCk none ((0 : Int) ≤ (IntKind.wrap .i64 (8 * i_4))) (
      VNw none w1 (.cells #[.int .u8 (IntKind.wrap .u8 (Int.fdiv n_0 (2 ^ (min (Int.toNat (IntKind.wrap .i64 (8 * i_4))) (IntKind.bits .u32)))))] 5) fun (b14 : Nat) (w2 : World) =>
      VApp none w2 5 1 1 #[.int .u8 0] out_3.base out_3.len out_3.cap 1 (fun news => Seg w2 (some ⟨b14, 0, none⟩) 1 1 news) fun (l15 : Sl) (w3 : World) =>
      ∃ k', k' < k1 ∧ I1 k' l15 (IntKind.wrap .i64 (x5 + 1)) w3
    )
  ) (
    R (.returned (.slice out_3.base out_3.len out_3.cap)) w1
  )
theorem sh_seal_four_ok (n_0 : Int) (w : World) (R : Ending → World → Prop) (h : sh_seal_four n_0 w R) : Calls Try.prog 19 #[.int .u32 n_0] w R :=
  calls_of_sh (args := [.int .u32 n_0]) (.two .auto (.two .auto (.two (.two .auto (.one (.loop [(3, .slice none 0 0), (5, .int .i64 0)] (.two .auto (.two (.two .auto .auto) (.two (.one (.two .auto .auto)) .auto)))))) (.two .auto .auto)))) Try.func19 (by kernel_rfl) (by kernel_rfl) (by kernel_rfl) h

/-- 20: slices.Equal of  of byte,byte -/
def sh_slices_Equal (s1_0 : Sl) (s2_1 : Sl) (w : World) (R : Ending → World → Prop) : Prop :=
  VIf (((s1_0.len : Nat) : Int) != ((s2_1.len : Nat) : Int)) (
    R (.returned (.bool false)) w
  ) (
    ∃ I1 : Nat → Int → World → Prop, (∃ k, I1 k 0 w) ∧ ∀ k1 (x13 : Int) (w1 : World), I1 k1 x13 w1 →
    VIf (decide (x13 < ((s1_0.len : Nat) : Int))) (
      VSet x13 fun (i_5 : Int) =>
      ∀ (w2 : World), w2 = World.drew w1 →
      VIx none s1_0.base s1_0.len i_5 fun (a18 : Addr) =>
      VLd none w2 (Addr.add a18 ((Int.toNat i_5) * 1)) [CT.int .u8] fun (v19 : Int) =>
      VIx none s2_1.base s2_1.len i_5 fun (a22 : Addr) =>
      VLd none w2 (Addr.add a22 ((Int.toNat i_5) * 1)) [CT.int .u8] fun (v23 : Int) =>
      VIf (v19 != v23) (
        R (.returned (.bool false)) w2
      ) (
        ∃ k', k' < k1 ∧ I1 k' (IntKind.wrap .i64 (x13 + 1)) w2
      )
    ) (
      R (.returned (.bool true)) w1
    )
  )
theorem sh_slices_Equal_ok (s1_0 : Sl) (s2_1 : Sl) (w : World) (R : Ending → World → Prop) (h : sh_slices_Equal s1_0 s2_1 w R) : Calls Try.prog 20 #[.slice s1_0.base s1_0.len s1_0.cap, .slice s2_1.base s2_1.len s2_1.cap] w R :=
  calls_of_sh (args := [.slice s1_0.base s1_0.len s1_0.cap, .slice s2_1.base s2_1.len s2_1.cap]) (.two .auto (.two (.two .auto (.two (.two .auto .auto) .auto)) (.two (.two .auto (.one (.loop [(13, .int .i64 0)] (.two .auto (.two (.two .auto .auto) (.two (.one (.two .auto (.two .auto (.two (.two .auto .auto) .auto)))) .auto)))))) (.two .auto .auto)))) Try.func20 (by kernel_rfl) (by kernel_rfl) (by kernel_rfl) h

/-- 21: slices.Clone of  of byte,byte -/
def sh_slices_Clone (s_0 : Sl) (w : World) (R : Ending → World → Prop) : Prop :=
  VIf s_0.base.isNone (
    R (.returned (.slice none 0 0)) w
  ) (
    VNw none w (.cells #[] 5) fun (b5 : Nat) (w1 : World) =>
    VApp none w1 5 1 1 #[.int .u8 0] (some ⟨b5, 0, none⟩) 0 0 s_0.len (fun news => Seg w1 s_0.base s_0.len 1 news) fun (l7 : Sl) (w2 : World) =>
    R (.returned (.slice l7.base l7.len l7.cap)) w2
  )
theorem sh_slices_Clone_ok (s_0 : Sl) (w : World) (R : Ending → World → Prop) (h : sh_slices_Clone s_0 w R) : Calls Try.prog 21 #[.slice s_0.base s_0.len s_0.cap] w R :=
  calls_of_sh (args := [.slice s_0.base s_0.len s_0.cap]) (.two .auto (.two (.two .auto (.two (.two .auto .auto) .auto)) (.two .auto .auto))) Try.func21 (by kernel_rfl) (by kernel_rfl) (by kernel_rfl) h

/-- 22: buttery/seal.summer -/
def sh_seal_summer (r_0 : Int) (w : World) (R : Ending → World → Prop) : Prop :=
  VNw none w (.cells #[.int .u32 r_0] 31) fun (r_1 : Nat) (w1 : World) =>
  R (.returned (.func (.func 24) #[] #[.pointer (some ⟨r_1, 0, none⟩)])) w1
theorem sh_seal_summer_ok (r_0 : Int) (w : World) (R : Ending → World → Prop) (h : sh_seal_summer r_0 w R) : Calls Try.prog 22 #[.int .u32 r_0] w R :=
  calls_of_sh (args := [.int .u32 r_0]) (.two .auto (.two .auto .auto)) Try.func22 (by kernel_rfl) (by kernel_rfl) (by kernel_rfl) h

/-- 23: buttery/butteryref02.on -/
def sh_butteryref02_on (r_0 : Int) (b_1 : Sl) (w : World) (R : Ending → World → Prop) : Prop :=
  ∃ I1 : Nat → Int → Int → World → Prop, (∃ k, I1 k r_0 0 w) ∧ ∀ k1 (r_0 : Int) (i_5 : Int) (w1 : World), I1 k1 r_0 i_5 w1 →
  VIf (decide (i_5 < ((b_1.len : Nat) : Int))) (
    ∃ I2 : Nat → Int → Int → World → Prop, (∃ k, I2 k r_0 0 w1) ∧ ∀ k2 (r_0' : Int) (k_6 : Int) (w2 : World), I2 k2 r_0' k_6 w2 →
    VIf (decide (k_6 < 8)) (
      ∃ Φ3 : Int → World → Prop, (
        VIx none b_1.base b_1.len i_5 fun (a21 : Addr) =>
        VLd none w2 (Addr.add a21 ((Int.toNat i_5) * 1)) [CT.int .u8] fun (v22 : Int) =>
        VCk none ((0 : Int) ≤ k_6) (
          VSet (bAnd .u32 (bXor .u32 r_0' (IntKind.wrap .u32 (Int.fdiv v22 (2 ^ (min (Int.toNat k_6) (IntKind.bits .u8)))))) 1) fun (bit_7 : Int) =>
          VSet (Int.fdiv r_0' (2 ^ 1)) fun (r_0_3 : Int) =>
          VIf (bit_7 == 1) (
            VSet (bXor .u32 r_0_3 3988292384) fun (r_0_4 : Int) =>
            Φ3 r_0_4 w2
          ) (
            Φ3 r_0_3 w2
          )
        )
      ) ∧ ∀ (r_0'' : Int) (w3 : World), Φ3 r_0'' w3 →
      VSet (IntKind.wrap .i64 (k_6 + 1)) fun (k_6' : Int) =>
      ∃ k', k' < k2 ∧ I2 k' r_0'' k_6' w3
    ) (
      VSet (IntKind.wrap .i64 (i_5 + 1)) fun (i_5' : Int) =>
      ∃ k', k' < k1 ∧ I1 k' r_0' i_5' w2
    )
  ) (
    VSet r_0 fun (v4 : Int) =>
    R (.returned (.int .u32 v4)) w1
  )
theorem sh_butteryref02_on_ok (r_0 : Int) (b_1 : Sl) (w : World) (R : Ending → World → Prop) (h : sh_butteryref02_on r_0 b_1 w R) : Calls Try.prog 23 #[.int .u32 r_0, .slice b_1.base b_1.len b_1.cap] w R :=
  calls_of_sh (args := [.int .u32 r_0, .slice b_1.base b_1.len b_1.cap]) (.two .auto (.two (.two .auto (.one (.loop [(0, .int .u32 0), (5, .int .i64 0)] (.two (.two .auto (.two .auto .auto)) (.two (.one (.two .auto (.one (.loop [(0, .int .u32 0), (6, .int .i64 0)] (.two (.two .auto (.two .auto .auto)) (.two (.bjoin [(0, .int .u32 0)] (.two .auto (.two .auto (.two .auto (.two .auto .auto))))) .auto)))))) .auto))))) (.two .auto .auto))) Try.func23 (by kernel_rfl) (by kernel_rfl) (by kernel_rfl) h

/-- 24: buttery/seal.summer$1 -/
def sh_seal_summer_1 (b_0 : Sl) (cap0 : Addr) (w : World) (R : Ending → World → Prop) : Prop :=
  ∃ I1 : Nat → Int → World → Prop, (∃ k, I1 k 0 w) ∧ ∀ k1 (x9 : Int) (w1 : World), I1 k1 x9 w1 →
  VIf (decide (x9 < ((b_0.len : Nat) : Int))) (
    VIx none b_0.base b_0.len x9 fun (a11 : Addr) =>
    VLd none w1 (Addr.add a11 ((Int.toNat x9) * 1)) [CT.int .u8] fun (v12 : Int) =>
    VSet v12 fun (c_5 : Int) =>
    VLd none w1 cap0 [CT.int .u32] fun (v13 : Int) =>
    VSt none w1 cap0 [.int .u32 (bXor .u32 v13 (IntKind.wrap .u32 c_5))] fun (w2 : World) =>
    ∃ I2 : Nat → Int → World → Prop, (∃ k, I2 k 0 w2) ∧ ∀ k2 (x17 : Int) (w3 : World), I2 k2 x17 w3 →
    VIf (decide (x17 < 8)) (
      VLd none w3 cap0 [CT.int .u32] fun (v19 : Int) =>
      VSet (bAnd .u32 v19 1) fun (low_6 : Int) =>
      VLd none w3 cap0 [CT.int .u32] fun (v21 : Int) =>
      VSt none w3 cap0 [.int .u32 (bXor .u32 (Int.fdiv v21 (2 ^ 1)) (IntKind.wrap .u32 (3988292384 * low_6)))] fun (w4 : World) =>
      ∃ k', k' < k2 ∧ I2 k' (IntKind.wrap .i64 (x17 + 1)) w4
    ) (
      ∃ k', k' < k1 ∧ I1 k' (IntKind.wrap .i64 (x9 + 1)) w3
    )
  ) (
    VLd none w1 cap0 [CT.int .u32] fun (v28 : Int) =>
    VSet (bXor .u32 (IntKind.max .u32) v28) fun (v3 : Int) =>
    R (.returned (.int .u32 v3)) w1
  )
theorem sh_seal_summer_1_ok (b_0 : Sl) (cap0 : Addr) (w : World) (R : Ending → World → Prop) (h : sh_seal_summer_1 b_0 cap0 w R) : Calls Try.prog 24 #[.slice b_0.base b_0.len b_0.cap, .pointer (some cap0)] w R :=
  calls_of_sh (args := [.slice b_0.base b_0.len b_0.cap, .pointer (some cap0)]) (.two .auto (.two (.two .auto (.one (.loop [(9, .int .i64 0)] (.two .auto (.two (.two .auto .auto) (.two (.one (.two .auto (.two .auto (.two .auto (.one (.loop [(17, .int .i64 0)] (.two .auto (.two (.two .auto .auto) (.two (.one (.two .auto .auto)) .auto))))))))) .auto)))))) (.two .auto .auto))) Try.func24 (by kernel_rfl) (by kernel_rfl) (by kernel_rfl) h

end Go.Proofs.Ytoleakhomnnfkaa
