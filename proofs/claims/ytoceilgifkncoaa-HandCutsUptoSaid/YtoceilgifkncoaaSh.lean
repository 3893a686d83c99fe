/-
  By program (own tool): what the code of each function asks, in plain text, and that it suffices (the kernel compares the two).
-/
import Derived.Test.YtoceilgifkncoaaRows
import Derived.Test.YtoceilgifkncoaaEngJ
import Derived.KernelRfl
namespace Go.Proofs.Ytoceilgifkncoaa
open Go.RowKit
set_option maxRecDepth 100000

/-- 3: buttery/butterylaw23.HandCuts -/
def sh_butterylaw23_HandCuts (pairs_0 : Sl) (lasts_1 : Sl) (w : World) (R : Ending → World → Prop) : Prop :=
  VCall none Try.prog 9 #[.slice pairs_0.base pairs_0.len pairs_0.cap, .slice lasts_1.base lasts_1.len lasts_1.cap] w (.bool false) fun (r17 : Bool) (w1 : World) =>
  VIf r17 (
    R (.returned (.bool true)) w1
  ) (
    VNw none w1 (.cells #[] 37) fun (b18 : Nat) (w2 : World) =>
    VApp none w2 37 2 32 #[.string ByteArray.empty, .string ByteArray.empty] (some ⟨b18, 0, none⟩) 0 0 pairs_0.len (fun news => Seg w2 pairs_0.base pairs_0.len 2 news) fun (l20 : Sl) (w3 : World) =>
    VNw none w3 (.cells #[] 68) fun (b21 : Nat) (w4 : World) =>
    VApp none w4 68 5 40 #[.int .i64 0, .int .i64 0, .int .u8 0, .bool false, .string ByteArray.empty] (some ⟨b21, 0, none⟩) 0 0 lasts_1.len (fun news => Seg w4 lasts_1.base lasts_1.len 5 news) fun (l23 : Sl) (w5 : World) =>
    VCall none Try.prog 10 #[.slice pairs_0.base pairs_0.len pairs_0.cap, .slice lasts_1.base lasts_1.len lasts_1.cap] w5 (.slice none 0 0) fun (r26 : Sl) (w6 : World) =>
    ∃ I1 : Nat → Int → World → Prop, (∃ k, I1 k 0 w6) ∧ ∀ k1 (round_8 : Int) (w7 : World), I1 k1 round_8 w7 →
    VIf (decide (round_8 < 2)) (
      VCall none Try.prog 11 #[.slice l20.base l20.len l20.cap, .slice l23.base l23.len l23.cap] w7 (.slice none 0 0) fun (r33 : Sl) (w8 : World) =>
      VIf (((r33.len : Nat) : Int) != ((r26.len : Nat) : Int)) (
        R (.returned (.bool false)) w8
      ) (
        ∃ I2 : Nat → Int → World → Prop, (∃ k, I2 k 0 w8) ∧ ∀ k2 (i_10 : Int) (w9 : World), I2 k2 i_10 w9 →
        VIf (decide (i_10 < ((r33.len : Nat) : Int))) (
          ∀ (w10 : World), w10 = World.drew w9 →
          VIx none r33.base r33.len i_10 fun (a47 : Addr) =>
          VLd none w10 (Addr.add a47 ((Int.toNat i_10) * 3)) [CT.sl, CT.sl, CT.bool] fun (v48_0 : Sl) (v48_1 : Sl) (v48_2 : Bool) =>
          VIx none r26.base r26.len i_10 fun (a52 : Addr) =>
          VLd none w10 (Addr.add a52 ((Int.toNat i_10) * 3)) [CT.sl, CT.sl, CT.bool] fun (v53_0 : Sl) (v53_1 : Sl) (v53_2 : Bool) =>
          VCall none Try.prog 13 #[.agg #[.slice v48_0.base v48_0.len v48_0.cap, .slice v48_1.base v48_1.len v48_1.cap, .bool v48_2]] w10 (.agg #[.slice none 0 0, .slice none 0 0, .bool false]) fun (r49_0 : Sl) (r49_1 : Sl) (r49_2 : Bool) (w11 : World) =>
          Rd w11 (Addr.add a52 ((Int.toNat i_10) * 3)) [.slice v53_0.base v53_0.len v53_0.cap, .slice v53_1.base v53_1.len v53_1.cap, .bool v53_2] ∧
          VCall none Try.prog 12 #[.agg #[.slice r49_0.base r49_0.len r49_0.cap, .slice r49_1.base r49_1.len r49_1.cap, .bool r49_2], .agg #[.slice v53_0.base v53_0.len v53_0.cap, .slice v53_1.base v53_1.len v53_1.cap, .bool v53_2]] w11 (.bool false) fun (r54 : Bool) (w12 : World) =>
          VIf (!r54) (
            R (.returned (.bool false)) w12
          ) (
            VSet (IntKind.wrap .i64 (i_10 + 1)) fun (i_10' : Int) =>
            ∃ k', k' < k2 ∧ I2 k' i_10' w12
          )
        ) (
          VCall none Try.prog 14 #[.slice r33.base r33.len r33.cap] w9 (.tuple #[.slice none 0 0, .slice none 0 0]) fun (r58_0 : Sl) (r58_1 : Sl) (w13 : World) =>
          VCall none Try.prog 12 #[.agg #[.slice r58_0.base r58_0.len r58_0.cap, .slice r58_1.base r58_1.len r58_1.cap, .bool false], .agg #[.slice pairs_0.base pairs_0.len pairs_0.cap, .slice lasts_1.base lasts_1.len lasts_1.cap, .bool false]] w13 (.bool false) fun (r67 : Bool) (w14 : World) =>
          VIf (!r67) (
            R (.returned (.bool false)) w14
          ) (
            ∃ I3 : Nat → Int → World → Prop, (∃ k, I3 k 0 w14) ∧ ∀ k3 (i_13 : Int) (w15 : World), I3 k3 i_13 w15 →
            VIf (decide (i_13 < ((r58_0.len : Nat) : Int))) (
              VIx none r58_0.base r58_0.len i_13 fun (a77 : Addr) =>
              VSt none w15 (Addr.add a77 ((Int.toNat i_13) * 2)) [.string (ByteArray.mk #[33])] fun (w16 : World) =>
              VSet (IntKind.wrap .i64 (i_13 + 1)) fun (i_13' : Int) =>
              ∃ k', k' < k3 ∧ I3 k' i_13' w16
            ) (
              ∃ I4 : Nat → Int → World → Prop, (∃ k, I4 k 0 w15) ∧ ∀ k4 (i_14 : Int) (w17 : World), I4 k4 i_14 w17 →
              VIf (decide (i_14 < ((r33.len : Nat) : Int))) (
                ∀ (w18 : World), w18 = World.drew w17 →
                VIx none r33.base r33.len i_14 fun (a87 : Addr) =>
                VLd none w18 (Addr.add a87 ((Int.toNat i_14) * 3)) [CT.sl, CT.sl, CT.bool] fun (v88_0 : Sl) (v88_1 : Sl) (v88_2 : Bool) =>
                VIx none r26.base r26.len i_14 fun (a92 : Addr) =>
                VLd none w18 (Addr.add a92 ((Int.toNat i_14) * 3)) [CT.sl, CT.sl, CT.bool] fun (v93_0 : Sl) (v93_1 : Sl) (v93_2 : Bool) =>
                VCall none Try.prog 13 #[.agg #[.slice v88_0.base v88_0.len v88_0.cap, .slice v88_1.base v88_1.len v88_1.cap, .bool v88_2]] w18 (.agg #[.slice none 0 0, .slice none 0 0, .bool false]) fun (r89_0 : Sl) (r89_1 : Sl) (r89_2 : Bool) (w19 : World) =>
                Rd w19 (Addr.add a92 ((Int.toNat i_14) * 3)) [.slice v93_0.base v93_0.len v93_0.cap, .slice v93_1.base v93_1.len v93_1.cap, .bool v93_2] ∧
                VCall none Try.prog 12 #[.agg #[.slice r89_0.base r89_0.len r89_0.cap, .slice r89_1.base r89_1.len r89_1.cap, .bool r89_2], .agg #[.slice v93_0.base v93_0.len v93_0.cap, .slice v93_1.base v93_1.len v93_1.cap, .bool v93_2]] w19 (.bool false) fun (r94 : Bool) (w20 : World) =>
                VIf (!r94) (
                  R (.returned (.bool false)) w20
                ) (
                  VIx none r33.base r33.len i_14 fun (a98 : Addr) =>
                  VLd none w20 (Addr.add a98 ((Int.toNat i_14) * 3)) [CT.sl, CT.sl, CT.bool] fun (v99_0 : Sl) (v99_1 : Sl) (v99_2 : Bool) =>
                  VCall none Try.prog 15 #[.agg #[.slice v99_0.base v99_0.len v99_0.cap, .slice v99_1.base v99_1.len v99_1.cap, .bool v99_2]] w20 (.tuple #[]) fun (w21 : World) =>
                  VSet (IntKind.wrap .i64 (i_14 + 1)) fun (i_14' : Int) =>
                  ∃ k', k' < k4 ∧ I4 k' i_14' w21
                )
              ) (
                VSet (IntKind.wrap .i64 (round_8 + 1)) fun (round_8' : Int) =>
                ∃ k', k' < k1 ∧ I1 k' round_8' w17
              )
            )
          )
        )
      )
    ) (
      VCall none Try.prog 12 #[.agg #[.slice l20.base l20.len l20.cap, .slice l23.base l23.len l23.cap, .bool false], .agg #[.slice pairs_0.base pairs_0.len pairs_0.cap, .slice lasts_1.base lasts_1.len lasts_1.cap, .bool false]] w7 (.bool false) fun (r107 : Bool) (w22 : World) =>
      R (.returned (.bool r107)) w22
    )
  )
theorem sh_butterylaw23_HandCuts_ok (pairs_0 : Sl) (lasts_1 : Sl) (w : World) (R : Ending → World → Prop) (h : sh_butterylaw23_HandCuts pairs_0 lasts_1 w R) : Calls Try.prog 3 #[.slice pairs_0.base pairs_0.len pairs_0.cap, .slice lasts_1.base lasts_1.len lasts_1.cap] w R :=
  calls_of_sh (args := [.slice pairs_0.base pairs_0.len pairs_0.cap, .slice lasts_1.base lasts_1.len lasts_1.cap]) (.two .auto (.two (.two .auto (.two (.two .auto .auto) .auto)) (.two .auto (.two .auto (.two .auto (.two (.two .auto (.one (.loop [(8, .int .i64 0)] (.two (.two .auto (.two .auto .auto)) (.two (.one (.two .auto (.two (.two .auto (.two (.two .auto .auto) .auto)) (.two (.two .auto (.one (.loop [(10, .int .i64 0)] (.two (.two .auto (.two .auto .auto)) (.two (.one (.two .auto (.two (.two .auto .auto) .auto))) .auto))))) (.two .auto (.two (.two .auto (.two (.two .auto .auto) .auto)) (.two (.two .auto (.one (.loop [(13, .int .i64 0)] (.two (.two .auto (.two .auto .auto)) (.two (.one .auto) .auto))))) (.two .auto (.one (.loop [(14, .int .i64 0)] (.two (.two .auto (.two .auto .auto)) (.two (.one (.two (.two .auto (.two (.two .auto .auto) .auto)) .auto)) .auto)))))))))))) .auto))))) (.two .auto .auto))))))) Try.func3 (by kernel_rfl) (by kernel_rfl) (by kernel_rfl) h

/-- 4: buttery/butterylaw23.HandSends -/
def sh_butterylaw23_HandSends (pairs_0 : Sl) (lasts_1 : Sl) (every_2 : Int) (l_3 : Sl) (w : World) (R : Ending → World → Prop) : Prop :=
  VCall none Try.prog 9 #[.slice pairs_0.base pairs_0.len pairs_0.cap, .slice lasts_1.base lasts_1.len lasts_1.cap] w (.bool false) fun (r24 : Bool) (w1 : World) =>
  VIf (r24 || (decide (((l_3.len : Nat) : Int) > 300))) (
    R (.returned (.bool true)) w1
  ) (
    VCall none Try.prog 11 #[.slice pairs_0.base pairs_0.len pairs_0.cap, .slice lasts_1.base lasts_1.len lasts_1.cap] w1 (.slice none 0 0) fun (r32 : Sl) (w2 : World) =>
    VCall none Try.prog 16 #[.slice r32.base r32.len r32.cap, .int .i64 every_2] w2 (.tuple #[.pointer none, .int .i64 0]) fun (r36_0 : Option Addr) (r36_1 : Int) (w3 : World) =>
    VSet r36_1 fun (e_11 : Int) =>
    VIf ((decide (every_2 < 1)) || (decide (every_2 > 1000))) (
      R (.returned (.bool ((e_11 == 1) && r36_0.isNone))) w3
    ) (
      VIf (e_11 != 0) (
        R (.returned (.bool false)) w3
      ) (
        VCall none Try.prog 10 #[.slice pairs_0.base pairs_0.len pairs_0.cap, .slice lasts_1.base lasts_1.len lasts_1.cap] w3 (.slice none 0 0) fun (r55 : Sl) (w4 : World) =>
        VNw none w4 (.cells #[.slice r55.base r55.len r55.cap, .int .i64 every_2, .int .i64 0, .bool false, .int .i64 0] 46) fun (b58 : Nat) (w5 : World) =>
        ∃ I1 : Nat → Int → World → Prop, (∃ k, I1 k 0 w5) ∧ ∀ k1 (i_13 : Int) (w6 : World), I1 k1 i_13 w6 →
        VIf (decide (i_13 < ((r32.len : Nat) : Int))) (
          VIx none r32.base r32.len i_13 fun (a67 : Addr) =>
          VLd none w6 (Addr.add a67 ((Int.toNat i_13) * 3)) [CT.sl, CT.sl, CT.bool] fun (v68_0 : Sl) (v68_1 : Sl) (v68_2 : Bool) =>
          VCall none Try.prog 15 #[.agg #[.slice v68_0.base v68_0.len v68_0.cap, .slice v68_1.base v68_1.len v68_1.cap, .bool v68_2]] w6 (.tuple #[]) fun (w7 : World) =>
          VSet (IntKind.wrap .i64 (i_13 + 1)) fun (i_13' : Int) =>
          ∃ k', k' < k1 ∧ I1 k' i_13' w7
        ) (
          ∃ I2 : Nat → Int → World → Prop, (∃ k, I2 k 0 w6) ∧ ∀ k2 (i_14 : Int) (w8 : World), I2 k2 i_14 w8 →
          VIf (decide (i_14 < ((l_3.len : Nat) : Int))) (
            ∃ Φ3 : World → Prop, (
              VIx none l_3.base l_3.len i_14 fun (a78 : Addr) =>
              VLd none w8 (Addr.add (Addr.add a78 ((Int.toNat i_14) * 2)) 1) [CT.int .i64] fun (v80 : Int) =>
              VSet v80 fun (n_15 : Int) =>
              VIx none l_3.base l_3.len i_14 fun (a83 : Addr) =>
              VLd none w8 (Addr.add a83 ((Int.toNat i_14) * 2)) [CT.int .i64] fun (v85 : Int) =>
              VIf (v85 == 0) (
                VCall none Try.prog 17 #[.pointer r36_0, .int .i64 (Int.fdiv n_15 (2 ^ 2))] w8 (.tuple #[.int .i64 0, .agg #[.slice none 0 0, .slice none 0 0, .bool false], .bool false]) fun (r91_0 : Int) (r91_1 : Sl) (r91_2 : Sl) (r91_3 : Bool) (r91_4 : Bool) (w9 : World) =>
                VNw none w9 (.cells #[.slice none 0 0, .slice none 0 0, .bool false] 33) fun (p_17 : Nat) (w10 : World) =>
                VSet r91_0 fun (a_16 : Int) =>
                VSt none w10 ⟨p_17, 0, none⟩ [.slice r91_1.base r91_1.len r91_1.cap, .slice r91_2.base r91_2.len r91_2.cap, .bool r91_3] fun (w11 : World) =>
                VCall none Try.prog 18 #[.pointer (some ⟨b58, 0, none⟩), .int .i64 (Int.fdiv n_15 (2 ^ 2))] w11 (.tuple #[.int .i64 0, .agg #[.slice none 0 0, .slice none 0 0, .bool false], .bool false]) fun (r99_0 : Int) (r99_1 : Sl) (r99_2 : Sl) (r99_3 : Bool) (r99_4 : Bool) (w12 : World) =>
                VNw none w12 (.cells #[.slice none 0 0, .slice none 0 0, .bool false] 31) fun (q_20 : Nat) (w13 : World) =>
                VSet r99_0 fun (b_19 : Int) =>
                VSt none w13 ⟨q_20, 0, none⟩ [.slice r99_1.base r99_1.len r99_1.cap, .slice r99_2.base r99_2.len r99_2.cap, .bool r99_3] fun (w14 : World) =>
                ∀ (w15 : World), w15 = World.drew w14 →
                VLd (some (!((a_16 != b_19) || (!(r91_4 == r99_4))))) w15 ⟨p_17, 0, none⟩ [CT.sl, CT.sl, CT.bool] fun (v112_0 : Sl) (v112_1 : Sl) (v112_2 : Bool) =>
                VLd (some (!((a_16 != b_19) || (!(r91_4 == r99_4))))) w15 ⟨q_20, 0, none⟩ [CT.sl, CT.sl, CT.bool] fun (v114_0 : Sl) (v114_1 : Sl) (v114_2 : Bool) =>
                VCall (some (!((a_16 != b_19) || (!(r91_4 == r99_4))))) Try.prog 13 #[.agg #[.slice v112_0.base v112_0.len v112_0.cap, .slice v112_1.base v112_1.len v112_1.cap, .bool v112_2]] w15 (.agg #[.slice none 0 0, .slice none 0 0, .bool false]) fun (r113_0 : Sl) (r113_1 : Sl) (r113_2 : Bool) (w16 : World) =>
                ((!((a_16 != b_19) || (!(r91_4 == r99_4)))) = true → Rd w16 ⟨q_20, 0, none⟩ [.slice v114_0.base v114_0.len v114_0.cap, .slice v114_1.base v114_1.len v114_1.cap, .bool v114_2]) ∧
                VCall (some (!((a_16 != b_19) || (!(r91_4 == r99_4))))) Try.prog 12 #[.agg #[.slice r113_0.base r113_0.len r113_0.cap, .slice r113_1.base r113_1.len r113_1.cap, .bool r113_2], .agg #[.slice v114_0.base v114_0.len v114_0.cap, .slice v114_1.base v114_1.len v114_1.cap, .bool v114_2]] w16 (.bool false) fun (r115 : Bool) (w17 : World) =>
                VIf (((a_16 != b_19) || (!(r91_4 == r99_4))) || (!r115)) (
                  R (.returned (.bool false)) w17
                ) (
                  VLd none w17 ⟨p_17, 0, none⟩ [CT.sl, CT.sl, CT.bool] fun (v118_0 : Sl) (v118_1 : Sl) (v118_2 : Bool) =>
                  VCall none Try.prog 15 #[.agg #[.slice v118_0.base v118_0.len v118_0.cap, .slice v118_1.base v118_1.len v118_1.cap, .bool v118_2]] w17 (.tuple #[]) fun (w18 : World) =>
                  Φ3 w18
                )
              ) (
                ∀ (w19 : World), w19 = World.drew w8 →
                VCall none Try.prog 19 #[.pointer r36_0, .int .i64 n_15] w19 (.int .i64 0) fun (r122 : Int) (w20 : World) =>
                VCall none Try.prog 20 #[.pointer (some ⟨b58, 0, none⟩), .int .i64 n_15] w20 (.bool false) fun (r126 : Bool) (w21 : World) =>
                VNN (some (!(!((r122 == 0) == r126)))) (some ⟨b58, 0, none⟩) fun (a132 : Addr) =>
                VLd (some (!(!((r122 == 0) == r126)))) w21 (Addr.add a132 2) [CT.int .i64] fun (v134 : Int) =>
                VNN (some (!(!((r122 == 0) == r126)))) (some ⟨b58, 0, none⟩) fun (a136 : Addr) =>
                VLd (some (!(!((r122 == 0) == r126)))) w21 a136 [CT.sl] fun (v138 : Sl) =>
                VCall (some (!(!((r122 == 0) == r126)))) Try.prog 21 #[.pointer r36_0] w21 (.bool false) fun (r130 : Bool) (w22 : World) =>
                ((!(!((r122 == 0) == r126))) = true → Rd w22 a136 [.slice v138.base v138.len v138.cap]) ∧
                ((!(!((r122 == 0) == r126))) = true → Rd w22 (Addr.add a132 2) [.int .i64 v134]) ∧
                VIf ((!((r122 == 0) == r126)) || (!(r130 == (v134 == ((v138.len : Nat) : Int))))) (
                  R (.returned (.bool false)) w22
                ) (
                  Φ3 w22
                )
              )
            ) ∧ ∀ (w23 : World), Φ3 w23 →
            VSet (IntKind.wrap .i64 (i_14 + 1)) fun (i_14' : Int) =>
            ∃ k', k' < k2 ∧ I2 k' i_14' w23
          ) (
            ∀ (w24 : World), w24 = World.drew w8 →
            VNN none (some ⟨b58, 0, none⟩) fun (a146 : Addr) =>
            VLd none w24 (Addr.add a146 2) [CT.int .i64] fun (v148 : Int) =>
            VNN none (some ⟨b58, 0, none⟩) fun (a150 : Addr) =>
            VLd none w24 a150 [CT.sl] fun (v152 : Sl) =>
            VCall none Try.prog 21 #[.pointer r36_0] w24 (.bool false) fun (r144 : Bool) (w25 : World) =>
            Rd w25 a150 [.slice v152.base v152.len v152.cap] ∧
            Rd w25 (Addr.add a146 2) [.int .i64 v148] ∧
            R (.returned (.bool (r144 == (v148 == ((v152.len : Nat) : Int))))) w25
          )
        )
      )
    )
  )
theorem sh_butterylaw23_HandSends_ok (pairs_0 : Sl) (lasts_1 : Sl) (every_2 : Int) (l_3 : Sl) (w : World) (R : Ending → World → Prop) (h : sh_butterylaw23_HandSends pairs_0 lasts_1 every_2 l_3 w R) : Calls Try.prog 4 #[.slice pairs_0.base pairs_0.len pairs_0.cap, .slice lasts_1.base lasts_1.len lasts_1.cap, .int .i64 every_2, .slice l_3.base l_3.len l_3.cap] w R :=
  calls_of_sh (args := [.slice pairs_0.base pairs_0.len pairs_0.cap, .slice lasts_1.base lasts_1.len lasts_1.cap, .int .i64 every_2, .slice l_3.base l_3.len l_3.cap]) (.two .auto (.two (.two .auto (.two (.two .auto .auto) .auto)) (.two .auto (.two .auto (.two (.two .auto (.two (.two .auto .auto) .auto)) (.two (.two .auto (.two (.two .auto .auto) .auto)) (.two .auto (.two (.two .auto (.one (.loop [(13, .int .i64 0)] (.two (.two .auto (.two .auto .auto)) (.two (.one .auto) .auto))))) (.two (.two .auto (.one (.loop [(14, .int .i64 0)] (.two (.two .auto (.two .auto .auto)) (.two (.bjoin [] (.two .auto (.two (.two .auto (.two (.two .auto (.two .auto (.two (.two .auto (.two (.two .auto .auto) .auto)) (.two .auto .auto)))) .auto)) (.two .auto (.two (.two .auto .auto) .auto))))) .auto))))) (.two .auto .auto)))))))))) Try.func4 (by kernel_rfl) (by kernel_rfl) (by kernel_rfl) h

/-- 5: buttery/butterylaw23.HandCut -/
def sh_butterylaw23_HandCut (pairs_0 : Sl) (lasts_1 : Sl) (w : World) (R : Ending → World → Prop) : Prop :=
  VCall none Try.prog 22 #[] w (.bool false) fun (r9 : Bool) (w1 : World) =>
  VCall (some (!(!r9))) Try.prog 9 #[.slice pairs_0.base pairs_0.len pairs_0.cap, .slice lasts_1.base lasts_1.len lasts_1.cap] w1 (.bool false) fun (r14 : Bool) (w2 : World) =>
  VIf ((!r9) || r14) (
    VCall none Try.prog 22 #[] w2 (.bool false) fun (r16 : Bool) (w3 : World) =>
    R (.returned (.bool r16)) w3
  ) (
    VCall none Try.prog 11 #[.slice pairs_0.base pairs_0.len pairs_0.cap, .slice lasts_1.base lasts_1.len lasts_1.cap] w2 (.slice none 0 0) fun (r19 : Sl) (w4 : World) =>
    ∃ Φ1 : World → Prop, (
      ∃ I2 : Nat → Int → World → Prop, (∃ k, I2 k 0 w4) ∧ ∀ k2 (i_6 : Int) (w5 : World), I2 k2 i_6 w5 →
      VIf (decide (i_6 < ((r19.len : Nat) : Int))) (
        ∀ (w6 : World), w6 = World.drew w5 →
        VIx none r19.base r19.len i_6 fun (a28 : Addr) =>
        VLd none w6 (Addr.add a28 ((Int.toNat i_6) * 3)) [CT.sl] fun (v30 : Sl) =>
        VIx none r19.base r19.len i_6 fun (a34 : Addr) =>
        VLd none w6 (Addr.add (Addr.add a34 ((Int.toNat i_6) * 3)) 1) [CT.sl] fun (v36 : Sl) =>
        VSet (IntKind.wrap .i64 (((v30.len : Nat) : Int) + ((v36.len : Nat) : Int))) fun (n_7 : Int) =>
        VIx none r19.base r19.len i_6 fun (a41 : Addr) =>
        VLd none w6 (Addr.add (Addr.add a41 ((Int.toNat i_6) * 3)) 2) [CT.bool] fun (v43 : Bool) =>
        VIx (some ((!(((!(v43 == (i_6 == (IntKind.wrap .i64 (((r19.len : Nat) : Int) - 1))))) || ((n_7 == 0) && (decide (((r19.len : Nat) : Int) > 1)))) || (decide (n_7 > 4)))) && (decide (n_7 > 1)))) r19.base r19.len i_6 fun (a69 : Addr) =>
        VLd (some ((!(((!(v43 == (i_6 == (IntKind.wrap .i64 (((r19.len : Nat) : Int) - 1))))) || ((n_7 == 0) && (decide (((r19.len : Nat) : Int) > 1)))) || (decide (n_7 > 4)))) && (decide (n_7 > 1)))) w6 (Addr.add a69 ((Int.toNat i_6) * 3)) [CT.sl, CT.sl, CT.bool] fun (v70_0 : Sl) (v70_1 : Sl) (v70_2 : Bool) =>
        VCall (some ((!(((!(v43 == (i_6 == (IntKind.wrap .i64 (((r19.len : Nat) : Int) - 1))))) || ((n_7 == 0) && (decide (((r19.len : Nat) : Int) > 1)))) || (decide (n_7 > 4)))) && (decide (n_7 > 1)))) Try.prog 13 #[.agg #[.slice v70_0.base v70_0.len v70_0.cap, .slice v70_1.base v70_1.len v70_1.cap, .bool v70_2]] w6 (.agg #[.slice none 0 0, .slice none 0 0, .bool false]) fun (r71_0 : Sl) (r71_1 : Sl) (r71_2 : Bool) (w7 : World) =>
        VCall (some ((!(((!(v43 == (i_6 == (IntKind.wrap .i64 (((r19.len : Nat) : Int) - 1))))) || ((n_7 == 0) && (decide (((r19.len : Nat) : Int) > 1)))) || (decide (n_7 > 4)))) && (decide (n_7 > 1)))) Try.prog 23 #[.agg #[.slice r71_0.base r71_0.len r71_0.cap, .slice r71_1.base r71_1.len r71_1.cap, .bool r71_2]] w7 (.int .i64 0) fun (r72 : Int) (w8 : World) =>
        VIf ((((!(v43 == (i_6 == (IntKind.wrap .i64 (((r19.len : Nat) : Int) - 1))))) || ((n_7 == 0) && (decide (((r19.len : Nat) : Int) > 1)))) || (decide (n_7 > 4))) || ((decide (n_7 > 1)) && (decide (r72 > 4000)))) (
          R (.returned (.bool false)) w8
        ) (
          VIf ((IntKind.wrap .i64 (i_6 + 1)) == ((r19.len : Nat) : Int)) (
            Φ1 w8
          ) (
            VNw none w8 (.cells #[.slice none 0 0, .slice none 0 0, .bool false] 31) fun (next_8 : Nat) (w9 : World) =>
            VSt none w9 ⟨next_8, 0, none⟩ [.slice none 0 0, .slice none 0 0, .bool false] fun (w10 : World) =>
            ∃ Φ3 : World → Prop, (
              VIx none r19.base r19.len (IntKind.wrap .i64 (i_6 + 1)) fun (a85 : Addr) =>
              VLd none w10 (Addr.add a85 ((Int.toNat (IntKind.wrap .i64 (i_6 + 1))) * 3)) [CT.sl] fun (v87 : Sl) =>
              VIf (decide (((v87.len : Nat) : Int) > 0)) (
                VIx none r19.base r19.len (IntKind.wrap .i64 (i_6 + 1)) fun (a93 : Addr) =>
                VLd none w10 (Addr.add a93 ((Int.toNat (IntKind.wrap .i64 (i_6 + 1))) * 3)) [CT.sl] fun (v95 : Sl) =>
                VCk none ((0 : Int) ≤ 0 ∧ (0 : Int) ≤ 1 ∧ (1 : Int) ≤ ((v95.cap : Nat) : Int)) (
                  VSt none w10 ⟨next_8, 0, none⟩ [.slice (cutB v95.base v95.cap 2 0) (1 - 0) (v95.cap - 0)] fun (w11 : World) =>
                  Φ3 w11
                )
              ) (
                VIx none r19.base r19.len (IntKind.wrap .i64 (i_6 + 1)) fun (a101 : Addr) =>
                VLd none w10 (Addr.add (Addr.add a101 ((Int.toNat (IntKind.wrap .i64 (i_6 + 1))) * 3)) 1) [CT.sl] fun (v103 : Sl) =>
                VCk none ((0 : Int) ≤ 0 ∧ (0 : Int) ≤ 1 ∧ (1 : Int) ≤ ((v103.cap : Nat) : Int)) (
                  VSt none w10 ⟨next_8, 1, none⟩ [.slice (cutB v103.base v103.cap 5 0) (1 - 0) (v103.cap - 0)] fun (w12 : World) =>
                  Φ3 w12
                )
              )
            ) ∧ ∀ (w13 : World), Φ3 w13 →
            ∀ (w14 : World), w14 = World.drew w13 →
            VIx (some (decide (n_7 < 4))) r19.base r19.len i_6 fun (a111 : Addr) =>
            VLd (some (decide (n_7 < 4))) w14 (Addr.add a111 ((Int.toNat i_6) * 3)) [CT.sl, CT.sl, CT.bool] fun (v112_0 : Sl) (v112_1 : Sl) (v112_2 : Bool) =>
            VLd (some (decide (n_7 < 4))) w14 ⟨next_8, 0, none⟩ [CT.sl, CT.sl, CT.bool] fun (v115_0 : Sl) (v115_1 : Sl) (v115_2 : Bool) =>
            VCall (some (decide (n_7 < 4))) Try.prog 13 #[.agg #[.slice v112_0.base v112_0.len v112_0.cap, .slice v112_1.base v112_1.len v112_1.cap, .bool v112_2]] w14 (.agg #[.slice none 0 0, .slice none 0 0, .bool false]) fun (r113_0 : Sl) (r113_1 : Sl) (r113_2 : Bool) (w15 : World) =>
            ((decide (n_7 < 4)) = true → Rd w15 ⟨next_8, 0, none⟩ [.slice v115_0.base v115_0.len v115_0.cap, .slice v115_1.base v115_1.len v115_1.cap, .bool v115_2]) ∧
            VCall (some (decide (n_7 < 4))) Try.prog 23 #[.agg #[.slice r113_0.base r113_0.len r113_0.cap, .slice r113_1.base r113_1.len r113_1.cap, .bool r113_2]] w15 (.int .i64 0) fun (r114 : Int) (w16 : World) =>
            ((decide (n_7 < 4)) = true → Rd w16 ⟨next_8, 0, none⟩ [.slice v115_0.base v115_0.len v115_0.cap, .slice v115_1.base v115_1.len v115_1.cap, .bool v115_2]) ∧
            VCall (some (decide (n_7 < 4))) Try.prog 23 #[.agg #[.slice v115_0.base v115_0.len v115_0.cap, .slice v115_1.base v115_1.len v115_1.cap, .bool v115_2]] w16 (.int .i64 0) fun (r116 : Int) (w17 : World) =>
            VIf ((decide (n_7 < 4)) && (decide ((IntKind.wrap .i64 (r114 + r116)) ≤ 4000))) (
              R (.returned (.bool false)) w17
            ) (
              VSet (IntKind.wrap .i64 (i_6 + 1)) fun (i_6' : Int) =>
              ∃ k', k' < k2 ∧ I2 k' i_6' w17
            )
          )
        )
      ) (
        Φ1 w5
      )
    ) ∧ ∀ (w18 : World), Φ1 w18 →
    R (.returned (.bool (decide (((r19.len : Nat) : Int) > 0)))) w18
  )
theorem sh_butterylaw23_HandCut_ok (pairs_0 : Sl) (lasts_1 : Sl) (w : World) (R : Ending → World → Prop) (h : sh_butterylaw23_HandCut pairs_0 lasts_1 w R) : Calls Try.prog 5 #[.slice pairs_0.base pairs_0.len pairs_0.cap, .slice lasts_1.base lasts_1.len lasts_1.cap] w R :=
  calls_of_sh (args := [.slice pairs_0.base pairs_0.len pairs_0.cap, .slice lasts_1.base lasts_1.len lasts_1.cap]) (.two .auto (.two (.two .auto (.two (.two .auto .auto) .auto)) (.two .auto (.two (.two .auto (.bjoin [] (.loop [(6, .int .i64 0)] (.two (.two .auto (.two .auto .auto)) (.two (.one (.two .auto (.two (.two .auto (.two (.two .auto .auto) .auto)) (.two (.two .auto (.two .auto .auto)) (.two .auto (.join [] (.two .auto (.two .auto .auto)) (.two .auto (.two (.two .auto .auto) .auto)))))))) .auto))))) (.two .auto .auto))))) Try.func5 (by kernel_rfl) (by kernel_rfl) (by kernel_rfl) h

/-- 6: buttery/butterylaw23.HandEnds -/
def sh_butterylaw23_HandEnds (pairs_0 : Sl) (lasts_1 : Sl) (every_2 : Int) (lost_3 : Int) (w : World) (R : Ending → World → Prop) : Prop :=
  VCall none Try.prog 22 #[] w (.bool false) fun (r26 : Bool) (w1 : World) =>
  VCall (some (!(!r26))) Try.prog 9 #[.slice pairs_0.base pairs_0.len pairs_0.cap, .slice lasts_1.base lasts_1.len lasts_1.cap] w1 (.bool false) fun (r31 : Bool) (w2 : World) =>
  VIf ((!r26) || r31) (
    VCall none Try.prog 22 #[] w2 (.bool false) fun (r33 : Bool) (w3 : World) =>
    R (.returned (.bool r33)) w3
  ) (
    VCall none Try.prog 11 #[.slice pairs_0.base pairs_0.len pairs_0.cap, .slice lasts_1.base lasts_1.len lasts_1.cap] w2 (.slice none 0 0) fun (r36 : Sl) (w4 : World) =>
    VSet (IntKind.wrap .i64 (1 + (IntKind.wrap .i64 (Int.tmod (IntKind.wrap .u64 every_2) 1000)))) fun (pause_10 : Int) =>
    VCall none Try.prog 16 #[.slice r36.base r36.len r36.cap, .int .i64 pause_10] w4 (.tuple #[.pointer none, .int .i64 0]) fun (r45_0 : Option Addr) (r45_1 : Int) (w5 : World) =>
    VSet r45_1 fun (e_12 : Int) =>
    VIf (e_12 != 0) (
      R (.returned (.bool false)) w5
    ) (
      ∃ I1 : Nat → Int → Int → World → Prop, (∃ k, I1 k 0 0 w5) ∧ ∀ k1 (now_13 : Int) (i_14 : Int) (w6 : World), I1 k1 now_13 i_14 w6 →
      VIf (decide (i_14 < (IntKind.wrap .i64 (Int.tmod (IntKind.wrap .u64 lost_3) 20)))) (
        VCall none Try.prog 17 #[.pointer r45_0, .int .i64 now_13] w6 (.tuple #[.int .i64 0, .agg #[.slice none 0 0, .slice none 0 0, .bool false], .bool false]) fun (r60_0 : Int) (r60_1 : Sl) (r60_2 : Sl) (r60_3 : Bool) (r60_4 : Bool) (w7 : World) =>
        VSet (IntKind.wrap .i64 (now_13 + 1)) fun (now_13' : Int) =>
        VSet (IntKind.wrap .i64 (i_14 + 1)) fun (i_14' : Int) =>
        ∃ k', k' < k1 ∧ I1 k' now_13' i_14' w7
      ) (
        VSet (IntKind.wrap .i64 (now_13 + pause_10)) fun (now_13'' : Int) =>
        VCall none Try.prog 24 #[] w6 (.pointer none) fun (r66 : Option Addr) (w8 : World) =>
        ∃ I2 : Nat → Int → World → Prop, (∃ k, I2 k 0 w8) ∧ ∀ k2 (i_16 : Int) (w9 : World), I2 k2 i_16 w9 →
        VIf (decide (i_16 < ((r36.len : Nat) : Int))) (
          VCall none Try.prog 17 #[.pointer r45_0, .int .i64 now_13''] w9 (.tuple #[.int .i64 0, .agg #[.slice none 0 0, .slice none 0 0, .bool false], .bool false]) fun (r76_0 : Int) (r76_1 : Sl) (r76_2 : Sl) (r76_3 : Bool) (r76_4 : Bool) (w10 : World) =>
          VNw none w10 (.cells #[.slice none 0 0, .slice none 0 0, .bool false] 33) fun (p_18 : Nat) (w11 : World) =>
          VSet r76_0 fun (k_17 : Int) =>
          VSt none w11 ⟨p_18, 0, none⟩ [.slice r76_1.base r76_1.len r76_1.cap, .slice r76_2.base r76_2.len r76_2.cap, .bool r76_3] fun (w12 : World) =>
          VCall (some (!(!r76_4))) Try.prog 21 #[.pointer r45_0] w12 (.bool false) fun (r84 : Bool) (w13 : World) =>
          VIf ((!r76_4) || r84) (
            R (.returned (.bool false)) w13
          ) (
            VLd none w13 ⟨p_18, 0, none⟩ [CT.sl, CT.sl, CT.bool] fun (v89_0 : Sl) (v89_1 : Sl) (v89_2 : Bool) =>
            VCall none Try.prog 25 #[.pointer r66, .int .i64 k_17, .agg #[.slice v89_0.base v89_0.len v89_0.cap, .slice v89_1.base v89_1.len v89_1.cap, .bool v89_2]] w13 (.tuple #[.int .i64 0, .bool false, .int .i64 0]) fun (r90_0 : Int) (r90_1 : Bool) (r90_2 : Int) (w14 : World) =>
            VSet r90_0 fun (n_20 : Int) =>
            VSet r90_2 fun (f_22 : Int) =>
            VCall (some (!((f_22 != 0) || (!r90_1)))) Try.prog 19 #[.pointer r45_0, .int .i64 n_20] w14 (.int .i64 0) fun (r103 : Int) (w15 : World) =>
            VIf (((f_22 != 0) || (!r90_1)) || (r103 != 0)) (
              R (.returned (.bool false)) w15
            ) (
              VSet (IntKind.wrap .i64 (i_16 + 1)) fun (i_16' : Int) =>
              ∃ k', k' < k2 ∧ I2 k' i_16' w15
            )
          )
        ) (
          VCall none Try.prog 17 #[.pointer r45_0, .int .i64 (IntKind.wrap .i64 (now_13'' + 5000))] w9 (.tuple #[.int .i64 0, .agg #[.slice none 0 0, .slice none 0 0, .bool false], .bool false]) fun (r110_0 : Int) (r110_1 : Sl) (r110_2 : Sl) (r110_3 : Bool) (r110_4 : Bool) (w16 : World) =>
          VNw none w16 (.cells #[.slice none 0 0, .slice none 0 0, .bool false] 33) fun (b24 : Nat) (w17 : World) =>
          VSet r110_0 fun (v23 : Int) =>
          VSt none w17 ⟨b24, 0, none⟩ [.slice r110_1.base r110_1.len r110_1.cap, .slice r110_2.base r110_2.len r110_2.cap, .bool r110_3] fun (w18 : World) =>
          VCall none Try.prog 21 #[.pointer r45_0] w18 (.bool false) fun (r115 : Bool) (w19 : World) =>
          VCall (some r115) Try.prog 26 #[.pointer r66] w19 (.bool false) fun (r118 : Bool) (w20 : World) =>
          R (.returned (.bool ((r115 && r118) && (!r110_4)))) w20
        )
      )
    )
  )
theorem sh_butterylaw23_HandEnds_ok (pairs_0 : Sl) (lasts_1 : Sl) (every_2 : Int) (lost_3 : Int) (w : World) (R : Ending → World → Prop) (h : sh_butterylaw23_HandEnds pairs_0 lasts_1 every_2 lost_3 w R) : Calls Try.prog 6 #[.slice pairs_0.base pairs_0.len pairs_0.cap, .slice lasts_1.base lasts_1.len lasts_1.cap, .int .i64 every_2, .int .i64 lost_3] w R :=
  calls_of_sh (args := [.slice pairs_0.base pairs_0.len pairs_0.cap, .slice lasts_1.base lasts_1.len lasts_1.cap, .int .i64 every_2, .int .i64 lost_3]) (.two .auto (.two (.two .auto (.two (.two .auto .auto) .auto)) (.two .auto (.two .auto (.two .auto (.two (.two .auto (.two (.two .auto .auto) .auto)) (.two .auto (.two (.two .auto (.one (.loop [(13, .int .i64 0), (14, .int .i64 0)] (.two (.two .auto (.two .auto .auto)) (.two (.one (.two .auto .auto)) .auto))))) (.two .auto (.two .auto (.two (.two .auto (.one (.loop [(16, .int .i64 0)] (.two (.two .auto (.two .auto .auto)) (.two (.one (.two .auto (.two (.two .auto (.two (.two .auto .auto) .auto)) (.two .auto (.two .auto (.two (.two .auto .auto) .auto)))))) .auto))))) (.two .auto (.two .auto .auto))))))))))))) Try.func6 (by kernel_rfl) (by kernel_rfl) (by kernel_rfl) h

/-- 7: buttery/butterylaw23.HandNames -/
def sh_butterylaw23_HandNames (w : World) (R : Ending → World → Prop) : Prop :=
  VCall none Try.prog 22 #[] w (.bool false) fun (r36 : Bool) (w1 : World) =>
  VIf ((((((!r36) || false) || false) || false) || false) || false) (
    R (.returned (.bool false)) w1
  ) (
    VMk none w1 5 1 1 #[.int .u8 0] 1969 1969 fun (b48 : Nat) (w2 : World) =>
    VStr none w2 (some ⟨b48, 0, none⟩) 1969 fun (s49 : ByteArray) =>
    VNw none w2 (.cells #[.int .i64 0, .int .i64 0, .int .u8 0, .bool false, .string ByteArray.empty] 68) fun (heavy_1 : Nat) (w3 : World) =>
    VSt none w3 ⟨heavy_1, 0, none⟩ [.int .i64 0, .int .i64 0, .int .u8 0, .bool false, .string s49] fun (w4 : World) =>
    VMk none w4 5 1 1 #[.int .u8 0] 1968 1968 fun (b52 : Nat) (w5 : World) =>
    VStr none w5 (some ⟨b52, 0, none⟩) 1968 fun (s53 : ByteArray) =>
    VNw none w5 (.cells #[.int .i64 0, .int .i64 0, .int .u8 0, .bool false, .string ByteArray.empty] 68) fun (light_2 : Nat) (w6 : World) =>
    VSt none w6 ⟨light_2, 0, none⟩ [.int .i64 0, .int .i64 0, .int .u8 0, .bool false, .string s53] fun (w7 : World) =>
    VLd none w7 ⟨heavy_1, 0, none⟩ [CT.int .i64, CT.int .i64, CT.int .u8, CT.bool, CT.str] fun (v56_0 : Int) (v56_1 : Int) (v56_2 : Int) (v56_3 : Bool) (v56_4 : ByteArray) =>
    VLd none w7 ⟨light_2, 0, none⟩ [CT.int .i64, CT.int .i64, CT.int .u8, CT.bool, CT.str] fun (v57_0 : Int) (v57_1 : Int) (v57_2 : Int) (v57_3 : Bool) (v57_4 : ByteArray) =>
    VNw none w7 (.cells #[.int .i64 v56_0, .int .i64 v56_1, .int .u8 v56_2, .bool v56_3, .string v56_4, .int .i64 v57_0, .int .i64 v57_1, .int .u8 v57_2, .bool v57_3, .string v57_4] 68) fun (b58 : Nat) (w8 : World) =>
    VCall none Try.prog 11 #[.slice none 0 0, .slice (some ⟨b58, 0, none⟩) 2 2] w8 (.slice none 0 0) fun (r59 : Sl) (w9 : World) =>
    VLd (some (!(((r59.len : Nat) : Int) != 2))) w9 ⟨light_2, 0, none⟩ [CT.int .i64, CT.int .i64, CT.int .u8, CT.bool, CT.str] fun (v63_0 : Int) (v63_1 : Int) (v63_2 : Int) (v63_3 : Bool) (v63_4 : ByteArray) =>
    VLd (some (!(((r59.len : Nat) : Int) != 2))) w9 ⟨light_2, 0, none⟩ [CT.int .i64, CT.int .i64, CT.int .u8, CT.bool, CT.str] fun (v64_0 : Int) (v64_1 : Int) (v64_2 : Int) (v64_3 : Bool) (v64_4 : ByteArray) =>
    VNw (some (!(((r59.len : Nat) : Int) != 2))) w9 (.cells #[.int .i64 v63_0, .int .i64 v63_1, .int .u8 v63_2, .bool v63_3, .string v63_4, .int .i64 v64_0, .int .i64 v64_1, .int .u8 v64_2, .bool v64_3, .string v64_4] 68) fun (b65 : Nat) (w10 : World) =>
    VCall (some (!(((r59.len : Nat) : Int) != 2))) Try.prog 11 #[.slice none 0 0, .slice (some ⟨b65, 0, none⟩) 2 2] w10 (.slice none 0 0) fun (r66 : Sl) (w11 : World) =>
    VMk (some (!((((r59.len : Nat) : Int) != 2) || (((r66.len : Nat) : Int) != 1)))) w11 68 5 40 #[.int .i64 0, .int .i64 0, .int .u8 0, .bool false, .string ByteArray.empty] 4 4 fun (b71 : Nat) (w12 : World) =>
    VCall (some (!((((r59.len : Nat) : Int) != 2) || (((r66.len : Nat) : Int) != 1)))) Try.prog 11 #[.slice none 0 0, .slice (some ⟨b71, 0, none⟩) 4 4] w12 (.slice none 0 0) fun (r72 : Sl) (w13 : World) =>
    VMk (some (!(((((r59.len : Nat) : Int) != 2) || (((r66.len : Nat) : Int) != 1)) || (((r72.len : Nat) : Int) != 1)))) w13 68 5 40 #[.int .i64 0, .int .i64 0, .int .u8 0, .bool false, .string ByteArray.empty] 5 5 fun (b77 : Nat) (w14 : World) =>
    VCall (some (!(((((r59.len : Nat) : Int) != 2) || (((r66.len : Nat) : Int) != 1)) || (((r72.len : Nat) : Int) != 1)))) Try.prog 11 #[.slice none 0 0, .slice (some ⟨b77, 0, none⟩) 5 5] w14 (.slice none 0 0) fun (r78 : Sl) (w15 : World) =>
    VIf ((((((r59.len : Nat) : Int) != 2) || (((r66.len : Nat) : Int) != 1)) || (((r72.len : Nat) : Int) != 1)) || (((r78.len : Nat) : Int) != 2)) (
      R (.returned (.bool false)) w15
    ) (
      VCall none Try.prog 11 #[.slice none 0 0, .slice none 0 0] w15 (.slice none 0 0) fun (r82 : Sl) (w16 : World) =>
      VCall none Try.prog 16 #[.slice none 0 0, .int .i64 4] w16 (.tuple #[.pointer none, .int .i64 0]) fun (r84_0 : Option Addr) (r84_1 : Int) (w17 : World) =>
      VSet r84_1 fun (a_5 : Int) =>
      VCall none Try.prog 16 #[.slice r82.base r82.len r82.cap, .int .i64 0] w17 (.tuple #[.pointer none, .int .i64 0]) fun (r89_0 : Option Addr) (r89_1 : Int) (w18 : World) =>
      VSet r89_1 fun (b_7 : Int) =>
      VCall none Try.prog 16 #[.slice r82.base r82.len r82.cap, .int .i64 1001] w18 (.tuple #[.pointer none, .int .i64 0]) fun (r94_0 : Option Addr) (r94_1 : Int) (w19 : World) =>
      VSet r94_1 fun (c_9 : Int) =>
      VCall none Try.prog 27 #[] w19 (.slice none 0 0) fun (r98 : Sl) (w20 : World) =>
      VCall none Try.prog 16 #[.slice r98.base r98.len r98.cap, .int .i64 1000] w20 (.tuple #[.pointer none, .int .i64 0]) fun (r99_0 : Option Addr) (r99_1 : Int) (w21 : World) =>
      VSet r99_1 fun (d_11 : Int) =>
      VIx (some (!(((r82.len : Nat) : Int) != 1))) r82.base r82.len 0 fun (a107 : Addr) =>
      VLd (some (!(((r82.len : Nat) : Int) != 1))) w21 (Addr.add a107 2) [CT.bool] fun (v109 : Bool) =>
      VCall (some (!((((((((r82.len : Nat) : Int) != 1) || (!v109)) || (a_5 != 1)) || (b_7 != 1)) || (c_9 != 1)) || (d_11 != 0)))) Try.prog 19 #[.pointer r99_0, .int .i64 3] w21 (.int .i64 0) fun (r130 : Int) (w22 : World) =>
      VCall (some (!(((((((((r82.len : Nat) : Int) != 1) || (!v109)) || (a_5 != 1)) || (b_7 != 1)) || (c_9 != 1)) || (d_11 != 0)) || (r130 != 1)))) Try.prog 19 #[.pointer r99_0, .int .i64 (-1)] w22 (.int .i64 0) fun (r135 : Int) (w23 : World) =>
      VCall (some (!((((((((((r82.len : Nat) : Int) != 1) || (!v109)) || (a_5 != 1)) || (b_7 != 1)) || (c_9 != 1)) || (d_11 != 0)) || (r130 != 1)) || (r135 != 1)))) Try.prog 19 #[.pointer r99_0, .int .i64 1] w23 (.int .i64 0) fun (r140 : Int) (w24 : World) =>
      VCall (some (!(((((((((((r82.len : Nat) : Int) != 1) || (!v109)) || (a_5 != 1)) || (b_7 != 1)) || (c_9 != 1)) || (d_11 != 0)) || (r130 != 1)) || (r135 != 1)) || (r140 != 0)))) Try.prog 19 #[.pointer r99_0, .int .i64 0] w24 (.int .i64 0) fun (r145 : Int) (w25 : World) =>
      VIf ((((((((((((r82.len : Nat) : Int) != 1) || (!v109)) || (a_5 != 1)) || (b_7 != 1)) || (c_9 != 1)) || (d_11 != 0)) || (r130 != 1)) || (r135 != 1)) || (r140 != 0)) || (r145 != 0)) (
        R (.returned (.bool false)) w25
      ) (
        VCall none Try.prog 17 #[.pointer r99_0, .int .i64 1] w25 (.tuple #[.int .i64 0, .agg #[.slice none 0 0, .slice none 0 0, .bool false], .bool false]) fun (r150_0 : Int) (r150_1 : Sl) (r150_2 : Sl) (r150_3 : Bool) (r150_4 : Bool) (w26 : World) =>
        VNw none w26 (.cells #[.slice none 0 0, .slice none 0 0, .bool false] 33) fun (b13 : Nat) (w27 : World) =>
        VSet r150_0 fun (k_12 : Int) =>
        VSt none w27 ⟨b13, 0, none⟩ [.slice r150_1.base r150_1.len r150_1.cap, .slice r150_2.base r150_2.len r150_2.cap, .bool r150_3] fun (w28 : World) =>
        VCall none Try.prog 24 #[] w28 (.pointer none) fun (r154 : Option Addr) (w29 : World) =>
        VIx none r82.base r82.len 0 fun (a158 : Addr) =>
        VLd none w29 a158 [CT.sl, CT.sl, CT.bool] fun (v159_0 : Sl) (v159_1 : Sl) (v159_2 : Bool) =>
        VCall none Try.prog 25 #[.pointer r154, .int .i64 1, .agg #[.slice v159_0.base v159_0.len v159_0.cap, .slice v159_1.base v159_1.len v159_1.cap, .bool v159_2]] w29 (.tuple #[.int .i64 0, .bool false, .int .i64 0]) fun (r160_0 : Int) (r160_1 : Bool) (r160_2 : Int) (w30 : World) =>
        VSet r160_0 fun (e_16 : Int) =>
        VSet r160_2 fun (v18 : Int) =>
        VIx none r82.base r82.len 0 fun (a167 : Addr) =>
        VLd none w30 a167 [CT.sl, CT.sl, CT.bool] fun (v168_0 : Sl) (v168_1 : Sl) (v168_2 : Bool) =>
        VCall none Try.prog 25 #[.pointer r154, .int .i64 0, .agg #[.slice v168_0.base v168_0.len v168_0.cap, .slice v168_1.base v168_1.len v168_1.cap, .bool v168_2]] w30 (.tuple #[.int .i64 0, .bool false, .int .i64 0]) fun (r169_0 : Int) (r169_1 : Bool) (r169_2 : Int) (w31 : World) =>
        VSet r169_0 fun (g_19 : Int) =>
        VSet r169_2 fun (v21 : Int) =>
        VIx none r82.base r82.len 0 fun (a176 : Addr) =>
        VLd none w31 a176 [CT.sl, CT.sl, CT.bool] fun (v177_0 : Sl) (v177_1 : Sl) (v177_2 : Bool) =>
        VCall none Try.prog 25 #[.pointer r154, .int .i64 1, .agg #[.slice v177_0.base v177_0.len v177_0.cap, .slice v177_1.base v177_1.len v177_1.cap, .bool v177_2]] w31 (.tuple #[.int .i64 0, .bool false, .int .i64 0]) fun (r178_0 : Int) (r178_1 : Bool) (r178_2 : Int) (w32 : World) =>
        VSet r178_0 fun (i_22 : Int) =>
        VSet r178_2 fun (v24 : Int) =>
        VIx none r82.base r82.len 0 fun (a185 : Addr) =>
        VLd none w32 a185 [CT.sl, CT.sl, CT.bool] fun (v186_0 : Sl) (v186_1 : Sl) (v186_2 : Bool) =>
        VCall none Try.prog 25 #[.pointer r154, .int .i64 (-1), .agg #[.slice v186_0.base v186_0.len v186_0.cap, .slice v186_1.base v186_1.len v186_1.cap, .bool v186_2]] w32 (.tuple #[.int .i64 0, .bool false, .int .i64 0]) fun (r187_0 : Int) (r187_1 : Bool) (r187_2 : Int) (w33 : World) =>
        VSet r187_0 fun (v25 : Int) =>
        VSet r187_2 fun (l_27 : Int) =>
        VCall none Try.prog 17 #[.pointer none, .int .i64 0] w33 (.tuple #[.int .i64 0, .agg #[.slice none 0 0, .slice none 0 0, .bool false], .bool false]) fun (r193_0 : Int) (r193_1 : Sl) (r193_2 : Sl) (r193_3 : Bool) (r193_4 : Bool) (w34 : World) =>
        VNw none w34 (.cells #[.slice none 0 0, .slice none 0 0, .bool false] 33) fun (b31 : Nat) (w35 : World) =>
        VSet r193_0 fun (v30 : Int) =>
        VSt none w35 ⟨b31, 0, none⟩ [.slice r193_1.base r193_1.len r193_1.cap, .slice r193_2.base r193_2.len r193_2.cap, .bool r193_3] fun (w36 : World) =>
        VIx none r82.base r82.len 0 fun (a200 : Addr) =>
        VLd none w36 a200 [CT.sl, CT.sl, CT.bool] fun (v201_0 : Sl) (v201_1 : Sl) (v201_2 : Bool) =>
        VCall none Try.prog 25 #[.pointer none, .int .i64 0, .agg #[.slice v201_0.base v201_0.len v201_0.cap, .slice v201_1.base v201_1.len v201_1.cap, .bool v201_2]] w36 (.tuple #[.int .i64 0, .bool false, .int .i64 0]) fun (r202_0 : Int) (r202_1 : Bool) (r202_2 : Int) (w37 : World) =>
        VSet r202_0 fun (v33 : Int) =>
        VSet r202_2 fun (n_35 : Int) =>
        VCall (some ((((((((k_12 == 1) && (e_16 == 0)) && (!r160_1)) && (g_19 == 1)) && r169_1) && (i_22 == 1)) && (!r178_1)) && (l_27 == 1))) Try.prog 26 #[.pointer r154] w37 (.bool false) fun (r237 : Bool) (w38 : World) =>
        VCall (some (((((((((k_12 == 1) && (e_16 == 0)) && (!r160_1)) && (g_19 == 1)) && r169_1) && (i_22 == 1)) && (!r178_1)) && (l_27 == 1)) && r237)) Try.prog 28 #[.pointer r154] w38 (.slice none 0 0) fun (r241 : Sl) (w39 : World) =>
        VCall (some ((((((((((((k_12 == 1) && (e_16 == 0)) && (!r160_1)) && (g_19 == 1)) && r169_1) && (i_22 == 1)) && (!r178_1)) && (l_27 == 1)) && r237) && (((r241.len : Nat) : Int) == 1)) && (!r193_4)) && (n_35 == 2))) Try.prog 19 #[.pointer none, .int .i64 0] w39 (.int .i64 0) fun (r255 : Int) (w40 : World) =>
        VCall (some (((((((((((((k_12 == 1) && (e_16 == 0)) && (!r160_1)) && (g_19 == 1)) && r169_1) && (i_22 == 1)) && (!r178_1)) && (l_27 == 1)) && r237) && (((r241.len : Nat) : Int) == 1)) && (!r193_4)) && (n_35 == 2)) && (r255 == 2))) Try.prog 21 #[.pointer none] w40 (.bool false) fun (r260 : Bool) (w41 : World) =>
        VCall (some ((((((((((((((k_12 == 1) && (e_16 == 0)) && (!r160_1)) && (g_19 == 1)) && r169_1) && (i_22 == 1)) && (!r178_1)) && (l_27 == 1)) && r237) && (((r241.len : Nat) : Int) == 1)) && (!r193_4)) && (n_35 == 2)) && (r255 == 2)) && (!r260))) Try.prog 26 #[.pointer none] w41 (.bool false) fun (r265 : Bool) (w42 : World) =>
        VCall (some (((((((((((((((k_12 == 1) && (e_16 == 0)) && (!r160_1)) && (g_19 == 1)) && r169_1) && (i_22 == 1)) && (!r178_1)) && (l_27 == 1)) && r237) && (((r241.len : Nat) : Int) == 1)) && (!r193_4)) && (n_35 == 2)) && (r255 == 2)) && (!r260)) && (!r265))) Try.prog 28 #[.pointer none] w42 (.slice none 0 0) fun (r270 : Sl) (w43 : World) =>
        R (.returned (.bool ((((((((((((((((k_12 == 1) && (e_16 == 0)) && (!r160_1)) && (g_19 == 1)) && r169_1) && (i_22 == 1)) && (!r178_1)) && (l_27 == 1)) && r237) && (((r241.len : Nat) : Int) == 1)) && (!r193_4)) && (n_35 == 2)) && (r255 == 2)) && (!r260)) && (!r265)) && (((r270.len : Nat) : Int) == 0)))) w43
      )
    )
  )
theorem sh_butterylaw23_HandNames_ok (w : World) (R : Ending → World → Prop) (h : sh_butterylaw23_HandNames w R) : Calls Try.prog 7 #[] w R :=
  calls_of_sh (args := []) (.two .auto (.two (.two .auto (.two (.two .auto .auto) .auto)) (.two .auto (.two .auto (.two (.two .auto (.two (.two .auto .auto) .auto)) (.two .auto (.two .auto (.two .auto (.two .auto (.two .auto (.two (.two .auto (.two (.two .auto .auto) .auto)) (.two .auto (.two .auto (.two .auto (.two .auto (.two .auto (.two .auto (.two .auto (.two .auto (.two .auto (.two .auto (.two .auto .auto)))))))))))))))))))))) Try.func7 (by kernel_rfl) (by kernel_rfl) (by kernel_rfl) h

/-- 8: buttery/butterylaw23.HandWhole -/
def sh_butterylaw23_HandWhole (pairs_0 : Sl) (lasts_1 : Sl) (every_2 : Int) (l_3 : Sl) (w : World) (R : Ending → World → Prop) : Prop :=
  VCall none Try.prog 22 #[] w (.bool false) fun (r29 : Bool) (w1 : World) =>
  VCall (some (!(!r29))) Try.prog 9 #[.slice pairs_0.base pairs_0.len pairs_0.cap, .slice lasts_1.base lasts_1.len lasts_1.cap] w1 (.bool false) fun (r34 : Bool) (w2 : World) =>
  VIf (((!r29) || r34) || (decide (((l_3.len : Nat) : Int) > 300))) (
    VCall none Try.prog 22 #[] w2 (.bool false) fun (r41 : Bool) (w3 : World) =>
    R (.returned (.bool r41)) w3
  ) (
    VCall none Try.prog 11 #[.slice pairs_0.base pairs_0.len pairs_0.cap, .slice lasts_1.base lasts_1.len lasts_1.cap] w2 (.slice none 0 0) fun (r44 : Sl) (w4 : World) =>
    VCall none Try.prog 16 #[.slice r44.base r44.len r44.cap, .int .i64 (IntKind.wrap .i64 (1 + (IntKind.wrap .i64 (Int.tmod (IntKind.wrap .u64 every_2) 1000))))] w4 (.tuple #[.pointer none, .int .i64 0]) fun (r52_0 : Option Addr) (r52_1 : Int) (w5 : World) =>
    VSet r52_1 fun (e_11 : Int) =>
    VIf (e_11 != 0) (
      R (.returned (.bool false)) w5
    ) (
      VCall none Try.prog 24 #[] w5 (.pointer none) fun (r57 : Option Addr) (w6 : World) =>
      ∃ I1 : Nat → Sl → Sl → Sl → Int → Int → World → Prop, (∃ k, I1 k ⟨none, 0, 0⟩ ⟨none, 0, 0⟩ ⟨none, 0, 0⟩ 0 0 w6) ∧ ∀ k1 (places_13 : Sl) (told_14 : Sl) (way_15 : Sl) (now_16 : Int) (i_17 : Int) (w7 : World), I1 k1 places_13 told_14 way_15 now_16 i_17 w7 →
      VIf (decide (i_17 < ((l_3.len : Nat) : Int))) (
        ∃ Φ2 : Sl → Sl → Sl → Int → World → Prop, (
          VIx none l_3.base l_3.len i_17 fun (a66 : Addr) =>
          VLd none w7 (Addr.add a66 ((Int.toNat i_17) * 2)) [CT.int .i64] fun (v68 : Int) =>
          ∃ Φ3 : Sl → Sl → Sl → Int → World → Prop, (
            VIf (v68 == 0) (
              VSet (IntKind.wrap .i64 (now_16 + 1)) fun (now_16_3 : Int) =>
              VCall none Try.prog 17 #[.pointer r52_0, .int .i64 now_16_3] w7 (.tuple #[.int .i64 0, .agg #[.slice none 0 0, .slice none 0 0, .bool false], .bool false]) fun (r98_0 : Int) (r98_1 : Sl) (r98_2 : Sl) (r98_3 : Bool) (r98_4 : Bool) (w8 : World) =>
              VNw none w8 (.cells #[.slice none 0 0, .slice none 0 0, .bool false] 33) fun (p_19 : Nat) (w9 : World) =>
              VSet r98_0 fun (k_18 : Int) =>
              VSt none w9 ⟨p_19, 0, none⟩ [.slice r98_1.base r98_1.len r98_1.cap, .slice r98_2.base r98_2.len r98_2.cap, .bool r98_3] fun (w10 : World) =>
              VIf r98_4 (
                VNw none w10 (.cells #[.int .i64 k_18] 3) fun (b105 : Nat) (w11 : World) =>
                VApp none w11 3 1 8 #[.int .i64 0] places_13.base places_13.len places_13.cap 1 (fun news => Seg w11 (some ⟨b105, 0, none⟩) 1 1 news) fun (l106 : Sl) (w12 : World) =>
                VLd none w12 ⟨p_19, 0, none⟩ [CT.sl, CT.sl, CT.bool] fun (v108_0 : Sl) (v108_1 : Sl) (v108_2 : Bool) =>
                VNw none w12 (.cells #[.slice v108_0.base v108_0.len v108_0.cap, .slice v108_1.base v108_1.len v108_1.cap, .bool v108_2] 33) fun (b109 : Nat) (w13 : World) =>
                VApp none w13 33 3 56 #[.slice none 0 0, .slice none 0 0, .bool false] way_15.base way_15.len way_15.cap 1 (fun news => Seg w13 (some ⟨b109, 0, none⟩) 1 3 news) fun (l110 : Sl) (w14 : World) =>
                Φ3 l106 told_14 l110 now_16_3 w14
              ) (
                Φ3 places_13 told_14 way_15 now_16_3 w10
              )
            ) (
              VIf (v68 == 1) (
                VIf (((way_15.len : Nat) : Int) == 0) (
                  Φ2 places_13 told_14 way_15 now_16 w7
                ) (
                  VIx none l_3.base l_3.len i_17 fun (a118 : Addr) =>
                  VLd none w7 (Addr.add (Addr.add a118 ((Int.toNat i_17) * 2)) 1) [CT.int .i64] fun (v120 : Int) =>
                  VCk none (((IntKind.wrap .u64 ((way_15.len : Nat) : Int)) : Int) ≠ 0) (
                    VSet (IntKind.wrap .i64 (Int.tmod (IntKind.wrap .u64 v120) (IntKind.wrap .u64 ((way_15.len : Nat) : Int)))) fun (k_21 : Int) =>
                    ∀ (w15 : World), w15 = World.drew w7 →
                    VIx none places_13.base places_13.len k_21 fun (a131 : Addr) =>
                    VLd none w15 (Addr.add a131 ((Int.toNat k_21) * 1)) [CT.int .i64] fun (v132 : Int) =>
                    VIx none way_15.base way_15.len k_21 fun (a135 : Addr) =>
                    VLd none w15 (Addr.add a135 ((Int.toNat k_21) * 3)) [CT.sl, CT.sl, CT.bool] fun (v136_0 : Sl) (v136_1 : Sl) (v136_2 : Bool) =>
                    VCall none Try.prog 25 #[.pointer r57, .int .i64 v132, .agg #[.slice v136_0.base v136_0.len v136_0.cap, .slice v136_1.base v136_1.len v136_1.cap, .bool v136_2]] w15 (.tuple #[.int .i64 0, .bool false, .int .i64 0]) fun (r137_0 : Int) (r137_1 : Bool) (r137_2 : Int) (w16 : World) =>
                    VSet r137_0 fun (n_22 : Int) =>
                    VSet r137_2 fun (f_24 : Int) =>
                    VIf (f_24 != 0) (
                      R (.returned (.bool false)) w16
                    ) (
                      VNw none w16 (.cells #[.int .i64 n_22] 3) fun (b145 : Nat) (w17 : World) =>
                      VApp none w17 3 1 8 #[.int .i64 0] told_14.base told_14.len told_14.cap 1 (fun news => Seg w17 (some ⟨b145, 0, none⟩) 1 1 news) fun (l146 : Sl) (w18 : World) =>
                      Φ3 places_13 l146 way_15 now_16 w18
                    )
                  )
                )
              ) (
                VIx (some (decide (((told_14.len : Nat) : Int) > 0))) l_3.base l_3.len i_17 fun (a77 : Addr) =>
                VLd (some (decide (((told_14.len : Nat) : Int) > 0))) w7 (Addr.add (Addr.add a77 ((Int.toNat i_17) * 2)) 1) [CT.int .i64] fun (v79 : Int) =>
                VCk (some (decide (((told_14.len : Nat) : Int) > 0))) (((IntKind.wrap .u64 ((told_14.len : Nat) : Int)) : Int) ≠ 0) (
                  VIx (some (decide (((told_14.len : Nat) : Int) > 0))) told_14.base told_14.len (IntKind.wrap .i64 (Int.tmod (IntKind.wrap .u64 v79) (IntKind.wrap .u64 ((told_14.len : Nat) : Int)))) fun (a86 : Addr) =>
                  VLd (some (decide (((told_14.len : Nat) : Int) > 0))) w7 (Addr.add a86 ((Int.toNat (IntKind.wrap .i64 (Int.tmod (IntKind.wrap .u64 v79) (IntKind.wrap .u64 ((told_14.len : Nat) : Int))))) * 1)) [CT.int .i64] fun (v87 : Int) =>
                  VCall (some (decide (((told_14.len : Nat) : Int) > 0))) Try.prog 19 #[.pointer r52_0, .int .i64 v87] w7 (.int .i64 0) fun (r88 : Int) (w19 : World) =>
                  VIf ((decide (((told_14.len : Nat) : Int) > 0)) && (r88 != 0)) (
                    R (.returned (.bool false)) w19
                  ) (
                    Φ3 places_13 told_14 way_15 now_16 w19
                  )
                )
              )
            )
          ) ∧ ∀ (places_13'' : Sl) (told_14'' : Sl) (way_15'' : Sl) (now_16'' : Int) (w20 : World), Φ3 places_13'' told_14'' way_15'' now_16'' w20 →
          VCall none Try.prog 28 #[.pointer r57] w20 (.slice none 0 0) fun (r148 : Sl) (w21 : World) =>
          VCall (some (!(decide (((r148.len : Nat) : Int) > ((r44.len : Nat) : Int))))) Try.prog 26 #[.pointer r57] w21 (.bool false) fun (r156 : Bool) (w22 : World) =>
          VCall (some (!((decide (((r148.len : Nat) : Int) > ((r44.len : Nat) : Int))) || (!(r156 == (((r148.len : Nat) : Int) == ((r44.len : Nat) : Int))))))) Try.prog 21 #[.pointer r52_0] w22 (.bool false) fun (r166 : Bool) (w23 : World) =>
          VCall (some ((!((decide (((r148.len : Nat) : Int) > ((r44.len : Nat) : Int))) || (!(r156 == (((r148.len : Nat) : Int) == ((r44.len : Nat) : Int)))))) && r166)) Try.prog 26 #[.pointer r57] w23 (.bool false) fun (r169 : Bool) (w24 : World) =>
          VIf (((decide (((r148.len : Nat) : Int) > ((r44.len : Nat) : Int))) || (!(r156 == (((r148.len : Nat) : Int) == ((r44.len : Nat) : Int))))) || (r166 && (!r169))) (
            R (.returned (.bool false)) w24
          ) (
            ∃ I4 : Nat → Int → World → Prop, (∃ k, I4 k 0 w24) ∧ ∀ k4 (k_26 : Int) (w25 : World), I4 k4 k_26 w25 →
            VIf (decide (k_26 < ((r148.len : Nat) : Int))) (
              ∀ (w26 : World), w26 = World.drew w25 →
              VIx none r148.base r148.len k_26 fun (a181 : Addr) =>
              VLd none w26 (Addr.add a181 ((Int.toNat k_26) * 3)) [CT.sl, CT.sl, CT.bool] fun (v182_0 : Sl) (v182_1 : Sl) (v182_2 : Bool) =>
              VIx none r44.base r44.len k_26 fun (a186 : Addr) =>
              VLd none w26 (Addr.add a186 ((Int.toNat k_26) * 3)) [CT.sl, CT.sl, CT.bool] fun (v187_0 : Sl) (v187_1 : Sl) (v187_2 : Bool) =>
              VCall none Try.prog 13 #[.agg #[.slice v182_0.base v182_0.len v182_0.cap, .slice v182_1.base v182_1.len v182_1.cap, .bool v182_2]] w26 (.agg #[.slice none 0 0, .slice none 0 0, .bool false]) fun (r183_0 : Sl) (r183_1 : Sl) (r183_2 : Bool) (w27 : World) =>
              Rd w27 (Addr.add a186 ((Int.toNat k_26) * 3)) [.slice v187_0.base v187_0.len v187_0.cap, .slice v187_1.base v187_1.len v187_1.cap, .bool v187_2] ∧
              VCall none Try.prog 13 #[.agg #[.slice v187_0.base v187_0.len v187_0.cap, .slice v187_1.base v187_1.len v187_1.cap, .bool v187_2]] w27 (.agg #[.slice none 0 0, .slice none 0 0, .bool false]) fun (r188_0 : Sl) (r188_1 : Sl) (r188_2 : Bool) (w28 : World) =>
              VCall none Try.prog 12 #[.agg #[.slice r183_0.base r183_0.len r183_0.cap, .slice r183_1.base r183_1.len r183_1.cap, .bool r183_2], .agg #[.slice r188_0.base r188_0.len r188_0.cap, .slice r188_1.base r188_1.len r188_1.cap, .bool r188_2]] w28 (.bool false) fun (r189 : Bool) (w29 : World) =>
              VIf (!r189) (
                R (.returned (.bool false)) w29
              ) (
                VSet (IntKind.wrap .i64 (k_26 + 1)) fun (k_26' : Int) =>
                ∃ k', k' < k4 ∧ I4 k' k_26' w29
              )
            ) (
              Φ2 ⟨places_13''.base, places_13''.len, places_13''.cap⟩ ⟨told_14''.base, told_14''.len, told_14''.cap⟩ ⟨way_15''.base, way_15''.len, way_15''.cap⟩ now_16'' w25
            )
          )
        ) ∧ ∀ (places_13' : Sl) (told_14' : Sl) (way_15' : Sl) (now_16' : Int) (w30 : World), Φ2 places_13' told_14' way_15' now_16' w30 →
        VSet (IntKind.wrap .i64 (i_17 + 1)) fun (i_17' : Int) =>
        ∃ k', k' < k1 ∧ I1 k' ⟨places_13'.base, places_13'.len, places_13'.cap⟩ ⟨told_14'.base, told_14'.len, told_14'.cap⟩ ⟨way_15'.base, way_15'.len, way_15'.cap⟩ now_16' i_17' w30
      ) (
        VCall none Try.prog 26 #[.pointer r57] w7 (.bool false) fun (r192 : Bool) (w31 : World) =>
        VIf (!r192) (
          R (.returned (.bool true)) w31
        ) (
          VCall none Try.prog 28 #[.pointer r57] w31 (.slice none 0 0) fun (r196 : Sl) (w32 : World) =>
          VCall none Try.prog 14 #[.slice r196.base r196.len r196.cap] w32 (.tuple #[.slice none 0 0, .slice none 0 0]) fun (r197_0 : Sl) (r197_1 : Sl) (w33 : World) =>
          VCall none Try.prog 12 #[.agg #[.slice r197_0.base r197_0.len r197_0.cap, .slice r197_1.base r197_1.len r197_1.cap, .bool false], .agg #[.slice pairs_0.base pairs_0.len pairs_0.cap, .slice lasts_1.base lasts_1.len lasts_1.cap, .bool false]] w33 (.bool false) fun (r206 : Bool) (w34 : World) =>
          R (.returned (.bool r206)) w34
        )
      )
    )
  )
theorem sh_butterylaw23_HandWhole_ok (pairs_0 : Sl) (lasts_1 : Sl) (every_2 : Int) (l_3 : Sl) (w : World) (R : Ending → World → Prop) (h : sh_butterylaw23_HandWhole pairs_0 lasts_1 every_2 l_3 w R) : Calls Try.prog 8 #[.slice pairs_0.base pairs_0.len pairs_0.cap, .slice lasts_1.base lasts_1.len lasts_1.cap, .int .i64 every_2, .slice l_3.base l_3.len l_3.cap] w R :=
  calls_of_sh (args := [.slice pairs_0.base pairs_0.len pairs_0.cap, .slice lasts_1.base lasts_1.len lasts_1.cap, .int .i64 every_2, .slice l_3.base l_3.len l_3.cap]) (.two .auto (.two (.two .auto (.two (.two .auto .auto) .auto)) (.two .auto (.two .auto (.two (.two .auto (.two (.two .auto .auto) .auto)) (.two .auto (.two .auto (.two .auto (.two .auto (.two (.two .auto (.one (.loop [(13, .slice none 0 0), (14, .slice none 0 0), (15, .slice none 0 0), (16, .int .i64 0), (17, .int .i64 0)] (.two (.two .auto (.two .auto .auto)) (.two (.bjoin [(13, .slice none 0 0), (14, .slice none 0 0), (15, .slice none 0 0), (16, .int .i64 0)] (.two (.two .auto (.bjoin [(13, .slice none 0 0), (14, .slice none 0 0), (15, .slice none 0 0), (16, .int .i64 0)] (.two .auto (.two (.two .auto (.two .auto (.two .auto (.two (.two .auto .auto) .auto)))) (.two .auto (.two (.two (.two .auto (.two .auto .auto)) (.two .auto (.two .auto (.two (.two .auto (.two (.two .auto .auto) .auto)) .auto)))) (.two .auto (.two (.two .auto .auto) .auto)))))))) (.two .auto (.two (.two .auto (.two (.two .auto .auto) .auto)) (.two .auto (.one (.loop [(26, .int .i64 0)] (.two (.two .auto (.two .auto .auto)) (.two (.one (.two .auto (.two (.two .auto .auto) .auto))) .auto))))))))) .auto))))) (.two (.two .auto (.two (.two .auto .auto) .auto)) (.two .auto (.two .auto .auto))))))))))))) Try.func8 (by kernel_rfl) (by kernel_rfl) (by kernel_rfl) h

/-- 9: buttery/butterylaw23.long -/
def sh_butterylaw23_long (pairs_0 : Sl) (lasts_1 : Sl) (w : World) (R : Ending → World → Prop) : Prop :=
  ∃ I1 : Nat → Int → Int → World → Prop, (∃ k, I1 k 0 0 w) ∧ ∀ k1 (n_5 : Int) (i_6 : Int) (w1 : World), I1 k1 n_5 i_6 w1 →
  VIf (decide (i_6 < ((pairs_0.len : Nat) : Int))) (
    ∀ (w2 : World), w2 = World.drew w1 →
    VIx none pairs_0.base pairs_0.len i_6 fun (a17 : Addr) =>
    VLd none w2 (Addr.add a17 ((Int.toNat i_6) * 2)) [CT.str] fun (v19 : ByteArray) =>
    VIx none pairs_0.base pairs_0.len i_6 fun (a24 : Addr) =>
    VLd none w2 (Addr.add (Addr.add a24 ((Int.toNat i_6) * 2)) 1) [CT.str] fun (v26 : ByteArray) =>
    VSet (IntKind.wrap .i64 ((IntKind.wrap .i64 (n_5 + ((v19.size : Nat) : Int))) + ((v26.size : Nat) : Int))) fun (n_5' : Int) =>
    VSet (IntKind.wrap .i64 (i_6 + 1)) fun (i_6' : Int) =>
    ∃ k', k' < k1 ∧ I1 k' n_5' i_6' w2
  ) (
    ∃ I2 : Nat → Int → Int → World → Prop, (∃ k, I2 k n_5 0 w1) ∧ ∀ k2 (n_5'' : Int) (i_7 : Int) (w3 : World), I2 k2 n_5'' i_7 w3 →
    VIf (decide (i_7 < ((lasts_1.len : Nat) : Int))) (
      VIx none lasts_1.base lasts_1.len i_7 fun (a38 : Addr) =>
      VLd none w3 (Addr.add (Addr.add a38 ((Int.toNat i_7) * 5)) 4) [CT.str] fun (v41 : ByteArray) =>
      VSet (IntKind.wrap .i64 (n_5'' + ((v41.size : Nat) : Int))) fun (n_5_3 : Int) =>
      VSet (IntKind.wrap .i64 (i_7 + 1)) fun (i_7' : Int) =>
      ∃ k', k' < k2 ∧ I2 k' n_5_3 i_7' w3
    ) (
      R (.returned (.bool ((decide ((IntKind.wrap .i64 (((pairs_0.len : Nat) : Int) + ((lasts_1.len : Nat) : Int))) > 300)) || (decide (n_5'' > 60000))))) w3
    )
  )
theorem sh_butterylaw23_long_ok (pairs_0 : Sl) (lasts_1 : Sl) (w : World) (R : Ending → World → Prop) (h : sh_butterylaw23_long pairs_0 lasts_1 w R) : Calls Try.prog 9 #[.slice pairs_0.base pairs_0.len pairs_0.cap, .slice lasts_1.base lasts_1.len lasts_1.cap] w R :=
  calls_of_sh (args := [.slice pairs_0.base pairs_0.len pairs_0.cap, .slice lasts_1.base lasts_1.len lasts_1.cap]) (.two .auto (.two .auto (.two (.two .auto (.one (.loop [(5, .int .i64 0), (6, .int .i64 0)] (.two (.two .auto (.two .auto .auto)) (.two (.one .auto) .auto))))) (.two (.two .auto (.one (.loop [(5, .int .i64 0), (7, .int .i64 0)] (.two (.two .auto (.two .auto .auto)) (.two (.one .auto) .auto))))) (.two .auto .auto))))) Try.func9 (by kernel_rfl) (by kernel_rfl) (by kernel_rfl) h

/-- 10: buttery/butteryref23.Cut -/
def sh_butteryref23_Cut (pairs_0 : Sl) (lasts_1 : Sl) (w : World) (R : Ending → World → Prop) : Prop :=
  VNw none w (.cells #[.slice none 0 0, .slice none 0 0, .bool false] 31) fun (now_6 : Nat) (w1 : World) =>
  VSt none w1 ⟨now_6, 0, none⟩ [.slice none 0 0, .slice none 0 0, .bool false] fun (w2 : World) =>
  ∃ I1 : Nat → Sl → Int → World → Prop, (∃ k, I1 k ⟨none, 0, 0⟩ 0 w2) ∧ ∀ k1 (out_5 : Sl) (i_7 : Int) (w3 : World), I1 k1 out_5 i_7 w3 →
  VIf (decide (i_7 < ((pairs_0.len : Nat) : Int))) (
    ∃ Φ2 : Option Addr → World → Prop, (
      ∀ (w4 : World), w4 = World.drew w3 →
      VLd none w4 ⟨now_6, 0, none⟩ [CT.sl] fun (v20 : Sl) =>
      VIx none pairs_0.base pairs_0.len i_7 fun (a24 : Addr) =>
      VLd none w4 (Addr.add a24 ((Int.toNat i_7) * 2)) [CT.str, CT.str] fun (v25_0 : ByteArray) (v25_1 : ByteArray) =>
      (
        VNw none w4 (.cells #[] 37) fun (b18 : Nat) (w5 : World) =>
        Rd w5 (Addr.add a24 ((Int.toNat i_7) * 2)) [.string v25_0, .string v25_1] ∧
        Rd w5 ⟨now_6, 0, none⟩ [.slice v20.base v20.len v20.cap] ∧
        (
          VApp none w5 37 2 32 #[.string ByteArray.empty, .string ByteArray.empty] (some ⟨b18, 0, none⟩) 0 0 v20.len (fun news => Seg w5 v20.base v20.len 2 news) fun (l21 : Sl) (w6 : World) =>
          Rd w6 (Addr.add a24 ((Int.toNat i_7) * 2)) [.string v25_0, .string v25_1] ∧
          (
            VNw none w6 (.cells #[.string v25_0, .string v25_1] 37) fun (b26 : Nat) (w7 : World) =>
            (
              VApp none w7 37 2 32 #[.string ByteArray.empty, .string ByteArray.empty] l21.base l21.len l21.cap 1 (fun news => Seg w7 (some ⟨b26, 0, none⟩) 1 2 news) fun (l27 : Sl) (w8 : World) =>
              VNw none w8 (.cells #[.slice none 0 0, .slice none 0 0, .bool false] 31) fun (more_8 : Nat) (w9 : World) =>
              VSt none w9 ⟨more_8, 0, none⟩ [.slice l27.base l27.len l27.cap, .slice none 0 0, .bool false] fun (w10 : World) =>
              Φ2 (some ⟨more_8, 0, none⟩) w10
            ) ∧ (
              VNw none w7 (.cells #[.slice none 0 0, .slice none 0 0, .bool false] 31) fun (more_8 : Nat) (w11 : World) =>
              VApp none w11 37 2 32 #[.string ByteArray.empty, .string ByteArray.empty] l21.base l21.len l21.cap 1 (fun news => Seg w11 (some ⟨b26, 0, none⟩) 1 2 news) fun (l27 : Sl) (w12 : World) =>
              VSt none w12 ⟨more_8, 0, none⟩ [.slice l27.base l27.len l27.cap, .slice none 0 0, .bool false] fun (w13 : World) =>
              Φ2 (some ⟨more_8, 0, none⟩) w13
            )
          ) ∧ (
            VNw none w6 (.cells #[.slice none 0 0, .slice none 0 0, .bool false] 31) fun (more_8 : Nat) (w14 : World) =>
            Rd w14 (Addr.add a24 ((Int.toNat i_7) * 2)) [.string v25_0, .string v25_1] ∧
            VNw none w14 (.cells #[.string v25_0, .string v25_1] 37) fun (b26 : Nat) (w15 : World) =>
            VApp none w15 37 2 32 #[.string ByteArray.empty, .string ByteArray.empty] l21.base l21.len l21.cap 1 (fun news => Seg w15 (some ⟨b26, 0, none⟩) 1 2 news) fun (l27 : Sl) (w16 : World) =>
            VSt none w16 ⟨more_8, 0, none⟩ [.slice l27.base l27.len l27.cap, .slice none 0 0, .bool false] fun (w17 : World) =>
            Φ2 (some ⟨more_8, 0, none⟩) w17
          )
        ) ∧ (
        (
          VNw none w5 (.cells #[.string v25_0, .string v25_1] 37) fun (b26 : Nat) (w18 : World) =>
          Rd w18 ⟨now_6, 0, none⟩ [.slice v20.base v20.len v20.cap] ∧
          (
            VApp none w18 37 2 32 #[.string ByteArray.empty, .string ByteArray.empty] (some ⟨b18, 0, none⟩) 0 0 v20.len (fun news => Seg w18 v20.base v20.len 2 news) fun (l21 : Sl) (w19 : World) =>
            (
              VApp none w19 37 2 32 #[.string ByteArray.empty, .string ByteArray.empty] l21.base l21.len l21.cap 1 (fun news => Seg w19 (some ⟨b26, 0, none⟩) 1 2 news) fun (l27 : Sl) (w20 : World) =>
              VNw none w20 (.cells #[.slice none 0 0, .slice none 0 0, .bool false] 31) fun (more_8 : Nat) (w21 : World) =>
              VSt none w21 ⟨more_8, 0, none⟩ [.slice l27.base l27.len l27.cap, .slice none 0 0, .bool false] fun (w22 : World) =>
              Φ2 (some ⟨more_8, 0, none⟩) w22
            ) ∧ (
              VNw none w19 (.cells #[.slice none 0 0, .slice none 0 0, .bool false] 31) fun (more_8 : Nat) (w23 : World) =>
              VApp none w23 37 2 32 #[.string ByteArray.empty, .string ByteArray.empty] l21.base l21.len l21.cap 1 (fun news => Seg w23 (some ⟨b26, 0, none⟩) 1 2 news) fun (l27 : Sl) (w24 : World) =>
              VSt none w24 ⟨more_8, 0, none⟩ [.slice l27.base l27.len l27.cap, .slice none 0 0, .bool false] fun (w25 : World) =>
              Φ2 (some ⟨more_8, 0, none⟩) w25
            )
          ) ∧ (
            VNw none w18 (.cells #[.slice none 0 0, .slice none 0 0, .bool false] 31) fun (more_8 : Nat) (w26 : World) =>
            Rd w26 ⟨now_6, 0, none⟩ [.slice v20.base v20.len v20.cap] ∧
            VApp none w26 37 2 32 #[.string ByteArray.empty, .string ByteArray.empty] (some ⟨b18, 0, none⟩) 0 0 v20.len (fun news => Seg w26 v20.base v20.len 2 news) fun (l21 : Sl) (w27 : World) =>
            VApp none w27 37 2 32 #[.string ByteArray.empty, .string ByteArray.empty] l21.base l21.len l21.cap 1 (fun news => Seg w27 (some ⟨b26, 0, none⟩) 1 2 news) fun (l27 : Sl) (w28 : World) =>
            VSt none w28 ⟨more_8, 0, none⟩ [.slice l27.base l27.len l27.cap, .slice none 0 0, .bool false] fun (w29 : World) =>
            Φ2 (some ⟨more_8, 0, none⟩) w29
          )
        ) ∧ (
          VNw none w5 (.cells #[.slice none 0 0, .slice none 0 0, .bool false] 31) fun (more_8 : Nat) (w30 : World) =>
          Rd w30 (Addr.add a24 ((Int.toNat i_7) * 2)) [.string v25_0, .string v25_1] ∧
          Rd w30 ⟨now_6, 0, none⟩ [.slice v20.base v20.len v20.cap] ∧
          (
            VApp none w30 37 2 32 #[.string ByteArray.empty, .string ByteArray.empty] (some ⟨b18, 0, none⟩) 0 0 v20.len (fun news => Seg w30 v20.base v20.len 2 news) fun (l21 : Sl) (w31 : World) =>
            Rd w31 (Addr.add a24 ((Int.toNat i_7) * 2)) [.string v25_0, .string v25_1] ∧
            VNw none w31 (.cells #[.string v25_0, .string v25_1] 37) fun (b26 : Nat) (w32 : World) =>
            VApp none w32 37 2 32 #[.string ByteArray.empty, .string ByteArray.empty] l21.base l21.len l21.cap 1 (fun news => Seg w32 (some ⟨b26, 0, none⟩) 1 2 news) fun (l27 : Sl) (w33 : World) =>
            VSt none w33 ⟨more_8, 0, none⟩ [.slice l27.base l27.len l27.cap, .slice none 0 0, .bool false] fun (w34 : World) =>
            Φ2 (some ⟨more_8, 0, none⟩) w34
          ) ∧ (
            VNw none w30 (.cells #[.string v25_0, .string v25_1] 37) fun (b26 : Nat) (w35 : World) =>
            Rd w35 ⟨now_6, 0, none⟩ [.slice v20.base v20.len v20.cap] ∧
            VApp none w35 37 2 32 #[.string ByteArray.empty, .string ByteArray.empty] (some ⟨b18, 0, none⟩) 0 0 v20.len (fun news => Seg w35 v20.base v20.len 2 news) fun (l21 : Sl) (w36 : World) =>
            VApp none w36 37 2 32 #[.string ByteArray.empty, .string ByteArray.empty] l21.base l21.len l21.cap 1 (fun news => Seg w36 (some ⟨b26, 0, none⟩) 1 2 news) fun (l27 : Sl) (w37 : World) =>
            VSt none w37 ⟨more_8, 0, none⟩ [.slice l27.base l27.len l27.cap, .slice none 0 0, .bool false] fun (w38 : World) =>
            Φ2 (some ⟨more_8, 0, none⟩) w38
          )
        ))
      ) ∧ (
      (
        VNw none w4 (.cells #[.string v25_0, .string v25_1] 37) fun (b26 : Nat) (w39 : World) =>
        Rd w39 ⟨now_6, 0, none⟩ [.slice v20.base v20.len v20.cap] ∧
        (
          VNw none w39 (.cells #[] 37) fun (b18 : Nat) (w40 : World) =>
          Rd w40 ⟨now_6, 0, none⟩ [.slice v20.base v20.len v20.cap] ∧
          (
            VApp none w40 37 2 32 #[.string ByteArray.empty, .string ByteArray.empty] (some ⟨b18, 0, none⟩) 0 0 v20.len (fun news => Seg w40 v20.base v20.len 2 news) fun (l21 : Sl) (w41 : World) =>
            (
              VApp none w41 37 2 32 #[.string ByteArray.empty, .string ByteArray.empty] l21.base l21.len l21.cap 1 (fun news => Seg w41 (some ⟨b26, 0, none⟩) 1 2 news) fun (l27 : Sl) (w42 : World) =>
              VNw none w42 (.cells #[.slice none 0 0, .slice none 0 0, .bool false] 31) fun (more_8 : Nat) (w43 : World) =>
              VSt none w43 ⟨more_8, 0, none⟩ [.slice l27.base l27.len l27.cap, .slice none 0 0, .bool false] fun (w44 : World) =>
              Φ2 (some ⟨more_8, 0, none⟩) w44
            ) ∧ (
              VNw none w41 (.cells #[.slice none 0 0, .slice none 0 0, .bool false] 31) fun (more_8 : Nat) (w45 : World) =>
              VApp none w45 37 2 32 #[.string ByteArray.empty, .string ByteArray.empty] l21.base l21.len l21.cap 1 (fun news => Seg w45 (some ⟨b26, 0, none⟩) 1 2 news) fun (l27 : Sl) (w46 : World) =>
              VSt none w46 ⟨more_8, 0, none⟩ [.slice l27.base l27.len l27.cap, .slice none 0 0, .bool false] fun (w47 : World) =>
              Φ2 (some ⟨more_8, 0, none⟩) w47
            )
          ) ∧ (
            VNw none w40 (.cells #[.slice none 0 0, .slice none 0 0, .bool false] 31) fun (more_8 : Nat) (w48 : World) =>
            Rd w48 ⟨now_6, 0, none⟩ [.slice v20.base v20.len v20.cap] ∧
            VApp none w48 37 2 32 #[.string ByteArray.empty, .string ByteArray.empty] (some ⟨b18, 0, none⟩) 0 0 v20.len (fun news => Seg w48 v20.base v20.len 2 news) fun (l21 : Sl) (w49 : World) =>
            VApp none w49 37 2 32 #[.string ByteArray.empty, .string ByteArray.empty] l21.base l21.len l21.cap 1 (fun news => Seg w49 (some ⟨b26, 0, none⟩) 1 2 news) fun (l27 : Sl) (w50 : World) =>
            VSt none w50 ⟨more_8, 0, none⟩ [.slice l27.base l27.len l27.cap, .slice none 0 0, .bool false] fun (w51 : World) =>
            Φ2 (some ⟨more_8, 0, none⟩) w51
          )
        ) ∧ (
          VNw none w39 (.cells #[.slice none 0 0, .slice none 0 0, .bool false] 31) fun (more_8 : Nat) (w52 : World) =>
          Rd w52 ⟨now_6, 0, none⟩ [.slice v20.base v20.len v20.cap] ∧
          VNw none w52 (.cells #[] 37) fun (b18 : Nat) (w53 : World) =>
          Rd w53 ⟨now_6, 0, none⟩ [.slice v20.base v20.len v20.cap] ∧
          VApp none w53 37 2 32 #[.string ByteArray.empty, .string ByteArray.empty] (some ⟨b18, 0, none⟩) 0 0 v20.len (fun news => Seg w53 v20.base v20.len 2 news) fun (l21 : Sl) (w54 : World) =>
          VApp none w54 37 2 32 #[.string ByteArray.empty, .string ByteArray.empty] l21.base l21.len l21.cap 1 (fun news => Seg w54 (some ⟨b26, 0, none⟩) 1 2 news) fun (l27 : Sl) (w55 : World) =>
          VSt none w55 ⟨more_8, 0, none⟩ [.slice l27.base l27.len l27.cap, .slice none 0 0, .bool false] fun (w56 : World) =>
          Φ2 (some ⟨more_8, 0, none⟩) w56
        )
      ) ∧ (
        VNw none w4 (.cells #[.slice none 0 0, .slice none 0 0, .bool false] 31) fun (more_8 : Nat) (w57 : World) =>
        Rd w57 (Addr.add a24 ((Int.toNat i_7) * 2)) [.string v25_0, .string v25_1] ∧
        Rd w57 ⟨now_6, 0, none⟩ [.slice v20.base v20.len v20.cap] ∧
        (
          VNw none w57 (.cells #[] 37) fun (b18 : Nat) (w58 : World) =>
          Rd w58 (Addr.add a24 ((Int.toNat i_7) * 2)) [.string v25_0, .string v25_1] ∧
          Rd w58 ⟨now_6, 0, none⟩ [.slice v20.base v20.len v20.cap] ∧
          (
            VApp none w58 37 2 32 #[.string ByteArray.empty, .string ByteArray.empty] (some ⟨b18, 0, none⟩) 0 0 v20.len (fun news => Seg w58 v20.base v20.len 2 news) fun (l21 : Sl) (w59 : World) =>
            Rd w59 (Addr.add a24 ((Int.toNat i_7) * 2)) [.string v25_0, .string v25_1] ∧
            VNw none w59 (.cells #[.string v25_0, .string v25_1] 37) fun (b26 : Nat) (w60 : World) =>
            VApp none w60 37 2 32 #[.string ByteArray.empty, .string ByteArray.empty] l21.base l21.len l21.cap 1 (fun news => Seg w60 (some ⟨b26, 0, none⟩) 1 2 news) fun (l27 : Sl) (w61 : World) =>
            VSt none w61 ⟨more_8, 0, none⟩ [.slice l27.base l27.len l27.cap, .slice none 0 0, .bool false] fun (w62 : World) =>
            Φ2 (some ⟨more_8, 0, none⟩) w62
          ) ∧ (
            VNw none w58 (.cells #[.string v25_0, .string v25_1] 37) fun (b26 : Nat) (w63 : World) =>
            Rd w63 ⟨now_6, 0, none⟩ [.slice v20.base v20.len v20.cap] ∧
            VApp none w63 37 2 32 #[.string ByteArray.empty, .string ByteArray.empty] (some ⟨b18, 0, none⟩) 0 0 v20.len (fun news => Seg w63 v20.base v20.len 2 news) fun (l21 : Sl) (w64 : World) =>
            VApp none w64 37 2 32 #[.string ByteArray.empty, .string ByteArray.empty] l21.base l21.len l21.cap 1 (fun news => Seg w64 (some ⟨b26, 0, none⟩) 1 2 news) fun (l27 : Sl) (w65 : World) =>
            VSt none w65 ⟨more_8, 0, none⟩ [.slice l27.base l27.len l27.cap, .slice none 0 0, .bool false] fun (w66 : World) =>
            Φ2 (some ⟨more_8, 0, none⟩) w66
          )
        ) ∧ (
          VNw none w57 (.cells #[.string v25_0, .string v25_1] 37) fun (b26 : Nat) (w67 : World) =>
          Rd w67 ⟨now_6, 0, none⟩ [.slice v20.base v20.len v20.cap] ∧
          VNw none w67 (.cells #[] 37) fun (b18 : Nat) (w68 : World) =>
          Rd w68 ⟨now_6, 0, none⟩ [.slice v20.base v20.len v20.cap] ∧
          VApp none w68 37 2 32 #[.string ByteArray.empty, .string ByteArray.empty] (some ⟨b18, 0, none⟩) 0 0 v20.len (fun news => Seg w68 v20.base v20.len 2 news) fun (l21 : Sl) (w69 : World) =>
          VApp none w69 37 2 32 #[.string ByteArray.empty, .string ByteArray.empty] l21.base l21.len l21.cap 1 (fun news => Seg w69 (some ⟨b26, 0, none⟩) 1 2 news) fun (l27 : Sl) (w70 : World) =>
          VSt none w70 ⟨more_8, 0, none⟩ [.slice l27.base l27.len l27.cap, .slice none 0 0, .bool false] fun (w71 : World) =>
          Φ2 (some ⟨more_8, 0, none⟩) w71
        )
      ))
    ) ∧ ∀ (more_8 : Option Addr) (w72 : World), Φ2 more_8 w72 →
    ∃ Φ3 : Sl → World → Prop, (
      VLd none w72 ⟨now_6, 0, none⟩ [CT.sl] fun (v30 : Sl) =>
      onPtr more_8 fun (q_v34 : Addr) =>
      VLd (some (decide (((v30.len : Nat) : Int) > 0))) w72 q_v34 [CT.sl, CT.sl, CT.bool] fun (v34_0 : Sl) (v34_1 : Sl) (v34_2 : Bool) =>
      VCall (some (decide (((v30.len : Nat) : Int) > 0))) Try.prog 23 #[.agg #[.slice v34_0.base v34_0.len v34_0.cap, .slice v34_1.base v34_1.len v34_1.cap, .bool v34_2]] w72 (.int .i64 0) fun (r35 : Int) (w73 : World) =>
      onPtr more_8 fun (q_v38 : Addr) =>
      VLd (some ((decide (((v30.len : Nat) : Int) > 0)) && (!(decide (r35 > 4000))))) w73 q_v38 [CT.sl] fun (v39 : Sl) =>
      VIf ((decide (((v30.len : Nat) : Int) > 0)) && ((decide (r35 > 4000)) || (decide (((v39.len : Nat) : Int) > 4)))) (
        VLd none w73 ⟨now_6, 0, none⟩ [CT.sl, CT.sl, CT.bool] fun (v45_0 : Sl) (v45_1 : Sl) (v45_2 : Bool) =>
        VNw none w73 (.cells #[.slice v45_0.base v45_0.len v45_0.cap, .slice v45_1.base v45_1.len v45_1.cap, .bool v45_2] 31) fun (b46 : Nat) (w74 : World) =>
        VApp none w74 31 3 56 #[.slice none 0 0, .slice none 0 0, .bool false] out_5.base out_5.len out_5.cap 1 (fun news => Seg w74 (some ⟨b46, 0, none⟩) 1 3 news) fun (l47 : Sl) (w75 : World) =>
        VIx none pairs_0.base pairs_0.len i_7 fun (a50 : Addr) =>
        VLd none w75 (Addr.add a50 ((Int.toNat i_7) * 2)) [CT.str, CT.str] fun (v51_0 : ByteArray) (v51_1 : ByteArray) =>
        VNw none w75 (.cells #[.string v51_0, .string v51_1] 37) fun (b52 : Nat) (w76 : World) =>
        onPtr more_8 fun (q_st : Addr) =>
        VSt none w76 q_st [.slice (some ⟨b52, 0, none⟩) 1 1, .slice none 0 0, .bool false] fun (w77 : World) =>
        Φ3 l47 w77
      ) (
        Φ3 out_5 w73
      )
    ) ∧ ∀ (out_5' : Sl) (w78 : World), Φ3 out_5' w78 →
    onPtr more_8 fun (q_v54 : Addr) =>
    VLd none w78 q_v54 [CT.sl, CT.sl, CT.bool] fun (v54_0 : Sl) (v54_1 : Sl) (v54_2 : Bool) =>
    VSt none w78 ⟨now_6, 0, none⟩ [.slice v54_0.base v54_0.len v54_0.cap, .slice v54_1.base v54_1.len v54_1.cap, .bool v54_2] fun (w79 : World) =>
    VSet (IntKind.wrap .i64 (i_7 + 1)) fun (i_7' : Int) =>
    ∃ k', k' < k1 ∧ I1 k' ⟨out_5'.base, out_5'.len, out_5'.cap⟩ i_7' w79
  ) (
    ∃ I4 : Nat → Sl → Int → World → Prop, (∃ k, I4 k out_5 0 w3) ∧ ∀ k4 (out_5'' : Sl) (i_9 : Int) (w80 : World), I4 k4 out_5'' i_9 w80 →
    VIf (decide (i_9 < ((lasts_1.len : Nat) : Int))) (
      ∃ Φ5 : Option Addr → World → Prop, (
        ∀ (w81 : World), w81 = World.drew w80 →
        VLd none w81 ⟨now_6, 0, none⟩ [CT.sl] fun (v62 : Sl) =>
        VLd none w81 ⟨now_6, 1, none⟩ [CT.sl] fun (v65 : Sl) =>
        VIx none lasts_1.base lasts_1.len i_9 fun (a69 : Addr) =>
        VLd none w81 (Addr.add a69 ((Int.toNat i_9) * 5)) [CT.int .i64, CT.int .i64, CT.int .u8, CT.bool, CT.str] fun (v70_0 : Int) (v70_1 : Int) (v70_2 : Int) (v70_3 : Bool) (v70_4 : ByteArray) =>
        (
          VNw none w81 (.cells #[] 68) fun (b63 : Nat) (w82 : World) =>
          Rd w82 (Addr.add a69 ((Int.toNat i_9) * 5)) [.int .i64 v70_0, .int .i64 v70_1, .int .u8 v70_2, .bool v70_3, .string v70_4] ∧
          Rd w82 ⟨now_6, 1, none⟩ [.slice v65.base v65.len v65.cap] ∧
          Rd w82 ⟨now_6, 0, none⟩ [.slice v62.base v62.len v62.cap] ∧
          (
            VApp none w82 68 5 40 #[.int .i64 0, .int .i64 0, .int .u8 0, .bool false, .string ByteArray.empty] (some ⟨b63, 0, none⟩) 0 0 v65.len (fun news => Seg w82 v65.base v65.len 5 news) fun (l66 : Sl) (w83 : World) =>
            Rd w83 (Addr.add a69 ((Int.toNat i_9) * 5)) [.int .i64 v70_0, .int .i64 v70_1, .int .u8 v70_2, .bool v70_3, .string v70_4] ∧
            Rd w83 ⟨now_6, 0, none⟩ [.slice v62.base v62.len v62.cap] ∧
            (
              VNw none w83 (.cells #[.int .i64 v70_0, .int .i64 v70_1, .int .u8 v70_2, .bool v70_3, .string v70_4] 68) fun (b71 : Nat) (w84 : World) =>
              Rd w84 ⟨now_6, 0, none⟩ [.slice v62.base v62.len v62.cap] ∧
              (
                VApp none w84 68 5 40 #[.int .i64 0, .int .i64 0, .int .u8 0, .bool false, .string ByteArray.empty] l66.base l66.len l66.cap 1 (fun news => Seg w84 (some ⟨b71, 0, none⟩) 1 5 news) fun (l72 : Sl) (w85 : World) =>
                Rd w85 ⟨now_6, 0, none⟩ [.slice v62.base v62.len v62.cap] ∧
                VNw none w85 (.cells #[.slice none 0 0, .slice none 0 0, .bool false] 31) fun (more_10 : Nat) (w86 : World) =>
                Rd w86 ⟨now_6, 0, none⟩ [.slice v62.base v62.len v62.cap] ∧
                VSt none w86 ⟨more_10, 0, none⟩ [.slice v62.base v62.len v62.cap, .slice l72.base l72.len l72.cap, .bool false] fun (w87 : World) =>
                Φ5 (some ⟨more_10, 0, none⟩) w87
              ) ∧ (
                VNw none w84 (.cells #[.slice none 0 0, .slice none 0 0, .bool false] 31) fun (more_10 : Nat) (w88 : World) =>
                Rd w88 ⟨now_6, 0, none⟩ [.slice v62.base v62.len v62.cap] ∧
                VApp none w88 68 5 40 #[.int .i64 0, .int .i64 0, .int .u8 0, .bool false, .string ByteArray.empty] l66.base l66.len l66.cap 1 (fun news => Seg w88 (some ⟨b71, 0, none⟩) 1 5 news) fun (l72 : Sl) (w89 : World) =>
                Rd w89 ⟨now_6, 0, none⟩ [.slice v62.base v62.len v62.cap] ∧
                VSt none w89 ⟨more_10, 0, none⟩ [.slice v62.base v62.len v62.cap, .slice l72.base l72.len l72.cap, .bool false] fun (w90 : World) =>
                Φ5 (some ⟨more_10, 0, none⟩) w90
              )
            ) ∧ (
              VNw none w83 (.cells #[.slice none 0 0, .slice none 0 0, .bool false] 31) fun (more_10 : Nat) (w91 : World) =>
              Rd w91 (Addr.add a69 ((Int.toNat i_9) * 5)) [.int .i64 v70_0, .int .i64 v70_1, .int .u8 v70_2, .bool v70_3, .string v70_4] ∧
              Rd w91 ⟨now_6, 0, none⟩ [.slice v62.base v62.len v62.cap] ∧
              VNw none w91 (.cells #[.int .i64 v70_0, .int .i64 v70_1, .int .u8 v70_2, .bool v70_3, .string v70_4] 68) fun (b71 : Nat) (w92 : World) =>
              Rd w92 ⟨now_6, 0, none⟩ [.slice v62.base v62.len v62.cap] ∧
              VApp none w92 68 5 40 #[.int .i64 0, .int .i64 0, .int .u8 0, .bool false, .string ByteArray.empty] l66.base l66.len l66.cap 1 (fun news => Seg w92 (some ⟨b71, 0, none⟩) 1 5 news) fun (l72 : Sl) (w93 : World) =>
              Rd w93 ⟨now_6, 0, none⟩ [.slice v62.base v62.len v62.cap] ∧
              VSt none w93 ⟨more_10, 0, none⟩ [.slice v62.base v62.len v62.cap, .slice l72.base l72.len l72.cap, .bool false] fun (w94 : World) =>
              Φ5 (some ⟨more_10, 0, none⟩) w94
            )
          ) ∧ (
          (
            VNw none w82 (.cells #[.int .i64 v70_0, .int .i64 v70_1, .int .u8 v70_2, .bool v70_3, .string v70_4] 68) fun (b71 : Nat) (w95 : World) =>
            Rd w95 ⟨now_6, 1, none⟩ [.slice v65.base v65.len v65.cap] ∧
            Rd w95 ⟨now_6, 0, none⟩ [.slice v62.base v62.len v62.cap] ∧
            (
              VApp none w95 68 5 40 #[.int .i64 0, .int .i64 0, .int .u8 0, .bool false, .string ByteArray.empty] (some ⟨b63, 0, none⟩) 0 0 v65.len (fun news => Seg w95 v65.base v65.len 5 news) fun (l66 : Sl) (w96 : World) =>
              Rd w96 ⟨now_6, 0, none⟩ [.slice v62.base v62.len v62.cap] ∧
              (
                VApp none w96 68 5 40 #[.int .i64 0, .int .i64 0, .int .u8 0, .bool false, .string ByteArray.empty] l66.base l66.len l66.cap 1 (fun news => Seg w96 (some ⟨b71, 0, none⟩) 1 5 news) fun (l72 : Sl) (w97 : World) =>
                Rd w97 ⟨now_6, 0, none⟩ [.slice v62.base v62.len v62.cap] ∧
                VNw none w97 (.cells #[.slice none 0 0, .slice none 0 0, .bool false] 31) fun (more_10 : Nat) (w98 : World) =>
                Rd w98 ⟨now_6, 0, none⟩ [.slice v62.base v62.len v62.cap] ∧
                VSt none w98 ⟨more_10, 0, none⟩ [.slice v62.base v62.len v62.cap, .slice l72.base l72.len l72.cap, .bool false] fun (w99 : World) =>
                Φ5 (some ⟨more_10, 0, none⟩) w99
              ) ∧ (
                VNw none w96 (.cells #[.slice none 0 0, .slice none 0 0, .bool false] 31) fun (more_10 : Nat) (w100 : World) =>
                Rd w100 ⟨now_6, 0, none⟩ [.slice v62.base v62.len v62.cap] ∧
                VApp none w100 68 5 40 #[.int .i64 0, .int .i64 0, .int .u8 0, .bool false, .string ByteArray.empty] l66.base l66.len l66.cap 1 (fun news => Seg w100 (some ⟨b71, 0, none⟩) 1 5 news) fun (l72 : Sl) (w101 : World) =>
                Rd w101 ⟨now_6, 0, none⟩ [.slice v62.base v62.len v62.cap] ∧
                VSt none w101 ⟨more_10, 0, none⟩ [.slice v62.base v62.len v62.cap, .slice l72.base l72.len l72.cap, .bool false] fun (w102 : World) =>
                Φ5 (some ⟨more_10, 0, none⟩) w102
              )
            ) ∧ (
              VNw none w95 (.cells #[.slice none 0 0, .slice none 0 0, .bool false] 31) fun (more_10 : Nat) (w103 : World) =>
              Rd w103 ⟨now_6, 1, none⟩ [.slice v65.base v65.len v65.cap] ∧
              Rd w103 ⟨now_6, 0, none⟩ [.slice v62.base v62.len v62.cap] ∧
              VApp none w103 68 5 40 #[.int .i64 0, .int .i64 0, .int .u8 0, .bool false, .string ByteArray.empty] (some ⟨b63, 0, none⟩) 0 0 v65.len (fun news => Seg w103 v65.base v65.len 5 news) fun (l66 : Sl) (w104 : World) =>
              Rd w104 ⟨now_6, 0, none⟩ [.slice v62.base v62.len v62.cap] ∧
              VApp none w104 68 5 40 #[.int .i64 0, .int .i64 0, .int .u8 0, .bool false, .string ByteArray.empty] l66.base l66.len l66.cap 1 (fun news => Seg w104 (some ⟨b71, 0, none⟩) 1 5 news) fun (l72 : Sl) (w105 : World) =>
              Rd w105 ⟨now_6, 0, none⟩ [.slice v62.base v62.len v62.cap] ∧
              VSt none w105 ⟨more_10, 0, none⟩ [.slice v62.base v62.len v62.cap, .slice l72.base l72.len l72.cap, .bool false] fun (w106 : World) =>
              Φ5 (some ⟨more_10, 0, none⟩) w106
            )
          ) ∧ (
            VNw none w82 (.cells #[.slice none 0 0, .slice none 0 0, .bool false] 31) fun (more_10 : Nat) (w107 : World) =>
            Rd w107 (Addr.add a69 ((Int.toNat i_9) * 5)) [.int .i64 v70_0, .int .i64 v70_1, .int .u8 v70_2, .bool v70_3, .string v70_4] ∧
            Rd w107 ⟨now_6, 1, none⟩ [.slice v65.base v65.len v65.cap] ∧
            Rd w107 ⟨now_6, 0, none⟩ [.slice v62.base v62.len v62.cap] ∧
            (
              VApp none w107 68 5 40 #[.int .i64 0, .int .i64 0, .int .u8 0, .bool false, .string ByteArray.empty] (some ⟨b63, 0, none⟩) 0 0 v65.len (fun news => Seg w107 v65.base v65.len 5 news) fun (l66 : Sl) (w108 : World) =>
              Rd w108 (Addr.add a69 ((Int.toNat i_9) * 5)) [.int .i64 v70_0, .int .i64 v70_1, .int .u8 v70_2, .bool v70_3, .string v70_4] ∧
              Rd w108 ⟨now_6, 0, none⟩ [.slice v62.base v62.len v62.cap] ∧
              VNw none w108 (.cells #[.int .i64 v70_0, .int .i64 v70_1, .int .u8 v70_2, .bool v70_3, .string v70_4] 68) fun (b71 : Nat) (w109 : World) =>
              Rd w109 ⟨now_6, 0, none⟩ [.slice v62.base v62.len v62.cap] ∧
              VApp none w109 68 5 40 #[.int .i64 0, .int .i64 0, .int .u8 0, .bool false, .string ByteArray.empty] l66.base l66.len l66.cap 1 (fun news => Seg w109 (some ⟨b71, 0, none⟩) 1 5 news) fun (l72 : Sl) (w110 : World) =>
              Rd w110 ⟨now_6, 0, none⟩ [.slice v62.base v62.len v62.cap] ∧
              VSt none w110 ⟨more_10, 0, none⟩ [.slice v62.base v62.len v62.cap, .slice l72.base l72.len l72.cap, .bool false] fun (w111 : World) =>
              Φ5 (some ⟨more_10, 0, none⟩) w111
            ) ∧ (
              VNw none w107 (.cells #[.int .i64 v70_0, .int .i64 v70_1, .int .u8 v70_2, .bool v70_3, .string v70_4] 68) fun (b71 : Nat) (w112 : World) =>
              Rd w112 ⟨now_6, 1, none⟩ [.slice v65.base v65.len v65.cap] ∧
              Rd w112 ⟨now_6, 0, none⟩ [.slice v62.base v62.len v62.cap] ∧
              VApp none w112 68 5 40 #[.int .i64 0, .int .i64 0, .int .u8 0, .bool false, .string ByteArray.empty] (some ⟨b63, 0, none⟩) 0 0 v65.len (fun news => Seg w112 v65.base v65.len 5 news) fun (l66 : Sl) (w113 : World) =>
              Rd w113 ⟨now_6, 0, none⟩ [.slice v62.base v62.len v62.cap] ∧
              VApp none w113 68 5 40 #[.int .i64 0, .int .i64 0, .int .u8 0, .bool false, .string ByteArray.empty] l66.base l66.len l66.cap 1 (fun news => Seg w113 (some ⟨b71, 0, none⟩) 1 5 news) fun (l72 : Sl) (w114 : World) =>
              Rd w114 ⟨now_6, 0, none⟩ [.slice v62.base v62.len v62.cap] ∧
              VSt none w114 ⟨more_10, 0, none⟩ [.slice v62.base v62.len v62.cap, .slice l72.base l72.len l72.cap, .bool false] fun (w115 : World) =>
              Φ5 (some ⟨more_10, 0, none⟩) w115
            )
          ))
        ) ∧ (
        (
          VNw none w81 (.cells #[.int .i64 v70_0, .int .i64 v70_1, .int .u8 v70_2, .bool v70_3, .string v70_4] 68) fun (b71 : Nat) (w116 : World) =>
          Rd w116 ⟨now_6, 1, none⟩ [.slice v65.base v65.len v65.cap] ∧
          Rd w116 ⟨now_6, 0, none⟩ [.slice v62.base v62.len v62.cap] ∧
          (
            VNw none w116 (.cells #[] 68) fun (b63 : Nat) (w117 : World) =>
            Rd w117 ⟨now_6, 1, none⟩ [.slice v65.base v65.len v65.cap] ∧
            Rd w117 ⟨now_6, 0, none⟩ [.slice v62.base v62.len v62.cap] ∧
            (
              VApp none w117 68 5 40 #[.int .i64 0, .int .i64 0, .int .u8 0, .bool false, .string ByteArray.empty] (some ⟨b63, 0, none⟩) 0 0 v65.len (fun news => Seg w117 v65.base v65.len 5 news) fun (l66 : Sl) (w118 : World) =>
              Rd w118 ⟨now_6, 0, none⟩ [.slice v62.base v62.len v62.cap] ∧
              (
                VApp none w118 68 5 40 #[.int .i64 0, .int .i64 0, .int .u8 0, .bool false, .string ByteArray.empty] l66.base l66.len l66.cap 1 (fun news => Seg w118 (some ⟨b71, 0, none⟩) 1 5 news) fun (l72 : Sl) (w119 : World) =>
                Rd w119 ⟨now_6, 0, none⟩ [.slice v62.base v62.len v62.cap] ∧
                VNw none w119 (.cells #[.slice none 0 0, .slice none 0 0, .bool false] 31) fun (more_10 : Nat) (w120 : World) =>
                Rd w120 ⟨now_6, 0, none⟩ [.slice v62.base v62.len v62.cap] ∧
                VSt none w120 ⟨more_10, 0, none⟩ [.slice v62.base v62.len v62.cap, .slice l72.base l72.len l72.cap, .bool false] fun (w121 : World) =>
                Φ5 (some ⟨more_10, 0, none⟩) w121
              ) ∧ (
                VNw none w118 (.cells #[.slice none 0 0, .slice none 0 0, .bool false] 31) fun (more_10 : Nat) (w122 : World) =>
                Rd w122 ⟨now_6, 0, none⟩ [.slice v62.base v62.len v62.cap] ∧
                VApp none w122 68 5 40 #[.int .i64 0, .int .i64 0, .int .u8 0, .bool false, .string ByteArray.empty] l66.base l66.len l66.cap 1 (fun news => Seg w122 (some ⟨b71, 0, none⟩) 1 5 news) fun (l72 : Sl) (w123 : World) =>
                Rd w123 ⟨now_6, 0, none⟩ [.slice v62.base v62.len v62.cap] ∧
                VSt none w123 ⟨more_10, 0, none⟩ [.slice v62.base v62.len v62.cap, .slice l72.base l72.len l72.cap, .bool false] fun (w124 : World) =>
                Φ5 (some ⟨more_10, 0, none⟩) w124
              )
            ) ∧ (
              VNw none w117 (.cells #[.slice none 0 0, .slice none 0 0, .bool false] 31) fun (more_10 : Nat) (w125 : World) =>
              Rd w125 ⟨now_6, 1, none⟩ [.slice v65.base v65.len v65.cap] ∧
              Rd w125 ⟨now_6, 0, none⟩ [.slice v62.base v62.len v62.cap] ∧
              VApp none w125 68 5 40 #[.int .i64 0, .int .i64 0, .int .u8 0, .bool false, .string ByteArray.empty] (some ⟨b63, 0, none⟩) 0 0 v65.len (fun news => Seg w125 v65.base v65.len 5 news) fun (l66 : Sl) (w126 : World) =>
              Rd w126 ⟨now_6, 0, none⟩ [.slice v62.base v62.len v62.cap] ∧
              VApp none w126 68 5 40 #[.int .i64 0, .int .i64 0, .int .u8 0, .bool false, .string ByteArray.empty] l66.base l66.len l66.cap 1 (fun news => Seg w126 (some ⟨b71, 0, none⟩) 1 5 news) fun (l72 : Sl) (w127 : World) =>
              Rd w127 ⟨now_6, 0, none⟩ [.slice v62.base v62.len v62.cap] ∧
              VSt none w127 ⟨more_10, 0, none⟩ [.slice v62.base v62.len v62.cap, .slice l72.base l72.len l72.cap, .bool false] fun (w128 : World) =>
              Φ5 (some ⟨more_10, 0, none⟩) w128
            )
          ) ∧ (
            VNw none w116 (.cells #[.slice none 0 0, .slice none 0 0, .bool false] 31) fun (more_10 : Nat) (w129 : World) =>
            Rd w129 ⟨now_6, 1, none⟩ [.slice v65.base v65.len v65.cap] ∧
            Rd w129 ⟨now_6, 0, none⟩ [.slice v62.base v62.len v62.cap] ∧
            VNw none w129 (.cells #[] 68) fun (b63 : Nat) (w130 : World) =>
            Rd w130 ⟨now_6, 1, none⟩ [.slice v65.base v65.len v65.cap] ∧
            Rd w130 ⟨now_6, 0, none⟩ [.slice v62.base v62.len v62.cap] ∧
            VApp none w130 68 5 40 #[.int .i64 0, .int .i64 0, .int .u8 0, .bool false, .string ByteArray.empty] (some ⟨b63, 0, none⟩) 0 0 v65.len (fun news => Seg w130 v65.base v65.len 5 news) fun (l66 : Sl) (w131 : World) =>
            Rd w131 ⟨now_6, 0, none⟩ [.slice v62.base v62.len v62.cap] ∧
            VApp none w131 68 5 40 #[.int .i64 0, .int .i64 0, .int .u8 0, .bool false, .string ByteArray.empty] l66.base l66.len l66.cap 1 (fun news => Seg w131 (some ⟨b71, 0, none⟩) 1 5 news) fun (l72 : Sl) (w132 : World) =>
            Rd w132 ⟨now_6, 0, none⟩ [.slice v62.base v62.len v62.cap] ∧
            VSt none w132 ⟨more_10, 0, none⟩ [.slice v62.base v62.len v62.cap, .slice l72.base l72.len l72.cap, .bool false] fun (w133 : World) =>
            Φ5 (some ⟨more_10, 0, none⟩) w133
          )
        ) ∧ (
          VNw none w81 (.cells #[.slice none 0 0, .slice none 0 0, .bool false] 31) fun (more_10 : Nat) (w134 : World) =>
          Rd w134 (Addr.add a69 ((Int.toNat i_9) * 5)) [.int .i64 v70_0, .int .i64 v70_1, .int .u8 v70_2, .bool v70_3, .string v70_4] ∧
          Rd w134 ⟨now_6, 1, none⟩ [.slice v65.base v65.len v65.cap] ∧
          Rd w134 ⟨now_6, 0, none⟩ [.slice v62.base v62.len v62.cap] ∧
          (
            VNw none w134 (.cells #[] 68) fun (b63 : Nat) (w135 : World) =>
            Rd w135 (Addr.add a69 ((Int.toNat i_9) * 5)) [.int .i64 v70_0, .int .i64 v70_1, .int .u8 v70_2, .bool v70_3, .string v70_4] ∧
            Rd w135 ⟨now_6, 1, none⟩ [.slice v65.base v65.len v65.cap] ∧
            Rd w135 ⟨now_6, 0, none⟩ [.slice v62.base v62.len v62.cap] ∧
            (
              VApp none w135 68 5 40 #[.int .i64 0, .int .i64 0, .int .u8 0, .bool false, .string ByteArray.empty] (some ⟨b63, 0, none⟩) 0 0 v65.len (fun news => Seg w135 v65.base v65.len 5 news) fun (l66 : Sl) (w136 : World) =>
              Rd w136 (Addr.add a69 ((Int.toNat i_9) * 5)) [.int .i64 v70_0, .int .i64 v70_1, .int .u8 v70_2, .bool v70_3, .string v70_4] ∧
              Rd w136 ⟨now_6, 0, none⟩ [.slice v62.base v62.len v62.cap] ∧
              VNw none w136 (.cells #[.int .i64 v70_0, .int .i64 v70_1, .int .u8 v70_2, .bool v70_3, .string v70_4] 68) fun (b71 : Nat) (w137 : World) =>
              Rd w137 ⟨now_6, 0, none⟩ [.slice v62.base v62.len v62.cap] ∧
              VApp none w137 68 5 40 #[.int .i64 0, .int .i64 0, .int .u8 0, .bool false, .string ByteArray.empty] l66.base l66.len l66.cap 1 (fun news => Seg w137 (some ⟨b71, 0, none⟩) 1 5 news) fun (l72 : Sl) (w138 : World) =>
              Rd w138 ⟨now_6, 0, none⟩ [.slice v62.base v62.len v62.cap] ∧
              VSt none w138 ⟨more_10, 0, none⟩ [.slice v62.base v62.len v62.cap, .slice l72.base l72.len l72.cap, .bool false] fun (w139 : World) =>
              Φ5 (some ⟨more_10, 0, none⟩) w139
            ) ∧ (
              VNw none w135 (.cells #[.int .i64 v70_0, .int .i64 v70_1, .int .u8 v70_2, .bool v70_3, .string v70_4] 68) fun (b71 : Nat) (w140 : World) =>
              Rd w140 ⟨now_6, 1, none⟩ [.slice v65.base v65.len v65.cap] ∧
              Rd w140 ⟨now_6, 0, none⟩ [.slice v62.base v62.len v62.cap] ∧
              VApp none w140 68 5 40 #[.int .i64 0, .int .i64 0, .int .u8 0, .bool false, .string ByteArray.empty] (some ⟨b63, 0, none⟩) 0 0 v65.len (fun news => Seg w140 v65.base v65.len 5 news) fun (l66 : Sl) (w141 : World) =>
              Rd w141 ⟨now_6, 0, none⟩ [.slice v62.base v62.len v62.cap] ∧
              VApp none w141 68 5 40 #[.int .i64 0, .int .i64 0, .int .u8 0, .bool false, .string ByteArray.empty] l66.base l66.len l66.cap 1 (fun news => Seg w141 (some ⟨b71, 0, none⟩) 1 5 news) fun (l72 : Sl) (w142 : World) =>
              Rd w142 ⟨now_6, 0, none⟩ [.slice v62.base v62.len v62.cap] ∧
              VSt none w142 ⟨more_10, 0, none⟩ [.slice v62.base v62.len v62.cap, .slice l72.base l72.len l72.cap, .bool false] fun (w143 : World) =>
              Φ5 (some ⟨more_10, 0, none⟩) w143
            )
          ) ∧ (
            VNw none w134 (.cells #[.int .i64 v70_0, .int .i64 v70_1, .int .u8 v70_2, .bool v70_3, .string v70_4] 68) fun (b71 : Nat) (w144 : World) =>
            Rd w144 ⟨now_6, 1, none⟩ [.slice v65.base v65.len v65.cap] ∧
            Rd w144 ⟨now_6, 0, none⟩ [.slice v62.base v62.len v62.cap] ∧
            VNw none w144 (.cells #[] 68) fun (b63 : Nat) (w145 : World) =>
            Rd w145 ⟨now_6, 1, none⟩ [.slice v65.base v65.len v65.cap] ∧
            Rd w145 ⟨now_6, 0, none⟩ [.slice v62.base v62.len v62.cap] ∧
            VApp none w145 68 5 40 #[.int .i64 0, .int .i64 0, .int .u8 0, .bool false, .string ByteArray.empty] (some ⟨b63, 0, none⟩) 0 0 v65.len (fun news => Seg w145 v65.base v65.len 5 news) fun (l66 : Sl) (w146 : World) =>
            Rd w146 ⟨now_6, 0, none⟩ [.slice v62.base v62.len v62.cap] ∧
            VApp none w146 68 5 40 #[.int .i64 0, .int .i64 0, .int .u8 0, .bool false, .string ByteArray.empty] l66.base l66.len l66.cap 1 (fun news => Seg w146 (some ⟨b71, 0, none⟩) 1 5 news) fun (l72 : Sl) (w147 : World) =>
            Rd w147 ⟨now_6, 0, none⟩ [.slice v62.base v62.len v62.cap] ∧
            VSt none w147 ⟨more_10, 0, none⟩ [.slice v62.base v62.len v62.cap, .slice l72.base l72.len l72.cap, .bool false] fun (w148 : World) =>
            Φ5 (some ⟨more_10, 0, none⟩) w148
          )
        ))
      ) ∧ ∀ (more_10 : Option Addr) (w149 : World), Φ5 more_10 w149 →
      ∃ Φ6 : Sl → World → Prop, (
        VLd none w149 ⟨now_6, 0, none⟩ [CT.sl] fun (v75 : Sl) =>
        VLd none w149 ⟨now_6, 1, none⟩ [CT.sl] fun (v78 : Sl) =>
        onPtr more_10 fun (q_v83 : Addr) =>
        VLd (some (decide ((IntKind.wrap .i64 (((v75.len : Nat) : Int) + ((v78.len : Nat) : Int))) > 0))) w149 q_v83 [CT.sl, CT.sl, CT.bool] fun (v83_0 : Sl) (v83_1 : Sl) (v83_2 : Bool) =>
        VCall (some (decide ((IntKind.wrap .i64 (((v75.len : Nat) : Int) + ((v78.len : Nat) : Int))) > 0))) Try.prog 23 #[.agg #[.slice v83_0.base v83_0.len v83_0.cap, .slice v83_1.base v83_1.len v83_1.cap, .bool v83_2]] w149 (.int .i64 0) fun (r84 : Int) (w150 : World) =>
        onPtr more_10 fun (q_v87 : Addr) =>
        VLd (some ((decide ((IntKind.wrap .i64 (((v75.len : Nat) : Int) + ((v78.len : Nat) : Int))) > 0)) && (!(decide (r84 > 4000))))) w150 q_v87 [CT.sl] fun (v88 : Sl) =>
        onPtr more_10 fun (q_v90 : Addr) =>
        VLd (some ((decide ((IntKind.wrap .i64 (((v75.len : Nat) : Int) + ((v78.len : Nat) : Int))) > 0)) && (!(decide (r84 > 4000))))) w150 (Addr.add q_v90 1) [CT.sl] fun (v91 : Sl) =>
        VIf ((decide ((IntKind.wrap .i64 (((v75.len : Nat) : Int) + ((v78.len : Nat) : Int))) > 0)) && ((decide (r84 > 4000)) || (decide ((IntKind.wrap .i64 (((v88.len : Nat) : Int) + ((v91.len : Nat) : Int))) > 4)))) (
          VLd none w150 ⟨now_6, 0, none⟩ [CT.sl, CT.sl, CT.bool] fun (v98_0 : Sl) (v98_1 : Sl) (v98_2 : Bool) =>
          VNw none w150 (.cells #[.slice v98_0.base v98_0.len v98_0.cap, .slice v98_1.base v98_1.len v98_1.cap, .bool v98_2] 31) fun (b99 : Nat) (w151 : World) =>
          VApp none w151 31 3 56 #[.slice none 0 0, .slice none 0 0, .bool false] out_5''.base out_5''.len out_5''.cap 1 (fun news => Seg w151 (some ⟨b99, 0, none⟩) 1 3 news) fun (l100 : Sl) (w152 : World) =>
          VIx none lasts_1.base lasts_1.len i_9 fun (a103 : Addr) =>
          VLd none w152 (Addr.add a103 ((Int.toNat i_9) * 5)) [CT.int .i64, CT.int .i64, CT.int .u8, CT.bool, CT.str] fun (v104_0 : Int) (v104_1 : Int) (v104_2 : Int) (v104_3 : Bool) (v104_4 : ByteArray) =>
          VNw none w152 (.cells #[.int .i64 v104_0, .int .i64 v104_1, .int .u8 v104_2, .bool v104_3, .string v104_4] 68) fun (b105 : Nat) (w153 : World) =>
          onPtr more_10 fun (q_st' : Addr) =>
          VSt none w153 q_st' [.slice none 0 0, .slice (some ⟨b105, 0, none⟩) 1 1, .bool false] fun (w154 : World) =>
          Φ6 l100 w154
        ) (
          Φ6 ⟨out_5''.base, out_5''.len, out_5''.cap⟩ w150
        )
      ) ∧ ∀ (out_5_3 : Sl) (w155 : World), Φ6 out_5_3 w155 →
      onPtr more_10 fun (q_v107 : Addr) =>
      VLd none w155 q_v107 [CT.sl, CT.sl, CT.bool] fun (v107_0 : Sl) (v107_1 : Sl) (v107_2 : Bool) =>
      VSt none w155 ⟨now_6, 0, none⟩ [.slice v107_0.base v107_0.len v107_0.cap, .slice v107_1.base v107_1.len v107_1.cap, .bool v107_2] fun (w156 : World) =>
      VSet (IntKind.wrap .i64 (i_9 + 1)) fun (i_9' : Int) =>
      ∃ k', k' < k4 ∧ I4 k' out_5_3 i_9' w156
    ) (
      VSt none w80 ⟨now_6, 2, none⟩ [.bool true] fun (w157 : World) =>
      VLd none w157 ⟨now_6, 0, none⟩ [CT.sl, CT.sl, CT.bool] fun (v110_0 : Sl) (v110_1 : Sl) (v110_2 : Bool) =>
      VNw none w157 (.cells #[.slice v110_0.base v110_0.len v110_0.cap, .slice v110_1.base v110_1.len v110_1.cap, .bool v110_2] 31) fun (b111 : Nat) (w158 : World) =>
      VApp none w158 31 3 56 #[.slice none 0 0, .slice none 0 0, .bool false] out_5''.base out_5''.len out_5''.cap 1 (fun news => Seg w158 (some ⟨b111, 0, none⟩) 1 3 news) fun (l112 : Sl) (w159 : World) =>
      R (.returned (.slice l112.base l112.len l112.cap)) w159
    )
  )
theorem sh_butteryref23_Cut_ok (pairs_0 : Sl) (lasts_1 : Sl) (w : World) (R : Ending → World → Prop) (h : sh_butteryref23_Cut pairs_0 lasts_1 w R) : Calls Try.prog 10 #[.slice pairs_0.base pairs_0.len pairs_0.cap, .slice lasts_1.base lasts_1.len lasts_1.cap] w R :=
  calls_of_sh (args := [.slice pairs_0.base pairs_0.len pairs_0.cap, .slice lasts_1.base lasts_1.len lasts_1.cap]) (.two .auto (.two .auto (.two .auto (.two (.two .auto (.one (.loop [(5, .slice none 0 0), (7, .int .i64 0)] (.two (.two .auto (.two .auto .auto)) (.two (.one (.two (.bjoin [(8, .pointer none)] .auto) (.join [(5, .slice none 0 0)] (.two .auto (.two (.two .auto .auto) .auto)) .auto))) .auto))))) (.two (.two .auto (.one (.loop [(5, .slice none 0 0), (9, .int .i64 0)] (.two (.two .auto (.two .auto .auto)) (.two (.one (.two (.bjoin [(10, .pointer none)] .auto) (.join [(5, .slice none 0 0)] (.two .auto (.two (.two .auto .auto) .auto)) .auto))) .auto))))) (.two .auto (.two .auto .auto))))))) Try.func10 (by kernel_rfl) (by kernel_rfl) (by kernel_rfl) h

/-- 11: buttery/hand.Cut -/
def sh_hand_Cut (pairs_0 : Sl) (lasts_1 : Sl) (w : World) (R : Ending → World → Prop) : Prop :=
  VNw none w (.cells #[.slice none 0 0, .slice none 0 0, .bool false] 33) fun (b7 : Nat) (w1 : World) =>
  VNw none w1 (.cells #[.slice (some ⟨b7, 0, none⟩) 1 1, .int .i64 0, .int .i64 0] 76) fun (b9 : Nat) (w2 : World) =>
  VCall none Try.prog 29 #[.pointer (some ⟨b9, 0, none⟩), .slice pairs_0.base pairs_0.len pairs_0.cap, .func (.func 30) #[] #[], .func (.func 31) #[] #[]] w2 (.tuple #[]) fun (w3 : World) =>
  VCall none Try.prog 32 #[.pointer (some ⟨b9, 0, none⟩), .slice lasts_1.base lasts_1.len lasts_1.cap, .func (.func 33) #[] #[], .func (.func 34) #[] #[]] w3 (.tuple #[]) fun (w4 : World) =>
  ∀ (w5 : World), w5 = World.drew w4 →
  VNN none (some ⟨b9, 0, none⟩) fun (a17 : Addr) =>
  VLd none w5 a17 [CT.sl] fun (v19 : Sl) =>
  VNN none (some ⟨b9, 0, none⟩) fun (a21 : Addr) =>
  VLd none w5 a21 [CT.sl] fun (v23 : Sl) =>
  VIx none v19.base v19.len (IntKind.wrap .i64 (((v23.len : Nat) : Int) - 1)) fun (a26 : Addr) =>
  VSt none w5 (Addr.add (Addr.add a26 ((Int.toNat (IntKind.wrap .i64 (((v23.len : Nat) : Int) - 1))) * 3)) 2) [.bool true] fun (w6 : World) =>
  VNN none (some ⟨b9, 0, none⟩) fun (a29 : Addr) =>
  VLd none w6 a29 [CT.sl] fun (v31 : Sl) =>
  R (.returned (.slice v31.base v31.len v31.cap)) w6
theorem sh_hand_Cut_ok (pairs_0 : Sl) (lasts_1 : Sl) (w : World) (R : Ending → World → Prop) (h : sh_hand_Cut pairs_0 lasts_1 w R) : Calls Try.prog 11 #[.slice pairs_0.base pairs_0.len pairs_0.cap, .slice lasts_1.base lasts_1.len lasts_1.cap] w R :=
  calls_of_sh (args := [.slice pairs_0.base pairs_0.len pairs_0.cap, .slice lasts_1.base lasts_1.len lasts_1.cap]) (.two .auto (.two .auto (.two .auto (.two .auto (.two .auto (.two .auto .auto)))))) Try.func11 (by kernel_rfl) (by kernel_rfl) (by kernel_rfl) h

/-- 12: buttery/butteryref23.Same -/
def sh_butteryref23_Same (a_0_0 : Sl) (a_0_1 : Sl) (a_0_2 : Bool) (b_1_0 : Sl) (b_1_1 : Sl) (b_1_2 : Bool) (w : World) (R : Ending → World → Prop) : Prop :=
  VNw none w (.cells #[.slice a_0_0.base a_0_0.len a_0_0.cap, .slice a_0_1.base a_0_1.len a_0_1.cap, .bool a_0_2] 31) fun (a_2 : Nat) (w1 : World) =>
  VNw none w1 (.cells #[.slice b_1_0.base b_1_0.len b_1_0.cap, .slice b_1_1.base b_1_1.len b_1_1.cap, .bool b_1_2] 31) fun (b_3 : Nat) (w2 : World) =>
  VLd none w2 ⟨a_2, 2, none⟩ [CT.bool] fun (v6 : Bool) =>
  VLd none w2 ⟨b_3, 2, none⟩ [CT.bool] fun (v8 : Bool) =>
  VLd (some (v6 == v8)) w2 ⟨a_2, 0, none⟩ [CT.sl] fun (v12 : Sl) =>
  VLd (some (v6 == v8)) w2 ⟨b_3, 0, none⟩ [CT.sl] fun (v14 : Sl) =>
  VCall (some (v6 == v8)) Try.prog 35 #[.slice v12.base v12.len v12.cap, .slice v14.base v14.len v14.cap] w2 (.bool false) fun (r15 : Bool) (w3 : World) =>
  VLd (some ((v6 == v8) && r15)) w3 ⟨a_2, 1, none⟩ [CT.sl] fun (v19 : Sl) =>
  VLd (some ((v6 == v8) && r15)) w3 ⟨b_3, 1, none⟩ [CT.sl] fun (v21 : Sl) =>
  VCall (some ((v6 == v8) && r15)) Try.prog 36 #[.slice v19.base v19.len v19.cap, .slice v21.base v21.len v21.cap] w3 (.bool false) fun (r22 : Bool) (w4 : World) =>
  R (.returned (.bool (((v6 == v8) && r15) && r22))) w4
theorem sh_butteryref23_Same_ok (a_0_0 : Sl) (a_0_1 : Sl) (a_0_2 : Bool) (b_1_0 : Sl) (b_1_1 : Sl) (b_1_2 : Bool) (w : World) (R : Ending → World → Prop) (h : sh_butteryref23_Same a_0_0 a_0_1 a_0_2 b_1_0 b_1_1 b_1_2 w R) : Calls Try.prog 12 #[.agg #[.slice a_0_0.base a_0_0.len a_0_0.cap, .slice a_0_1.base a_0_1.len a_0_1.cap, .bool a_0_2], .agg #[.slice b_1_0.base b_1_0.len b_1_0.cap, .slice b_1_1.base b_1_1.len b_1_1.cap, .bool b_1_2]] w R :=
  calls_of_sh (args := [.agg #[.slice a_0_0.base a_0_0.len a_0_0.cap, .slice a_0_1.base a_0_1.len a_0_1.cap, .bool a_0_2], .agg #[.slice b_1_0.base b_1_0.len b_1_0.cap, .slice b_1_1.base b_1_1.len b_1_1.cap, .bool b_1_2]]) (.two .auto (.two .auto .auto)) Try.func12 (by kernel_rfl) (by kernel_rfl) (by kernel_rfl) h

/-- 13: buttery/butterylaw23.of -/
def sh_butterylaw23_of (p_0_0 : Sl) (p_0_1 : Sl) (p_0_2 : Bool) (w : World) (R : Ending → World → Prop) : Prop :=
  VNw none w (.cells #[.slice p_0_0.base p_0_0.len p_0_0.cap, .slice p_0_1.base p_0_1.len p_0_1.cap, .bool p_0_2] 33) fun (p_1 : Nat) (w1 : World) =>
  VNw none w1 (.cells #[.slice none 0 0, .slice none 0 0, .bool false] 31) fun (b2 : Nat) (w2 : World) =>
  VLd none w2 ⟨p_1, 0, none⟩ [CT.sl] fun (v4 : Sl) =>
  VLd none w2 ⟨p_1, 1, none⟩ [CT.sl] fun (v6 : Sl) =>
  VLd none w2 ⟨p_1, 2, none⟩ [CT.bool] fun (v8 : Bool) =>
  VSt none w2 ⟨b2, 0, none⟩ [.slice v4.base v4.len v4.cap, .slice v6.base v6.len v6.cap, .bool v8] fun (w3 : World) =>
  VLd none w3 ⟨b2, 0, none⟩ [CT.sl, CT.sl, CT.bool] fun (res2_0 : Sl) (res2_1 : Sl) (res2_2 : Bool) =>
  R (.returned (.agg #[.slice res2_0.base res2_0.len res2_0.cap, .slice res2_1.base res2_1.len res2_1.cap, .bool res2_2])) w3
theorem sh_butterylaw23_of_ok (p_0_0 : Sl) (p_0_1 : Sl) (p_0_2 : Bool) (w : World) (R : Ending → World → Prop) (h : sh_butterylaw23_of p_0_0 p_0_1 p_0_2 w R) : Calls Try.prog 13 #[.agg #[.slice p_0_0.base p_0_0.len p_0_0.cap, .slice p_0_1.base p_0_1.len p_0_1.cap, .bool p_0_2]] w R :=
  calls_of_sh (args := [.agg #[.slice p_0_0.base p_0_0.len p_0_0.cap, .slice p_0_1.base p_0_1.len p_0_1.cap, .bool p_0_2]]) (.two .auto (.two .auto .auto)) Try.func13 (by kernel_rfl) (by kernel_rfl) (by kernel_rfl) h

/-- 14: buttery/hand.Join -/
def sh_hand_Join (l_0 : Sl) (w : World) (R : Ending → World → Prop) : Prop :=
  ∃ I1 : Nat → Sl → Sl → Int → World → Prop, (∃ k, I1 k ⟨none, 0, 0⟩ ⟨none, 0, 0⟩ 0 w) ∧ ∀ k1 (pairs_4 : Sl) (lasts_5 : Sl) (x10 : Int) (w1 : World), I1 k1 pairs_4 lasts_5 x10 w1 →
  VIf (decide (x10 < ((l_0.len : Nat) : Int))) (
    VIx none l_0.base l_0.len x10 fun (a12 : Addr) =>
    VLd none w1 (Addr.add a12 ((Int.toNat x10) * 3)) [CT.sl, CT.sl, CT.bool] fun (v13_0 : Sl) (v13_1 : Sl) (v13_2 : Bool) =>
    VNw none w1 (.cells #[.slice none 0 0, .slice none 0 0, .bool false] 33) fun (p_7 : Nat) (w2 : World) =>
    VSt none w2 ⟨p_7, 0, none⟩ [.slice v13_0.base v13_0.len v13_0.cap, .slice v13_1.base v13_1.len v13_1.cap, .bool v13_2] fun (w3 : World) =>
    ∀ (w4 : World), w4 = World.drew w3 →
    VLd none w4 ⟨p_7, 0, none⟩ [CT.sl] fun (v16 : Sl) =>
    VLd none w4 ⟨p_7, 1, none⟩ [CT.sl] fun (v20 : Sl) =>
    VApp none w4 37 2 32 #[.string ByteArray.empty, .string ByteArray.empty] pairs_4.base pairs_4.len pairs_4.cap v16.len (fun news => Seg w4 v16.base v16.len 2 news) fun (l17 : Sl) (w5 : World) =>
    Rd w5 ⟨p_7, 1, none⟩ [.slice v20.base v20.len v20.cap] ∧
    VApp none w5 68 5 40 #[.int .i64 0, .int .i64 0, .int .u8 0, .bool false, .string ByteArray.empty] lasts_5.base lasts_5.len lasts_5.cap v20.len (fun news => Seg w5 v20.base v20.len 5 news) fun (l21 : Sl) (w6 : World) =>
    ∃ k', k' < k1 ∧ I1 k' l17 l21 (IntKind.wrap .i64 (x10 + 1)) w6
  ) (
    R (.returned (.tuple #[.slice pairs_4.base pairs_4.len pairs_4.cap, .slice lasts_5.base lasts_5.len lasts_5.cap])) w1
  )
theorem sh_hand_Join_ok (l_0 : Sl) (w : World) (R : Ending → World → Prop) (h : sh_hand_Join l_0 w R) : Calls Try.prog 14 #[.slice l_0.base l_0.len l_0.cap] w R :=
  calls_of_sh (args := [.slice l_0.base l_0.len l_0.cap]) (.two .auto (.two .auto (.two .auto (.two (.two .auto (.one (.loop [(4, .slice none 0 0), (5, .slice none 0 0), (10, .int .i64 0)] (.two .auto (.two (.two .auto .auto) (.two (.one (.two .auto .auto)) .auto)))))) (.two .auto .auto))))) Try.func14 (by kernel_rfl) (by kernel_rfl) (by kernel_rfl) h

/-- 15: buttery/butterylaw23.spoil -/
def sh_butterylaw23_spoil (p_0_0 : Sl) (p_0_1 : Sl) (p_0_2 : Bool) (w : World) (R : Ending → World → Prop) : Prop :=
  VNw none w (.cells #[.slice p_0_0.base p_0_0.len p_0_0.cap, .slice p_0_1.base p_0_1.len p_0_1.cap, .bool p_0_2] 33) fun (p_1 : Nat) (w1 : World) =>
  ∃ I1 : Nat → Int → World → Prop, (∃ k, I1 k 0 w1) ∧ ∀ k1 (i_2 : Int) (w2 : World), I1 k1 i_2 w2 →
  VLd none w2 ⟨p_1, 0, none⟩ [CT.sl] fun (v6 : Sl) =>
  VIf (decide (i_2 < ((v6.len : Nat) : Int))) (
    VLd none w2 ⟨p_1, 0, none⟩ [CT.sl] fun (v12 : Sl) =>
    VIx none v12.base v12.len i_2 fun (a14 : Addr) =>
    VSt none w2 (Addr.add a14 ((Int.toNat i_2) * 2)) [.string (ByteArray.mk #[63])] fun (w3 : World) =>
    VSet (IntKind.wrap .i64 (i_2 + 1)) fun (i_2' : Int) =>
    ∃ k', k' < k1 ∧ I1 k' i_2' w3
  ) (
    ∃ I2 : Nat → Int → World → Prop, (∃ k, I2 k 0 w2) ∧ ∀ k2 (i_3 : Int) (w4 : World), I2 k2 i_3 w4 →
    VLd none w4 ⟨p_1, 1, none⟩ [CT.sl] fun (v18 : Sl) =>
    VIf (decide (i_3 < ((v18.len : Nat) : Int))) (
      VLd none w4 ⟨p_1, 1, none⟩ [CT.sl] fun (v24 : Sl) =>
      VIx none v24.base v24.len i_3 fun (a26 : Addr) =>
      VSt none w4 (Addr.add (Addr.add a26 ((Int.toNat i_3) * 5)) 1) [.int .i64 (-7)] fun (w5 : World) =>
      VSet (IntKind.wrap .i64 (i_3 + 1)) fun (i_3' : Int) =>
      ∃ k', k' < k2 ∧ I2 k' i_3' w5
    ) (
      R (.returned (.tuple #[])) w4
    )
  )
theorem sh_butterylaw23_spoil_ok (p_0_0 : Sl) (p_0_1 : Sl) (p_0_2 : Bool) (w : World) (R : Ending → World → Prop) (h : sh_butterylaw23_spoil p_0_0 p_0_1 p_0_2 w R) : Calls Try.prog 15 #[.agg #[.slice p_0_0.base p_0_0.len p_0_0.cap, .slice p_0_1.base p_0_1.len p_0_1.cap, .bool p_0_2]] w R :=
  calls_of_sh (args := [.agg #[.slice p_0_0.base p_0_0.len p_0_0.cap, .slice p_0_1.base p_0_1.len p_0_1.cap, .bool p_0_2]]) (.two .auto (.two (.two .auto (.one (.loop [(2, .int .i64 0)] (.two (.two .auto (.two .auto .auto)) (.two (.one .auto) .auto))))) (.two .auto (.one (.loop [(3, .int .i64 0)] (.two (.two .auto (.two .auto .auto)) (.two (.one .auto) .auto))))))) Try.func15 (by kernel_rfl) (by kernel_rfl) (by kernel_rfl) h

/-- 16: buttery/hand.New -/
def sh_hand_New (l_0 : Sl) (every_1 : Int) (w : World) (R : Ending → World → Prop) : Prop :=
  VIf (((((l_0.len : Nat) : Int) == 0) || (decide (every_1 < 1))) || (decide (every_1 > 1000))) (
    R (.returned (.tuple #[.pointer none, .int .i64 1])) w
  ) (
    VCall none Try.prog 37 #[.slice l_0.base l_0.len l_0.cap] w (.slice none 0 0) fun (r18 : Sl) (w1 : World) =>
    VNw none w1 (.cells #[.slice r18.base r18.len r18.cap, .int .i64 every_1, .int .i64 0, .bool false, .int .i64 0] 88) fun (b21 : Nat) (w2 : World) =>
    R (.returned (.tuple #[.pointer (some ⟨b21, 0, none⟩), .int .i64 0])) w2
  )
theorem sh_hand_New_ok (l_0 : Sl) (every_1 : Int) (w : World) (R : Ending → World → Prop) (h : sh_hand_New l_0 every_1 w R) : Calls Try.prog 16 #[.slice l_0.base l_0.len l_0.cap, .int .i64 every_1] w R :=
  calls_of_sh (args := [.slice l_0.base l_0.len l_0.cap, .int .i64 every_1]) (.two .auto (.two (.two .auto (.two (.two .auto .auto) .auto)) (.two .auto .auto))) Try.func16 (by kernel_rfl) (by kernel_rfl) (by kernel_rfl) h

/-- 17: (*buttery/hand.Sender).Due -/
def sh_hand_Sender_Due (s_0 : Option Addr) (now_1 : Int) (w : World) (R : Ending → World → Prop) : Prop :=
  VNw none w (.cells #[.slice none 0 0, .slice none 0 0, .bool false] 33) fun (b5 : Nat) (w1 : World) =>
  ∀ (w2 : World), w2 = World.drew w1 →
  VNN (some (!s_0.isNone)) s_0 fun (a11 : Addr) =>
  VLd (some (!s_0.isNone)) w2 (Addr.add a11 2) [CT.int .i64] fun (v13 : Int) =>
  VNN (some (!s_0.isNone)) s_0 fun (a15 : Addr) =>
  VLd (some (!s_0.isNone)) w2 a15 [CT.sl] fun (v17 : Sl) =>
  VNN (some (!(s_0.isNone || (v13 == ((v17.len : Nat) : Int))))) s_0 fun (a23 : Addr) =>
  VLd (some (!(s_0.isNone || (v13 == ((v17.len : Nat) : Int))))) w2 (Addr.add a23 3) [CT.bool] fun (v25 : Bool) =>
  VNN (some ((!(s_0.isNone || (v13 == ((v17.len : Nat) : Int)))) && v25)) s_0 fun (a29 : Addr) =>
  VLd (some ((!(s_0.isNone || (v13 == ((v17.len : Nat) : Int)))) && v25)) w2 (Addr.add a29 4) [CT.int .i64] fun (v31 : Int) =>
  VNN (some ((!(s_0.isNone || (v13 == ((v17.len : Nat) : Int)))) && (v25 && (decide (now_1 ≥ v31))))) s_0 fun (a37 : Addr) =>
  VLd (some ((!(s_0.isNone || (v13 == ((v17.len : Nat) : Int)))) && (v25 && (decide (now_1 ≥ v31))))) w2 (Addr.add a37 4) [CT.int .i64] fun (v39 : Int) =>
  VNN (some ((!(s_0.isNone || (v13 == ((v17.len : Nat) : Int)))) && (v25 && (decide (now_1 ≥ v31))))) s_0 fun (a42 : Addr) =>
  VLd (some ((!(s_0.isNone || (v13 == ((v17.len : Nat) : Int)))) && (v25 && (decide (now_1 ≥ v31))))) w2 (Addr.add a42 1) [CT.int .i64] fun (v44 : Int) =>
  VIf ((s_0.isNone || (v13 == ((v17.len : Nat) : Int))) || ((v25 && (decide (now_1 ≥ v31))) && (decide ((IntKind.wrap .i64 (now_1 - v39)) < v44)))) (
    VSt none w2 ⟨b5, 0, none⟩ [.slice none 0 0, .slice none 0 0, .bool false] fun (w3 : World) =>
    VLd none w3 ⟨b5, 0, none⟩ [CT.sl, CT.sl, CT.bool] fun (res5_0 : Sl) (res5_1 : Sl) (res5_2 : Bool) =>
    R (.returned (.tuple #[.int .i64 0, .agg #[.slice res5_0.base res5_0.len res5_0.cap, .slice res5_1.base res5_1.len res5_1.cap, .bool res5_2], .bool false])) w3
  ) (
    VNN none s_0 fun (a52 : Addr) =>
    VSt none w2 (Addr.add a52 3) [.bool true] fun (w4 : World) =>
    VNN none s_0 fun (a54 : Addr) =>
    VSt none w4 (Addr.add a54 4) [.int .i64 now_1] fun (w5 : World) =>
    ∀ (w6 : World), w6 = World.drew w5 →
    VNN none s_0 fun (a57 : Addr) =>
    VLd none w6 (Addr.add a57 2) [CT.int .i64] fun (v59 : Int) =>
    VNN none s_0 fun (a61 : Addr) =>
    VLd none w6 a61 [CT.sl] fun (v63 : Sl) =>
    VNN none s_0 fun (a65 : Addr) =>
    VLd none w6 (Addr.add a65 2) [CT.int .i64] fun (v67 : Int) =>
    VIx none v63.base v63.len v67 fun (a68 : Addr) =>
    VLd none w6 (Addr.add a68 ((Int.toNat v67) * 3)) [CT.sl, CT.sl, CT.bool] fun (v69_0 : Sl) (v69_1 : Sl) (v69_2 : Bool) =>
    VCall none Try.prog 38 #[.agg #[.slice v69_0.base v69_0.len v69_0.cap, .slice v69_1.base v69_1.len v69_1.cap, .bool v69_2]] w6 (.agg #[.slice none 0 0, .slice none 0 0, .bool false]) fun (r70_0 : Sl) (r70_1 : Sl) (r70_2 : Bool) (w7 : World) =>
    Rd w7 (Addr.add a57 2) [.int .i64 v59] ∧
    VSet v59 fun (v4 : Int) =>
    VSt none w7 ⟨b5, 0, none⟩ [.slice r70_0.base r70_0.len r70_0.cap, .slice r70_1.base r70_1.len r70_1.cap, .bool r70_2] fun (w8 : World) =>
    VLd none w8 ⟨b5, 0, none⟩ [CT.sl, CT.sl, CT.bool] fun (res5_0 : Sl) (res5_1 : Sl) (res5_2 : Bool) =>
    R (.returned (.tuple #[.int .i64 v4, .agg #[.slice res5_0.base res5_0.len res5_0.cap, .slice res5_1.base res5_1.len res5_1.cap, .bool res5_2], .bool true])) w8
  )
theorem sh_hand_Sender_Due_ok (s_0 : Option Addr) (now_1 : Int) (w : World) (R : Ending → World → Prop) (h : sh_hand_Sender_Due s_0 now_1 w R) : Calls Try.prog 17 #[.pointer s_0, .int .i64 now_1] w R :=
  calls_of_sh (args := [.pointer s_0, .int .i64 now_1]) (.two .auto (.two (.two .auto (.two (.two .auto .auto) .auto)) (.two .auto (.two .auto .auto)))) Try.func17 (by kernel_rfl) (by kernel_rfl) (by kernel_rfl) h

/-- 18: (*buttery/butteryref23.Sender).Due -/
def sh_butteryref23_Sender_Due (s_0 : Option Addr) (now_1 : Int) (w : World) (R : Ending → World → Prop) : Prop :=
  VNw none w (.cells #[.slice none 0 0, .slice none 0 0, .bool false] 31) fun (b5 : Nat) (w1 : World) =>
  ∀ (w2 : World), w2 = World.drew w1 →
  VNN none s_0 fun (a8 : Addr) =>
  VLd none w2 (Addr.add a8 2) [CT.int .i64] fun (v10 : Int) =>
  VNN none s_0 fun (a12 : Addr) =>
  VLd none w2 a12 [CT.sl] fun (v14 : Sl) =>
  VIf (decide (v10 ≥ ((v14.len : Nat) : Int))) (
    VSt none w2 ⟨b5, 0, none⟩ [.slice none 0 0, .slice none 0 0, .bool false] fun (w3 : World) =>
    VLd none w3 ⟨b5, 0, none⟩ [CT.sl, CT.sl, CT.bool] fun (res5_0 : Sl) (res5_1 : Sl) (res5_2 : Bool) =>
    R (.returned (.tuple #[.int .i64 0, .agg #[.slice res5_0.base res5_0.len res5_0.cap, .slice res5_1.base res5_1.len res5_1.cap, .bool res5_2], .bool false])) w3
  ) (
    ∀ (w4 : World), w4 = World.drew w2 →
    VNN none s_0 fun (a19 : Addr) =>
    VLd none w4 (Addr.add a19 3) [CT.bool] fun (v21 : Bool) =>
    VNN (some v21) s_0 fun (a25 : Addr) =>
    VLd (some v21) w4 (Addr.add a25 4) [CT.int .i64] fun (v27 : Int) =>
    VNN (some (v21 && (decide (now_1 ≥ v27)))) s_0 fun (a33 : Addr) =>
    VLd (some (v21 && (decide (now_1 ≥ v27)))) w4 (Addr.add a33 4) [CT.int .i64] fun (v35 : Int) =>
    VNN (some (v21 && (decide (now_1 ≥ v27)))) s_0 fun (a37 : Addr) =>
    VLd (some (v21 && (decide (now_1 ≥ v27)))) w4 (Addr.add a37 1) [CT.int .i64] fun (v39 : Int) =>
    VIf ((v21 && (decide (now_1 ≥ v27))) && (decide (now_1 < (IntKind.wrap .i64 (v35 + v39))))) (
      VSt none w4 ⟨b5, 0, none⟩ [.slice none 0 0, .slice none 0 0, .bool false] fun (w5 : World) =>
      VLd none w5 ⟨b5, 0, none⟩ [CT.sl, CT.sl, CT.bool] fun (res5_0 : Sl) (res5_1 : Sl) (res5_2 : Bool) =>
      R (.returned (.tuple #[.int .i64 0, .agg #[.slice res5_0.base res5_0.len res5_0.cap, .slice res5_1.base res5_1.len res5_1.cap, .bool res5_2], .bool false])) w5
    ) (
      VNN none s_0 fun (a45 : Addr) =>
      VSt none w4 (Addr.add a45 3) [.bool true] fun (w6 : World) =>
      VNN none s_0 fun (a49 : Addr) =>
      VSt none w6 (Addr.add a49 4) [.int .i64 now_1] fun (w7 : World) =>
      ∀ (w8 : World), w8 = World.drew w7 →
      VNN none s_0 fun (a52 : Addr) =>
      VLd none w8 (Addr.add a52 2) [CT.int .i64] fun (v54 : Int) =>
      VNN none s_0 fun (a56 : Addr) =>
      VLd none w8 a56 [CT.sl] fun (v58 : Sl) =>
      VNN none s_0 fun (a60 : Addr) =>
      VLd none w8 (Addr.add a60 2) [CT.int .i64] fun (v62 : Int) =>
      VIx none v58.base v58.len v62 fun (a63 : Addr) =>
      VLd none w8 (Addr.add a63 ((Int.toNat v62) * 3)) [CT.sl, CT.sl, CT.bool] fun (v64_0 : Sl) (v64_1 : Sl) (v64_2 : Bool) =>
      VSet v54 fun (v4 : Int) =>
      VSt none w8 ⟨b5, 0, none⟩ [.slice v64_0.base v64_0.len v64_0.cap, .slice v64_1.base v64_1.len v64_1.cap, .bool v64_2] fun (w9 : World) =>
      VLd none w9 ⟨b5, 0, none⟩ [CT.sl, CT.sl, CT.bool] fun (res5_0 : Sl) (res5_1 : Sl) (res5_2 : Bool) =>
      R (.returned (.tuple #[.int .i64 v4, .agg #[.slice res5_0.base res5_0.len res5_0.cap, .slice res5_1.base res5_1.len res5_1.cap, .bool res5_2], .bool true])) w9
    )
  )
theorem sh_butteryref23_Sender_Due_ok (s_0 : Option Addr) (now_1 : Int) (w : World) (R : Ending → World → Prop) (h : sh_butteryref23_Sender_Due s_0 now_1 w R) : Calls Try.prog 18 #[.pointer s_0, .int .i64 now_1] w R :=
  calls_of_sh (args := [.pointer s_0, .int .i64 now_1]) (.two .auto (.two (.two .auto (.two (.two .auto .auto) .auto)) (.two (.two .auto (.two (.two .auto .auto) .auto)) (.two .auto (.two .auto (.two .auto .auto)))))) Try.func18 (by kernel_rfl) (by kernel_rfl) (by kernel_rfl) h

/-- 19: (*buttery/hand.Sender).Told -/
def sh_hand_Sender_Told (s_0 : Option Addr) (next_1 : Int) (w : World) (R : Ending → World → Prop) : Prop :=
  ∃ Φ1 : World → Prop, (
    VIf s_0.isNone (
      R (.returned (.int .i64 2)) w
    ) (
      VNN (some (!(decide (next_1 < 0)))) s_0 fun (a14 : Addr) =>
      VLd (some (!(decide (next_1 < 0)))) w a14 [CT.sl] fun (v16 : Sl) =>
      VIf ((decide (next_1 < 0)) || (decide (next_1 > ((v16.len : Nat) : Int)))) (
        R (.returned (.int .i64 1)) w
      ) (
        VNN none s_0 fun (a23 : Addr) =>
        VLd none w (Addr.add a23 2) [CT.int .i64] fun (v25 : Int) =>
        VIf (decide (next_1 > v25)) (
          VNN none s_0 fun (a30 : Addr) =>
          VSt none w (Addr.add a30 2) [.int .i64 next_1] fun (w1 : World) =>
          VNN none s_0 fun (a32 : Addr) =>
          VSt none w1 (Addr.add a32 3) [.bool false] fun (w2 : World) =>
          Φ1 w2
        ) (
          Φ1 w
        )
      )
    )
  ) ∧ ∀ (w3 : World), Φ1 w3 →
  R (.returned (.int .i64 0)) w3
theorem sh_hand_Sender_Told_ok (s_0 : Option Addr) (next_1 : Int) (w : World) (R : Ending → World → Prop) (h : sh_hand_Sender_Told s_0 next_1 w R) : Calls Try.prog 19 #[.pointer s_0, .int .i64 next_1] w R :=
  calls_of_sh (args := [.pointer s_0, .int .i64 next_1]) (.two .auto (.two (.bjoin [] (.two .auto (.two (.two .auto .auto) (.two .auto (.two (.two .auto .auto) (.two .auto (.two .auto .auto))))))) (.two .auto .auto))) Try.func19 (by kernel_rfl) (by kernel_rfl) (by kernel_rfl) h

/-- 20: (*buttery/butteryref23.Sender).Told -/
def sh_butteryref23_Sender_Told (s_0 : Option Addr) (next_1 : Int) (w : World) (R : Ending → World → Prop) : Prop :=
  VNN (some (!(decide (next_1 < 0)))) s_0 fun (a10 : Addr) =>
  VLd (some (!(decide (next_1 < 0)))) w a10 [CT.sl] fun (v12 : Sl) =>
  VIf ((decide (next_1 < 0)) || (decide (next_1 > ((v12.len : Nat) : Int)))) (
    R (.returned (.bool false)) w
  ) (
    VNN none s_0 fun (a18 : Addr) =>
    VLd none w (Addr.add a18 2) [CT.int .i64] fun (v20 : Int) =>
    VIf (decide (next_1 > v20)) (
      VNN none s_0 fun (a24 : Addr) =>
      VSt none w (Addr.add a24 2) [.int .i64 next_1] fun (w1 : World) =>
      VNN none s_0 fun (a27 : Addr) =>
      VSt none w1 (Addr.add a27 3) [.bool false] fun (w2 : World) =>
      R (.returned (.bool true)) w2
    ) (
      R (.returned (.bool true)) w
    )
  )
theorem sh_butteryref23_Sender_Told_ok (s_0 : Option Addr) (next_1 : Int) (w : World) (R : Ending → World → Prop) (h : sh_butteryref23_Sender_Told s_0 next_1 w R) : Calls Try.prog 20 #[.pointer s_0, .int .i64 next_1] w R :=
  calls_of_sh (args := [.pointer s_0, .int .i64 next_1]) (.two .auto (.two (.two .auto (.two (.two .auto .auto) .auto)) (.two (.two .auto (.two (.two .auto .auto) .auto)) (.two .auto .auto)))) Try.func20 (by kernel_rfl) (by kernel_rfl) (by kernel_rfl) h

/-- 21: (*buttery/hand.Sender).Done -/
def sh_hand_Sender_Done (s_0 : Option Addr) (w : World) (R : Ending → World → Prop) : Prop :=
  ∀ (w1 : World), w1 = World.drew w →
  VNN (some (!s_0.isNone)) s_0 fun (a7 : Addr) =>
  VLd (some (!s_0.isNone)) w1 (Addr.add a7 2) [CT.int .i64] fun (v9 : Int) =>
  VNN (some (!s_0.isNone)) s_0 fun (a11 : Addr) =>
  VLd (some (!s_0.isNone)) w1 a11 [CT.sl] fun (v13 : Sl) =>
  R (.returned (.bool ((!s_0.isNone) && (v9 == ((v13.len : Nat) : Int))))) w1
theorem sh_hand_Sender_Done_ok (s_0 : Option Addr) (w : World) (R : Ending → World → Prop) (h : sh_hand_Sender_Done s_0 w R) : Calls Try.prog 21 #[.pointer s_0] w R :=
  calls_of_sh (args := [.pointer s_0]) (.two .auto (.two .auto .auto)) Try.func21 (by kernel_rfl) (by kernel_rfl) (by kernel_rfl) h

/-- 22: buttery/butterylaw23.works -/
def sh_butterylaw23_works (w : World) (R : Ending → World → Prop) : Prop :=
  VCall none Try.prog 27 #[] w (.slice none 0 0) fun (r22 : Sl) (w1 : World) =>
  VCall none Try.prog 16 #[.slice r22.base r22.len r22.cap, .int .i64 4] w1 (.tuple #[.pointer none, .int .i64 0]) fun (r25_0 : Option Addr) (r25_1 : Int) (w2 : World) =>
  VSet r25_1 fun (e_3 : Int) =>
  VIx (some (!(((r22.len : Nat) : Int) != 2))) r22.base r22.len 0 fun (a33 : Addr) =>
  VLd (some (!(((r22.len : Nat) : Int) != 2))) w2 a33 [CT.sl] fun (v35 : Sl) =>
  VIx (some (!((((r22.len : Nat) : Int) != 2) || (((v35.len : Nat) : Int) != 1)))) r22.base r22.len 1 fun (a41 : Addr) =>
  VLd (some (!((((r22.len : Nat) : Int) != 2) || (((v35.len : Nat) : Int) != 1)))) w2 (Addr.add a41 3) [CT.sl] fun (v43 : Sl) =>
  VIx (some (!(((((r22.len : Nat) : Int) != 2) || (((v35.len : Nat) : Int) != 1)) || (((v43.len : Nat) : Int) != 2)))) r22.base r22.len 1 fun (a49 : Addr) =>
  VLd (some (!(((((r22.len : Nat) : Int) != 2) || (((v35.len : Nat) : Int) != 1)) || (((v43.len : Nat) : Int) != 2)))) w2 (Addr.add a49 4) [CT.sl] fun (v51 : Sl) =>
  VIx (some (!((((((r22.len : Nat) : Int) != 2) || (((v35.len : Nat) : Int) != 1)) || (((v43.len : Nat) : Int) != 2)) || (((v51.len : Nat) : Int) != 1)))) r22.base r22.len 0 fun (a57 : Addr) =>
  VLd (some (!((((((r22.len : Nat) : Int) != 2) || (((v35.len : Nat) : Int) != 1)) || (((v43.len : Nat) : Int) != 2)) || (((v51.len : Nat) : Int) != 1)))) w2 (Addr.add a57 2) [CT.bool] fun (v59 : Bool) =>
  VIx (some (!(((((((r22.len : Nat) : Int) != 2) || (((v35.len : Nat) : Int) != 1)) || (((v43.len : Nat) : Int) != 2)) || (((v51.len : Nat) : Int) != 1)) || v59))) r22.base r22.len 1 fun (a63 : Addr) =>
  VLd (some (!(((((((r22.len : Nat) : Int) != 2) || (((v35.len : Nat) : Int) != 1)) || (((v43.len : Nat) : Int) != 2)) || (((v51.len : Nat) : Int) != 1)) || v59))) w2 (Addr.add a63 5) [CT.bool] fun (v65 : Bool) =>
  VIf (((((((((r22.len : Nat) : Int) != 2) || (((v35.len : Nat) : Int) != 1)) || (((v43.len : Nat) : Int) != 2)) || (((v51.len : Nat) : Int) != 1)) || v59) || (!v65)) || (e_3 != 0)) (
    R (.returned (.bool false)) w2
  ) (
    VCall none Try.prog 17 #[.pointer r25_0, .int .i64 7] w2 (.tuple #[.int .i64 0, .agg #[.slice none 0 0, .slice none 0 0, .bool false], .bool false]) fun (r74_0 : Int) (r74_1 : Sl) (r74_2 : Sl) (r74_3 : Bool) (r74_4 : Bool) (w3 : World) =>
    VNw none w3 (.cells #[.slice none 0 0, .slice none 0 0, .bool false] 33) fun (p_5 : Nat) (w4 : World) =>
    VSet r74_0 fun (a_4 : Int) =>
    VSt none w4 ⟨p_5, 0, none⟩ [.slice r74_1.base r74_1.len r74_1.cap, .slice r74_2.base r74_2.len r74_2.cap, .bool r74_3] fun (w5 : World) =>
    VCall none Try.prog 17 #[.pointer r25_0, .int .i64 8] w5 (.tuple #[.int .i64 0, .agg #[.slice none 0 0, .slice none 0 0, .bool false], .bool false]) fun (r80_0 : Int) (r80_1 : Sl) (r80_2 : Sl) (r80_3 : Bool) (r80_4 : Bool) (w6 : World) =>
    VNw none w6 (.cells #[.slice none 0 0, .slice none 0 0, .bool false] 33) fun (b8 : Nat) (w7 : World) =>
    VSet r80_0 fun (v7 : Int) =>
    VSt none w7 ⟨b8, 0, none⟩ [.slice r80_1.base r80_1.len r80_1.cap, .slice r80_2.base r80_2.len r80_2.cap, .bool r80_3] fun (w8 : World) =>
    VCall none Try.prog 17 #[.pointer r25_0, .int .i64 11] w8 (.tuple #[.int .i64 0, .agg #[.slice none 0 0, .slice none 0 0, .bool false], .bool false]) fun (r86_0 : Int) (r86_1 : Sl) (r86_2 : Sl) (r86_3 : Bool) (r86_4 : Bool) (w9 : World) =>
    VNw none w9 (.cells #[.slice none 0 0, .slice none 0 0, .bool false] 33) fun (b11 : Nat) (w10 : World) =>
    VSet r86_0 fun (b_10 : Int) =>
    VSt none w10 ⟨b11, 0, none⟩ [.slice r86_1.base r86_1.len r86_1.cap, .slice r86_2.base r86_2.len r86_2.cap, .bool r86_3] fun (w11 : World) =>
    VCall none Try.prog 19 #[.pointer r25_0, .int .i64 1] w11 (.int .i64 0) fun (r91 : Int) (w12 : World) =>
    VSet r91 fun (f_13 : Int) =>
    VCall none Try.prog 17 #[.pointer r25_0, .int .i64 11] w12 (.tuple #[.int .i64 0, .agg #[.slice none 0 0, .slice none 0 0, .bool false], .bool false]) fun (r94_0 : Int) (r94_1 : Sl) (r94_2 : Sl) (r94_3 : Bool) (r94_4 : Bool) (w13 : World) =>
    VNw none w13 (.cells #[.slice none 0 0, .slice none 0 0, .bool false] 33) fun (b15 : Nat) (w14 : World) =>
    VSet r94_0 fun (c_14 : Int) =>
    VSt none w14 ⟨b15, 0, none⟩ [.slice r94_1.base r94_1.len r94_1.cap, .slice r94_2.base r94_2.len r94_2.cap, .bool r94_3] fun (w15 : World) =>
    VCall none Try.prog 19 #[.pointer r25_0, .int .i64 2] w15 (.int .i64 0) fun (r99 : Int) (w16 : World) =>
    VSet r99 fun (g_17 : Int) =>
    VCall none Try.prog 24 #[] w16 (.pointer none) fun (r100 : Option Addr) (w17 : World) =>
    VLd none w17 ⟨p_5, 0, none⟩ [CT.sl, CT.sl, CT.bool] fun (v103_0 : Sl) (v103_1 : Sl) (v103_2 : Bool) =>
    VCall none Try.prog 25 #[.pointer r100, .int .i64 0, .agg #[.slice v103_0.base v103_0.len v103_0.cap, .slice v103_1.base v103_1.len v103_1.cap, .bool v103_2]] w17 (.tuple #[.int .i64 0, .bool false, .int .i64 0]) fun (r104_0 : Int) (r104_1 : Bool) (r104_2 : Int) (w18 : World) =>
    VSet r104_0 fun (n_19 : Int) =>
    VSet r104_2 fun (h_21 : Int) =>
    VCall (some (((((((((a_4 == 0) && r74_4) && (!r80_4)) && (b_10 == 0)) && r86_4) && (f_13 == 0)) && (c_14 == 1)) && r94_4) && (g_17 == 0))) Try.prog 21 #[.pointer r25_0] w18 (.bool false) fun (r141 : Bool) (w19 : World) =>
    VCall (some (((((((((((((a_4 == 0) && r74_4) && (!r80_4)) && (b_10 == 0)) && r86_4) && (f_13 == 0)) && (c_14 == 1)) && r94_4) && (g_17 == 0)) && r141) && (n_19 == 1)) && r104_1) && (h_21 == 0))) Try.prog 26 #[.pointer r100] w19 (.bool false) fun (r156 : Bool) (w20 : World) =>
    R (.returned (.bool ((((((((((((((a_4 == 0) && r74_4) && (!r80_4)) && (b_10 == 0)) && r86_4) && (f_13 == 0)) && (c_14 == 1)) && r94_4) && (g_17 == 0)) && r141) && (n_19 == 1)) && r104_1) && (h_21 == 0)) && (!r156)))) w20
  )
theorem sh_butterylaw23_works_ok (w : World) (R : Ending → World → Prop) (h : sh_butterylaw23_works w R) : Calls Try.prog 22 #[] w R :=
  calls_of_sh (args := []) (.two .auto (.two .auto (.two .auto (.two (.two .auto (.two (.two .auto .auto) .auto)) (.two .auto (.two .auto (.two .auto (.two .auto (.two .auto (.two .auto (.two .auto (.two .auto (.two .auto .auto))))))))))))) Try.func22 (by kernel_rfl) (by kernel_rfl) (by kernel_rfl) h

/-- 23: buttery/butteryref23.Size -/
def sh_butteryref23_Size (p_0_0 : Sl) (p_0_1 : Sl) (p_0_2 : Bool) (w : World) (R : Ending → World → Prop) : Prop :=
  VNw none w (.cells #[.slice p_0_0.base p_0_0.len p_0_0.cap, .slice p_0_1.base p_0_1.len p_0_1.cap, .bool p_0_2] 31) fun (p_1 : Nat) (w1 : World) =>
  ∃ I1 : Nat → Int → Int → World → Prop, (∃ k, I1 k 0 0 w1) ∧ ∀ k1 (n_3 : Int) (i_4 : Int) (w2 : World), I1 k1 n_3 i_4 w2 →
  VLd none w2 ⟨p_1, 0, none⟩ [CT.sl] fun (v8 : Sl) =>
  VIf (decide (i_4 < ((v8.len : Nat) : Int))) (
    ∀ (w3 : World), w3 = World.drew w2 →
    VLd none w3 ⟨p_1, 0, none⟩ [CT.sl] fun (v15 : Sl) =>
    VIx none v15.base v15.len i_4 fun (a17 : Addr) =>
    VLd none w3 (Addr.add a17 ((Int.toNat i_4) * 2)) [CT.str] fun (v19 : ByteArray) =>
    VLd none w3 ⟨p_1, 0, none⟩ [CT.sl] fun (v23 : Sl) =>
    VIx none v23.base v23.len i_4 fun (a25 : Addr) =>
    VLd none w3 (Addr.add (Addr.add a25 ((Int.toNat i_4) * 2)) 1) [CT.str] fun (v27 : ByteArray) =>
    VSet (IntKind.wrap .i64 ((IntKind.wrap .i64 ((IntKind.wrap .i64 (n_3 + ((v19.size : Nat) : Int))) + ((v27.size : Nat) : Int))) + 8)) fun (n_3' : Int) =>
    VSet (IntKind.wrap .i64 (i_4 + 1)) fun (i_4' : Int) =>
    ∃ k', k' < k1 ∧ I1 k' n_3' i_4' w3
  ) (
    ∃ I2 : Nat → Int → Int → World → Prop, (∃ k, I2 k n_3 0 w2) ∧ ∀ k2 (n_3'' : Int) (i_5 : Int) (w4 : World), I2 k2 n_3'' i_5 w4 →
    VLd none w4 ⟨p_1, 1, none⟩ [CT.sl] fun (v33 : Sl) =>
    VIf (decide (i_5 < ((v33.len : Nat) : Int))) (
      VLd none w4 ⟨p_1, 1, none⟩ [CT.sl] fun (v40 : Sl) =>
      VIx none v40.base v40.len i_5 fun (a42 : Addr) =>
      VLd none w4 (Addr.add (Addr.add a42 ((Int.toNat i_5) * 5)) 4) [CT.str] fun (v45 : ByteArray) =>
      VSet (IntKind.wrap .i64 ((IntKind.wrap .i64 (n_3'' + ((v45.size : Nat) : Int))) + 32)) fun (n_3_3 : Int) =>
      VSet (IntKind.wrap .i64 (i_5 + 1)) fun (i_5' : Int) =>
      ∃ k', k' < k2 ∧ I2 k' n_3_3 i_5' w4
    ) (
      VSet n_3'' fun (v2 : Int) =>
      R (.returned (.int .i64 v2)) w4
    )
  )
theorem sh_butteryref23_Size_ok (p_0_0 : Sl) (p_0_1 : Sl) (p_0_2 : Bool) (w : World) (R : Ending → World → Prop) (h : sh_butteryref23_Size p_0_0 p_0_1 p_0_2 w R) : Calls Try.prog 23 #[.agg #[.slice p_0_0.base p_0_0.len p_0_0.cap, .slice p_0_1.base p_0_1.len p_0_1.cap, .bool p_0_2]] w R :=
  calls_of_sh (args := [.agg #[.slice p_0_0.base p_0_0.len p_0_0.cap, .slice p_0_1.base p_0_1.len p_0_1.cap, .bool p_0_2]]) (.two .auto (.two .auto (.two (.two .auto (.one (.loop [(3, .int .i64 0), (4, .int .i64 0)] (.two (.two .auto (.two .auto .auto)) (.two (.one .auto) .auto))))) (.two (.two .auto (.one (.loop [(3, .int .i64 0), (5, .int .i64 0)] (.two (.two .auto (.two .auto .auto)) (.two (.one .auto) .auto))))) (.two .auto .auto))))) Try.func23 (by kernel_rfl) (by kernel_rfl) (by kernel_rfl) h

/-- 24: buttery/hand.NewReceiver -/
def sh_hand_NewReceiver (w : World) (R : Ending → World → Prop) : Prop :=
  VNw none w (.cells #[.slice none 0 0] 91) fun (b2 : Nat) (w1 : World) =>
  R (.returned (.pointer (some ⟨b2, 0, none⟩))) w1
theorem sh_hand_NewReceiver_ok (w : World) (R : Ending → World → Prop) (h : sh_hand_NewReceiver w R) : Calls Try.prog 24 #[] w R :=
  calls_of_sh (args := []) (.two .auto (.two .auto .auto)) Try.func24 (by kernel_rfl) (by kernel_rfl) (by kernel_rfl) h

/-- 25: (*buttery/hand.Receiver).Take -/
def sh_hand_Receiver_Take (r_0 : Option Addr) (place_1 : Int) (p_2_0 : Sl) (p_2_1 : Sl) (p_2_2 : Bool) (w : World) (R : Ending → World → Prop) : Prop :=
  VNw none w (.cells #[.slice p_2_0.base p_2_0.len p_2_0.cap, .slice p_2_1.base p_2_1.len p_2_1.cap, .bool p_2_2] 33) fun (p_5 : Nat) (w1 : World) =>
  VIf r_0.isNone (
    R (.returned (.tuple #[.int .i64 0, .bool false, .int .i64 2])) w1
  ) (
    VIf (decide (place_1 < 0)) (
      R (.returned (.tuple #[.int .i64 0, .bool false, .int .i64 1])) w1
    ) (
      VNN none r_0 fun (a18 : Addr) =>
      VLd none w1 a18 [CT.sl] fun (v20 : Sl) =>
      VCall (some (!(place_1 != ((v20.len : Nat) : Int)))) Try.prog 26 #[.pointer r_0] w1 (.bool false) fun (r25 : Bool) (w2 : World) =>
      VIf ((place_1 != ((v20.len : Nat) : Int)) || r25) (
        VNN none r_0 fun (a28 : Addr) =>
        VLd none w2 a28 [CT.sl] fun (v30 : Sl) =>
        VSet ((v30.len : Nat) : Int) fun (v6 : Int) =>
        R (.returned (.tuple #[.int .i64 v6, .bool false, .int .i64 0])) w2
      ) (
        ∀ (w3 : World), w3 = World.drew w2 →
        VNN none r_0 fun (a34 : Addr) =>
        VLd none w3 a34 [CT.sl] fun (v36 : Sl) =>
        VLd none w3 ⟨p_5, 0, none⟩ [CT.sl, CT.sl, CT.bool] fun (v37_0 : Sl) (v37_1 : Sl) (v37_2 : Bool) =>
        VCall none Try.prog 38 #[.agg #[.slice v37_0.base v37_0.len v37_0.cap, .slice v37_1.base v37_1.len v37_1.cap, .bool v37_2]] w3 (.agg #[.slice none 0 0, .slice none 0 0, .bool false]) fun (r38_0 : Sl) (r38_1 : Sl) (r38_2 : Bool) (w4 : World) =>
        Rd w4 a34 [.slice v36.base v36.len v36.cap] ∧
        VNw none w4 (.cells #[.slice r38_0.base r38_0.len r38_0.cap, .slice r38_1.base r38_1.len r38_1.cap, .bool r38_2] 33) fun (b39 : Nat) (w5 : World) =>
        Rd w5 a34 [.slice v36.base v36.len v36.cap] ∧
        VApp none w5 33 3 56 #[.slice none 0 0, .slice none 0 0, .bool false] v36.base v36.len v36.cap 1 (fun news => Seg w5 (some ⟨b39, 0, none⟩) 1 3 news) fun (l40 : Sl) (w6 : World) =>
        VNN none r_0 fun (a41 : Addr) =>
        VSt none w6 a41 [.slice l40.base l40.len l40.cap] fun (w7 : World) =>
        VNN none r_0 fun (a44 : Addr) =>
        VLd none w7 a44 [CT.sl] fun (v46 : Sl) =>
        VSet ((v46.len : Nat) : Int) fun (v6' : Int) =>
        R (.returned (.tuple #[.int .i64 v6', .bool true, .int .i64 0])) w7
      )
    )
  )
theorem sh_hand_Receiver_Take_ok (r_0 : Option Addr) (place_1 : Int) (p_2_0 : Sl) (p_2_1 : Sl) (p_2_2 : Bool) (w : World) (R : Ending → World → Prop) (h : sh_hand_Receiver_Take r_0 place_1 p_2_0 p_2_1 p_2_2 w R) : Calls Try.prog 25 #[.pointer r_0, .int .i64 place_1, .agg #[.slice p_2_0.base p_2_0.len p_2_0.cap, .slice p_2_1.base p_2_1.len p_2_1.cap, .bool p_2_2]] w R :=
  calls_of_sh (args := [.pointer r_0, .int .i64 place_1, .agg #[.slice p_2_0.base p_2_0.len p_2_0.cap, .slice p_2_1.base p_2_1.len p_2_1.cap, .bool p_2_2]]) (.two .auto (.two (.one (.two .auto (.two (.two .auto .auto) (.two .auto (.two (.two .auto .auto) (.two .auto (.two (.two .auto .auto) .auto))))))) (.two .auto (.two .auto .auto)))) Try.func25 (by kernel_rfl) (by kernel_rfl) (by kernel_rfl) h

/-- 26: (*buttery/hand.Receiver).Done -/
def sh_hand_Receiver_Done (r_0 : Option Addr) (w : World) (R : Ending → World → Prop) : Prop :=
  VNN (some (!r_0.isNone)) r_0 fun (a7 : Addr) =>
  VLd (some (!r_0.isNone)) w a7 [CT.sl] fun (v9 : Sl) =>
  VCall (some (!r_0.isNone)) Try.prog 39 #[.slice v9.base v9.len v9.cap, .func (.func 40) #[] #[]] w (.bool false) fun (r10 : Bool) (w1 : World) =>
  R (.returned (.bool ((!r_0.isNone) && r10))) w1
theorem sh_hand_Receiver_Done_ok (r_0 : Option Addr) (w : World) (R : Ending → World → Prop) (h : sh_hand_Receiver_Done r_0 w R) : Calls Try.prog 26 #[.pointer r_0] w R :=
  calls_of_sh (args := [.pointer r_0]) (.two .auto (.two .auto .auto)) Try.func26 (by kernel_rfl) (by kernel_rfl) (by kernel_rfl) h

/-- 27: buttery/butterylaw23.two -/
def sh_butterylaw23_two (w : World) (R : Ending → World → Prop) : Prop :=
  ∃ Φ1 : Sl → World → Prop, (
    ∀ (w1 : World), w1 = World.drew w →
    (
      VMk none w1 5 1 1 #[.int .u8 0] 2000 2000 fun (b1 : Nat) (w2 : World) =>
      VStr none w2 (some ⟨b1, 0, none⟩) 2000 fun (s2 : ByteArray) =>
      (
        VMk none w2 5 1 1 #[.int .u8 0] 2000 2000 fun (b4 : Nat) (w3 : World) =>
        Seg w3 (some ⟨b1, 0, none⟩) 2000 1 (strCells s2) ∧
        VStr none w3 (some ⟨b4, 0, none⟩) 2000 fun (s5 : ByteArray) =>
        (
          VNw none w3 (.cells #[.string (ByteArray.mk #[97]), .string s2, .string (ByteArray.mk #[98]), .string s5, .string (ByteArray.mk #[99]), .string (ByteArray.mk #[49, 50, 51, 52, 53])] 37) fun (b8 : Nat) (w4 : World) =>
          VNw none w4 (.cells #[.int .i64 201, .int .i64 5, .int .u8 0, .bool false, .string ByteArray.empty] 68) fun (b10 : Nat) (w5 : World) =>
          VCall none Try.prog 11 #[.slice (some ⟨b8, 0, none⟩) 3 3, .slice (some ⟨b10, 0, none⟩) 1 1] w5 (.slice none 0 0) fun (r11 : Sl) (w6 : World) =>
          Φ1 r11 w6
        ) ∧ (
          VNw none w3 (.cells #[.int .i64 201, .int .i64 5, .int .u8 0, .bool false, .string ByteArray.empty] 68) fun (b10 : Nat) (w7 : World) =>
          Seg w7 (some ⟨b4, 0, none⟩) 2000 1 (strCells s5) ∧
          Seg w7 (some ⟨b1, 0, none⟩) 2000 1 (strCells s2) ∧
          VNw none w7 (.cells #[.string (ByteArray.mk #[97]), .string s2, .string (ByteArray.mk #[98]), .string s5, .string (ByteArray.mk #[99]), .string (ByteArray.mk #[49, 50, 51, 52, 53])] 37) fun (b8 : Nat) (w8 : World) =>
          VCall none Try.prog 11 #[.slice (some ⟨b8, 0, none⟩) 3 3, .slice (some ⟨b10, 0, none⟩) 1 1] w8 (.slice none 0 0) fun (r11 : Sl) (w9 : World) =>
          Φ1 r11 w9
        )
      ) ∧ (
        VNw none w2 (.cells #[.int .i64 201, .int .i64 5, .int .u8 0, .bool false, .string ByteArray.empty] 68) fun (b10 : Nat) (w10 : World) =>
        Seg w10 (some ⟨b1, 0, none⟩) 2000 1 (strCells s2) ∧
        VMk none w10 5 1 1 #[.int .u8 0] 2000 2000 fun (b4 : Nat) (w11 : World) =>
        Seg w11 (some ⟨b1, 0, none⟩) 2000 1 (strCells s2) ∧
        VStr none w11 (some ⟨b4, 0, none⟩) 2000 fun (s5 : ByteArray) =>
        VNw none w11 (.cells #[.string (ByteArray.mk #[97]), .string s2, .string (ByteArray.mk #[98]), .string s5, .string (ByteArray.mk #[99]), .string (ByteArray.mk #[49, 50, 51, 52, 53])] 37) fun (b8 : Nat) (w12 : World) =>
        VCall none Try.prog 11 #[.slice (some ⟨b8, 0, none⟩) 3 3, .slice (some ⟨b10, 0, none⟩) 1 1] w12 (.slice none 0 0) fun (r11 : Sl) (w13 : World) =>
        Φ1 r11 w13
      )
    ) ∧ (
    (
      VMk none w1 5 1 1 #[.int .u8 0] 2000 2000 fun (b4 : Nat) (w14 : World) =>
      VStr none w14 (some ⟨b4, 0, none⟩) 2000 fun (s5 : ByteArray) =>
      (
        VMk none w14 5 1 1 #[.int .u8 0] 2000 2000 fun (b1 : Nat) (w15 : World) =>
        Seg w15 (some ⟨b4, 0, none⟩) 2000 1 (strCells s5) ∧
        VStr none w15 (some ⟨b1, 0, none⟩) 2000 fun (s2 : ByteArray) =>
        (
          VNw none w15 (.cells #[.string (ByteArray.mk #[97]), .string s2, .string (ByteArray.mk #[98]), .string s5, .string (ByteArray.mk #[99]), .string (ByteArray.mk #[49, 50, 51, 52, 53])] 37) fun (b8 : Nat) (w16 : World) =>
          VNw none w16 (.cells #[.int .i64 201, .int .i64 5, .int .u8 0, .bool false, .string ByteArray.empty] 68) fun (b10 : Nat) (w17 : World) =>
          VCall none Try.prog 11 #[.slice (some ⟨b8, 0, none⟩) 3 3, .slice (some ⟨b10, 0, none⟩) 1 1] w17 (.slice none 0 0) fun (r11 : Sl) (w18 : World) =>
          Φ1 r11 w18
        ) ∧ (
          VNw none w15 (.cells #[.int .i64 201, .int .i64 5, .int .u8 0, .bool false, .string ByteArray.empty] 68) fun (b10 : Nat) (w19 : World) =>
          Seg w19 (some ⟨b1, 0, none⟩) 2000 1 (strCells s2) ∧
          Seg w19 (some ⟨b4, 0, none⟩) 2000 1 (strCells s5) ∧
          VNw none w19 (.cells #[.string (ByteArray.mk #[97]), .string s2, .string (ByteArray.mk #[98]), .string s5, .string (ByteArray.mk #[99]), .string (ByteArray.mk #[49, 50, 51, 52, 53])] 37) fun (b8 : Nat) (w20 : World) =>
          VCall none Try.prog 11 #[.slice (some ⟨b8, 0, none⟩) 3 3, .slice (some ⟨b10, 0, none⟩) 1 1] w20 (.slice none 0 0) fun (r11 : Sl) (w21 : World) =>
          Φ1 r11 w21
        )
      ) ∧ (
        VNw none w14 (.cells #[.int .i64 201, .int .i64 5, .int .u8 0, .bool false, .string ByteArray.empty] 68) fun (b10 : Nat) (w22 : World) =>
        Seg w22 (some ⟨b4, 0, none⟩) 2000 1 (strCells s5) ∧
        VMk none w22 5 1 1 #[.int .u8 0] 2000 2000 fun (b1 : Nat) (w23 : World) =>
        Seg w23 (some ⟨b4, 0, none⟩) 2000 1 (strCells s5) ∧
        VStr none w23 (some ⟨b1, 0, none⟩) 2000 fun (s2 : ByteArray) =>
        VNw none w23 (.cells #[.string (ByteArray.mk #[97]), .string s2, .string (ByteArray.mk #[98]), .string s5, .string (ByteArray.mk #[99]), .string (ByteArray.mk #[49, 50, 51, 52, 53])] 37) fun (b8 : Nat) (w24 : World) =>
        VCall none Try.prog 11 #[.slice (some ⟨b8, 0, none⟩) 3 3, .slice (some ⟨b10, 0, none⟩) 1 1] w24 (.slice none 0 0) fun (r11 : Sl) (w25 : World) =>
        Φ1 r11 w25
      )
    ) ∧ (
      VNw none w1 (.cells #[.int .i64 201, .int .i64 5, .int .u8 0, .bool false, .string ByteArray.empty] 68) fun (b10 : Nat) (w26 : World) =>
      (
        VMk none w26 5 1 1 #[.int .u8 0] 2000 2000 fun (b1 : Nat) (w27 : World) =>
        VStr none w27 (some ⟨b1, 0, none⟩) 2000 fun (s2 : ByteArray) =>
        VMk none w27 5 1 1 #[.int .u8 0] 2000 2000 fun (b4 : Nat) (w28 : World) =>
        Seg w28 (some ⟨b1, 0, none⟩) 2000 1 (strCells s2) ∧
        VStr none w28 (some ⟨b4, 0, none⟩) 2000 fun (s5 : ByteArray) =>
        VNw none w28 (.cells #[.string (ByteArray.mk #[97]), .string s2, .string (ByteArray.mk #[98]), .string s5, .string (ByteArray.mk #[99]), .string (ByteArray.mk #[49, 50, 51, 52, 53])] 37) fun (b8 : Nat) (w29 : World) =>
        VCall none Try.prog 11 #[.slice (some ⟨b8, 0, none⟩) 3 3, .slice (some ⟨b10, 0, none⟩) 1 1] w29 (.slice none 0 0) fun (r11 : Sl) (w30 : World) =>
        Φ1 r11 w30
      ) ∧ (
        VMk none w26 5 1 1 #[.int .u8 0] 2000 2000 fun (b4 : Nat) (w31 : World) =>
        VStr none w31 (some ⟨b4, 0, none⟩) 2000 fun (s5 : ByteArray) =>
        VMk none w31 5 1 1 #[.int .u8 0] 2000 2000 fun (b1 : Nat) (w32 : World) =>
        Seg w32 (some ⟨b4, 0, none⟩) 2000 1 (strCells s5) ∧
        VStr none w32 (some ⟨b1, 0, none⟩) 2000 fun (s2 : ByteArray) =>
        VNw none w32 (.cells #[.string (ByteArray.mk #[97]), .string s2, .string (ByteArray.mk #[98]), .string s5, .string (ByteArray.mk #[99]), .string (ByteArray.mk #[49, 50, 51, 52, 53])] 37) fun (b8 : Nat) (w33 : World) =>
        VCall none Try.prog 11 #[.slice (some ⟨b8, 0, none⟩) 3 3, .slice (some ⟨b10, 0, none⟩) 1 1] w33 (.slice none 0 0) fun (r11 : Sl) (w34 : World) =>
        Φ1 r11 w34
      )
    ))
  ) ∧ ∀ (x0 : Sl) (w35 : World), Φ1 x0 w35 →
  R (.returned (.slice x0.base x0.len x0.cap)) w35
theorem sh_butterylaw23_two_ok (w : World) (R : Ending → World → Prop) (h : sh_butterylaw23_two w R) : Calls Try.prog 27 #[] w R :=
  calls_of_sh (args := []) (.two .auto (.two (.bjoin [(0, .slice none 0 0)] .auto) .auto)) Try.func27 (by kernel_rfl) (by kernel_rfl) (by kernel_rfl) h

/-- 28: (*buttery/hand.Receiver).Parts -/
def sh_hand_Receiver_Parts (r_0 : Option Addr) (w : World) (R : Ending → World → Prop) : Prop :=
  VIf r_0.isNone (
    R (.returned (.slice none 0 0)) w
  ) (
    VNN none r_0 fun (a6 : Addr) =>
    VLd none w a6 [CT.sl] fun (v8 : Sl) =>
    VCall none Try.prog 37 #[.slice v8.base v8.len v8.cap] w (.slice none 0 0) fun (r9 : Sl) (w1 : World) =>
    R (.returned (.slice r9.base r9.len r9.cap)) w1
  )
theorem sh_hand_Receiver_Parts_ok (r_0 : Option Addr) (w : World) (R : Ending → World → Prop) (h : sh_hand_Receiver_Parts r_0 w R) : Calls Try.prog 28 #[.pointer r_0] w R :=
  calls_of_sh (args := [.pointer r_0]) (.two .auto (.two (.two .auto (.two (.two .auto .auto) .auto)) (.two .auto .auto))) Try.func28 (by kernel_rfl) (by kernel_rfl) (by kernel_rfl) h

/-- 29: buttery/hand.cut of buttery/api.Pair -/
def sh_hand_cut (c_0 : Option Addr) (l_1 : Sl) (size_2 : Value) (put_3 : Value) (w : World) (R : Ending → World → Prop) : Prop :=
  ∃ I1 : Nat → Int → World → Prop, (∃ k, I1 k 0 w) ∧ ∀ k1 (x13 : Int) (w1 : World), I1 k1 x13 w1 →
  VIf (decide (x13 < ((l_1.len : Nat) : Int))) (
    VIx none l_1.base l_1.len x13 fun (a15 : Addr) =>
    VLd none w1 (Addr.add a15 ((Int.toNat x13) * 2)) [CT.str, CT.str] fun (v16_0 : ByteArray) (v16_1 : ByteArray) =>
    VNw none w1 (.cells #[.string ByteArray.empty, .string ByteArray.empty] 37) fun (x_9 : Nat) (w2 : World) =>
    VSt none w2 ⟨x_9, 0, none⟩ [.string v16_0, .string v16_1] fun (w3 : World) =>
    VLd none w3 ⟨x_9, 0, none⟩ [CT.str, CT.str] fun (v18_0 : ByteArray) (v18_1 : ByteArray) =>
    VDyn none Try.prog size_2 #[.agg #[.string v18_0, .string v18_1]] w3 (.int .i64 0) fun (r19 : Int) (w4 : World) =>
    VSet r19 fun (n_10 : Int) =>
    ∃ Φ2 : World → Prop, (
      VNN none c_0 fun (a21 : Addr) =>
      VLd none w4 (Addr.add a21 2) [CT.int .i64] fun (v23 : Int) =>
      VNN (some (!(v23 == 4))) c_0 fun (a27 : Addr) =>
      VLd (some (!(v23 == 4))) w4 (Addr.add a27 2) [CT.int .i64] fun (v29 : Int) =>
      VNN (some ((!(v23 == 4)) && (decide (v29 > 0)))) c_0 fun (a33 : Addr) =>
      VLd (some ((!(v23 == 4)) && (decide (v29 > 0)))) w4 (Addr.add a33 1) [CT.int .i64] fun (v35 : Int) =>
      VIf ((v23 == 4) || ((decide (v29 > 0)) && (decide ((IntKind.wrap .i64 (v35 + n_10)) > 4000)))) (
        VNN none c_0 fun (a43 : Addr) =>
        VLd none w4 a43 [CT.sl] fun (v45 : Sl) =>
        VNw none w4 (.cells #[.slice none 0 0, .slice none 0 0, .bool false] 33) fun (b47 : Nat) (w5 : World) =>
        VApp none w5 33 3 56 #[.slice none 0 0, .slice none 0 0, .bool false] v45.base v45.len v45.cap 1 (fun news => Seg w5 (some ⟨b47, 0, none⟩) 1 3 news) fun (l48 : Sl) (w6 : World) =>
        VNN none c_0 fun (a49 : Addr) =>
        VSt none w6 a49 [.slice l48.base l48.len l48.cap] fun (w7 : World) =>
        VNN none c_0 fun (a53 : Addr) =>
        VSt none w7 (Addr.add a53 1) [.int .i64 0] fun (w8 : World) =>
        VNN none c_0 fun (a55 : Addr) =>
        VSt none w8 (Addr.add a55 2) [.int .i64 0] fun (w9 : World) =>
        Φ2 w9
      ) (
        Φ2 w4
      )
    ) ∧ ∀ (w10 : World), Φ2 w10 →
    ∀ (w11 : World), w11 = World.drew w10 →
    VNN none c_0 fun (a59 : Addr) =>
    VLd none w11 a59 [CT.sl] fun (v61 : Sl) =>
    VNN none c_0 fun (a63 : Addr) =>
    VLd none w11 a63 [CT.sl] fun (v65 : Sl) =>
    VIx none v61.base v61.len (IntKind.wrap .i64 (((v65.len : Nat) : Int) - 1)) fun (a68 : Addr) =>
    VLd none w11 ⟨x_9, 0, none⟩ [CT.str, CT.str] fun (v69_0 : ByteArray) (v69_1 : ByteArray) =>
    VDyn none Try.prog put_3 #[.pointer (some (Addr.add a68 ((Int.toNat (IntKind.wrap .i64 (((v65.len : Nat) : Int) - 1))) * 3))), .agg #[.string v69_0, .string v69_1]] w11 (.tuple #[]) fun (w12 : World) =>
    ∀ (w13 : World), w13 = World.drew w12 →
    VNN none c_0 fun (a74 : Addr) =>
    VLd none w13 (Addr.add a74 1) [CT.int .i64] fun (v76 : Int) =>
    VNN none c_0 fun (a80 : Addr) =>
    VLd none w13 (Addr.add a80 2) [CT.int .i64] fun (v82 : Int) =>
    VNN none c_0 fun (a84 : Addr) =>
    VSt none w13 (Addr.add a84 1) [.int .i64 (IntKind.wrap .i64 (v76 + n_10))] fun (w14 : World) =>
    VNN none c_0 fun (a86 : Addr) =>
    VSt none w14 (Addr.add a86 2) [.int .i64 (IntKind.wrap .i64 (v82 + 1))] fun (w15 : World) =>
    ∃ k', k' < k1 ∧ I1 k' (IntKind.wrap .i64 (x13 + 1)) w15
  ) (
    R (.returned (.tuple #[])) w1
  )
theorem sh_hand_cut_ok (c_0 : Option Addr) (l_1 : Sl) (size_2 : Value) (put_3 : Value) (w : World) (R : Ending → World → Prop) (h : sh_hand_cut c_0 l_1 size_2 put_3 w R) : Calls Try.prog 29 #[.pointer c_0, .slice l_1.base l_1.len l_1.cap, size_2, put_3] w R :=
  calls_of_sh (args := [.pointer c_0, .slice l_1.base l_1.len l_1.cap, size_2, put_3]) (.two .auto (.one (.loop [(13, .int .i64 0)] (.two .auto (.two (.two .auto .auto) (.two (.one (.two .auto (.two .auto (.join [] (.two .auto (.two (.two .auto .auto) .auto)) (.two .auto .auto))))) .auto)))))) Try.func29 (by kernel_rfl) (by kernel_rfl) (by kernel_rfl) h

/-- 30: buttery/hand.Cut$1 -/
def sh_hand_Cut_1 (x_0_0 : ByteArray) (x_0_1 : ByteArray) (w : World) (R : Ending → World → Prop) : Prop :=
  VNw none w (.cells #[.string x_0_0, .string x_0_1] 37) fun (x_1 : Nat) (w1 : World) =>
  VLd none w1 ⟨x_1, 0, none⟩ [CT.str] fun (v4 : ByteArray) =>
  VLd none w1 ⟨x_1, 1, none⟩ [CT.str] fun (v7 : ByteArray) =>
  VSet (IntKind.wrap .i64 ((IntKind.wrap .i64 (((v4.size : Nat) : Int) + ((v7.size : Nat) : Int))) + 8)) fun (v2 : Int) =>
  R (.returned (.int .i64 v2)) w1
theorem sh_hand_Cut_1_ok (x_0_0 : ByteArray) (x_0_1 : ByteArray) (w : World) (R : Ending → World → Prop) (h : sh_hand_Cut_1 x_0_0 x_0_1 w R) : Calls Try.prog 30 #[.agg #[.string x_0_0, .string x_0_1]] w R :=
  calls_of_sh (args := [.agg #[.string x_0_0, .string x_0_1]]) (.two .auto (.two .auto .auto)) Try.func30 (by kernel_rfl) (by kernel_rfl) (by kernel_rfl) h

/-- 31: buttery/hand.Cut$2 -/
def sh_hand_Cut_2 (p_0 : Option Addr) (x_1_0 : ByteArray) (x_1_1 : ByteArray) (w : World) (R : Ending → World → Prop) : Prop :=
  VNw none w (.cells #[.string x_1_0, .string x_1_1] 37) fun (x_3 : Nat) (w1 : World) =>
  ∀ (w2 : World), w2 = World.drew w1 →
  VNN none p_0 fun (a6 : Addr) =>
  VLd none w2 a6 [CT.sl] fun (v8 : Sl) =>
  VLd none w2 ⟨x_3, 0, none⟩ [CT.str, CT.str] fun (v9_0 : ByteArray) (v9_1 : ByteArray) =>
  VNw none w2 (.cells #[.string v9_0, .string v9_1] 37) fun (b10 : Nat) (w3 : World) =>
  Rd w3 a6 [.slice v8.base v8.len v8.cap] ∧
  VApp none w3 37 2 32 #[.string ByteArray.empty, .string ByteArray.empty] v8.base v8.len v8.cap 1 (fun news => Seg w3 (some ⟨b10, 0, none⟩) 1 2 news) fun (l11 : Sl) (w4 : World) =>
  VNN none p_0 fun (a12 : Addr) =>
  VSt none w4 a12 [.slice l11.base l11.len l11.cap] fun (w5 : World) =>
  R (.returned (.tuple #[])) w5
theorem sh_hand_Cut_2_ok (p_0 : Option Addr) (x_1_0 : ByteArray) (x_1_1 : ByteArray) (w : World) (R : Ending → World → Prop) (h : sh_hand_Cut_2 p_0 x_1_0 x_1_1 w R) : Calls Try.prog 31 #[.pointer p_0, .agg #[.string x_1_0, .string x_1_1]] w R :=
  calls_of_sh (args := [.pointer p_0, .agg #[.string x_1_0, .string x_1_1]]) (.two .auto .auto) Try.func31 (by kernel_rfl) (by kernel_rfl) (by kernel_rfl) h

/-- 32: buttery/hand.cut of buttery/api.Last -/
def sh_hand_cut' (c_0 : Option Addr) (l_1 : Sl) (size_2 : Value) (put_3 : Value) (w : World) (R : Ending → World → Prop) : Prop :=
  ∃ I1 : Nat → Int → World → Prop, (∃ k, I1 k 0 w) ∧ ∀ k1 (x13 : Int) (w1 : World), I1 k1 x13 w1 →
  VIf (decide (x13 < ((l_1.len : Nat) : Int))) (
    VIx none l_1.base l_1.len x13 fun (a15 : Addr) =>
    VLd none w1 (Addr.add a15 ((Int.toNat x13) * 5)) [CT.int .i64, CT.int .i64, CT.int .u8, CT.bool, CT.str] fun (v16_0 : Int) (v16_1 : Int) (v16_2 : Int) (v16_3 : Bool) (v16_4 : ByteArray) =>
    VNw none w1 (.cells #[.int .i64 0, .int .i64 0, .int .u8 0, .bool false, .string ByteArray.empty] 68) fun (x_9 : Nat) (w2 : World) =>
    VSt none w2 ⟨x_9, 0, none⟩ [.int .i64 v16_0, .int .i64 v16_1, .int .u8 v16_2, .bool v16_3, .string v16_4] fun (w3 : World) =>
    VLd none w3 ⟨x_9, 0, none⟩ [CT.int .i64, CT.int .i64, CT.int .u8, CT.bool, CT.str] fun (v18_0 : Int) (v18_1 : Int) (v18_2 : Int) (v18_3 : Bool) (v18_4 : ByteArray) =>
    VDyn none Try.prog size_2 #[.agg #[.int .i64 v18_0, .int .i64 v18_1, .int .u8 v18_2, .bool v18_3, .string v18_4]] w3 (.int .i64 0) fun (r19 : Int) (w4 : World) =>
    VSet r19 fun (n_10 : Int) =>
    ∃ Φ2 : World → Prop, (
      VNN none c_0 fun (a21 : Addr) =>
      VLd none w4 (Addr.add a21 2) [CT.int .i64] fun (v23 : Int) =>
      VNN (some (!(v23 == 4))) c_0 fun (a27 : Addr) =>
      VLd (some (!(v23 == 4))) w4 (Addr.add a27 2) [CT.int .i64] fun (v29 : Int) =>
      VNN (some ((!(v23 == 4)) && (decide (v29 > 0)))) c_0 fun (a33 : Addr) =>
      VLd (some ((!(v23 == 4)) && (decide (v29 > 0)))) w4 (Addr.add a33 1) [CT.int .i64] fun (v35 : Int) =>
      VIf ((v23 == 4) || ((decide (v29 > 0)) && (decide ((IntKind.wrap .i64 (v35 + n_10)) > 4000)))) (
        VNN none c_0 fun (a43 : Addr) =>
        VLd none w4 a43 [CT.sl] fun (v45 : Sl) =>
        VNw none w4 (.cells #[.slice none 0 0, .slice none 0 0, .bool false] 33) fun (b47 : Nat) (w5 : World) =>
        VApp none w5 33 3 56 #[.slice none 0 0, .slice none 0 0, .bool false] v45.base v45.len v45.cap 1 (fun news => Seg w5 (some ⟨b47, 0, none⟩) 1 3 news) fun (l48 : Sl) (w6 : World) =>
        VNN none c_0 fun (a49 : Addr) =>
        VSt none w6 a49 [.slice l48.base l48.len l48.cap] fun (w7 : World) =>
        VNN none c_0 fun (a53 : Addr) =>
        VSt none w7 (Addr.add a53 1) [.int .i64 0] fun (w8 : World) =>
        VNN none c_0 fun (a55 : Addr) =>
        VSt none w8 (Addr.add a55 2) [.int .i64 0] fun (w9 : World) =>
        Φ2 w9
      ) (
        Φ2 w4
      )
    ) ∧ ∀ (w10 : World), Φ2 w10 →
    ∀ (w11 : World), w11 = World.drew w10 →
    VNN none c_0 fun (a59 : Addr) =>
    VLd none w11 a59 [CT.sl] fun (v61 : Sl) =>
    VNN none c_0 fun (a63 : Addr) =>
    VLd none w11 a63 [CT.sl] fun (v65 : Sl) =>
    VIx none v61.base v61.len (IntKind.wrap .i64 (((v65.len : Nat) : Int) - 1)) fun (a68 : Addr) =>
    VLd none w11 ⟨x_9, 0, none⟩ [CT.int .i64, CT.int .i64, CT.int .u8, CT.bool, CT.str] fun (v69_0 : Int) (v69_1 : Int) (v69_2 : Int) (v69_3 : Bool) (v69_4 : ByteArray) =>
    VDyn none Try.prog put_3 #[.pointer (some (Addr.add a68 ((Int.toNat (IntKind.wrap .i64 (((v65.len : Nat) : Int) - 1))) * 3))), .agg #[.int .i64 v69_0, .int .i64 v69_1, .int .u8 v69_2, .bool v69_3, .string v69_4]] w11 (.tuple #[]) fun (w12 : World) =>
    ∀ (w13 : World), w13 = World.drew w12 →
    VNN none c_0 fun (a74 : Addr) =>
    VLd none w13 (Addr.add a74 1) [CT.int .i64] fun (v76 : Int) =>
    VNN none c_0 fun (a80 : Addr) =>
    VLd none w13 (Addr.add a80 2) [CT.int .i64] fun (v82 : Int) =>
    VNN none c_0 fun (a84 : Addr) =>
    VSt none w13 (Addr.add a84 1) [.int .i64 (IntKind.wrap .i64 (v76 + n_10))] fun (w14 : World) =>
    VNN none c_0 fun (a86 : Addr) =>
    VSt none w14 (Addr.add a86 2) [.int .i64 (IntKind.wrap .i64 (v82 + 1))] fun (w15 : World) =>
    ∃ k', k' < k1 ∧ I1 k' (IntKind.wrap .i64 (x13 + 1)) w15
  ) (
    R (.returned (.tuple #[])) w1
  )
theorem sh_hand_cut'_ok (c_0 : Option Addr) (l_1 : Sl) (size_2 : Value) (put_3 : Value) (w : World) (R : Ending → World → Prop) (h : sh_hand_cut' c_0 l_1 size_2 put_3 w R) : Calls Try.prog 32 #[.pointer c_0, .slice l_1.base l_1.len l_1.cap, size_2, put_3] w R :=
  calls_of_sh (args := [.pointer c_0, .slice l_1.base l_1.len l_1.cap, size_2, put_3]) (.two .auto (.one (.loop [(13, .int .i64 0)] (.two .auto (.two (.two .auto .auto) (.two (.one (.two .auto (.two .auto (.join [] (.two .auto (.two (.two .auto .auto) .auto)) (.two .auto .auto))))) .auto)))))) Try.func32 (by kernel_rfl) (by kernel_rfl) (by kernel_rfl) h

/-- 33: buttery/hand.Cut$3 -/
def sh_hand_Cut_3 (x_0_0 : Int) (x_0_1 : Int) (x_0_2 : Int) (x_0_3 : Bool) (x_0_4 : ByteArray) (w : World) (R : Ending → World → Prop) : Prop :=
  VNw none w (.cells #[.int .i64 x_0_0, .int .i64 x_0_1, .int .u8 x_0_2, .bool x_0_3, .string x_0_4] 68) fun (x_1 : Nat) (w1 : World) =>
  VLd none w1 ⟨x_1, 4, none⟩ [CT.str] fun (v5 : ByteArray) =>
  VSet (IntKind.wrap .i64 (((v5.size : Nat) : Int) + 32)) fun (v2 : Int) =>
  R (.returned (.int .i64 v2)) w1
theorem sh_hand_Cut_3_ok (x_0_0 : Int) (x_0_1 : Int) (x_0_2 : Int) (x_0_3 : Bool) (x_0_4 : ByteArray) (w : World) (R : Ending → World → Prop) (h : sh_hand_Cut_3 x_0_0 x_0_1 x_0_2 x_0_3 x_0_4 w R) : Calls Try.prog 33 #[.agg #[.int .i64 x_0_0, .int .i64 x_0_1, .int .u8 x_0_2, .bool x_0_3, .string x_0_4]] w R :=
  calls_of_sh (args := [.agg #[.int .i64 x_0_0, .int .i64 x_0_1, .int .u8 x_0_2, .bool x_0_3, .string x_0_4]]) (.two .auto (.two .auto .auto)) Try.func33 (by kernel_rfl) (by kernel_rfl) (by kernel_rfl) h

/-- 34: buttery/hand.Cut$4 -/
def sh_hand_Cut_4 (p_0 : Option Addr) (x_1_0 : Int) (x_1_1 : Int) (x_1_2 : Int) (x_1_3 : Bool) (x_1_4 : ByteArray) (w : World) (R : Ending → World → Prop) : Prop :=
  VNw none w (.cells #[.int .i64 x_1_0, .int .i64 x_1_1, .int .u8 x_1_2, .bool x_1_3, .string x_1_4] 68) fun (x_3 : Nat) (w1 : World) =>
  ∀ (w2 : World), w2 = World.drew w1 →
  VNN none p_0 fun (a6 : Addr) =>
  VLd none w2 (Addr.add a6 1) [CT.sl] fun (v8 : Sl) =>
  VLd none w2 ⟨x_3, 0, none⟩ [CT.int .i64, CT.int .i64, CT.int .u8, CT.bool, CT.str] fun (v9_0 : Int) (v9_1 : Int) (v9_2 : Int) (v9_3 : Bool) (v9_4 : ByteArray) =>
  VNw none w2 (.cells #[.int .i64 v9_0, .int .i64 v9_1, .int .u8 v9_2, .bool v9_3, .string v9_4] 68) fun (b10 : Nat) (w3 : World) =>
  Rd w3 (Addr.add a6 1) [.slice v8.base v8.len v8.cap] ∧
  VApp none w3 68 5 40 #[.int .i64 0, .int .i64 0, .int .u8 0, .bool false, .string ByteArray.empty] v8.base v8.len v8.cap 1 (fun news => Seg w3 (some ⟨b10, 0, none⟩) 1 5 news) fun (l11 : Sl) (w4 : World) =>
  VNN none p_0 fun (a12 : Addr) =>
  VSt none w4 (Addr.add a12 1) [.slice l11.base l11.len l11.cap] fun (w5 : World) =>
  R (.returned (.tuple #[])) w5
theorem sh_hand_Cut_4_ok (p_0 : Option Addr) (x_1_0 : Int) (x_1_1 : Int) (x_1_2 : Int) (x_1_3 : Bool) (x_1_4 : ByteArray) (w : World) (R : Ending → World → Prop) (h : sh_hand_Cut_4 p_0 x_1_0 x_1_1 x_1_2 x_1_3 x_1_4 w R) : Calls Try.prog 34 #[.pointer p_0, .agg #[.int .i64 x_1_0, .int .i64 x_1_1, .int .u8 x_1_2, .bool x_1_3, .string x_1_4]] w R :=
  calls_of_sh (args := [.pointer p_0, .agg #[.int .i64 x_1_0, .int .i64 x_1_1, .int .u8 x_1_2, .bool x_1_3, .string x_1_4]]) (.two .auto .auto) Try.func34 (by kernel_rfl) (by kernel_rfl) (by kernel_rfl) h

/-- 35: buttery/butteryref09.Same -/
def sh_butteryref09_Same (a_0 : Sl) (b_1 : Sl) (w : World) (R : Ending → World → Prop) : Prop :=
  VIf (((a_0.len : Nat) : Int) != ((b_1.len : Nat) : Int)) (
    R (.returned (.bool false)) w
  ) (
    ∃ I1 : Nat → Int → World → Prop, (∃ k, I1 k 0 w) ∧ ∀ k1 (i_5 : Int) (w1 : World), I1 k1 i_5 w1 →
    VIf (decide (i_5 < ((a_0.len : Nat) : Int))) (
      ∀ (w2 : World), w2 = World.drew w1 →
      VIx none a_0.base a_0.len i_5 fun (a19 : Addr) =>
      VLd none w2 (Addr.add a19 ((Int.toNat i_5) * 2)) [CT.str, CT.str] fun (v20_0 : ByteArray) (v20_1 : ByteArray) =>
      VIx none b_1.base b_1.len i_5 fun (a23 : Addr) =>
      VLd none w2 (Addr.add a23 ((Int.toNat i_5) * 2)) [CT.str, CT.str] fun (v24_0 : ByteArray) (v24_1 : ByteArray) =>
      VIf (!((v20_0.toList == v24_0.toList) && (v20_1.toList == v24_1.toList))) (
        R (.returned (.bool false)) w2
      ) (
        VSet (IntKind.wrap .i64 (i_5 + 1)) fun (i_5' : Int) =>
        ∃ k', k' < k1 ∧ I1 k' i_5' w2
      )
    ) (
      R (.returned (.bool true)) w1
    )
  )
theorem sh_butteryref09_Same_ok (a_0 : Sl) (b_1 : Sl) (w : World) (R : Ending → World → Prop) (h : sh_butteryref09_Same a_0 b_1 w R) : Calls Try.prog 35 #[.slice a_0.base a_0.len a_0.cap, .slice b_1.base b_1.len b_1.cap] w R :=
  calls_of_sh (args := [.slice a_0.base a_0.len a_0.cap, .slice b_1.base b_1.len b_1.cap]) (.two .auto (.two (.two .auto (.two (.two .auto .auto) .auto)) (.two (.two .auto (.one (.loop [(5, .int .i64 0)] (.two (.two .auto (.two .auto .auto)) (.two (.one (.two .auto (.two (.two .auto .auto) .auto))) .auto))))) (.two .auto .auto)))) Try.func35 (by kernel_rfl) (by kernel_rfl) (by kernel_rfl) h

/-- 36: buttery/butteryref09.SameLasts -/
def sh_butteryref09_SameLasts (a_0 : Sl) (b_1 : Sl) (w : World) (R : Ending → World → Prop) : Prop :=
  VIf (((a_0.len : Nat) : Int) != ((b_1.len : Nat) : Int)) (
    R (.returned (.bool false)) w
  ) (
    ∃ I1 : Nat → Int → World → Prop, (∃ k, I1 k 0 w) ∧ ∀ k1 (i_5 : Int) (w1 : World), I1 k1 i_5 w1 →
    VIf (decide (i_5 < ((a_0.len : Nat) : Int))) (
      ∀ (w2 : World), w2 = World.drew w1 →
      VIx none a_0.base a_0.len i_5 fun (a19 : Addr) =>
      VLd none w2 (Addr.add a19 ((Int.toNat i_5) * 5)) [CT.int .i64, CT.int .i64, CT.int .u8, CT.bool, CT.str] fun (v20_0 : Int) (v20_1 : Int) (v20_2 : Int) (v20_3 : Bool) (v20_4 : ByteArray) =>
      VIx none b_1.base b_1.len i_5 fun (a23 : Addr) =>
      VLd none w2 (Addr.add a23 ((Int.toNat i_5) * 5)) [CT.int .i64, CT.int .i64, CT.int .u8, CT.bool, CT.str] fun (v24_0 : Int) (v24_1 : Int) (v24_2 : Int) (v24_3 : Bool) (v24_4 : ByteArray) =>
      VIf (!((v20_0 == v24_0) && ((v20_1 == v24_1) && ((v20_2 == v24_2) && ((v20_3 == v24_3) && (v20_4.toList == v24_4.toList)))))) (
        R (.returned (.bool false)) w2
      ) (
        VSet (IntKind.wrap .i64 (i_5 + 1)) fun (i_5' : Int) =>
        ∃ k', k' < k1 ∧ I1 k' i_5' w2
      )
    ) (
      R (.returned (.bool true)) w1
    )
  )
theorem sh_butteryref09_SameLasts_ok (a_0 : Sl) (b_1 : Sl) (w : World) (R : Ending → World → Prop) (h : sh_butteryref09_SameLasts a_0 b_1 w R) : Calls Try.prog 36 #[.slice a_0.base a_0.len a_0.cap, .slice b_1.base b_1.len b_1.cap] w R :=
  calls_of_sh (args := [.slice a_0.base a_0.len a_0.cap, .slice b_1.base b_1.len b_1.cap]) (.two .auto (.two (.two .auto (.two (.two .auto .auto) .auto)) (.two (.two .auto (.one (.loop [(5, .int .i64 0)] (.two (.two .auto (.two .auto .auto)) (.two (.one (.two .auto (.two (.two .auto .auto) .auto))) .auto))))) (.two .auto .auto)))) Try.func36 (by kernel_rfl) (by kernel_rfl) (by kernel_rfl) h

/-- 37: buttery/hand.twins -/
def sh_hand_twins (l_0 : Sl) (w : World) (R : Ending → World → Prop) : Prop :=
  ∃ I1 : Nat → Sl → Int → World → Prop, (∃ k, I1 k ⟨none, 0, 0⟩ 0 w) ∧ ∀ k1 (out_3 : Sl) (x8 : Int) (w1 : World), I1 k1 out_3 x8 w1 →
  VIf (decide (x8 < ((l_0.len : Nat) : Int))) (
    VIx none l_0.base l_0.len x8 fun (a10 : Addr) =>
    VLd none w1 (Addr.add a10 ((Int.toNat x8) * 3)) [CT.sl, CT.sl, CT.bool] fun (v11_0 : Sl) (v11_1 : Sl) (v11_2 : Bool) =>
    VNw none w1 (.cells #[.slice none 0 0, .slice none 0 0, .bool false] 33) fun (p_5 : Nat) (w2 : World) =>
    VSt none w2 ⟨p_5, 0, none⟩ [.slice v11_0.base v11_0.len v11_0.cap, .slice v11_1.base v11_1.len v11_1.cap, .bool v11_2] fun (w3 : World) =>
    VLd none w3 ⟨p_5, 0, none⟩ [CT.sl, CT.sl, CT.bool] fun (v13_0 : Sl) (v13_1 : Sl) (v13_2 : Bool) =>
    VCall none Try.prog 38 #[.agg #[.slice v13_0.base v13_0.len v13_0.cap, .slice v13_1.base v13_1.len v13_1.cap, .bool v13_2]] w3 (.agg #[.slice none 0 0, .slice none 0 0, .bool false]) fun (r14_0 : Sl) (r14_1 : Sl) (r14_2 : Bool) (w4 : World) =>
    VNw none w4 (.cells #[.slice r14_0.base r14_0.len r14_0.cap, .slice r14_1.base r14_1.len r14_1.cap, .bool r14_2] 33) fun (b15 : Nat) (w5 : World) =>
    VApp none w5 33 3 56 #[.slice none 0 0, .slice none 0 0, .bool false] out_3.base out_3.len out_3.cap 1 (fun news => Seg w5 (some ⟨b15, 0, none⟩) 1 3 news) fun (l16 : Sl) (w6 : World) =>
    ∃ k', k' < k1 ∧ I1 k' l16 (IntKind.wrap .i64 (x8 + 1)) w6
  ) (
    R (.returned (.slice out_3.base out_3.len out_3.cap)) w1
  )
theorem sh_hand_twins_ok (l_0 : Sl) (w : World) (R : Ending → World → Prop) (h : sh_hand_twins l_0 w R) : Calls Try.prog 37 #[.slice l_0.base l_0.len l_0.cap] w R :=
  calls_of_sh (args := [.slice l_0.base l_0.len l_0.cap]) (.two .auto (.two .auto (.two (.two .auto (.one (.loop [(3, .slice none 0 0), (8, .int .i64 0)] (.two .auto (.two (.two .auto .auto) (.two (.one (.two .auto .auto)) .auto)))))) (.two .auto .auto)))) Try.func37 (by kernel_rfl) (by kernel_rfl) (by kernel_rfl) h

/-- 38: buttery/hand.twin -/
def sh_hand_twin (p_0_0 : Sl) (p_0_1 : Sl) (p_0_2 : Bool) (w : World) (R : Ending → World → Prop) : Prop :=
  VNw none w (.cells #[.slice p_0_0.base p_0_0.len p_0_0.cap, .slice p_0_1.base p_0_1.len p_0_1.cap, .bool p_0_2] 33) fun (p_1 : Nat) (w1 : World) =>
  VNw none w1 (.cells #[.slice none 0 0, .slice none 0 0, .bool false] 33) fun (b2 : Nat) (w2 : World) =>
  ∃ Φ1 : Option Addr → World → Prop, (
    ∀ (w3 : World), w3 = World.drew w2 →
    VLd none w3 ⟨p_1, 0, none⟩ [CT.sl] fun (v5 : Sl) =>
    VLd none w3 ⟨p_1, 1, none⟩ [CT.sl] fun (v9 : Sl) =>
    VLd none w3 ⟨p_1, 2, none⟩ [CT.bool] fun (v13 : Bool) =>
    (
      VMk none w3 37 2 32 #[.string ByteArray.empty, .string ByteArray.empty] ((v5.len : Nat) : Int) ((v5.len : Nat) : Int) fun (b7 : Nat) (w4 : World) =>
      Rd w4 ⟨p_1, 2, none⟩ [.bool v13] ∧
      Rd w4 ⟨p_1, 1, none⟩ [.slice v9.base v9.len v9.cap] ∧
      (
        VMk none w4 68 5 40 #[.int .i64 0, .int .i64 0, .int .u8 0, .bool false, .string ByteArray.empty] ((v9.len : Nat) : Int) ((v9.len : Nat) : Int) fun (b11 : Nat) (w5 : World) =>
        Rd w5 ⟨p_1, 2, none⟩ [.bool v13] ∧
        VNw none w5 (.cells #[.slice none 0 0, .slice none 0 0, .bool false] 33) fun (q_3 : Nat) (w6 : World) =>
        Rd w6 ⟨p_1, 2, none⟩ [.bool v13] ∧
        VSt none w6 ⟨q_3, 0, none⟩ [.slice (some ⟨b7, 0, none⟩) v5.len v5.len, .slice (some ⟨b11, 0, none⟩) v9.len v9.len, .bool v13] fun (w7 : World) =>
        Φ1 (some ⟨q_3, 0, none⟩) w7
      ) ∧ (
        VNw none w4 (.cells #[.slice none 0 0, .slice none 0 0, .bool false] 33) fun (q_3 : Nat) (w8 : World) =>
        Rd w8 ⟨p_1, 2, none⟩ [.bool v13] ∧
        Rd w8 ⟨p_1, 1, none⟩ [.slice v9.base v9.len v9.cap] ∧
        VMk none w8 68 5 40 #[.int .i64 0, .int .i64 0, .int .u8 0, .bool false, .string ByteArray.empty] ((v9.len : Nat) : Int) ((v9.len : Nat) : Int) fun (b11 : Nat) (w9 : World) =>
        Rd w9 ⟨p_1, 2, none⟩ [.bool v13] ∧
        VSt none w9 ⟨q_3, 0, none⟩ [.slice (some ⟨b7, 0, none⟩) v5.len v5.len, .slice (some ⟨b11, 0, none⟩) v9.len v9.len, .bool v13] fun (w10 : World) =>
        Φ1 (some ⟨q_3, 0, none⟩) w10
      )
    ) ∧ (
    (
      VMk none w3 68 5 40 #[.int .i64 0, .int .i64 0, .int .u8 0, .bool false, .string ByteArray.empty] ((v9.len : Nat) : Int) ((v9.len : Nat) : Int) fun (b11 : Nat) (w11 : World) =>
      Rd w11 ⟨p_1, 2, none⟩ [.bool v13] ∧
      Rd w11 ⟨p_1, 0, none⟩ [.slice v5.base v5.len v5.cap] ∧
      (
        VMk none w11 37 2 32 #[.string ByteArray.empty, .string ByteArray.empty] ((v5.len : Nat) : Int) ((v5.len : Nat) : Int) fun (b7 : Nat) (w12 : World) =>
        Rd w12 ⟨p_1, 2, none⟩ [.bool v13] ∧
        VNw none w12 (.cells #[.slice none 0 0, .slice none 0 0, .bool false] 33) fun (q_3 : Nat) (w13 : World) =>
        Rd w13 ⟨p_1, 2, none⟩ [.bool v13] ∧
        VSt none w13 ⟨q_3, 0, none⟩ [.slice (some ⟨b7, 0, none⟩) v5.len v5.len, .slice (some ⟨b11, 0, none⟩) v9.len v9.len, .bool v13] fun (w14 : World) =>
        Φ1 (some ⟨q_3, 0, none⟩) w14
      ) ∧ (
        VNw none w11 (.cells #[.slice none 0 0, .slice none 0 0, .bool false] 33) fun (q_3 : Nat) (w15 : World) =>
        Rd w15 ⟨p_1, 2, none⟩ [.bool v13] ∧
        Rd w15 ⟨p_1, 0, none⟩ [.slice v5.base v5.len v5.cap] ∧
        VMk none w15 37 2 32 #[.string ByteArray.empty, .string ByteArray.empty] ((v5.len : Nat) : Int) ((v5.len : Nat) : Int) fun (b7 : Nat) (w16 : World) =>
        Rd w16 ⟨p_1, 2, none⟩ [.bool v13] ∧
        VSt none w16 ⟨q_3, 0, none⟩ [.slice (some ⟨b7, 0, none⟩) v5.len v5.len, .slice (some ⟨b11, 0, none⟩) v9.len v9.len, .bool v13] fun (w17 : World) =>
        Φ1 (some ⟨q_3, 0, none⟩) w17
      )
    ) ∧ (
      VNw none w3 (.cells #[.slice none 0 0, .slice none 0 0, .bool false] 33) fun (q_3 : Nat) (w18 : World) =>
      Rd w18 ⟨p_1, 2, none⟩ [.bool v13] ∧
      Rd w18 ⟨p_1, 1, none⟩ [.slice v9.base v9.len v9.cap] ∧
      Rd w18 ⟨p_1, 0, none⟩ [.slice v5.base v5.len v5.cap] ∧
      (
        VMk none w18 37 2 32 #[.string ByteArray.empty, .string ByteArray.empty] ((v5.len : Nat) : Int) ((v5.len : Nat) : Int) fun (b7 : Nat) (w19 : World) =>
        Rd w19 ⟨p_1, 2, none⟩ [.bool v13] ∧
        Rd w19 ⟨p_1, 1, none⟩ [.slice v9.base v9.len v9.cap] ∧
        VMk none w19 68 5 40 #[.int .i64 0, .int .i64 0, .int .u8 0, .bool false, .string ByteArray.empty] ((v9.len : Nat) : Int) ((v9.len : Nat) : Int) fun (b11 : Nat) (w20 : World) =>
        Rd w20 ⟨p_1, 2, none⟩ [.bool v13] ∧
        VSt none w20 ⟨q_3, 0, none⟩ [.slice (some ⟨b7, 0, none⟩) v5.len v5.len, .slice (some ⟨b11, 0, none⟩) v9.len v9.len, .bool v13] fun (w21 : World) =>
        Φ1 (some ⟨q_3, 0, none⟩) w21
      ) ∧ (
        VMk none w18 68 5 40 #[.int .i64 0, .int .i64 0, .int .u8 0, .bool false, .string ByteArray.empty] ((v9.len : Nat) : Int) ((v9.len : Nat) : Int) fun (b11 : Nat) (w22 : World) =>
        Rd w22 ⟨p_1, 2, none⟩ [.bool v13] ∧
        Rd w22 ⟨p_1, 0, none⟩ [.slice v5.base v5.len v5.cap] ∧
        VMk none w22 37 2 32 #[.string ByteArray.empty, .string ByteArray.empty] ((v5.len : Nat) : Int) ((v5.len : Nat) : Int) fun (b7 : Nat) (w23 : World) =>
        Rd w23 ⟨p_1, 2, none⟩ [.bool v13] ∧
        VSt none w23 ⟨q_3, 0, none⟩ [.slice (some ⟨b7, 0, none⟩) v5.len v5.len, .slice (some ⟨b11, 0, none⟩) v9.len v9.len, .bool v13] fun (w24 : World) =>
        Φ1 (some ⟨q_3, 0, none⟩) w24
      )
    ))
  ) ∧ ∀ (q_3 : Option Addr) (w25 : World), Φ1 q_3 w25 →
  onPtr q_3 fun (q_v15 : Addr) =>
  VLd none w25 q_v15 [CT.sl] fun (v16 : Sl) =>
  VLd none w25 ⟨p_1, 0, none⟩ [CT.sl] fun (v18 : Sl) =>
  VCopy none w25 2 v16.base v16.len v18.len (fun news => Seg w25 v18.base (Nat.min v18.len v16.len) 2 news) fun (w26 : World) =>
  onPtr q_3 fun (q_v20 : Addr) =>
  VLd none w26 (Addr.add q_v20 1) [CT.sl] fun (v21 : Sl) =>
  VLd none w26 ⟨p_1, 1, none⟩ [CT.sl] fun (v23 : Sl) =>
  VCopy none w26 5 v21.base v21.len v23.len (fun news => Seg w26 v23.base (Nat.min v23.len v21.len) 5 news) fun (w27 : World) =>
  onPtr q_3 fun (q_v25 : Addr) =>
  VLd none w27 q_v25 [CT.sl, CT.sl, CT.bool] fun (v25_0 : Sl) (v25_1 : Sl) (v25_2 : Bool) =>
  VSt none w27 ⟨b2, 0, none⟩ [.slice v25_0.base v25_0.len v25_0.cap, .slice v25_1.base v25_1.len v25_1.cap, .bool v25_2] fun (w28 : World) =>
  VLd none w28 ⟨b2, 0, none⟩ [CT.sl, CT.sl, CT.bool] fun (res2_0 : Sl) (res2_1 : Sl) (res2_2 : Bool) =>
  R (.returned (.agg #[.slice res2_0.base res2_0.len res2_0.cap, .slice res2_1.base res2_1.len res2_1.cap, .bool res2_2])) w28
theorem sh_hand_twin_ok (p_0_0 : Sl) (p_0_1 : Sl) (p_0_2 : Bool) (w : World) (R : Ending → World → Prop) (h : sh_hand_twin p_0_0 p_0_1 p_0_2 w R) : Calls Try.prog 38 #[.agg #[.slice p_0_0.base p_0_0.len p_0_0.cap, .slice p_0_1.base p_0_1.len p_0_1.cap, .bool p_0_2]] w R :=
  calls_of_sh (args := [.agg #[.slice p_0_0.base p_0_0.len p_0_0.cap, .slice p_0_1.base p_0_1.len p_0_1.cap, .bool p_0_2]]) (.two .auto (.two (.bjoin [(3, .pointer none)] .auto) (.two .auto (.two .auto (.two .auto .auto))))) Try.func38 (by kernel_rfl) (by kernel_rfl) (by kernel_rfl) h

/-- 39: slices.ContainsFunc of  of buttery/hand.Part,buttery/hand.Part -/
def sh_slices_ContainsFunc (s_0 : Sl) (f_1 : Value) (w : World) (R : Ending → World → Prop) : Prop :=
  VCall none Try.prog 41 #[.slice s_0.base s_0.len s_0.cap, f_1] w (.int .i64 0) fun (r7 : Int) (w1 : World) =>
  R (.returned (.bool (decide (r7 ≥ 0)))) w1
theorem sh_slices_ContainsFunc_ok (s_0 : Sl) (f_1 : Value) (w : World) (R : Ending → World → Prop) (h : sh_slices_ContainsFunc s_0 f_1 w R) : Calls Try.prog 39 #[.slice s_0.base s_0.len s_0.cap, f_1] w R :=
  calls_of_sh (args := [.slice s_0.base s_0.len s_0.cap, f_1]) (.two .auto (.two .auto .auto)) Try.func39 (by kernel_rfl) (by kernel_rfl) (by kernel_rfl) h

/-- 40: (*buttery/hand.Receiver).Done$1 -/
def sh_hand_Receiver_Done_1 (p_0_0 : Sl) (p_0_1 : Sl) (p_0_2 : Bool) (w : World) (R : Ending → World → Prop) : Prop :=
  VNw none w (.cells #[.slice p_0_0.base p_0_0.len p_0_0.cap, .slice p_0_1.base p_0_1.len p_0_1.cap, .bool p_0_2] 33) fun (p_1 : Nat) (w1 : World) =>
  VLd none w1 ⟨p_1, 2, none⟩ [CT.bool] fun (v4 : Bool) =>
  R (.returned (.bool v4)) w1
theorem sh_hand_Receiver_Done_1_ok (p_0_0 : Sl) (p_0_1 : Sl) (p_0_2 : Bool) (w : World) (R : Ending → World → Prop) (h : sh_hand_Receiver_Done_1 p_0_0 p_0_1 p_0_2 w R) : Calls Try.prog 40 #[.agg #[.slice p_0_0.base p_0_0.len p_0_0.cap, .slice p_0_1.base p_0_1.len p_0_1.cap, .bool p_0_2]] w R :=
  calls_of_sh (args := [.agg #[.slice p_0_0.base p_0_0.len p_0_0.cap, .slice p_0_1.base p_0_1.len p_0_1.cap, .bool p_0_2]]) (.two .auto (.two .auto .auto)) Try.func40 (by kernel_rfl) (by kernel_rfl) (by kernel_rfl) h

/-- 41: slices.IndexFunc of  of buttery/hand.Part,buttery/hand.Part -/
def sh_slices_IndexFunc (s_0 : Sl) (f_1 : Value) (w : World) (R : Ending → World → Prop) : Prop :=
  ∃ I1 : Nat → Int → World → Prop, (∃ k, I1 k 0 w) ∧ ∀ k1 (x8 : Int) (w1 : World), I1 k1 x8 w1 →
  VIf (decide (x8 < ((s_0.len : Nat) : Int))) (
    VSet x8 fun (i_5 : Int) =>
    VIx none s_0.base s_0.len i_5 fun (a14 : Addr) =>
    VLd none w1 (Addr.add a14 ((Int.toNat i_5) * 3)) [CT.sl, CT.sl, CT.bool] fun (v15_0 : Sl) (v15_1 : Sl) (v15_2 : Bool) =>
    VDyn none Try.prog f_1 #[.agg #[.slice v15_0.base v15_0.len v15_0.cap, .slice v15_1.base v15_1.len v15_1.cap, .bool v15_2]] w1 (.bool false) fun (r16 : Bool) (w2 : World) =>
    VIf r16 (
      VSet i_5 fun (v4 : Int) =>
      R (.returned (.int .i64 v4)) w2
    ) (
      ∃ k', k' < k1 ∧ I1 k' (IntKind.wrap .i64 (x8 + 1)) w2
    )
  ) (
    R (.returned (.int .i64 (-1))) w1
  )
theorem sh_slices_IndexFunc_ok (s_0 : Sl) (f_1 : Value) (w : World) (R : Ending → World → Prop) (h : sh_slices_IndexFunc s_0 f_1 w R) : Calls Try.prog 41 #[.slice s_0.base s_0.len s_0.cap, f_1] w R :=
  calls_of_sh (args := [.slice s_0.base s_0.len s_0.cap, f_1]) (.two .auto (.two (.two .auto (.one (.loop [(8, .int .i64 0)] (.two .auto (.two (.two .auto .auto) (.two (.one (.two .auto (.two .auto (.two (.two .auto .auto) .auto)))) .auto)))))) (.two .auto .auto))) Try.func41 (by kernel_rfl) (by kernel_rfl) (by kernel_rfl) h

end Go.Proofs.Ytoceilgifkncoaa
