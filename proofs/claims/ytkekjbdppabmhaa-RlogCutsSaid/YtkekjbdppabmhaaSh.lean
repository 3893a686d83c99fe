/-
  By program (own tool): what the code of each function asks, in plain text, and that it suffices (the kernel compares the two).
-/
import Derived.Test.YtkekjbdppabmhaaRows
import Derived.Test.YtkekjbdppabmhaaEngJ
import Derived.KernelRfl
namespace Go.Proofs.Ytkekjbdppabmhaa
open Go.RowKit
set_option maxRecDepth 100000

/-- 3: buttery/butterylaw14.RlogPieces -/
def sh_butterylaw14_RlogPieces (terms_0 : Sl) (leaves_1 : Int) (other_2 : Sl) (cut_3 : Int) (l_4 : Sl) (w : World) (R : Ending → World → Prop) : Prop :=
  VCall (some (!(((decide (((terms_0.len : Nat) : Int) > 40)) || (decide (((other_2.len : Nat) : Int) > 40))) || (decide (((l_4.len : Nat) : Int) > 40))))) Try.prog 8 #[] w (.bool false) fun (r46 : Bool) (w1 : World) =>
  VIf ((((decide (((terms_0.len : Nat) : Int) > 40)) || (decide (((other_2.len : Nat) : Int) > 40))) || (decide (((l_4.len : Nat) : Int) > 40))) || (!r46)) (
    VCall none Try.prog 8 #[] w1 (.bool false) fun (r49 : Bool) (w2 : World) =>
    R (.returned (.bool r49)) w2
  ) (
    ∃ I1 : Nat → Sl → Int → Int → World → Prop, (∃ k, I1 k ⟨none, 0, 0⟩ 1 0 w1) ∧ ∀ k1 (all_11 : Sl) (t_12 : Int) (i_13 : Int) (w3 : World), I1 k1 all_11 t_12 i_13 w3 →
    VIf (decide (i_13 < ((terms_0.len : Nat) : Int))) (
      VIx none terms_0.base terms_0.len i_13 fun (a59 : Addr) =>
      VLd none w3 (Addr.add a59 ((Int.toNat i_13) * 1)) [CT.int .u8] fun (v60 : Int) =>
      VSet (IntKind.wrap .i64 (t_12 + (IntKind.wrap .i64 ((IntKind.wrap .i64 (Int.tmod v60 3)) * 2)))) fun (t_12' : Int) =>
      VNw none w3 (.cells #[.int .u8 (IntKind.wrap .u8 i_13)] 5) fun (b69 : Nat) (w4 : World) =>
      VStr none w4 (some ⟨b69, 0, none⟩) 1 fun (s70 : ByteArray) =>
      VNw none w4 (.cells #[.int .i64 t_12', .int .u8 2, .string s70, .slice none 0 0] 28) fun (b72 : Nat) (w5 : World) =>
      VApp none w5 28 4 56 #[.int .i64 0, .int .u8 0, .string ByteArray.empty, .slice none 0 0] all_11.base all_11.len all_11.cap 1 (fun news => Seg w5 (some ⟨b72, 0, none⟩) 1 4 news) fun (l73 : Sl) (w6 : World) =>
      VSet (IntKind.wrap .i64 (i_13 + 1)) fun (i_13' : Int) =>
      ∃ k', k' < k1 ∧ I1 k' l73 t_12' i_13' w6
    ) (
      VCk none (((IntKind.wrap .u64 (IntKind.wrap .i64 (((all_11.len : Nat) : Int) + 1))) : Int) ≠ 0) (
        VSet (IntKind.wrap .i64 (Int.tmod (IntKind.wrap .u64 leaves_1) (IntKind.wrap .u64 (IntKind.wrap .i64 (((all_11.len : Nat) : Int) + 1))))) fun (k_14 : Int) =>
        VNw none w3 (.cells #[] 28) fun (b82 : Nat) (w7 : World) =>
        VCk none ((0 : Int) ≤ 0 ∧ (0 : Int) ≤ k_14 ∧ (k_14 : Int) ≤ ((all_11.cap : Nat) : Int)) (
          VApp none w7 28 4 56 #[.int .i64 0, .int .u8 0, .string ByteArray.empty, .slice none 0 0] (some ⟨b82, 0, none⟩) 0 0 ((Int.toNat k_14) - 0) (fun news => Seg w7 (cutB all_11.base all_11.cap 4 0) ((Int.toNat k_14) - 0) 4 news) fun (l86 : Sl) (w8 : World) =>
          ∃ Φ2 : Int → World → Prop, (
            VIf (decide (k_14 > 0)) (
              VIx none all_11.base all_11.len (IntKind.wrap .i64 (k_14 - 1)) fun (a92 : Addr) =>
              VLd none w8 (Addr.add a92 ((Int.toNat (IntKind.wrap .i64 (k_14 - 1))) * 4)) [CT.int .i64] fun (v94 : Int) =>
              VSet v94 fun (u_16' : Int) =>
              Φ2 u_16' w8
            ) (
              Φ2 0 w8
            )
          ) ∧ ∀ (u_16 : Int) (w9 : World), Φ2 u_16 w9 →
          ∃ I3 : Nat → Sl → Int → Int → World → Prop, (∃ k, I3 k l86 u_16 0 w9) ∧ ∀ k3 (mine_15 : Sl) (u_16'' : Int) (i_17 : Int) (w10 : World), I3 k3 mine_15 u_16'' i_17 w10 →
          VIf (decide (i_17 < ((other_2.len : Nat) : Int))) (
            VIx none other_2.base other_2.len i_17 fun (a104 : Addr) =>
            VLd none w10 (Addr.add a104 ((Int.toNat i_17) * 1)) [CT.int .u8] fun (v105 : Int) =>
            VSet (IntKind.wrap .i64 (u_16'' + (IntKind.wrap .i64 ((IntKind.wrap .i64 (Int.tmod v105 3)) * 2)))) fun (u_16_3 : Int) =>
            ∃ Φ4 : Int → World → Prop, (
              VIf (u_16_3 == 0) (
                Φ4 2 w10
              ) (
                VIf ((Int.tmod u_16_3 2) == 1) (
                  VSet (IntKind.wrap .i64 (u_16_3 + 1)) fun (u_16_5 : Int) =>
                  Φ4 u_16_5 w10
                ) (
                  Φ4 u_16_3 w10
                )
              )
            ) ∧ ∀ (u_16_4 : Int) (w11 : World), Φ4 u_16_4 w11 →
            VNw none w11 (.cells #[.int .i64 u_16_4, .int .u8 1, .string ByteArray.empty, .slice none 0 0] 28) fun (b122 : Nat) (w12 : World) =>
            VApp none w12 28 4 56 #[.int .i64 0, .int .u8 0, .string ByteArray.empty, .slice none 0 0] mine_15.base mine_15.len mine_15.cap 1 (fun news => Seg w12 (some ⟨b122, 0, none⟩) 1 4 news) fun (l123 : Sl) (w13 : World) =>
            VSet (IntKind.wrap .i64 (i_17 + 1)) fun (i_17' : Int) =>
            ∃ k', k' < k3 ∧ I3 k' l123 u_16_4 i_17' w13
          ) (
            VCall none Try.prog 9 #[.int .i64 0, .int .i64 0, .slice mine_15.base mine_15.len mine_15.cap] w10 (.tuple #[.pointer none, .int .i64 0]) fun (r126_0 : Option Addr) (r126_1 : Int) (w14 : World) =>
            VSet r126_1 fun (e_19 : Int) =>
            VIf (e_19 != 0) (
              R (.returned (.bool false)) w14
            ) (
              VCk none (((IntKind.wrap .u64 (IntKind.wrap .i64 (k_14 + 1))) : Int) ≠ 0) (
                VSet (IntKind.wrap .i64 (Int.tmod (IntKind.wrap .u64 cut_3) (IntKind.wrap .u64 (IntKind.wrap .i64 (k_14 + 1))))) fun (c_20 : Int) =>
                VCall none Try.prog 10 #[.pointer r126_0, .int .i64 c_20] w14 (.int .i64 0) fun (r140 : Int) (w15 : World) =>
                VIf (r140 != 0) (
                  R (.returned (.bool false)) w15
                ) (
                  ∃ I5 : Nat → Int → Int → World → Prop, (∃ k, I5 k k_14 0 w15) ∧ ∀ k5 (k_14' : Int) (i_21 : Int) (w16 : World), I5 k5 k_14' i_21 w16 →
                  VIf (decide (i_21 < ((l_4.len : Nat) : Int))) (
                    ∃ Φ6 : Int → World → Prop, (
                      VIx none l_4.base l_4.len i_21 fun (a150 : Addr) =>
                      VLd none w16 (Addr.add a150 ((Int.toNat i_21) * 2)) [CT.int .i64] fun (v152 : Int) =>
                      VCk none (((IntKind.wrap .u64 (IntKind.wrap .i64 (((all_11.len : Nat) : Int) + 1))) : Int) ≠ 0) (
                        VSet (IntKind.wrap .i64 (Int.tmod (IntKind.wrap .u64 v152) (IntKind.wrap .u64 (IntKind.wrap .i64 (((all_11.len : Nat) : Int) + 1))))) fun (from_22 : Int) =>
                        VIx none l_4.base l_4.len i_21 fun (a163 : Addr) =>
                        VLd none w16 (Addr.add (Addr.add a163 ((Int.toNat i_21) * 2)) 1) [CT.int .i64] fun (v165 : Int) =>
                        VCk none (((IntKind.wrap .u64 (IntKind.wrap .i64 ((IntKind.wrap .i64 (((all_11.len : Nat) : Int) - from_22)) + 1))) : Int) ≠ 0) (
                          VSet (IntKind.wrap .i64 (from_22 + (IntKind.wrap .i64 (Int.tmod (IntKind.wrap .u64 v165) (IntKind.wrap .u64 (IntKind.wrap .i64 ((IntKind.wrap .i64 (((all_11.len : Nat) : Int) - from_22)) + 1))))))) fun (to_23 : Int) =>
                          ∃ Φ7 : Int → World → Prop, (
                            VIf (decide (from_22 > 0)) (
                              VIx none all_11.base all_11.len (IntKind.wrap .i64 (from_22 - 1)) fun (a181 : Addr) =>
                              VLd none w16 (Addr.add a181 ((Int.toNat (IntKind.wrap .i64 (from_22 - 1))) * 4)) [CT.int .i64] fun (v183 : Int) =>
                              VSet v183 fun (term_24' : Int) =>
                              Φ7 term_24' w16
                            ) (
                              Φ7 0 w16
                            )
                          ) ∧ ∀ (term_24 : Int) (w17 : World), Φ7 term_24 w17 →
                          VCk none ((0 : Int) ≤ from_22 ∧ (from_22 : Int) ≤ to_23 ∧ (to_23 : Int) ≤ ((all_11.cap : Nat) : Int)) (
                            VCall none Try.prog 11 #[.pointer r126_0, .int .i64 from_22, .int .i64 term_24, .slice (cutB all_11.base all_11.cap 4 (Int.toNat from_22)) ((Int.toNat to_23) - (Int.toNat from_22)) (all_11.cap - (Int.toNat from_22))] w17 (.tuple #[.int .i64 0, .int .i64 0]) fun (r192_0 : Int) (r192_1 : Int) (w18 : World) =>
                            VSet r192_0 fun (first_25 : Int) =>
                            VSet r192_1 fun (e_26 : Int) =>
                            VCall none Try.prog 12 #[.pointer r126_0] w18 (.tuple #[.int .i64 0, .int .i64 0]) fun (r197_0 : Int) (r197_1 : Int) (w19 : World) =>
                            VSet r197_0 fun (last_27 : Int) =>
                            VSet r197_1 fun (v28 : Int) =>
                            VIf (e_26 == 50) (
                              VIf ((decide (from_22 ≤ k_14')) && (decide (from_22 ≥ c_20))) (
                                R (.returned (.bool false)) w19
                              ) (
                                Φ6 k_14' w19
                              )
                            ) (
                              VIf (((e_26 != 0) || ((first_25 != 0) && (((decide (first_25 ≤ from_22)) || (decide (first_25 > to_23))) || (last_27 != to_23)))) || (decide (last_27 < to_23))) (
                                R (.returned (.bool false)) w19
                              ) (
                                VSet (IntKind.wrap .i64 (c_20 + 1)) fun (at_29 : Int) =>
                                ∃ I8 : Nat → Int → World → Prop, (∃ k, I8 k at_29 w19) ∧ ∀ k8 (at_29' : Int) (w20 : World), I8 k8 at_29' w20 →
                                VIf (decide (at_29' ≤ to_23)) (
                                  VCall none Try.prog 13 #[.pointer r126_0, .int .i64 at_29'] w20 (.tuple #[.agg #[.int .i64 0, .int .u8 0, .string ByteArray.empty, .slice none 0 0], .bool false]) fun (r246_0 : Int) (r246_1 : Int) (r246_2 : ByteArray) (r246_3 : Sl) (r246_4 : Bool) (w21 : World) =>
                                  VNw none w21 (.cells #[.int .i64 0, .int .u8 0, .string ByteArray.empty, .slice none 0 0] 28) fun (x_30 : Nat) (w22 : World) =>
                                  VSt none w22 ⟨x_30, 0, none⟩ [.int .i64 r246_0, .int .u8 r246_1, .string r246_2, .slice r246_3.base r246_3.len r246_3.cap] fun (w23 : World) =>
                                  ∀ (w24 : World), w24 = World.drew w23 →
                                  VLd (some (!(!r246_4))) w24 ⟨x_30, 0, none⟩ [CT.int .i64, CT.int .u8, CT.str, CT.sl] fun (v252_0 : Int) (v252_1 : Int) (v252_2 : ByteArray) (v252_3 : Sl) =>
                                  VIx (some (!(!r246_4))) all_11.base all_11.len (IntKind.wrap .i64 (at_29' - 1)) fun (a256 : Addr) =>
                                  VLd (some (!(!r246_4))) w24 (Addr.add a256 ((Int.toNat (IntKind.wrap .i64 (at_29' - 1))) * 4)) [CT.int .i64, CT.int .u8, CT.str, CT.sl] fun (v257_0 : Int) (v257_1 : Int) (v257_2 : ByteArray) (v257_3 : Sl) =>
                                  VCall (some (!(!r246_4))) Try.prog 14 #[.agg #[.int .i64 v252_0, .int .u8 v252_1, .string v252_2, .slice v252_3.base v252_3.len v252_3.cap], .agg #[.int .i64 v257_0, .int .u8 v257_1, .string v257_2, .slice v257_3.base v257_3.len v257_3.cap]] w24 (.bool false) fun (r258 : Bool) (w25 : World) =>
                                  VIf ((!r246_4) || (!r258)) (
                                    R (.returned (.bool false)) w25
                                  ) (
                                    VSet (IntKind.wrap .i64 (at_29' + 1)) fun (at_29'' : Int) =>
                                    ∃ k', k' < k8 ∧ I8 k' at_29'' w25
                                  )
                                ) (
                                  VSet (if to_23 > k_14' then to_23 else k_14') fun (k_14_3 : Int) =>
                                  Φ6 k_14_3 w20
                                )
                              )
                            )
                          )
                        )
                      )
                    ) ∧ ∀ (k_14'' : Int) (w26 : World), Φ6 k_14'' w26 →
                    VSet (IntKind.wrap .i64 (i_21 + 1)) fun (i_21' : Int) =>
                    ∃ k', k' < k5 ∧ I5 k' k_14'' i_21' w26
                  ) (
                    R (.returned (.bool true)) w16
                  )
                )
              )
            )
          )
        )
      )
    )
  )
theorem sh_butterylaw14_RlogPieces_ok (terms_0 : Sl) (leaves_1 : Int) (other_2 : Sl) (cut_3 : Int) (l_4 : Sl) (w : World) (R : Ending → World → Prop) (h : sh_butterylaw14_RlogPieces terms_0 leaves_1 other_2 cut_3 l_4 w R) : Calls Try.prog 3 #[.slice terms_0.base terms_0.len terms_0.cap, .int .i64 leaves_1, .slice other_2.base other_2.len other_2.cap, .int .i64 cut_3, .slice l_4.base l_4.len l_4.cap] w R :=
  calls_of_sh (args := [.slice terms_0.base terms_0.len terms_0.cap, .int .i64 leaves_1, .slice other_2.base other_2.len other_2.cap, .int .i64 cut_3, .slice l_4.base l_4.len l_4.cap]) (.two .auto (.two (.two .auto (.two (.two .auto .auto) .auto)) (.two .auto (.two .auto (.two (.two .auto (.one (.loop [(11, .slice none 0 0), (12, .int .i64 0), (13, .int .i64 0)] (.two (.two .auto (.two .auto .auto)) (.two (.one (.two .auto .auto)) .auto))))) (.two .auto (.two .auto (.two .auto (.join [(16, .int .i64 0)] (.two .auto (.two .auto .auto)) (.two (.two .auto (.one (.loop [(15, .slice none 0 0), (16, .int .i64 0), (17, .int .i64 0)] (.two (.two .auto (.two .auto .auto)) (.two (.one (.two .auto (.two (.bjoin [(16, .int .i64 0)] (.two .auto (.two .auto (.two .auto (.two .auto .auto))))) .auto))) .auto))))) (.two .auto (.two (.two .auto (.two (.two .auto .auto) .auto)) (.two .auto (.two (.two .auto (.two (.two .auto .auto) .auto)) (.two (.two .auto (.one (.loop [(14, .int .i64 0), (21, .int .i64 0)] (.two (.two .auto (.two .auto .auto)) (.two (.bjoin [(14, .int .i64 0)] (.two .auto (.two .auto (.two .auto (.join [(24, .int .i64 0)] (.two .auto (.two .auto .auto)) (.two .auto (.two .auto (.two (.two .auto (.two (.two (.two .auto (.two (.two .auto .auto) .auto)) .auto) .auto)) (.two (.two .auto (.two (.two .auto .auto) .auto)) (.two (.two .auto (.one (.loop [(29, .int .i64 0)] (.two (.two .auto (.two .auto .auto)) (.two (.one (.two .auto (.two .auto (.two (.two .auto .auto) .auto)))) .auto))))) .auto)))))))))) .auto))))) (.two .auto .auto)))))))))))))))) Try.func3 (by kernel_rfl) (by kernel_rfl) (by kernel_rfl) h

/-- 4: buttery/butterylaw14.RlogCuts -/
def sh_butterylaw14_RlogCuts (base_0 : Int) (term_1 : Int) (l_2 : Sl) (cuts_3 : Sl) (w : World) (R : Ending → World → Prop) : Prop :=
  VCall none Try.prog 15 #[.slice l_2.base l_2.len l_2.cap] w (.bool false) fun (r26 : Bool) (w1 : World) =>
  VCall (some (!(r26 || (decide (((cuts_3.len : Nat) : Int) > 20))))) Try.prog 8 #[] w1 (.bool false) fun (r33 : Bool) (w2 : World) =>
  VIf ((r26 || (decide (((cuts_3.len : Nat) : Int) > 20))) || (!r33)) (
    VCall none Try.prog 8 #[] w2 (.bool false) fun (r36 : Bool) (w3 : World) =>
    R (.returned (.bool r36)) w3
  ) (
    VCall none Try.prog 9 #[.int .i64 base_0, .int .i64 term_1, .slice l_2.base l_2.len l_2.cap] w2 (.tuple #[.pointer none, .int .i64 0]) fun (r41_0 : Option Addr) (r41_1 : Int) (w4 : World) =>
    VSet r41_1 fun (e_10 : Int) =>
    VIf (e_10 != 0) (
      R (.returned (.bool true)) w4
    ) (
      VCall none Try.prog 16 #[.pointer r41_0] w4 (.pointer none) fun (r47 : Option Addr) (w5 : World) =>
      ∃ I1 : Nat → Int → World → Prop, (∃ k, I1 k 0 w5) ∧ ∀ k1 (i_12 : Int) (w6 : World), I1 k1 i_12 w6 →
      VIf (decide (i_12 < ((cuts_3.len : Nat) : Int))) (
        VIx none cuts_3.base cuts_3.len i_12 fun (a57 : Addr) =>
        VLd none w6 (Addr.add a57 ((Int.toNat i_12) * 1)) [CT.int .i64] fun (v58 : Int) =>
        VCk none (((IntKind.wrap .u64 (IntKind.wrap .i64 (((l_2.len : Nat) : Int) + 1))) : Int) ≠ 0) (
          VSet (IntKind.wrap .i64 (base_0 + (IntKind.wrap .i64 (Int.tmod (IntKind.wrap .u64 v58) (IntKind.wrap .u64 (IntKind.wrap .i64 (((l_2.len : Nat) : Int) + 1))))))) fun (at_13 : Int) =>
          VCall none Try.prog 17 #[.pointer r41_0] w6 (.tuple #[.int .i64 0, .int .i64 0]) fun (r69_0 : Int) (r69_1 : Int) (w7 : World) =>
          VSet r69_0 fun (was_14 : Int) =>
          VSet r69_1 fun (v15 : Int) =>
          VCall none Try.prog 18 #[.pointer r47, .int .i64 at_13] w7 (.tuple #[.int .i64 0, .bool false]) fun (r75_0 : Int) (r75_1 : Bool) (w8 : World) =>
          VSet r75_0 fun (t_16 : Int) =>
          VCall none Try.prog 10 #[.pointer r41_0, .int .i64 at_13] w8 (.int .i64 0) fun (r80 : Int) (w9 : World) =>
          VSet r80 fun (e_18 : Int) =>
          VIf (!((e_18 == 0) == (decide (at_13 ≥ was_14)))) (
            R (.returned (.bool false)) w9
          ) (
            VCall none Try.prog 17 #[.pointer r41_0] w9 (.tuple #[.int .i64 0, .int .i64 0]) fun (r89_0 : Int) (r89_1 : Int) (w10 : World) =>
            VSet r89_0 fun (b_19 : Int) =>
            VSet r89_1 fun (u_20 : Int) =>
            VIf ((e_18 == 0) && ((b_19 != at_13) || (u_20 != t_16))) (
              R (.returned (.bool false)) w10
            ) (
              VCall none Try.prog 12 #[.pointer r41_0] w10 (.tuple #[.int .i64 0, .int .i64 0]) fun (r106_0 : Int) (r106_1 : Int) (w11 : World) =>
              VSet r106_0 fun (a_21 : Int) =>
              VSet r106_1 fun (x_22 : Int) =>
              VCall none Try.prog 12 #[.pointer r47] w11 (.tuple #[.int .i64 0, .int .i64 0]) fun (r111_0 : Int) (r111_1 : Int) (w12 : World) =>
              VSet r111_0 fun (c_23 : Int) =>
              VSet r111_1 fun (y_24 : Int) =>
              VCall (some (!((a_21 != c_23) || (x_22 != y_24)))) Try.prog 20 #[.pointer r41_0, .int .i64 0, .int .i64 100] w12 (.slice none 0 0) fun (r124 : Sl) (w13 : World) =>
              VCall (some (!((a_21 != c_23) || (x_22 != y_24)))) Try.prog 20 #[.pointer r47, .int .i64 (IntKind.wrap .i64 (b_19 + 1)), .int .i64 100] w13 (.slice none 0 0) fun (r128 : Sl) (w14 : World) =>
              VCall (some (!((a_21 != c_23) || (x_22 != y_24)))) Try.prog 19 #[.slice r124.base r124.len r124.cap, .slice r128.base r128.len r128.cap] w14 (.bool false) fun (r129 : Bool) (w15 : World) =>
              VIf (((a_21 != c_23) || (x_22 != y_24)) || (!r129)) (
                R (.returned (.bool false)) w15
              ) (
                VSet (IntKind.wrap .i64 (i_12 + 1)) fun (i_12' : Int) =>
                ∃ k', k' < k1 ∧ I1 k' i_12' w15
              )
            )
          )
        )
      ) (
        R (.returned (.bool true)) w6
      )
    )
  )
theorem sh_butterylaw14_RlogCuts_ok (base_0 : Int) (term_1 : Int) (l_2 : Sl) (cuts_3 : Sl) (w : World) (R : Ending → World → Prop) (h : sh_butterylaw14_RlogCuts base_0 term_1 l_2 cuts_3 w R) : Calls Try.prog 4 #[.int .i64 base_0, .int .i64 term_1, .slice l_2.base l_2.len l_2.cap, .slice cuts_3.base cuts_3.len cuts_3.cap] w R :=
  calls_of_sh (args := [.int .i64 base_0, .int .i64 term_1, .slice l_2.base l_2.len l_2.cap, .slice cuts_3.base cuts_3.len cuts_3.cap]) (.two .auto (.two (.two .auto (.two (.two .auto .auto) .auto)) (.two .auto (.two (.two .auto (.two (.two .auto .auto) .auto)) (.two .auto (.two (.two .auto (.one (.loop [(12, .int .i64 0)] (.two (.two .auto (.two .auto .auto)) (.two (.one (.two .auto (.two .auto (.two .auto (.two .auto (.two (.two .auto (.two (.two .auto .auto) .auto)) (.two .auto (.two (.two .auto (.two (.two .auto .auto) .auto)) (.two .auto (.two .auto (.two .auto (.two (.two .auto .auto) .auto)))))))))))) .auto))))) (.two .auto .auto))))))) Try.func4 (by kernel_rfl) (by kernel_rfl) (by kernel_rfl) h

/-- 5: buttery/butterylaw14.RlogEntries -/
def sh_butterylaw14_RlogEntries (e_0_0 : Int) (e_0_1 : Int) (e_0_2 : ByteArray) (e_0_3 : Sl) (b_1 : Sl) (w : World) (R : Ending → World → Prop) : Prop :=
  VNw none w (.cells #[.int .i64 e_0_0, .int .u8 e_0_1, .string e_0_2, .slice e_0_3.base e_0_3.len e_0_3.cap] 28) fun (e_2 : Nat) (w1 : World) =>
  VLd none w1 ⟨e_2, 0, none⟩ [CT.int .i64, CT.int .u8, CT.str, CT.sl] fun (v18_0 : Int) (v18_1 : Int) (v18_2 : ByteArray) (v18_3 : Sl) =>
  VNw none w1 (.cells #[.int .i64 v18_0, .int .u8 v18_1, .string v18_2, .slice v18_3.base v18_3.len v18_3.cap] 28) fun (b19 : Nat) (w2 : World) =>
  VCall none Try.prog 15 #[.slice (some ⟨b19, 0, none⟩) 1 1] w2 (.bool false) fun (r20 : Bool) (w3 : World) =>
  VIf (r20 || (decide (((b_1.len : Nat) : Int) > 5000))) (
    VCall none Try.prog 8 #[] w3 (.bool false) fun (r26 : Bool) (w4 : World) =>
    R (.returned (.bool r26)) w4
  ) (
    VLd none w3 ⟨e_2, 0, none⟩ [CT.int .i64, CT.int .u8, CT.str, CT.sl] fun (v27_0 : Int) (v27_1 : Int) (v27_2 : ByteArray) (v27_3 : Sl) =>
    VCall none Try.prog 21 #[.agg #[.int .i64 v27_0, .int .u8 v27_1, .string v27_2, .slice v27_3.base v27_3.len v27_3.cap]] w3 (.agg #[.int .i64 0, .int .u8 0, .string ByteArray.empty, .slice none 0 0]) fun (r28_0 : Int) (r28_1 : Int) (r28_2 : ByteArray) (r28_3 : Sl) (w5 : World) =>
    VNw none w5 (.cells #[] 5) fun (b29 : Nat) (w6 : World) =>
    VApp none w6 5 1 1 #[.int .u8 0] (some ⟨b29, 0, none⟩) 0 0 b_1.len (fun news => Seg w6 b_1.base b_1.len 1 news) fun (l31 : Sl) (w7 : World) =>
    VNw none w7 (.cells #[.int .i64 0, .int .u8 0, .string ByteArray.empty, .slice none 0 0] 28) fun (in_5 : Nat) (w8 : World) =>
    VSt none w8 ⟨in_5, 0, none⟩ [.int .i64 r28_0, .int .u8 r28_1, .string r28_2, .slice r28_3.base r28_3.len r28_3.cap] fun (w9 : World) =>
    VLd none w9 ⟨e_2, 0, none⟩ [CT.int .i64, CT.int .u8, CT.str, CT.sl] fun (v33_0 : Int) (v33_1 : Int) (v33_2 : ByteArray) (v33_3 : Sl) =>
    VCall none Try.prog 22 #[.agg #[.int .i64 v33_0, .int .u8 v33_1, .string v33_2, .slice v33_3.base v33_3.len v33_3.cap]] w9 (.tuple #[.slice none 0 0, .int .i64 0]) fun (r34_0 : Sl) (r34_1 : Int) (w10 : World) =>
    VSet r34_1 fun (x_8 : Int) =>
    VLd none w10 ⟨in_5, 0, none⟩ [CT.int .i64, CT.int .u8, CT.str, CT.sl] fun (v38_0 : Int) (v38_1 : Int) (v38_2 : ByteArray) (v38_3 : Sl) =>
    VCall none Try.prog 23 #[.agg #[.int .i64 v38_0, .int .u8 v38_1, .string v38_2, .slice v38_3.base v38_3.len v38_3.cap]] w10 (.tuple #[.slice none 0 0, .int .i64 0]) fun (r39_0 : Sl) (r39_1 : Int) (w11 : World) =>
    VSet r39_1 fun (y_10 : Int) =>
    VCall none Try.prog 24 #[.slice l31.base l31.len l31.cap] w11 (.tuple #[.agg #[.int .i64 0, .int .u8 0, .string ByteArray.empty, .slice none 0 0], .int .i64 0]) fun (r44_0 : Int) (r44_1 : Int) (r44_2 : ByteArray) (r44_3 : Sl) (r44_4 : Int) (w12 : World) =>
    VNw none w12 (.cells #[.int .i64 0, .int .u8 0, .string ByteArray.empty, .slice none 0 0] 28) fun (read_11 : Nat) (w13 : World) =>
    VSt none w13 ⟨read_11, 0, none⟩ [.int .i64 r44_0, .int .u8 r44_1, .string r44_2, .slice r44_3.base r44_3.len r44_3.cap] fun (w14 : World) =>
    VSet r44_4 fun (z_12 : Int) =>
    VCall none Try.prog 24 #[.slice l31.base l31.len l31.cap] w14 (.tuple #[.agg #[.int .i64 0, .int .u8 0, .string ByteArray.empty, .slice none 0 0], .int .i64 0]) fun (r49_0 : Int) (r49_1 : Int) (r49_2 : ByteArray) (r49_3 : Sl) (r49_4 : Int) (w15 : World) =>
    VNw none w15 (.cells #[.int .i64 0, .int .u8 0, .string ByteArray.empty, .slice none 0 0] 28) fun (again_13 : Nat) (w16 : World) =>
    VSt none w16 ⟨again_13, 0, none⟩ [.int .i64 r49_0, .int .u8 r49_1, .string r49_2, .slice r49_3.base r49_3.len r49_3.cap] fun (w17 : World) =>
    VSet r49_4 fun (v14 : Int) =>
    VCall none Try.prog 25 #[.slice b_1.base b_1.len b_1.cap] w17 (.tuple #[.agg #[.int .i64 0, .int .u8 0, .string ByteArray.empty, .slice none 0 0], .int .i64 0]) fun (r54_0 : Int) (r54_1 : Int) (r54_2 : ByteArray) (r54_3 : Sl) (r54_4 : Int) (w18 : World) =>
    VNw none w18 (.cells #[.int .i64 0, .int .u8 0, .string ByteArray.empty, .slice none 0 0] 28) fun (back_15 : Nat) (w19 : World) =>
    VSt none w19 ⟨back_15, 0, none⟩ [.int .i64 r54_0, .int .u8 r54_1, .string r54_2, .slice r54_3.base r54_3.len r54_3.cap] fun (w20 : World) =>
    VSet r54_4 fun (w_16 : Int) =>
    ∀ (w21 : World), w21 = World.drew w20 →
    VLd none w21 ⟨in_5, 0, none⟩ [CT.int .i64, CT.int .u8, CT.str, CT.sl] fun (v57_0 : Int) (v57_1 : Int) (v57_2 : ByteArray) (v57_3 : Sl) =>
    VLd none w21 ⟨e_2, 0, none⟩ [CT.int .i64, CT.int .u8, CT.str, CT.sl] fun (v59_0 : Int) (v59_1 : Int) (v59_2 : ByteArray) (v59_3 : Sl) =>
    VCall none Try.prog 26 #[.agg #[.int .i64 v57_0, .int .u8 v57_1, .string v57_2, .slice v57_3.base v57_3.len v57_3.cap]] w21 (.bool false) fun (r58 : Bool) (w22 : World) =>
    Rd w22 ⟨e_2, 0, none⟩ [.int .i64 v59_0, .int .u8 v59_1, .string v59_2, .slice v59_3.base v59_3.len v59_3.cap] ∧
    VCall none Try.prog 27 #[.agg #[.int .i64 v59_0, .int .u8 v59_1, .string v59_2, .slice v59_3.base v59_3.len v59_3.cap]] w22 (.bool false) fun (r60 : Bool) (w23 : World) =>
    VStr (some (!((!(r58 == r60)) || (x_8 != y_10)))) w23 r39_0.base r39_0.len fun (s69 : ByteArray) =>
    VStr (some (!((!(r58 == r60)) || (x_8 != y_10)))) w23 r34_0.base r34_0.len fun (s71 : ByteArray) =>
    VLd (some (!((((!(r58 == r60)) || (x_8 != y_10)) || (!(s69.toList == s71.toList))) || (z_12 != w_16)))) w23 ⟨read_11, 0, none⟩ [CT.int .i64, CT.int .u8, CT.str, CT.sl] fun (v80_0 : Int) (v80_1 : Int) (v80_2 : ByteArray) (v80_3 : Sl) =>
    VLd (some (!((((!(r58 == r60)) || (x_8 != y_10)) || (!(s69.toList == s71.toList))) || (z_12 != w_16)))) w23 ⟨back_15, 0, none⟩ [CT.int .i64, CT.int .u8, CT.str, CT.sl] fun (v81_0 : Int) (v81_1 : Int) (v81_2 : ByteArray) (v81_3 : Sl) =>
    VCall (some (!((((!(r58 == r60)) || (x_8 != y_10)) || (!(s69.toList == s71.toList))) || (z_12 != w_16)))) Try.prog 14 #[.agg #[.int .i64 v80_0, .int .u8 v80_1, .string v80_2, .slice v80_3.base v80_3.len v80_3.cap], .agg #[.int .i64 v81_0, .int .u8 v81_1, .string v81_2, .slice v81_3.base v81_3.len v81_3.cap]] w23 (.bool false) fun (r82 : Bool) (w24 : World) =>
    VLd (some (!(((((!(r58 == r60)) || (x_8 != y_10)) || (!(s69.toList == s71.toList))) || (z_12 != w_16)) || (!r82)))) w24 ⟨in_5, 0, none⟩ [CT.int .i64, CT.int .u8, CT.str, CT.sl] fun (v86_0 : Int) (v86_1 : Int) (v86_2 : ByteArray) (v86_3 : Sl) =>
    VLd (some (!(((((!(r58 == r60)) || (x_8 != y_10)) || (!(s69.toList == s71.toList))) || (z_12 != w_16)) || (!r82)))) w24 ⟨e_2, 0, none⟩ [CT.int .i64, CT.int .u8, CT.str, CT.sl] fun (v87_0 : Int) (v87_1 : Int) (v87_2 : ByteArray) (v87_3 : Sl) =>
    VCall (some (!(((((!(r58 == r60)) || (x_8 != y_10)) || (!(s69.toList == s71.toList))) || (z_12 != w_16)) || (!r82)))) Try.prog 14 #[.agg #[.int .i64 v86_0, .int .u8 v86_1, .string v86_2, .slice v86_3.base v86_3.len v86_3.cap], .agg #[.int .i64 v87_0, .int .u8 v87_1, .string v87_2, .slice v87_3.base v87_3.len v87_3.cap]] w24 (.bool false) fun (r88 : Bool) (w25 : World) =>
    VStr (some (!((((((!(r58 == r60)) || (x_8 != y_10)) || (!(s69.toList == s71.toList))) || (z_12 != w_16)) || (!r82)) || (!r88)))) w25 l31.base l31.len fun (s93 : ByteArray) =>
    VStr (some (!((((((!(r58 == r60)) || (x_8 != y_10)) || (!(s69.toList == s71.toList))) || (z_12 != w_16)) || (!r82)) || (!r88)))) w25 b_1.base b_1.len fun (s95 : ByteArray) =>
    VIf (((((((!(r58 == r60)) || (x_8 != y_10)) || (!(s69.toList == s71.toList))) || (z_12 != w_16)) || (!r82)) || (!r88)) || (!(s93.toList == s95.toList))) (
      R (.returned (.bool false)) w25
    ) (
      ∃ I1 : Nat → Int → World → Prop, (∃ k, I1 k 0 w25) ∧ ∀ k1 (i_17 : Int) (w26 : World), I1 k1 i_17 w26 →
      VLd none w26 ⟨read_11, 3, none⟩ [CT.sl] fun (v100 : Sl) =>
      VIf (decide (i_17 < ((v100.len : Nat) : Int))) (
        VLd none w26 ⟨read_11, 3, none⟩ [CT.sl] fun (v106 : Sl) =>
        VIx none v106.base v106.len i_17 fun (a108 : Addr) =>
        VSt none w26 (Addr.add a108 ((Int.toNat i_17) * 1)) [.int .i64 (-1)] fun (w27 : World) =>
        VSet (IntKind.wrap .i64 (i_17 + 1)) fun (i_17' : Int) =>
        ∃ k', k' < k1 ∧ I1 k' i_17' w27
      ) (
        VLd none w26 ⟨again_13, 0, none⟩ [CT.int .i64, CT.int .u8, CT.str, CT.sl] fun (v109_0 : Int) (v109_1 : Int) (v109_2 : ByteArray) (v109_3 : Sl) =>
        VLd none w26 ⟨back_15, 0, none⟩ [CT.int .i64, CT.int .u8, CT.str, CT.sl] fun (v110_0 : Int) (v110_1 : Int) (v110_2 : ByteArray) (v110_3 : Sl) =>
        VCall none Try.prog 14 #[.agg #[.int .i64 v109_0, .int .u8 v109_1, .string v109_2, .slice v109_3.base v109_3.len v109_3.cap], .agg #[.int .i64 v110_0, .int .u8 v110_1, .string v110_2, .slice v110_3.base v110_3.len v110_3.cap]] w26 (.bool false) fun (r111 : Bool) (w28 : World) =>
        VCall (some r111) Try.prog 8 #[] w28 (.bool false) fun (r113 : Bool) (w29 : World) =>
        R (.returned (.bool (r111 && r113))) w29
      )
    )
  )
theorem sh_butterylaw14_RlogEntries_ok (e_0_0 : Int) (e_0_1 : Int) (e_0_2 : ByteArray) (e_0_3 : Sl) (b_1 : Sl) (w : World) (R : Ending → World → Prop) (h : sh_butterylaw14_RlogEntries e_0_0 e_0_1 e_0_2 e_0_3 b_1 w R) : Calls Try.prog 5 #[.agg #[.int .i64 e_0_0, .int .u8 e_0_1, .string e_0_2, .slice e_0_3.base e_0_3.len e_0_3.cap], .slice b_1.base b_1.len b_1.cap] w R :=
  calls_of_sh (args := [.agg #[.int .i64 e_0_0, .int .u8 e_0_1, .string e_0_2, .slice e_0_3.base e_0_3.len e_0_3.cap], .slice b_1.base b_1.len b_1.cap]) (.two .auto (.two (.two .auto (.two (.two .auto .auto) .auto)) (.two .auto (.two .auto (.two .auto (.two .auto (.two .auto (.two .auto (.two (.two .auto (.two (.two .auto .auto) .auto)) (.two (.two .auto (.one (.loop [(17, .int .i64 0)] (.two (.two .auto (.two .auto .auto)) (.two (.one .auto) .auto))))) (.two .auto .auto))))))))))) Try.func5 (by kernel_rfl) (by kernel_rfl) (by kernel_rfl) h

/-- 6: buttery/butterylaw14.RlogBack -/
def sh_butterylaw14_RlogBack (e_0_0 : Int) (e_0_1 : Int) (e_0_2 : ByteArray) (e_0_3 : Sl) (b_1 : Sl) (w : World) (R : Ending → World → Prop) : Prop :=
  VNw none w (.cells #[.int .i64 e_0_0, .int .u8 e_0_1, .string e_0_2, .slice e_0_3.base e_0_3.len e_0_3.cap] 28) fun (e_2 : Nat) (w1 : World) =>
  VLd none w1 ⟨e_2, 0, none⟩ [CT.int .i64, CT.int .u8, CT.str, CT.sl] fun (v11_0 : Int) (v11_1 : Int) (v11_2 : ByteArray) (v11_3 : Sl) =>
  VNw none w1 (.cells #[.int .i64 v11_0, .int .u8 v11_1, .string v11_2, .slice v11_3.base v11_3.len v11_3.cap] 28) fun (b12 : Nat) (w2 : World) =>
  VCall none Try.prog 15 #[.slice (some ⟨b12, 0, none⟩) 1 1] w2 (.bool false) fun (r13 : Bool) (w3 : World) =>
  VCall (some (!(r13 || (decide (((b_1.len : Nat) : Int) > 5000))))) Try.prog 8 #[] w3 (.bool false) fun (r20 : Bool) (w4 : World) =>
  VIf ((r13 || (decide (((b_1.len : Nat) : Int) > 5000))) || (!r20)) (
    VCall none Try.prog 8 #[] w4 (.bool false) fun (r23 : Bool) (w5 : World) =>
    R (.returned (.bool r23)) w5
  ) (
    VLd none w4 ⟨e_2, 0, none⟩ [CT.int .i64, CT.int .u8, CT.str, CT.sl] fun (v25_0 : Int) (v25_1 : Int) (v25_2 : ByteArray) (v25_3 : Sl) =>
    VCall none Try.prog 23 #[.agg #[.int .i64 v25_0, .int .u8 v25_1, .string v25_2, .slice v25_3.base v25_3.len v25_3.cap]] w4 (.tuple #[.slice none 0 0, .int .i64 0]) fun (r26_0 : Sl) (r26_1 : Int) (w6 : World) =>
    VSet r26_1 fun (f_6 : Int) =>
    VLd none w6 ⟨e_2, 0, none⟩ [CT.int .i64, CT.int .u8, CT.str, CT.sl] fun (v31_0 : Int) (v31_1 : Int) (v31_2 : ByteArray) (v31_3 : Sl) =>
    VCall none Try.prog 26 #[.agg #[.int .i64 v31_0, .int .u8 v31_1, .string v31_2, .slice v31_3.base v31_3.len v31_3.cap]] w6 (.bool false) fun (r32 : Bool) (w7 : World) =>
    VIf (!((f_6 == 0) == r32)) (
      R (.returned (.bool false)) w7
    ) (
      ∃ Φ1 : World → Prop, (
        VIf (f_6 == 0) (
          VCall none Try.prog 24 #[.slice r26_0.base r26_0.len r26_0.cap] w7 (.tuple #[.agg #[.int .i64 0, .int .u8 0, .string ByteArray.empty, .slice none 0 0], .int .i64 0]) fun (r38_0 : Int) (r38_1 : Int) (r38_2 : ByteArray) (r38_3 : Sl) (r38_4 : Int) (w8 : World) =>
          VNw none w8 (.cells #[.int .i64 0, .int .u8 0, .string ByteArray.empty, .slice none 0 0] 28) fun (x_7 : Nat) (w9 : World) =>
          VSt none w9 ⟨x_7, 0, none⟩ [.int .i64 r38_0, .int .u8 r38_1, .string r38_2, .slice r38_3.base r38_3.len r38_3.cap] fun (w10 : World) =>
          VSet r38_4 fun (g_8 : Int) =>
          VLd (some (!(g_8 != 0))) w10 ⟨x_7, 0, none⟩ [CT.int .i64, CT.int .u8, CT.str, CT.sl] fun (v44_0 : Int) (v44_1 : Int) (v44_2 : ByteArray) (v44_3 : Sl) =>
          VLd (some (!(g_8 != 0))) w10 ⟨e_2, 0, none⟩ [CT.int .i64, CT.int .u8, CT.str, CT.sl] fun (v45_0 : Int) (v45_1 : Int) (v45_2 : ByteArray) (v45_3 : Sl) =>
          VCall (some (!(g_8 != 0))) Try.prog 14 #[.agg #[.int .i64 v44_0, .int .u8 v44_1, .string v44_2, .slice v44_3.base v44_3.len v44_3.cap], .agg #[.int .i64 v45_0, .int .u8 v45_1, .string v45_2, .slice v45_3.base v45_3.len v45_3.cap]] w10 (.bool false) fun (r46 : Bool) (w11 : World) =>
          VIf ((g_8 != 0) || (!r46)) (
            R (.returned (.bool false)) w11
          ) (
            Φ1 w11
          )
        ) (
          Φ1 w7
        )
      ) ∧ ∀ (w12 : World), Φ1 w12 →
      VCall none Try.prog 24 #[.slice b_1.base b_1.len b_1.cap] w12 (.tuple #[.agg #[.int .i64 0, .int .u8 0, .string ByteArray.empty, .slice none 0 0], .int .i64 0]) fun (r51_0 : Int) (r51_1 : Int) (r51_2 : ByteArray) (r51_3 : Sl) (r51_4 : Int) (w13 : World) =>
      VNw none w13 (.cells #[.int .i64 0, .int .u8 0, .string ByteArray.empty, .slice none 0 0] 28) fun (x_9 : Nat) (w14 : World) =>
      VSt none w14 ⟨x_9, 0, none⟩ [.int .i64 r51_0, .int .u8 r51_1, .string r51_2, .slice r51_3.base r51_3.len r51_3.cap] fun (w15 : World) =>
      VSet r51_4 fun (f_6' : Int) =>
      VIf (f_6' != 0) (
        R (.returned (.bool true)) w15
      ) (
        VLd none w15 ⟨x_9, 0, none⟩ [CT.int .i64, CT.int .u8, CT.str, CT.sl] fun (v57_0 : Int) (v57_1 : Int) (v57_2 : ByteArray) (v57_3 : Sl) =>
        VCall none Try.prog 23 #[.agg #[.int .i64 v57_0, .int .u8 v57_1, .string v57_2, .slice v57_3.base v57_3.len v57_3.cap]] w15 (.tuple #[.slice none 0 0, .int .i64 0]) fun (r58_0 : Sl) (r58_1 : Int) (w16 : World) =>
        VSet r58_1 fun (f_6'' : Int) =>
        VStr (some (f_6'' == 0)) w16 r58_0.base r58_0.len fun (s65 : ByteArray) =>
        VStr (some (f_6'' == 0)) w16 b_1.base b_1.len fun (s67 : ByteArray) =>
        R (.returned (.bool ((f_6'' == 0) && (s65.toList == s67.toList)))) w16
      )
    )
  )
theorem sh_butterylaw14_RlogBack_ok (e_0_0 : Int) (e_0_1 : Int) (e_0_2 : ByteArray) (e_0_3 : Sl) (b_1 : Sl) (w : World) (R : Ending → World → Prop) (h : sh_butterylaw14_RlogBack e_0_0 e_0_1 e_0_2 e_0_3 b_1 w R) : Calls Try.prog 6 #[.agg #[.int .i64 e_0_0, .int .u8 e_0_1, .string e_0_2, .slice e_0_3.base e_0_3.len e_0_3.cap], .slice b_1.base b_1.len b_1.cap] w R :=
  calls_of_sh (args := [.agg #[.int .i64 e_0_0, .int .u8 e_0_1, .string e_0_2, .slice e_0_3.base e_0_3.len e_0_3.cap], .slice b_1.base b_1.len b_1.cap]) (.two .auto (.two (.two .auto (.two (.two .auto .auto) .auto)) (.two .auto (.two (.two .auto (.two (.two .auto .auto) .auto)) (.join [] (.two .auto (.two (.two .auto (.two .auto (.two (.two .auto .auto) .auto))) .auto)) (.two .auto (.two (.two .auto (.two (.two .auto .auto) .auto)) (.two .auto (.two .auto .auto))))))))) Try.func6 (by kernel_rfl) (by kernel_rfl) (by kernel_rfl) h

/-- 7: buttery/butterylaw14.RlogNames -/
def sh_butterylaw14_RlogNames (w : World) (R : Ending → World → Prop) : Prop :=
  VCall none Try.prog 17 #[.pointer none] w (.tuple #[.int .i64 0, .int .i64 0]) fun (r29_0 : Int) (r29_1 : Int) (w1 : World) =>
  VSet r29_0 fun (a_2 : Int) =>
  VSet r29_1 fun (b_3 : Int) =>
  VCall none Try.prog 12 #[.pointer none] w1 (.tuple #[.int .i64 0, .int .i64 0]) fun (r34_0 : Int) (r34_1 : Int) (w2 : World) =>
  VSet r34_0 fun (c_4 : Int) =>
  VSet r34_1 fun (d_5 : Int) =>
  VCall none Try.prog 18 #[.pointer none, .int .i64 0] w2 (.tuple #[.int .i64 0, .bool false]) fun (r39_0 : Int) (r39_1 : Bool) (w3 : World) =>
  VSet r39_0 fun (v6 : Int) =>
  VCall none Try.prog 13 #[.pointer none, .int .i64 0] w3 (.tuple #[.agg #[.int .i64 0, .int .u8 0, .string ByteArray.empty, .slice none 0 0], .bool false]) fun (r44_0 : Int) (r44_1 : Int) (r44_2 : ByteArray) (r44_3 : Sl) (r44_4 : Bool) (w4 : World) =>
  VNw none w4 (.cells #[.int .i64 0, .int .u8 0, .string ByteArray.empty, .slice none 0 0] 28) fun (b8 : Nat) (w5 : World) =>
  VSt none w5 ⟨b8, 0, none⟩ [.int .i64 r44_0, .int .u8 r44_1, .string r44_2, .slice r44_3.base r44_3.len r44_3.cap] fun (w6 : World) =>
  VCall none Try.prog 28 #[.pointer none, .int .i64 9] w6 (.tuple #[.slice none 0 0, .bool false]) fun (r49_0 : Sl) (r49_1 : Bool) (w7 : World) =>
  VCall none Try.prog 11 #[.pointer none, .int .i64 0, .int .i64 0, .slice none 0 0] w7 (.tuple #[.int .i64 0, .int .i64 0]) fun (r54_0 : Int) (r54_1 : Int) (w8 : World) =>
  VSet r54_0 fun (v12 : Int) =>
  VSet r54_1 fun (j_13 : Int) =>
  VNw none w8 (.cells #[.int .i64 0, .int .u8 0, .string ByteArray.empty, .slice none 0 0] 28) fun (noop_14 : Nat) (w9 : World) =>
  VSt none w9 ⟨noop_14, 0, none⟩ [.int .i64 1, .int .u8 1, .string ByteArray.empty, .slice none 0 0] fun (w10 : World) =>
  VLd none w10 ⟨noop_14, 0, none⟩ [CT.int .i64, CT.int .u8, CT.str, CT.sl] fun (v59_0 : Int) (v59_1 : Int) (v59_2 : ByteArray) (v59_3 : Sl) =>
  VNw none w10 (.cells #[.int .i64 v59_0, .int .u8 v59_1, .string v59_2, .slice v59_3.base v59_3.len v59_3.cap] 28) fun (b60 : Nat) (w11 : World) =>
  VCall none Try.prog 9 #[.int .i64 2147483647, .int .i64 0, .slice (some ⟨b60, 0, none⟩) 1 1] w11 (.tuple #[.pointer none, .int .i64 0]) fun (r61_0 : Option Addr) (r61_1 : Int) (w12 : World) =>
  VSet r61_1 fun (k_16 : Int) =>
  VCall none Try.prog 9 #[.int .i64 2147483646, .int .i64 1, .slice none 0 0] w12 (.tuple #[.pointer none, .int .i64 0]) fun (r65_0 : Option Addr) (r65_1 : Int) (w13 : World) =>
  VSet r65_1 fun (l_18 : Int) =>
  VIf (l_18 != 0) (
    R (.returned (.bool false)) w13
  ) (
    ∀ (w14 : World), w14 = World.drew w13 →
    VLd none w14 ⟨noop_14, 0, none⟩ [CT.int .i64, CT.int .u8, CT.str, CT.sl] fun (v71_0 : Int) (v71_1 : Int) (v71_2 : ByteArray) (v71_3 : Sl) =>
    VLd none w14 ⟨noop_14, 0, none⟩ [CT.int .i64, CT.int .u8, CT.str, CT.sl] fun (v74_0 : Int) (v74_1 : Int) (v74_2 : ByteArray) (v74_3 : Sl) =>
    VCall none Try.prog 29 #[.pointer r65_0, .agg #[.int .i64 v71_0, .int .u8 v71_1, .string v71_2, .slice v71_3.base v71_3.len v71_3.cap]] w14 (.int .i64 0) fun (r72 : Int) (w15 : World) =>
    Rd w15 ⟨noop_14, 0, none⟩ [.int .i64 v74_0, .int .u8 v74_1, .string v74_2, .slice v74_3.base v74_3.len v74_3.cap] ∧
    VCall none Try.prog 29 #[.pointer r65_0, .agg #[.int .i64 v74_0, .int .u8 v74_1, .string v74_2, .slice v74_3.base v74_3.len v74_3.cap]] w15 (.int .i64 0) fun (r75 : Int) (w16 : World) =>
    VSet r72 fun (m_19 : Int) =>
    VSet r75 fun (n_20 : Int) =>
    VLd none w16 ⟨noop_14, 0, none⟩ [CT.int .i64, CT.int .u8, CT.str, CT.sl] fun (v78_0 : Int) (v78_1 : Int) (v78_2 : ByteArray) (v78_3 : Sl) =>
    VNw none w16 (.cells #[.int .i64 v78_0, .int .u8 v78_1, .string v78_2, .slice v78_3.base v78_3.len v78_3.cap] 28) fun (b79 : Nat) (w17 : World) =>
    VCall none Try.prog 11 #[.pointer r65_0, .int .i64 2147483647, .int .i64 1, .slice (some ⟨b79, 0, none⟩) 1 1] w17 (.tuple #[.int .i64 0, .int .i64 0]) fun (r80_0 : Int) (r80_1 : Int) (w18 : World) =>
    VSet r80_0 fun (v21 : Int) =>
    VSet r80_1 fun (o_22 : Int) =>
    VMk none w18 5 1 1 #[.int .u8 0] 257 257 fun (b84 : Nat) (w19 : World) =>
    VStr none w19 (some ⟨b84, 0, none⟩) 257 fun (s85 : ByteArray) =>
    VCall none Try.prog 23 #[.agg #[.int .i64 1, .int .u8 2, .string s85, .slice none 0 0]] w19 (.tuple #[.slice none 0 0, .int .i64 0]) fun (r87_0 : Sl) (r87_1 : Int) (w20 : World) =>
    VSet r87_1 fun (p_24 : Int) =>
    VMk none w20 5 1 1 #[.int .u8 0] 256 256 fun (b91 : Nat) (w21 : World) =>
    VStr none w21 (some ⟨b91, 0, none⟩) 256 fun (s92 : ByteArray) =>
    VCall none Try.prog 23 #[.agg #[.int .i64 1, .int .u8 2, .string s92, .slice none 0 0]] w21 (.tuple #[.slice none 0 0, .int .i64 0]) fun (r94_0 : Sl) (r94_1 : Int) (w22 : World) =>
    VSet r94_1 fun (q_26 : Int) =>
    VLd (some ((((((IntKind.wrap .i64 ((IntKind.wrap .i64 ((IntKind.wrap .i64 (a_2 + b_3)) + c_4)) + d_5)) == 0) && (!r39_1)) && (!r44_4)) && (!r49_1)) && (j_13 == 2))) w22 ⟨noop_14, 0, none⟩ [CT.int .i64, CT.int .u8, CT.str, CT.sl] fun (v123_0 : Int) (v123_1 : Int) (v123_2 : ByteArray) (v123_3 : Sl) =>
    VCall (some ((((((IntKind.wrap .i64 ((IntKind.wrap .i64 ((IntKind.wrap .i64 (a_2 + b_3)) + c_4)) + d_5)) == 0) && (!r39_1)) && (!r44_4)) && (!r49_1)) && (j_13 == 2))) Try.prog 29 #[.pointer none, .agg #[.int .i64 v123_0, .int .u8 v123_1, .string v123_2, .slice v123_3.base v123_3.len v123_3.cap]] w22 (.int .i64 0) fun (r124 : Int) (w23 : World) =>
    VCall (some (((((((IntKind.wrap .i64 ((IntKind.wrap .i64 ((IntKind.wrap .i64 (a_2 + b_3)) + c_4)) + d_5)) == 0) && (!r39_1)) && (!r44_4)) && (!r49_1)) && (j_13 == 2)) && (r124 == 2))) Try.prog 10 #[.pointer none, .int .i64 0] w23 (.int .i64 0) fun (r129 : Int) (w24 : World) =>
    VCall (some ((((((((IntKind.wrap .i64 ((IntKind.wrap .i64 ((IntKind.wrap .i64 (a_2 + b_3)) + c_4)) + d_5)) == 0) && (!r39_1)) && (!r44_4)) && (!r49_1)) && (j_13 == 2)) && (r124 == 2)) && (r129 == 2))) Try.prog 30 #[.pointer none, .int .i64 0, .int .i64 0] w24 (.int .i64 0) fun (r134 : Int) (w25 : World) =>
    VCall (some (((((((((IntKind.wrap .i64 ((IntKind.wrap .i64 ((IntKind.wrap .i64 (a_2 + b_3)) + c_4)) + d_5)) == 0) && (!r39_1)) && (!r44_4)) && (!r49_1)) && (j_13 == 2)) && (r124 == 2)) && (r129 == 2)) && (r134 == 2))) Try.prog 31 #[.pointer none, .int .i64 0, .int .i64 0] w25 (.bool false) fun (r139 : Bool) (w26 : World) =>
    VCall (some ((((((((((IntKind.wrap .i64 ((IntKind.wrap .i64 ((IntKind.wrap .i64 (a_2 + b_3)) + c_4)) + d_5)) == 0) && (!r39_1)) && (!r44_4)) && (!r49_1)) && (j_13 == 2)) && (r124 == 2)) && (r129 == 2)) && (r134 == 2)) && r139)) Try.prog 20 #[.pointer none, .int .i64 0, .int .i64 9] w26 (.slice none 0 0) fun (r143 : Sl) (w27 : World) =>
    VCall (some (((((((((((IntKind.wrap .i64 ((IntKind.wrap .i64 ((IntKind.wrap .i64 (a_2 + b_3)) + c_4)) + d_5)) == 0) && (!r39_1)) && (!r44_4)) && (!r49_1)) && (j_13 == 2)) && (r124 == 2)) && (r129 == 2)) && (r134 == 2)) && r139) && (((r143.len : Nat) : Int) == 0))) Try.prog 16 #[.pointer none] w27 (.pointer none) fun (r149 : Option Addr) (w28 : World) =>
    VCall (some (((((((((((((((((((IntKind.wrap .i64 ((IntKind.wrap .i64 ((IntKind.wrap .i64 (a_2 + b_3)) + c_4)) + d_5)) == 0) && (!r39_1)) && (!r44_4)) && (!r49_1)) && (j_13 == 2)) && (r124 == 2)) && (r129 == 2)) && (r134 == 2)) && r139) && (((r143.len : Nat) : Int) == 0)) && r149.isNone) && (k_16 == 70)) && (m_19 == 0)) && (n_20 == 70)) && (o_22 == 70)) && (p_24 == 1)) && (q_26 == 0)) || false)) Try.prog 8 #[] w28 (.bool false) fun (r179 : Bool) (w29 : World) =>
    R (.returned (.bool ((((((((((((((((((((IntKind.wrap .i64 ((IntKind.wrap .i64 ((IntKind.wrap .i64 (a_2 + b_3)) + c_4)) + d_5)) == 0) && (!r39_1)) && (!r44_4)) && (!r49_1)) && (j_13 == 2)) && (r124 == 2)) && (r129 == 2)) && (r134 == 2)) && r139) && (((r143.len : Nat) : Int) == 0)) && r149.isNone) && (k_16 == 70)) && (m_19 == 0)) && (n_20 == 70)) && (o_22 == 70)) && (p_24 == 1)) && (q_26 == 0)) || false) && r179))) w29
  )
theorem sh_butterylaw14_RlogNames_ok (w : World) (R : Ending → World → Prop) (h : sh_butterylaw14_RlogNames w R) : Calls Try.prog 7 #[] w R :=
  calls_of_sh (args := []) (.two .auto (.two .auto (.two .auto (.two .auto (.two .auto (.two .auto (.two .auto (.two .auto (.two .auto (.two .auto (.two .auto (.two (.two .auto (.two (.two .auto .auto) .auto)) (.two .auto (.two .auto (.two .auto (.two .auto (.two .auto .auto))))))))))))))))) Try.func7 (by kernel_rfl) (by kernel_rfl) (by kernel_rfl) h

/-- 8: buttery/butterylaw14.awake -/
def sh_butterylaw14_awake (w : World) (R : Ending → World → Prop) : Prop :=
  VCall none Try.prog 32 #[.int .i64 1] w (.agg #[.int .i64 0, .int .u8 0, .string ByteArray.empty, .slice none 0 0]) fun (r13_0 : Int) (r13_1 : Int) (r13_2 : ByteArray) (r13_3 : Sl) (w1 : World) =>
  VCall none Try.prog 32 #[.int .i64 2] w1 (.agg #[.int .i64 0, .int .u8 0, .string ByteArray.empty, .slice none 0 0]) fun (r14_0 : Int) (r14_1 : Int) (r14_2 : ByteArray) (r14_3 : Sl) (w2 : World) =>
  VNw none w2 (.cells #[.int .i64 r13_0, .int .u8 r13_1, .string r13_2, .slice r13_3.base r13_3.len r13_3.cap, .int .i64 r14_0, .int .u8 r14_1, .string r14_2, .slice r14_3.base r14_3.len r14_3.cap] 28) fun (b15 : Nat) (w3 : World) =>
  VCall none Try.prog 9 #[.int .i64 5, .int .i64 1, .slice (some ⟨b15, 0, none⟩) 2 2] w3 (.tuple #[.pointer none, .int .i64 0]) fun (r16_0 : Option Addr) (r16_1 : Int) (w4 : World) =>
  VSet r16_1 fun (e_2 : Int) =>
  VIf (e_2 != 0) (
    R (.returned (.bool false)) w4
  ) (
    VCall none Try.prog 32 #[.int .i64 2] w4 (.agg #[.int .i64 0, .int .u8 0, .string ByteArray.empty, .slice none 0 0]) fun (r23_0 : Int) (r23_1 : Int) (r23_2 : ByteArray) (r23_3 : Sl) (w5 : World) =>
    VCall none Try.prog 32 #[.int .i64 2] w5 (.agg #[.int .i64 0, .int .u8 0, .string ByteArray.empty, .slice none 0 0]) fun (r24_0 : Int) (r24_1 : Int) (r24_2 : ByteArray) (r24_3 : Sl) (w6 : World) =>
    VNw none w6 (.cells #[.int .i64 r23_0, .int .u8 r23_1, .string r23_2, .slice r23_3.base r23_3.len r23_3.cap, .int .i64 r24_0, .int .u8 r24_1, .string r24_2, .slice r24_3.base r24_3.len r24_3.cap] 28) fun (b25 : Nat) (w7 : World) =>
    VCall none Try.prog 11 #[.pointer r16_0, .int .i64 6, .int .i64 1, .slice (some ⟨b25, 0, none⟩) 2 2] w7 (.tuple #[.int .i64 0, .int .i64 0]) fun (r26_0 : Int) (r26_1 : Int) (w8 : World) =>
    VSet r26_0 fun (n_3 : Int) =>
    VSet r26_1 fun (e_2' : Int) =>
    VCall none Try.prog 11 #[.pointer r16_0, .int .i64 6, .int .i64 2, .slice none 0 0] w8 (.tuple #[.int .i64 0, .int .i64 0]) fun (r31_0 : Int) (r31_1 : Int) (w9 : World) =>
    VSet r31_0 fun (v4 : Int) =>
    VSet r31_1 fun (f_5 : Int) =>
    VCall none Try.prog 32 #[.int .i64 1] w9 (.agg #[.int .i64 0, .int .u8 0, .string ByteArray.empty, .slice none 0 0]) fun (r35_0 : Int) (r35_1 : Int) (r35_2 : ByteArray) (r35_3 : Sl) (w10 : World) =>
    VCall none Try.prog 23 #[.agg #[.int .i64 r35_0, .int .u8 r35_1, .string r35_2, .slice r35_3.base r35_3.len r35_3.cap]] w10 (.tuple #[.slice none 0 0, .int .i64 0]) fun (r36_0 : Sl) (r36_1 : Int) (w11 : World) =>
    VSet r36_1 fun (h_7 : Int) =>
    VCall none Try.prog 32 #[.int .i64 3] w11 (.agg #[.int .i64 0, .int .u8 0, .string ByteArray.empty, .slice none 0 0]) fun (r41_0 : Int) (r41_1 : Int) (r41_2 : ByteArray) (r41_3 : Sl) (w12 : World) =>
    VNw none w12 (.cells #[.int .i64 r41_0, .int .u8 r41_1, .string r41_2, .slice r41_3.base r41_3.len r41_3.cap] 28) fun (b42 : Nat) (w13 : World) =>
    VCall none Try.prog 11 #[.pointer r16_0, .int .i64 5, .int .i64 1, .slice (some ⟨b42, 0, none⟩) 1 1] w13 (.tuple #[.int .i64 0, .int .i64 0]) fun (r43_0 : Int) (r43_1 : Int) (w14 : World) =>
    VSet r43_0 fun (m_8 : Int) =>
    VSet r43_1 fun (i_9 : Int) =>
    VCall none Try.prog 12 #[.pointer r16_0] w14 (.tuple #[.int .i64 0, .int .i64 0]) fun (r48_0 : Int) (r48_1 : Int) (w15 : World) =>
    VSet r48_0 fun (at_10 : Int) =>
    VSet r48_1 fun (term_11 : Int) =>
    VIx (some (((((e_2' == 0) && (n_3 == 8)) && (f_5 == 50)) && (h_7 == 0)) && (((r36_0.len : Nat) : Int) == 4))) r36_0.base r36_0.len 0 fun (a72 : Addr) =>
    VLd (some (((((e_2' == 0) && (n_3 == 8)) && (f_5 == 50)) && (h_7 == 0)) && (((r36_0.len : Nat) : Int) == 4))) w15 a72 [CT.int .u8] fun (v73 : Int) =>
    VIx (some ((((((e_2' == 0) && (n_3 == 8)) && (f_5 == 50)) && (h_7 == 0)) && (((r36_0.len : Nat) : Int) == 4)) && (v73 == 1))) r36_0.base r36_0.len 1 fun (a78 : Addr) =>
    VLd (some ((((((e_2' == 0) && (n_3 == 8)) && (f_5 == 50)) && (h_7 == 0)) && (((r36_0.len : Nat) : Int) == 4)) && (v73 == 1))) w15 (Addr.add a78 1) [CT.int .u8] fun (v79 : Int) =>
    VIx (some (((((((e_2' == 0) && (n_3 == 8)) && (f_5 == 50)) && (h_7 == 0)) && (((r36_0.len : Nat) : Int) == 4)) && (v73 == 1)) && (v79 == 1))) r36_0.base r36_0.len 2 fun (a84 : Addr) =>
    VLd (some (((((((e_2' == 0) && (n_3 == 8)) && (f_5 == 50)) && (h_7 == 0)) && (((r36_0.len : Nat) : Int) == 4)) && (v73 == 1)) && (v79 == 1))) w15 (Addr.add a84 2) [CT.int .u8] fun (v85 : Int) =>
    VIx (some ((((((((e_2' == 0) && (n_3 == 8)) && (f_5 == 50)) && (h_7 == 0)) && (((r36_0.len : Nat) : Int) == 4)) && (v73 == 1)) && (v79 == 1)) && (v85 == 0))) r36_0.base r36_0.len 3 fun (a90 : Addr) =>
    VLd (some ((((((((e_2' == 0) && (n_3 == 8)) && (f_5 == 50)) && (h_7 == 0)) && (((r36_0.len : Nat) : Int) == 4)) && (v73 == 1)) && (v79 == 1)) && (v85 == 0))) w15 (Addr.add a90 3) [CT.int .u8] fun (v91 : Int) =>
    R (.returned (.bool (((((((((((((e_2' == 0) && (n_3 == 8)) && (f_5 == 50)) && (h_7 == 0)) && (((r36_0.len : Nat) : Int) == 4)) && (v73 == 1)) && (v79 == 1)) && (v85 == 0)) && (v91 == 0)) && (m_8 == 6)) && (i_9 == 0)) && (at_10 == 6)) && (term_11 == 3)))) w15
  )
theorem sh_butterylaw14_awake_ok (w : World) (R : Ending → World → Prop) (h : sh_butterylaw14_awake w R) : Calls Try.prog 8 #[] w R :=
  calls_of_sh (args := []) (.two .auto (.two .auto (.two (.two .auto (.two (.two .auto .auto) .auto)) (.two .auto (.two .auto (.two .auto (.two .auto (.two .auto (.two .auto .auto))))))))) Try.func8 (by kernel_rfl) (by kernel_rfl) (by kernel_rfl) h

/-- 9: buttery/rlog.New -/
def sh_rlog_New (base_0 : Int) (term_1 : Int) (l_2 : Sl) (w : World) (R : Ending → World → Prop) : Prop :=
  VCall none Try.prog 33 #[.int .i64 base_0] w (.bool false) fun (r10 : Bool) (w1 : World) =>
  VCall (some (!(!r10))) Try.prog 33 #[.int .i64 term_1] w1 (.bool false) fun (r14 : Bool) (w2 : World) =>
  VCall (some (!((!r10) || (!r14)))) Try.prog 34 #[.int .i64 term_1, .slice l_2.base l_2.len l_2.cap] w2 (.bool false) fun (r20 : Bool) (w3 : World) =>
  VIf (((!r10) || (!r14)) || (!r20)) (
    R (.returned (.tuple #[.pointer none, .int .i64 1])) w3
  ) (
    VIf (decide (((l_2.len : Nat) : Int) > (IntKind.wrap .i64 (2147483647 - base_0)))) (
      R (.returned (.tuple #[.pointer none, .int .i64 70])) w3
    ) (
      VCall none Try.prog 35 #[.slice l_2.base l_2.len l_2.cap] w3 (.slice none 0 0) fun (r32 : Sl) (w4 : World) =>
      VNw none w4 (.cells #[.int .i64 base_0, .int .i64 term_1, .slice r32.base r32.len r32.cap] 69) fun (b34 : Nat) (w5 : World) =>
      R (.returned (.tuple #[.pointer (some ⟨b34, 0, none⟩), .int .i64 0])) w5
    )
  )
theorem sh_rlog_New_ok (base_0 : Int) (term_1 : Int) (l_2 : Sl) (w : World) (R : Ending → World → Prop) (h : sh_rlog_New base_0 term_1 l_2 w R) : Calls Try.prog 9 #[.int .i64 base_0, .int .i64 term_1, .slice l_2.base l_2.len l_2.cap] w R :=
  calls_of_sh (args := [.int .i64 base_0, .int .i64 term_1, .slice l_2.base l_2.len l_2.cap]) (.two .auto (.two (.one (.two .auto (.two (.two .auto .auto) (.two .auto (.two (.two .auto .auto) .auto))))) (.two .auto .auto))) Try.func9 (by kernel_rfl) (by kernel_rfl) (by kernel_rfl) h

/-- 10: (*buttery/rlog.Log).Cut -/
def sh_rlog_Log_Cut (g_0 : Option Addr) (i_1 : Int) (w : World) (R : Ending → World → Prop) : Prop :=
  VIf g_0.isNone (
    R (.returned (.int .i64 2)) w
  ) (
    VCall none Try.prog 18 #[.pointer g_0, .int .i64 i_1] w (.tuple #[.int .i64 0, .bool false]) fun (r12_0 : Int) (r12_1 : Bool) (w1 : World) =>
    VSet r12_0 fun (t_5 : Int) =>
    VIf (!r12_1) (
      R (.returned (.int .i64 1)) w1
    ) (
      ∀ (w2 : World), w2 = World.drew w1 →
      VNN none g_0 fun (a21 : Addr) =>
      VLd none w2 (Addr.add a21 2) [CT.sl] fun (v23 : Sl) =>
      VNN none g_0 fun (a26 : Addr) =>
      VLd none w2 a26 [CT.int .i64] fun (v28 : Int) =>
      VCk none ((0 : Int) ≤ IntKind.wrap .i64 (i_1 - v28) ∧ (IntKind.wrap .i64 (i_1 - v28) : Int) ≤ ((v23.len : Nat) : Int) ∧ (((v23.len : Nat) : Int) : Int) ≤ ((v23.cap : Nat) : Int)) (
        VCall none Try.prog 36 #[.slice (cutB v23.base v23.cap 4 (Int.toNat (IntKind.wrap .i64 (i_1 - v28)))) (v23.len - (Int.toNat (IntKind.wrap .i64 (i_1 - v28)))) (v23.cap - (Int.toNat (IntKind.wrap .i64 (i_1 - v28))))] w2 (.slice none 0 0) fun (r31 : Sl) (w3 : World) =>
        VNN none g_0 fun (a34 : Addr) =>
        VSt none w3 (Addr.add a34 2) [.slice r31.base r31.len r31.cap] fun (w4 : World) =>
        VNN none g_0 fun (a36 : Addr) =>
        VSt none w4 a36 [.int .i64 i_1] fun (w5 : World) =>
        VNN none g_0 fun (a38 : Addr) =>
        VSt none w5 (Addr.add a38 1) [.int .i64 t_5] fun (w6 : World) =>
        R (.returned (.int .i64 0)) w6
      )
    )
  )
theorem sh_rlog_Log_Cut_ok (g_0 : Option Addr) (i_1 : Int) (w : World) (R : Ending → World → Prop) (h : sh_rlog_Log_Cut g_0 i_1 w R) : Calls Try.prog 10 #[.pointer g_0, .int .i64 i_1] w R :=
  calls_of_sh (args := [.pointer g_0, .int .i64 i_1]) (.two .auto (.two (.two .auto (.two (.two .auto .auto) .auto)) (.two .auto (.two (.two .auto (.two (.two .auto .auto) .auto)) (.two .auto (.two .auto .auto)))))) Try.func10 (by kernel_rfl) (by kernel_rfl) (by kernel_rfl) h

/-- 11: (*buttery/rlog.Log).Merge -/
def sh_rlog_Log_Merge (g_0 : Option Addr) (prev_1 : Int) (term_2 : Int) (l_3 : Sl) (w : World) (R : Ending → World → Prop) : Prop :=
  VIf g_0.isNone (
    R (.returned (.tuple #[.int .i64 0, .int .i64 2])) w
  ) (
    VCall none Try.prog 33 #[.int .i64 prev_1] w (.bool false) fun (r20 : Bool) (w1 : World) =>
    VCall (some (!(!r20))) Try.prog 33 #[.int .i64 term_2] w1 (.bool false) fun (r24 : Bool) (w2 : World) =>
    VCall (some (!((!r20) || (!r24)))) Try.prog 34 #[.int .i64 term_2, .slice l_3.base l_3.len l_3.cap] w2 (.bool false) fun (r30 : Bool) (w3 : World) =>
    VIf (((!r20) || (!r24)) || (!r30)) (
      R (.returned (.tuple #[.int .i64 0, .int .i64 1])) w3
    ) (
      VIf (decide (((l_3.len : Nat) : Int) > (IntKind.wrap .i64 (2147483647 - prev_1)))) (
        R (.returned (.tuple #[.int .i64 0, .int .i64 70])) w3
      ) (
        VCall none Try.prog 18 #[.pointer g_0, .int .i64 prev_1] w3 (.tuple #[.int .i64 0, .bool false]) fun (r42_0 : Int) (r42_1 : Bool) (w4 : World) =>
        VSet r42_0 fun (t_10 : Int) =>
        VNN none g_0 fun (a47 : Addr) =>
        VLd none w4 a47 [CT.int .i64] fun (v49 : Int) =>
        VIf ((decide (prev_1 ≥ v49)) && ((!r42_1) || (t_10 != term_2))) (
          R (.returned (.tuple #[.int .i64 0, .int .i64 50])) w4
        ) (
          VNN none g_0 fun (a61 : Addr) =>
          VLd none w4 a61 [CT.int .i64] fun (v63 : Int) =>
          VSet (IntKind.wrap .i64 (v63 - prev_1)) fun (k_12 : Int) =>
          ∀ (w5 : World), w5 = World.drew w4 →
          VIx (some ((decide (k_12 ≥ 0)) && (decide (k_12 < ((l_3.len : Nat) : Int))))) l_3.base l_3.len k_12 fun (a77 : Addr) =>
          VLd (some ((decide (k_12 ≥ 0)) && (decide (k_12 < ((l_3.len : Nat) : Int))))) w5 (Addr.add a77 ((Int.toNat k_12) * 4)) [CT.int .i64] fun (v79 : Int) =>
          VNN (some ((decide (k_12 ≥ 0)) && (decide (k_12 < ((l_3.len : Nat) : Int))))) g_0 fun (a81 : Addr) =>
          VLd (some ((decide (k_12 ≥ 0)) && (decide (k_12 < ((l_3.len : Nat) : Int))))) w5 (Addr.add a81 1) [CT.int .i64] fun (v83 : Int) =>
          VIf (((decide (k_12 ≥ 0)) && (decide (k_12 < ((l_3.len : Nat) : Int)))) && (decide (v79 < v83))) (
            R (.returned (.tuple #[.int .i64 0, .int .i64 1])) w5
          ) (
            VCall none Try.prog 37 #[.pointer g_0, .int .i64 prev_1, .slice l_3.base l_3.len l_3.cap] w5 (.int .i64 0) fun (r89 : Int) (w6 : World) =>
            VSet r89 fun (k_13 : Int) =>
            VIf (decide (k_13 < 0)) (
              R (.returned (.tuple #[.int .i64 0, .int .i64 0])) w6
            ) (
              VSet (IntKind.wrap .i64 ((IntKind.wrap .i64 (prev_1 + 1)) + k_13)) fun (at_14 : Int) =>
              ∀ (w7 : World), w7 = World.drew w6 →
              VNN none g_0 fun (a98 : Addr) =>
              VLd none w7 (Addr.add a98 2) [CT.sl] fun (v100 : Sl) =>
              VNN none g_0 fun (a103 : Addr) =>
              VLd none w7 a103 [CT.int .i64] fun (v105 : Int) =>
              VCk none ((0 : Int) ≤ 0 ∧ (0 : Int) ≤ IntKind.wrap .i64 ((IntKind.wrap .i64 (at_14 - v105)) - 1) ∧ (IntKind.wrap .i64 ((IntKind.wrap .i64 (at_14 - v105)) - 1) : Int) ≤ ((v100.cap : Nat) : Int)) (
                VCk none ((0 : Int) ≤ k_13 ∧ (k_13 : Int) ≤ ((l_3.len : Nat) : Int) ∧ (((l_3.len : Nat) : Int) : Int) ≤ ((l_3.cap : Nat) : Int)) (
                  VCall none Try.prog 38 #[.slice (cutB v100.base v100.cap 4 0) ((Int.toNat (IntKind.wrap .i64 ((IntKind.wrap .i64 (at_14 - v105)) - 1))) - 0) (v100.cap - 0)] w7 (.slice none 0 0) fun (r109 : Sl) (w8 : World) =>
                  VCall none Try.prog 35 #[.slice (cutB l_3.base l_3.cap 4 (Int.toNat k_13)) (l_3.len - (Int.toNat k_13)) (l_3.cap - (Int.toNat k_13))] w8 (.slice none 0 0) fun (r113 : Sl) (w9 : World) =>
                  VApp none w9 28 4 56 #[.int .i64 0, .int .u8 0, .string ByteArray.empty, .slice none 0 0] r109.base r109.len r109.cap r113.len (fun news => Seg w9 r113.base r113.len 4 news) fun (l114 : Sl) (w10 : World) =>
                  VNN none g_0 fun (a115 : Addr) =>
                  VSt none w10 (Addr.add a115 2) [.slice l114.base l114.len l114.cap] fun (w11 : World) =>
                  VSet at_14 fun (v8 : Int) =>
                  R (.returned (.tuple #[.int .i64 v8, .int .i64 0])) w11
                )
              )
            )
          )
        )
      )
    )
  )
theorem sh_rlog_Log_Merge_ok (g_0 : Option Addr) (prev_1 : Int) (term_2 : Int) (l_3 : Sl) (w : World) (R : Ending → World → Prop) (h : sh_rlog_Log_Merge g_0 prev_1 term_2 l_3 w R) : Calls Try.prog 11 #[.pointer g_0, .int .i64 prev_1, .int .i64 term_2, .slice l_3.base l_3.len l_3.cap] w R :=
  calls_of_sh (args := [.pointer g_0, .int .i64 prev_1, .int .i64 term_2, .slice l_3.base l_3.len l_3.cap]) (.two .auto (.two (.one (.two .auto (.two (.two .auto .auto) (.two .auto (.two (.two .auto .auto) (.two .auto (.two (.two .auto .auto) .auto))))))) (.two (.two .auto (.two .auto (.two (.two .auto .auto) .auto))) (.two (.two .auto (.two .auto (.two (.two .auto .auto) .auto))) (.two .auto (.two (.two .auto (.two (.two .auto .auto) .auto)) (.two .auto (.two .auto (.two .auto .auto))))))))) Try.func11 (by kernel_rfl) (by kernel_rfl) (by kernel_rfl) h

/-- 12: (*buttery/rlog.Log).Last -/
def sh_rlog_Log_Last (g_0 : Option Addr) (w : World) (R : Ending → World → Prop) : Prop :=
  VIf g_0.isNone (
    R (.returned (.tuple #[.int .i64 0, .int .i64 0])) w
  ) (
    ∀ (w1 : World), w1 = World.drew w →
    VNN none g_0 fun (a11 : Addr) =>
    VLd none w1 a11 [CT.int .i64] fun (v13 : Int) =>
    VNN none g_0 fun (a15 : Addr) =>
    VLd none w1 (Addr.add a15 2) [CT.sl] fun (v17 : Sl) =>
    VCall none Try.prog 18 #[.pointer g_0, .int .i64 (IntKind.wrap .i64 (v13 + ((v17.len : Nat) : Int)))] w1 (.tuple #[.int .i64 0, .bool false]) fun (r20_0 : Int) (r20_1 : Bool) (w2 : World) =>
    VSet r20_0 fun (t_4 : Int) =>
    ∀ (w3 : World), w3 = World.drew w2 →
    VNN none g_0 fun (a24 : Addr) =>
    VLd none w3 a24 [CT.int .i64] fun (v26 : Int) =>
    VNN none g_0 fun (a28 : Addr) =>
    VLd none w3 (Addr.add a28 2) [CT.sl] fun (v30 : Sl) =>
    VSet (IntKind.wrap .i64 (v26 + ((v30.len : Nat) : Int))) fun (v2 : Int) =>
    VSet t_4 fun (v3 : Int) =>
    R (.returned (.tuple #[.int .i64 v2, .int .i64 v3])) w3
  )
theorem sh_rlog_Log_Last_ok (g_0 : Option Addr) (w : World) (R : Ending → World → Prop) (h : sh_rlog_Log_Last g_0 w R) : Calls Try.prog 12 #[.pointer g_0] w R :=
  calls_of_sh (args := [.pointer g_0]) (.two .auto (.two (.two .auto (.two (.two .auto .auto) .auto)) (.two .auto (.two .auto .auto)))) Try.func12 (by kernel_rfl) (by kernel_rfl) (by kernel_rfl) h

/-- 13: (*buttery/rlog.Log).Entry -/
def sh_rlog_Log_Entry (g_0 : Option Addr) (i_1 : Int) (w : World) (R : Ending → World → Prop) : Prop :=
  VNw none w (.cells #[.int .i64 0, .int .u8 0, .string ByteArray.empty, .slice none 0 0] 28) fun (b4 : Nat) (w1 : World) =>
  VCall none Try.prog 18 #[.pointer g_0, .int .i64 i_1] w1 (.tuple #[.int .i64 0, .bool false]) fun (r11_0 : Int) (r11_1 : Bool) (w2 : World) =>
  VSet r11_0 fun (v6 : Int) =>
  VNN (some (!(!r11_1))) g_0 fun (a19 : Addr) =>
  VLd (some (!(!r11_1))) w2 a19 [CT.int .i64] fun (v21 : Int) =>
  VIf ((!r11_1) || (i_1 == v21)) (
    VSt none w2 ⟨b4, 0, none⟩ [.int .i64 0, .int .u8 0, .string ByteArray.empty, .slice none 0 0] fun (w3 : World) =>
    VLd none w3 ⟨b4, 0, none⟩ [CT.int .i64, CT.int .u8, CT.str, CT.sl] fun (res4_0 : Int) (res4_1 : Int) (res4_2 : ByteArray) (res4_3 : Sl) =>
    R (.returned (.tuple #[.agg #[.int .i64 res4_0, .int .u8 res4_1, .string res4_2, .slice res4_3.base res4_3.len res4_3.cap], .bool false])) w3
  ) (
    ∀ (w4 : World), w4 = World.drew w2 →
    VNN none g_0 fun (a26 : Addr) =>
    VLd none w4 (Addr.add a26 2) [CT.sl] fun (v28 : Sl) =>
    VNN none g_0 fun (a31 : Addr) =>
    VLd none w4 a31 [CT.int .i64] fun (v33 : Int) =>
    VIx none v28.base v28.len (IntKind.wrap .i64 ((IntKind.wrap .i64 (i_1 - v33)) - 1)) fun (a36 : Addr) =>
    VLd none w4 (Addr.add a36 ((Int.toNat (IntKind.wrap .i64 ((IntKind.wrap .i64 (i_1 - v33)) - 1))) * 4)) [CT.int .i64, CT.int .u8, CT.str, CT.sl] fun (v37_0 : Int) (v37_1 : Int) (v37_2 : ByteArray) (v37_3 : Sl) =>
    VCall none Try.prog 39 #[.agg #[.int .i64 v37_0, .int .u8 v37_1, .string v37_2, .slice v37_3.base v37_3.len v37_3.cap]] w4 (.agg #[.int .i64 0, .int .u8 0, .string ByteArray.empty, .slice none 0 0]) fun (r38_0 : Int) (r38_1 : Int) (r38_2 : ByteArray) (r38_3 : Sl) (w5 : World) =>
    VSt none w5 ⟨b4, 0, none⟩ [.int .i64 r38_0, .int .u8 r38_1, .string r38_2, .slice r38_3.base r38_3.len r38_3.cap] fun (w6 : World) =>
    VLd none w6 ⟨b4, 0, none⟩ [CT.int .i64, CT.int .u8, CT.str, CT.sl] fun (res4_0 : Int) (res4_1 : Int) (res4_2 : ByteArray) (res4_3 : Sl) =>
    R (.returned (.tuple #[.agg #[.int .i64 res4_0, .int .u8 res4_1, .string res4_2, .slice res4_3.base res4_3.len res4_3.cap], .bool true])) w6
  )
theorem sh_rlog_Log_Entry_ok (g_0 : Option Addr) (i_1 : Int) (w : World) (R : Ending → World → Prop) (h : sh_rlog_Log_Entry g_0 i_1 w R) : Calls Try.prog 13 #[.pointer g_0, .int .i64 i_1] w R :=
  calls_of_sh (args := [.pointer g_0, .int .i64 i_1]) (.two .auto (.two (.two .auto (.two .auto (.two (.two .auto .auto) .auto))) (.two .auto .auto))) Try.func13 (by kernel_rfl) (by kernel_rfl) (by kernel_rfl) h

/-- 14: buttery/butteryref14.Same -/
def sh_butteryref14_Same (a_0_0 : Int) (a_0_1 : Int) (a_0_2 : ByteArray) (a_0_3 : Sl) (b_1_0 : Int) (b_1_1 : Int) (b_1_2 : ByteArray) (b_1_3 : Sl) (w : World) (R : Ending → World → Prop) : Prop :=
  VNw none w (.cells #[.int .i64 a_0_0, .int .u8 a_0_1, .string a_0_2, .slice a_0_3.base a_0_3.len a_0_3.cap] 28) fun (a_2 : Nat) (w1 : World) =>
  VNw none w1 (.cells #[.int .i64 b_1_0, .int .u8 b_1_1, .string b_1_2, .slice b_1_3.base b_1_3.len b_1_3.cap] 28) fun (b_3 : Nat) (w2 : World) =>
  VLd none w2 ⟨a_2, 0, none⟩ [CT.int .i64] fun (v7 : Int) =>
  VLd none w2 ⟨b_3, 0, none⟩ [CT.int .i64] fun (v9 : Int) =>
  VLd (some (!(v7 != v9))) w2 ⟨a_2, 1, none⟩ [CT.int .u8] fun (v13 : Int) =>
  VLd (some (!(v7 != v9))) w2 ⟨b_3, 1, none⟩ [CT.int .u8] fun (v15 : Int) =>
  VLd (some (!((v7 != v9) || (v13 != v15)))) w2 ⟨a_2, 2, none⟩ [CT.str] fun (v20 : ByteArray) =>
  VLd (some (!((v7 != v9) || (v13 != v15)))) w2 ⟨b_3, 2, none⟩ [CT.str] fun (v22 : ByteArray) =>
  VLd (some (!(((v7 != v9) || (v13 != v15)) || (!(v20.toList == v22.toList))))) w2 ⟨a_2, 3, none⟩ [CT.sl] fun (v27 : Sl) =>
  VLd (some (!(((v7 != v9) || (v13 != v15)) || (!(v20.toList == v22.toList))))) w2 ⟨b_3, 3, none⟩ [CT.sl] fun (v30 : Sl) =>
  VIf ((((v7 != v9) || (v13 != v15)) || (!(v20.toList == v22.toList))) || (((v27.len : Nat) : Int) != ((v30.len : Nat) : Int))) (
    R (.returned (.bool false)) w2
  ) (
    ∃ I1 : Nat → Int → World → Prop, (∃ k, I1 k 0 w2) ∧ ∀ k1 (i_5 : Int) (w3 : World), I1 k1 i_5 w3 →
    VLd none w3 ⟨a_2, 3, none⟩ [CT.sl] fun (v36 : Sl) =>
    VIf (decide (i_5 < ((v36.len : Nat) : Int))) (
      ∀ (w4 : World), w4 = World.drew w3 →
      VLd none w4 ⟨a_2, 3, none⟩ [CT.sl] fun (v42 : Sl) =>
      VIx none v42.base v42.len i_5 fun (a44 : Addr) =>
      VLd none w4 (Addr.add a44 ((Int.toNat i_5) * 1)) [CT.int .i64] fun (v45 : Int) =>
      VLd none w4 ⟨b_3, 3, none⟩ [CT.sl] fun (v47 : Sl) =>
      VIx none v47.base v47.len i_5 fun (a49 : Addr) =>
      VLd none w4 (Addr.add a49 ((Int.toNat i_5) * 1)) [CT.int .i64] fun (v50 : Int) =>
      VIf (v45 != v50) (
        R (.returned (.bool false)) w4
      ) (
        VSet (IntKind.wrap .i64 (i_5 + 1)) fun (i_5' : Int) =>
        ∃ k', k' < k1 ∧ I1 k' i_5' w4
      )
    ) (
      R (.returned (.bool true)) w3
    )
  )
theorem sh_butteryref14_Same_ok (a_0_0 : Int) (a_0_1 : Int) (a_0_2 : ByteArray) (a_0_3 : Sl) (b_1_0 : Int) (b_1_1 : Int) (b_1_2 : ByteArray) (b_1_3 : Sl) (w : World) (R : Ending → World → Prop) (h : sh_butteryref14_Same a_0_0 a_0_1 a_0_2 a_0_3 b_1_0 b_1_1 b_1_2 b_1_3 w R) : Calls Try.prog 14 #[.agg #[.int .i64 a_0_0, .int .u8 a_0_1, .string a_0_2, .slice a_0_3.base a_0_3.len a_0_3.cap], .agg #[.int .i64 b_1_0, .int .u8 b_1_1, .string b_1_2, .slice b_1_3.base b_1_3.len b_1_3.cap]] w R :=
  calls_of_sh (args := [.agg #[.int .i64 a_0_0, .int .u8 a_0_1, .string a_0_2, .slice a_0_3.base a_0_3.len a_0_3.cap], .agg #[.int .i64 b_1_0, .int .u8 b_1_1, .string b_1_2, .slice b_1_3.base b_1_3.len b_1_3.cap]]) (.two .auto (.two (.two .auto (.two (.two .auto .auto) .auto)) (.two (.two .auto (.one (.loop [(5, .int .i64 0)] (.two (.two .auto (.two .auto .auto)) (.two (.one (.two .auto (.two (.two .auto .auto) .auto))) .auto))))) (.two .auto .auto)))) Try.func14 (by kernel_rfl) (by kernel_rfl) (by kernel_rfl) h

/-- 15: buttery/butterylaw14.long -/
def sh_butterylaw14_long (l_0 : Sl) (w : World) (R : Ending → World → Prop) : Prop :=
  VSet ((l_0.len : Nat) : Int) fun (n_3 : Int) =>
  ∃ I1 : Nat → Int → Int → World → Prop, (∃ k, I1 k n_3 0 w) ∧ ∀ k1 (n_3' : Int) (i_4 : Int) (w1 : World), I1 k1 n_3' i_4 w1 →
  VIf ((decide (i_4 < ((l_0.len : Nat) : Int))) && (decide (i_4 < 100))) (
    ∀ (w2 : World), w2 = World.drew w1 →
    VIx none l_0.base l_0.len i_4 fun (a20 : Addr) =>
    VLd none w2 (Addr.add (Addr.add a20 ((Int.toNat i_4) * 4)) 2) [CT.str] fun (v22 : ByteArray) =>
    VIx none l_0.base l_0.len i_4 fun (a27 : Addr) =>
    VLd none w2 (Addr.add (Addr.add a27 ((Int.toNat i_4) * 4)) 3) [CT.sl] fun (v29 : Sl) =>
    VSet (IntKind.wrap .i64 ((IntKind.wrap .i64 (n_3' + ((v22.size : Nat) : Int))) + ((v29.len : Nat) : Int))) fun (n_3'' : Int) =>
    VSet (IntKind.wrap .i64 (i_4 + 1)) fun (i_4' : Int) =>
    ∃ k', k' < k1 ∧ I1 k' n_3'' i_4' w2
  ) (
    R (.returned (.bool ((decide (n_3' > 20000)) || (decide (((l_0.len : Nat) : Int) > 80))))) w1
  )
theorem sh_butterylaw14_long_ok (l_0 : Sl) (w : World) (R : Ending → World → Prop) (h : sh_butterylaw14_long l_0 w R) : Calls Try.prog 15 #[.slice l_0.base l_0.len l_0.cap] w R :=
  calls_of_sh (args := [.slice l_0.base l_0.len l_0.cap]) (.two .auto (.two .auto (.two (.two .auto (.one (.loop [(3, .int .i64 0), (4, .int .i64 0)] (.two (.two .auto (.two .auto .auto)) (.two (.one .auto) .auto))))) (.two .auto .auto)))) Try.func15 (by kernel_rfl) (by kernel_rfl) (by kernel_rfl) h

/-- 16: (*buttery/rlog.Log).Copy -/
def sh_rlog_Log_Copy (g_0 : Option Addr) (w : World) (R : Ending → World → Prop) : Prop :=
  VIf g_0.isNone (
    R (.returned (.pointer none)) w
  ) (
    ∀ (w1 : World), w1 = World.drew w →
    VNN none g_0 fun (a6 : Addr) =>
    VLd none w1 a6 [CT.int .i64] fun (v8 : Int) =>
    VNN none g_0 fun (a10 : Addr) =>
    VLd none w1 (Addr.add a10 1) [CT.int .i64] fun (v12 : Int) =>
    VNN none g_0 fun (a14 : Addr) =>
    VLd none w1 (Addr.add a14 2) [CT.sl] fun (v16 : Sl) =>
    VCall none Try.prog 35 #[.slice v16.base v16.len v16.cap] w1 (.slice none 0 0) fun (r17 : Sl) (w2 : World) =>
    Rd w2 (Addr.add a10 1) [.int .i64 v12] ∧
    Rd w2 a6 [.int .i64 v8] ∧
    VNw none w2 (.cells #[.int .i64 v8, .int .i64 v12, .slice r17.base r17.len r17.cap] 69) fun (b19 : Nat) (w3 : World) =>
    R (.returned (.pointer (some ⟨b19, 0, none⟩))) w3
  )
theorem sh_rlog_Log_Copy_ok (g_0 : Option Addr) (w : World) (R : Ending → World → Prop) (h : sh_rlog_Log_Copy g_0 w R) : Calls Try.prog 16 #[.pointer g_0] w R :=
  calls_of_sh (args := [.pointer g_0]) (.two .auto (.two (.two .auto (.two (.two .auto .auto) .auto)) (.two .auto .auto))) Try.func16 (by kernel_rfl) (by kernel_rfl) (by kernel_rfl) h

/-- 17: (*buttery/rlog.Log).Base -/
def sh_rlog_Log_Base (g_0 : Option Addr) (w : World) (R : Ending → World → Prop) : Prop :=
  VIf g_0.isNone (
    R (.returned (.tuple #[.int .i64 0, .int .i64 0])) w
  ) (
    ∀ (w1 : World), w1 = World.drew w →
    VNN none g_0 fun (a7 : Addr) =>
    VLd none w1 a7 [CT.int .i64] fun (v9 : Int) =>
    VNN none g_0 fun (a11 : Addr) =>
    VLd none w1 (Addr.add a11 1) [CT.int .i64] fun (v13 : Int) =>
    VSet v9 fun (v2 : Int) =>
    VSet v13 fun (v3 : Int) =>
    R (.returned (.tuple #[.int .i64 v2, .int .i64 v3])) w1
  )
theorem sh_rlog_Log_Base_ok (g_0 : Option Addr) (w : World) (R : Ending → World → Prop) (h : sh_rlog_Log_Base g_0 w R) : Calls Try.prog 17 #[.pointer g_0] w R :=
  calls_of_sh (args := [.pointer g_0]) (.two .auto (.two (.two .auto (.two (.two .auto .auto) .auto)) (.two .auto .auto))) Try.func17 (by kernel_rfl) (by kernel_rfl) (by kernel_rfl) h

/-- 18: (*buttery/rlog.Log).Term -/
def sh_rlog_Log_Term (g_0 : Option Addr) (i_1 : Int) (w : World) (R : Ending → World → Prop) : Prop :=
  ∀ (w1 : World), w1 = World.drew w →
  VNN (some (!g_0.isNone)) g_0 fun (a12 : Addr) =>
  VLd (some (!g_0.isNone)) w1 a12 [CT.int .i64] fun (v14 : Int) =>
  VNN (some (!(g_0.isNone || (decide (i_1 < v14))))) g_0 fun (a20 : Addr) =>
  VLd (some (!(g_0.isNone || (decide (i_1 < v14))))) w1 a20 [CT.int .i64] fun (v22 : Int) =>
  VNN (some (!(g_0.isNone || (decide (i_1 < v14))))) g_0 fun (a24 : Addr) =>
  VLd (some (!(g_0.isNone || (decide (i_1 < v14))))) w1 (Addr.add a24 2) [CT.sl] fun (v26 : Sl) =>
  VIf ((g_0.isNone || (decide (i_1 < v14))) || (decide (i_1 > (IntKind.wrap .i64 (v22 + ((v26.len : Nat) : Int)))))) (
    R (.returned (.tuple #[.int .i64 0, .bool false])) w1
  ) (
    VNN none g_0 fun (a34 : Addr) =>
    VLd none w1 a34 [CT.int .i64] fun (v36 : Int) =>
    VIf (i_1 == v36) (
      VNN none g_0 fun (a39 : Addr) =>
      VLd none w1 (Addr.add a39 1) [CT.int .i64] fun (v41 : Int) =>
      VSet v41 fun (v4 : Int) =>
      R (.returned (.tuple #[.int .i64 v4, .bool true])) w1
    ) (
      ∀ (w2 : World), w2 = World.drew w1 →
      VNN none g_0 fun (a43 : Addr) =>
      VLd none w2 (Addr.add a43 2) [CT.sl] fun (v45 : Sl) =>
      VNN none g_0 fun (a48 : Addr) =>
      VLd none w2 a48 [CT.int .i64] fun (v50 : Int) =>
      VIx none v45.base v45.len (IntKind.wrap .i64 ((IntKind.wrap .i64 (i_1 - v50)) - 1)) fun (a53 : Addr) =>
      VLd none w2 (Addr.add a53 ((Int.toNat (IntKind.wrap .i64 ((IntKind.wrap .i64 (i_1 - v50)) - 1))) * 4)) [CT.int .i64] fun (v55 : Int) =>
      VSet v55 fun (v4' : Int) =>
      R (.returned (.tuple #[.int .i64 v4', .bool true])) w2
    )
  )
theorem sh_rlog_Log_Term_ok (g_0 : Option Addr) (i_1 : Int) (w : World) (R : Ending → World → Prop) (h : sh_rlog_Log_Term g_0 i_1 w R) : Calls Try.prog 18 #[.pointer g_0, .int .i64 i_1] w R :=
  calls_of_sh (args := [.pointer g_0, .int .i64 i_1]) (.two .auto (.two (.one (.two .auto (.two (.two .auto .auto) (.two .auto (.two (.two .auto .auto) .auto))))) (.two .auto .auto))) Try.func18 (by kernel_rfl) (by kernel_rfl) (by kernel_rfl) h

/-- 19: buttery/butteryref14.Sames -/
def sh_butteryref14_Sames (a_0 : Sl) (b_1 : Sl) (w : World) (R : Ending → World → Prop) : Prop :=
  VIf (((a_0.len : Nat) : Int) != ((b_1.len : Nat) : Int)) (
    R (.returned (.bool false)) w
  ) (
    ∃ I1 : Nat → Int → World → Prop, (∃ k, I1 k 0 w) ∧ ∀ k1 (i_5 : Int) (w1 : World), I1 k1 i_5 w1 →
    VIf (decide (i_5 < ((a_0.len : Nat) : Int))) (
      ∀ (w2 : World), w2 = World.drew w1 →
      VIx none a_0.base a_0.len i_5 fun (a19 : Addr) =>
      VLd none w2 (Addr.add a19 ((Int.toNat i_5) * 4)) [CT.int .i64, CT.int .u8, CT.str, CT.sl] fun (v20_0 : Int) (v20_1 : Int) (v20_2 : ByteArray) (v20_3 : Sl) =>
      VIx none b_1.base b_1.len i_5 fun (a23 : Addr) =>
      VLd none w2 (Addr.add a23 ((Int.toNat i_5) * 4)) [CT.int .i64, CT.int .u8, CT.str, CT.sl] fun (v24_0 : Int) (v24_1 : Int) (v24_2 : ByteArray) (v24_3 : Sl) =>
      VCall none Try.prog 14 #[.agg #[.int .i64 v20_0, .int .u8 v20_1, .string v20_2, .slice v20_3.base v20_3.len v20_3.cap], .agg #[.int .i64 v24_0, .int .u8 v24_1, .string v24_2, .slice v24_3.base v24_3.len v24_3.cap]] w2 (.bool false) fun (r25 : Bool) (w3 : World) =>
      VIf (!r25) (
        R (.returned (.bool false)) w3
      ) (
        VSet (IntKind.wrap .i64 (i_5 + 1)) fun (i_5' : Int) =>
        ∃ k', k' < k1 ∧ I1 k' i_5' w3
      )
    ) (
      R (.returned (.bool true)) w1
    )
  )
theorem sh_butteryref14_Sames_ok (a_0 : Sl) (b_1 : Sl) (w : World) (R : Ending → World → Prop) (h : sh_butteryref14_Sames a_0 b_1 w R) : Calls Try.prog 19 #[.slice a_0.base a_0.len a_0.cap, .slice b_1.base b_1.len b_1.cap] w R :=
  calls_of_sh (args := [.slice a_0.base a_0.len a_0.cap, .slice b_1.base b_1.len b_1.cap]) (.two .auto (.two (.two .auto (.two (.two .auto .auto) .auto)) (.two (.two .auto (.one (.loop [(5, .int .i64 0)] (.two (.two .auto (.two .auto .auto)) (.two (.one (.two .auto (.two (.two .auto .auto) .auto))) .auto))))) (.two .auto .auto)))) Try.func19 (by kernel_rfl) (by kernel_rfl) (by kernel_rfl) h

/-- 20: (*buttery/rlog.Log).From -/
def sh_rlog_Log_From (g_0 : Option Addr) (i_1 : Int) (most_2 : Int) (w : World) (R : Ending → World → Prop) : Prop :=
  ∀ (w1 : World), w1 = World.drew w →
  VNN (some (!(g_0.isNone || (decide (most_2 < 1))))) g_0 fun (a17 : Addr) =>
  VLd (some (!(g_0.isNone || (decide (most_2 < 1))))) w1 a17 [CT.int .i64] fun (v19 : Int) =>
  VNN (some (!(g_0.isNone || (decide (most_2 < 1))))) g_0 fun (a21 : Addr) =>
  VLd (some (!(g_0.isNone || (decide (most_2 < 1))))) w1 (Addr.add a21 2) [CT.sl] fun (v23 : Sl) =>
  VIf ((g_0.isNone || (decide (most_2 < 1))) || (decide (i_1 > (IntKind.wrap .i64 (v19 + ((v23.len : Nat) : Int)))))) (
    R (.returned (.slice none 0 0)) w1
  ) (
    ∀ (w2 : World), w2 = World.drew w1 →
    VNN none g_0 fun (a29 : Addr) =>
    VLd none w2 (Addr.add a29 2) [CT.sl] fun (v31 : Sl) =>
    VNN none g_0 fun (a34 : Addr) =>
    VLd none w2 a34 [CT.int .i64] fun (v36 : Int) =>
    VNN none g_0 fun (a40 : Addr) =>
    VLd none w2 a40 [CT.int .i64] fun (v42 : Int) =>
    VCk none ((0 : Int) ≤ IntKind.wrap .i64 ((IntKind.wrap .i64 ((if (IntKind.wrap .i64 (v36 + 1)) > i_1 then IntKind.wrap .i64 (v36 + 1) else i_1) - v42)) - 1) ∧ (IntKind.wrap .i64 ((IntKind.wrap .i64 ((if (IntKind.wrap .i64 (v36 + 1)) > i_1 then IntKind.wrap .i64 (v36 + 1) else i_1) - v42)) - 1) : Int) ≤ ((v31.len : Nat) : Int) ∧ (((v31.len : Nat) : Int) : Int) ≤ ((v31.cap : Nat) : Int)) (
      VCk none ((0 : Int) ≤ 0 ∧ (0 : Int) ≤ (if ((v31.len - (Int.toNat (IntKind.wrap .i64 ((IntKind.wrap .i64 ((if (IntKind.wrap .i64 (v36 + 1)) > i_1 then IntKind.wrap .i64 (v36 + 1) else i_1) - v42)) - 1))) : Nat) : Int) < most_2 then ((v31.len - (Int.toNat (IntKind.wrap .i64 ((IntKind.wrap .i64 ((if (IntKind.wrap .i64 (v36 + 1)) > i_1 then IntKind.wrap .i64 (v36 + 1) else i_1) - v42)) - 1))) : Nat) : Int) else most_2) ∧ ((if ((v31.len - (Int.toNat (IntKind.wrap .i64 ((IntKind.wrap .i64 ((if (IntKind.wrap .i64 (v36 + 1)) > i_1 then IntKind.wrap .i64 (v36 + 1) else i_1) - v42)) - 1))) : Nat) : Int) < most_2 then ((v31.len - (Int.toNat (IntKind.wrap .i64 ((IntKind.wrap .i64 ((if (IntKind.wrap .i64 (v36 + 1)) > i_1 then IntKind.wrap .i64 (v36 + 1) else i_1) - v42)) - 1))) : Nat) : Int) else most_2) : Int) ≤ ((v31.cap - (Int.toNat (IntKind.wrap .i64 ((IntKind.wrap .i64 ((if (IntKind.wrap .i64 (v36 + 1)) > i_1 then IntKind.wrap .i64 (v36 + 1) else i_1) - v42)) - 1))) : Nat) : Int)) (
        VCall none Try.prog 35 #[.slice (cutB (cutB v31.base v31.cap 4 (Int.toNat (IntKind.wrap .i64 ((IntKind.wrap .i64 ((if (IntKind.wrap .i64 (v36 + 1)) > i_1 then IntKind.wrap .i64 (v36 + 1) else i_1) - v42)) - 1)))) (v31.cap - (Int.toNat (IntKind.wrap .i64 ((IntKind.wrap .i64 ((if (IntKind.wrap .i64 (v36 + 1)) > i_1 then IntKind.wrap .i64 (v36 + 1) else i_1) - v42)) - 1)))) 4 0) ((Int.toNat (if ((v31.len - (Int.toNat (IntKind.wrap .i64 ((IntKind.wrap .i64 ((if (IntKind.wrap .i64 (v36 + 1)) > i_1 then IntKind.wrap .i64 (v36 + 1) else i_1) - v42)) - 1))) : Nat) : Int) < most_2 then ((v31.len - (Int.toNat (IntKind.wrap .i64 ((IntKind.wrap .i64 ((if (IntKind.wrap .i64 (v36 + 1)) > i_1 then IntKind.wrap .i64 (v36 + 1) else i_1) - v42)) - 1))) : Nat) : Int) else most_2)) - 0) ((v31.cap - (Int.toNat (IntKind.wrap .i64 ((IntKind.wrap .i64 ((if (IntKind.wrap .i64 (v36 + 1)) > i_1 then IntKind.wrap .i64 (v36 + 1) else i_1) - v42)) - 1)))) - 0)] w2 (.slice none 0 0) fun (r52 : Sl) (w3 : World) =>
        R (.returned (.slice r52.base r52.len r52.cap)) w3
      )
    )
  )
theorem sh_rlog_Log_From_ok (g_0 : Option Addr) (i_1 : Int) (most_2 : Int) (w : World) (R : Ending → World → Prop) (h : sh_rlog_Log_From g_0 i_1 most_2 w R) : Calls Try.prog 20 #[.pointer g_0, .int .i64 i_1, .int .i64 most_2] w R :=
  calls_of_sh (args := [.pointer g_0, .int .i64 i_1, .int .i64 most_2]) (.two .auto (.two (.two .auto (.two (.two .auto .auto) .auto)) (.two .auto (.two .auto .auto)))) Try.func20 (by kernel_rfl) (by kernel_rfl) (by kernel_rfl) h

/-- 21: buttery/butteryref14.Twin -/
def sh_butteryref14_Twin (e_0_0 : Int) (e_0_1 : Int) (e_0_2 : ByteArray) (e_0_3 : Sl) (w : World) (R : Ending → World → Prop) : Prop :=
  VNw none w (.cells #[.int .i64 e_0_0, .int .u8 e_0_1, .string e_0_2, .slice e_0_3.base e_0_3.len e_0_3.cap] 28) fun (e_1 : Nat) (w1 : World) =>
  VNw none w1 (.cells #[.int .i64 0, .int .u8 0, .string ByteArray.empty, .slice none 0 0] 28) fun (b2 : Nat) (w2 : World) =>
  VNw none w2 (.cells #[] 3) fun (b3 : Nat) (w3 : World) =>
  VLd none w3 ⟨e_1, 3, none⟩ [CT.sl] fun (v5 : Sl) =>
  VApp none w3 3 1 8 #[.int .i64 0] (some ⟨b3, 0, none⟩) 0 0 v5.len (fun news => Seg w3 v5.base v5.len 1 news) fun (l6 : Sl) (w4 : World) =>
  VSt none w4 ⟨e_1, 3, none⟩ [.slice l6.base l6.len l6.cap] fun (w5 : World) =>
  VLd none w5 ⟨e_1, 0, none⟩ [CT.int .i64, CT.int .u8, CT.str, CT.sl] fun (v8_0 : Int) (v8_1 : Int) (v8_2 : ByteArray) (v8_3 : Sl) =>
  VSt none w5 ⟨b2, 0, none⟩ [.int .i64 v8_0, .int .u8 v8_1, .string v8_2, .slice v8_3.base v8_3.len v8_3.cap] fun (w6 : World) =>
  VLd none w6 ⟨b2, 0, none⟩ [CT.int .i64, CT.int .u8, CT.str, CT.sl] fun (res2_0 : Int) (res2_1 : Int) (res2_2 : ByteArray) (res2_3 : Sl) =>
  R (.returned (.agg #[.int .i64 res2_0, .int .u8 res2_1, .string res2_2, .slice res2_3.base res2_3.len res2_3.cap])) w6
theorem sh_butteryref14_Twin_ok (e_0_0 : Int) (e_0_1 : Int) (e_0_2 : ByteArray) (e_0_3 : Sl) (w : World) (R : Ending → World → Prop) (h : sh_butteryref14_Twin e_0_0 e_0_1 e_0_2 e_0_3 w R) : Calls Try.prog 21 #[.agg #[.int .i64 e_0_0, .int .u8 e_0_1, .string e_0_2, .slice e_0_3.base e_0_3.len e_0_3.cap]] w R :=
  calls_of_sh (args := [.agg #[.int .i64 e_0_0, .int .u8 e_0_1, .string e_0_2, .slice e_0_3.base e_0_3.len e_0_3.cap]]) (.two .auto (.two .auto (.two .auto .auto))) Try.func21 (by kernel_rfl) (by kernel_rfl) (by kernel_rfl) h

/-- 22: buttery/butteryref14.Write -/
def sh_butteryref14_Write (e_0_0 : Int) (e_0_1 : Int) (e_0_2 : ByteArray) (e_0_3 : Sl) (w : World) (R : Ending → World → Prop) : Prop :=
  VNw none w (.cells #[.int .i64 e_0_0, .int .u8 e_0_1, .string e_0_2, .slice e_0_3.base e_0_3.len e_0_3.cap] 28) fun (e_1 : Nat) (w1 : World) =>
  VLd none w1 ⟨e_1, 0, none⟩ [CT.int .i64, CT.int .u8, CT.str, CT.sl] fun (v6_0 : Int) (v6_1 : Int) (v6_2 : ByteArray) (v6_3 : Sl) =>
  VCall none Try.prog 27 #[.agg #[.int .i64 v6_0, .int .u8 v6_1, .string v6_2, .slice v6_3.base v6_3.len v6_3.cap]] w1 (.bool false) fun (r7 : Bool) (w2 : World) =>
  VIf (!r7) (
    R (.returned (.tuple #[.slice none 0 0, .int .i64 1])) w2
  ) (
    VLd none w2 ⟨e_1, 0, none⟩ [CT.int .i64] fun (v10 : Int) =>
    VCall none Try.prog 40 #[.slice none 0 0, .int .i64 v10] w2 (.slice none 0 0) fun (r11 : Sl) (w3 : World) =>
    VLd none w3 ⟨e_1, 1, none⟩ [CT.int .u8] fun (v14 : Int) =>
    VCall none Try.prog 40 #[.slice r11.base r11.len r11.cap, .int .i64 (IntKind.wrap .i64 v14)] w3 (.slice none 0 0) fun (r16 : Sl) (w4 : World) =>
    VLd none w4 ⟨e_1, 2, none⟩ [CT.str] fun (v19 : ByteArray) =>
    VCall none Try.prog 41 #[.slice r16.base r16.len r16.cap, .string v19] w4 (.slice none 0 0) fun (r20 : Sl) (w5 : World) =>
    VLd none w5 ⟨e_1, 3, none⟩ [CT.sl] fun (v23 : Sl) =>
    VCall none Try.prog 40 #[.slice r20.base r20.len r20.cap, .int .i64 ((v23.len : Nat) : Int)] w5 (.slice none 0 0) fun (r25 : Sl) (w6 : World) =>
    ∃ I1 : Nat → Sl → Int → World → Prop, (∃ k, I1 k r25 0 w6) ∧ ∀ k1 (b_4 : Sl) (i_5 : Int) (w7 : World), I1 k1 b_4 i_5 w7 →
    VLd none w7 ⟨e_1, 3, none⟩ [CT.sl] fun (v28 : Sl) =>
    VIf (decide (i_5 < ((v28.len : Nat) : Int))) (
      VLd none w7 ⟨e_1, 3, none⟩ [CT.sl] fun (v35 : Sl) =>
      VIx none v35.base v35.len i_5 fun (a37 : Addr) =>
      VLd none w7 (Addr.add a37 ((Int.toNat i_5) * 1)) [CT.int .i64] fun (v38 : Int) =>
      VCall none Try.prog 40 #[.slice b_4.base b_4.len b_4.cap, .int .i64 v38] w7 (.slice none 0 0) fun (r39 : Sl) (w8 : World) =>
      VSet (IntKind.wrap .i64 (i_5 + 1)) fun (i_5' : Int) =>
      ∃ k', k' < k1 ∧ I1 k' r39 i_5' w8
    ) (
      R (.returned (.tuple #[.slice b_4.base b_4.len b_4.cap, .int .i64 0])) w7
    )
  )
theorem sh_butteryref14_Write_ok (e_0_0 : Int) (e_0_1 : Int) (e_0_2 : ByteArray) (e_0_3 : Sl) (w : World) (R : Ending → World → Prop) (h : sh_butteryref14_Write e_0_0 e_0_1 e_0_2 e_0_3 w R) : Calls Try.prog 22 #[.agg #[.int .i64 e_0_0, .int .u8 e_0_1, .string e_0_2, .slice e_0_3.base e_0_3.len e_0_3.cap]] w R :=
  calls_of_sh (args := [.agg #[.int .i64 e_0_0, .int .u8 e_0_1, .string e_0_2, .slice e_0_3.base e_0_3.len e_0_3.cap]]) (.two .auto (.two (.two .auto (.two (.two .auto .auto) .auto)) (.two .auto (.two .auto (.two .auto (.two .auto (.two (.two .auto (.one (.loop [(4, .slice none 0 0), (5, .int .i64 0)] (.two (.two .auto (.two .auto .auto)) (.two (.one .auto) .auto))))) (.two .auto .auto)))))))) Try.func22 (by kernel_rfl) (by kernel_rfl) (by kernel_rfl) h

/-- 23: buttery/rlog.Write -/
def sh_rlog_Write (e_0_0 : Int) (e_0_1 : Int) (e_0_2 : ByteArray) (e_0_3 : Sl) (w : World) (R : Ending → World → Prop) : Prop :=
  VNw none w (.cells #[.int .i64 e_0_0, .int .u8 e_0_1, .string e_0_2, .slice e_0_3.base e_0_3.len e_0_3.cap] 28) fun (e_1 : Nat) (w1 : World) =>
  VLd none w1 ⟨e_1, 0, none⟩ [CT.int .i64, CT.int .u8, CT.str, CT.sl] fun (v7_0 : Int) (v7_1 : Int) (v7_2 : ByteArray) (v7_3 : Sl) =>
  VCall none Try.prog 26 #[.agg #[.int .i64 v7_0, .int .u8 v7_1, .string v7_2, .slice v7_3.base v7_3.len v7_3.cap]] w1 (.bool false) fun (r8 : Bool) (w2 : World) =>
  VIf (!r8) (
    R (.returned (.tuple #[.slice none 0 0, .int .i64 1])) w2
  ) (
    ∀ (w3 : World), w3 = World.drew w2 →
    VLd none w3 ⟨e_1, 0, none⟩ [CT.int .i64] fun (v11 : Int) =>
    VLd none w3 ⟨e_1, 1, none⟩ [CT.int .u8] fun (v14 : Int) =>
    VLd none w3 ⟨e_1, 2, none⟩ [CT.str] fun (v18 : ByteArray) =>
    VCall none Try.prog 43 #[.slice none 0 0, .int .i64 v11] w3 (.slice none 0 0) fun (r12 : Sl) (w4 : World) =>
    Rd w4 ⟨e_1, 2, none⟩ [.string v18] ∧
    Rd w4 ⟨e_1, 1, none⟩ [.int .u8 v14] ∧
    VCall none Try.prog 43 #[.slice r12.base r12.len r12.cap, .int .i64 (IntKind.wrap .i64 v14)] w4 (.slice none 0 0) fun (r16 : Sl) (w5 : World) =>
    Rd w5 ⟨e_1, 2, none⟩ [.string v18] ∧
    VCall none Try.prog 42 #[.slice r16.base r16.len r16.cap, .string v18] w5 (.slice none 0 0) fun (r19 : Sl) (w6 : World) =>
    VLd none w6 ⟨e_1, 3, none⟩ [CT.sl] fun (v22 : Sl) =>
    VCall none Try.prog 43 #[.slice r19.base r19.len r19.cap, .int .i64 ((v22.len : Nat) : Int)] w6 (.slice none 0 0) fun (r24 : Sl) (w7 : World) =>
    VLd none w7 ⟨e_1, 3, none⟩ [CT.sl] fun (v26 : Sl) =>
    ∃ I1 : Nat → Sl → Int → World → Prop, (∃ k, I1 k r24 0 w7) ∧ ∀ k1 (b_4 : Sl) (x28 : Int) (w8 : World), I1 k1 b_4 x28 w8 →
    VIf (decide (x28 < ((v26.len : Nat) : Int))) (
      VIx none v26.base v26.len x28 fun (a30 : Addr) =>
      VLd none w8 (Addr.add a30 ((Int.toNat x28) * 1)) [CT.int .i64] fun (v31 : Int) =>
      VSet v31 fun (n_6 : Int) =>
      VCall none Try.prog 43 #[.slice b_4.base b_4.len b_4.cap, .int .i64 n_6] w8 (.slice none 0 0) fun (r34 : Sl) (w9 : World) =>
      ∃ k', k' < k1 ∧ I1 k' r34 (IntKind.wrap .i64 (x28 + 1)) w9
    ) (
      R (.returned (.tuple #[.slice b_4.base b_4.len b_4.cap, .int .i64 0])) w8
    )
  )
theorem sh_rlog_Write_ok (e_0_0 : Int) (e_0_1 : Int) (e_0_2 : ByteArray) (e_0_3 : Sl) (w : World) (R : Ending → World → Prop) (h : sh_rlog_Write e_0_0 e_0_1 e_0_2 e_0_3 w R) : Calls Try.prog 23 #[.agg #[.int .i64 e_0_0, .int .u8 e_0_1, .string e_0_2, .slice e_0_3.base e_0_3.len e_0_3.cap]] w R :=
  calls_of_sh (args := [.agg #[.int .i64 e_0_0, .int .u8 e_0_1, .string e_0_2, .slice e_0_3.base e_0_3.len e_0_3.cap]]) (.two .auto (.two (.two .auto (.two (.two .auto .auto) .auto)) (.two .auto (.two .auto (.two (.two .auto (.one (.loop [(4, .slice none 0 0), (28, .int .i64 0)] (.two .auto (.two (.two .auto .auto) (.two (.one (.two .auto .auto)) .auto)))))) (.two .auto .auto)))))) Try.func23 (by kernel_rfl) (by kernel_rfl) (by kernel_rfl) h

/-- 24: buttery/rlog.Read -/
def sh_rlog_Read (b_0 : Sl) (w : World) (R : Ending → World → Prop) : Prop :=
  VNw none w (.cells #[.int .i64 0, .int .u8 0, .string ByteArray.empty, .slice none 0 0] 28) fun (b2 : Nat) (w1 : World) =>
  VCall none Try.prog 44 #[.slice b_0.base b_0.len b_0.cap] w1 (.pointer none) fun (r7 : Option Addr) (w2 : World) =>
  VCall none Try.prog 45 #[.pointer r7, .int .i64 2147483647] w2 (.int .i64 0) fun (r9 : Int) (w3 : World) =>
  VCall none Try.prog 45 #[.pointer r7, .int .i64 255] w3 (.int .i64 0) fun (r11 : Int) (w4 : World) =>
  VCall none Try.prog 46 #[.pointer r7, .int .i64 256] w4 (.string ByteArray.empty) fun (r14 : ByteArray) (w5 : World) =>
  VNw none w5 (.cells #[.int .i64 0, .int .u8 0, .string ByteArray.empty, .slice none 0 0] 28) fun (e_5 : Nat) (w6 : World) =>
  VSt none w6 ⟨e_5, 0, none⟩ [.int .i64 r9, .int .u8 (IntKind.wrap .u8 r11), .string r14, .slice none 0 0] fun (w7 : World) =>
  VCall none Try.prog 45 #[.pointer r7, .int .i64 5] w7 (.int .i64 0) fun (r17 : Int) (w8 : World) =>
  ∃ I1 : Nat → Int → World → Prop, (∃ k, I1 k 0 w8) ∧ ∀ k1 (x18 : Int) (w9 : World), I1 k1 x18 w9 →
  VIf (decide (x18 < r17)) (
    ∀ (w10 : World), w10 = World.drew w9 →
    VLd none w10 ⟨e_5, 3, none⟩ [CT.sl] fun (v21 : Sl) =>
    VCall none Try.prog 45 #[.pointer r7, .int .i64 5] w10 (.int .i64 0) fun (r23 : Int) (w11 : World) =>
    Rd w11 ⟨e_5, 3, none⟩ [.slice v21.base v21.len v21.cap] ∧
    VNw none w11 (.cells #[.int .i64 r23] 3) fun (b24 : Nat) (w12 : World) =>
    Rd w12 ⟨e_5, 3, none⟩ [.slice v21.base v21.len v21.cap] ∧
    VApp none w12 3 1 8 #[.int .i64 0] v21.base v21.len v21.cap 1 (fun news => Seg w12 (some ⟨b24, 0, none⟩) 1 1 news) fun (l25 : Sl) (w13 : World) =>
    VSt none w13 ⟨e_5, 3, none⟩ [.slice l25.base l25.len l25.cap] fun (w14 : World) =>
    ∃ k', k' < k1 ∧ I1 k' (IntKind.wrap .i64 (x18 + 1)) w14
  ) (
    VCall none Try.prog 47 #[.pointer r7] w9 (.bool false) fun (r29 : Bool) (w15 : World) =>
    VLd (some (!(!r29))) w15 ⟨e_5, 0, none⟩ [CT.int .i64, CT.int .u8, CT.str, CT.sl] fun (v32_0 : Int) (v32_1 : Int) (v32_2 : ByteArray) (v32_3 : Sl) =>
    VCall (some (!(!r29))) Try.prog 26 #[.agg #[.int .i64 v32_0, .int .u8 v32_1, .string v32_2, .slice v32_3.base v32_3.len v32_3.cap]] w15 (.bool false) fun (r33 : Bool) (w16 : World) =>
    VIf ((!r29) || (!r33)) (
      VSt none w16 ⟨b2, 0, none⟩ [.int .i64 0, .int .u8 0, .string ByteArray.empty, .slice none 0 0] fun (w17 : World) =>
      VLd none w17 ⟨b2, 0, none⟩ [CT.int .i64, CT.int .u8, CT.str, CT.sl] fun (res2_0 : Int) (res2_1 : Int) (res2_2 : ByteArray) (res2_3 : Sl) =>
      R (.returned (.tuple #[.agg #[.int .i64 res2_0, .int .u8 res2_1, .string res2_2, .slice res2_3.base res2_3.len res2_3.cap], .int .i64 4])) w17
    ) (
      VLd none w16 ⟨e_5, 0, none⟩ [CT.int .i64, CT.int .u8, CT.str, CT.sl] fun (v37_0 : Int) (v37_1 : Int) (v37_2 : ByteArray) (v37_3 : Sl) =>
      VSt none w16 ⟨b2, 0, none⟩ [.int .i64 v37_0, .int .u8 v37_1, .string v37_2, .slice v37_3.base v37_3.len v37_3.cap] fun (w18 : World) =>
      VLd none w18 ⟨b2, 0, none⟩ [CT.int .i64, CT.int .u8, CT.str, CT.sl] fun (res2_0 : Int) (res2_1 : Int) (res2_2 : ByteArray) (res2_3 : Sl) =>
      R (.returned (.tuple #[.agg #[.int .i64 res2_0, .int .u8 res2_1, .string res2_2, .slice res2_3.base res2_3.len res2_3.cap], .int .i64 0])) w18
    )
  )
theorem sh_rlog_Read_ok (b_0 : Sl) (w : World) (R : Ending → World → Prop) (h : sh_rlog_Read b_0 w R) : Calls Try.prog 24 #[.slice b_0.base b_0.len b_0.cap] w R :=
  calls_of_sh (args := [.slice b_0.base b_0.len b_0.cap]) (.two .auto (.two .auto (.two .auto (.two (.two .auto (.one (.loop [(18, .int .i64 0)] (.two .auto (.two (.two .auto .auto) (.two (.one .auto) .auto)))))) (.two (.two .auto (.two (.two .auto .auto) .auto)) (.two .auto .auto)))))) Try.func24 (by kernel_rfl) (by kernel_rfl) (by kernel_rfl) h

/-- 25: buttery/butteryref14.Read -/
def sh_butteryref14_Read (b_0 : Sl) (w : World) (R : Ending → World → Prop) : Prop :=
  VNw none w (.cells #[.int .i64 0, .int .u8 0, .string ByteArray.empty, .slice none 0 0] 28) fun (b2 : Nat) (w1 : World) =>
  VCall none Try.prog 48 #[.slice b_0.base b_0.len b_0.cap] w1 (.pointer none) fun (r9 : Option Addr) (w2 : World) =>
  VCall none Try.prog 49 #[.pointer r9, .int .i64 2147483647] w2 (.int .i64 0) fun (r11 : Int) (w3 : World) =>
  VCall none Try.prog 49 #[.pointer r9, .int .i64 255] w3 (.int .i64 0) fun (r13 : Int) (w4 : World) =>
  VCall none Try.prog 50 #[.pointer r9, .int .i64 256] w4 (.string ByteArray.empty) fun (r16 : ByteArray) (w5 : World) =>
  VNw none w5 (.cells #[.int .i64 0, .int .u8 0, .string ByteArray.empty, .slice none 0 0] 28) fun (e_5 : Nat) (w6 : World) =>
  VSt none w6 ⟨e_5, 0, none⟩ [.int .i64 r11, .int .u8 (IntKind.wrap .u8 r13), .string r16, .slice none 0 0] fun (w7 : World) =>
  VCall none Try.prog 49 #[.pointer r9, .int .i64 5] w7 (.int .i64 0) fun (r19 : Int) (w8 : World) =>
  VSet r19 fun (n_6 : Int) =>
  ∃ I1 : Nat → Int → World → Prop, (∃ k, I1 k 0 w8) ∧ ∀ k1 (i_7 : Int) (w9 : World), I1 k1 i_7 w9 →
  VIf (decide (i_7 < n_6)) (
    ∀ (w10 : World), w10 = World.drew w9 →
    VLd none w10 ⟨e_5, 3, none⟩ [CT.sl] fun (v26 : Sl) =>
    VCall none Try.prog 49 #[.pointer r9, .int .i64 5] w10 (.int .i64 0) fun (r28 : Int) (w11 : World) =>
    Rd w11 ⟨e_5, 3, none⟩ [.slice v26.base v26.len v26.cap] ∧
    VNw none w11 (.cells #[.int .i64 r28] 3) fun (b29 : Nat) (w12 : World) =>
    Rd w12 ⟨e_5, 3, none⟩ [.slice v26.base v26.len v26.cap] ∧
    VApp none w12 3 1 8 #[.int .i64 0] v26.base v26.len v26.cap 1 (fun news => Seg w12 (some ⟨b29, 0, none⟩) 1 1 news) fun (l30 : Sl) (w13 : World) =>
    VSt none w13 ⟨e_5, 3, none⟩ [.slice l30.base l30.len l30.cap] fun (w14 : World) =>
    VSet (IntKind.wrap .i64 (i_7 + 1)) fun (i_7' : Int) =>
    ∃ k', k' < k1 ∧ I1 k' i_7' w14
  ) (
    VCall none Try.prog 51 #[.pointer r9] w9 (.bool false) fun (r33 : Bool) (w15 : World) =>
    VLd (some (!(!r33))) w15 ⟨e_5, 0, none⟩ [CT.int .i64, CT.int .u8, CT.str, CT.sl] fun (v36_0 : Int) (v36_1 : Int) (v36_2 : ByteArray) (v36_3 : Sl) =>
    VCall (some (!(!r33))) Try.prog 27 #[.agg #[.int .i64 v36_0, .int .u8 v36_1, .string v36_2, .slice v36_3.base v36_3.len v36_3.cap]] w15 (.bool false) fun (r37 : Bool) (w16 : World) =>
    VIf ((!r33) || (!r37)) (
      VSt none w16 ⟨b2, 0, none⟩ [.int .i64 0, .int .u8 0, .string ByteArray.empty, .slice none 0 0] fun (w17 : World) =>
      VLd none w17 ⟨b2, 0, none⟩ [CT.int .i64, CT.int .u8, CT.str, CT.sl] fun (res2_0 : Int) (res2_1 : Int) (res2_2 : ByteArray) (res2_3 : Sl) =>
      R (.returned (.tuple #[.agg #[.int .i64 res2_0, .int .u8 res2_1, .string res2_2, .slice res2_3.base res2_3.len res2_3.cap], .int .i64 4])) w17
    ) (
      VLd none w16 ⟨e_5, 0, none⟩ [CT.int .i64, CT.int .u8, CT.str, CT.sl] fun (v41_0 : Int) (v41_1 : Int) (v41_2 : ByteArray) (v41_3 : Sl) =>
      VSt none w16 ⟨b2, 0, none⟩ [.int .i64 v41_0, .int .u8 v41_1, .string v41_2, .slice v41_3.base v41_3.len v41_3.cap] fun (w18 : World) =>
      VLd none w18 ⟨b2, 0, none⟩ [CT.int .i64, CT.int .u8, CT.str, CT.sl] fun (res2_0 : Int) (res2_1 : Int) (res2_2 : ByteArray) (res2_3 : Sl) =>
      R (.returned (.tuple #[.agg #[.int .i64 res2_0, .int .u8 res2_1, .string res2_2, .slice res2_3.base res2_3.len res2_3.cap], .int .i64 0])) w18
    )
  )
theorem sh_butteryref14_Read_ok (b_0 : Sl) (w : World) (R : Ending → World → Prop) (h : sh_butteryref14_Read b_0 w R) : Calls Try.prog 25 #[.slice b_0.base b_0.len b_0.cap] w R :=
  calls_of_sh (args := [.slice b_0.base b_0.len b_0.cap]) (.two .auto (.two .auto (.two .auto (.two .auto (.two (.two .auto (.one (.loop [(7, .int .i64 0)] (.two (.two .auto (.two .auto .auto)) (.two (.one .auto) .auto))))) (.two (.two .auto (.two (.two .auto .auto) .auto)) (.two .auto .auto))))))) Try.func25 (by kernel_rfl) (by kernel_rfl) (by kernel_rfl) h

/-- 26: buttery/rlog.Check -/
def sh_rlog_Check (e_0_0 : Int) (e_0_1 : Int) (e_0_2 : ByteArray) (e_0_3 : Sl) (w : World) (R : Ending → World → Prop) : Prop :=
  VNw none w (.cells #[.int .i64 e_0_0, .int .u8 e_0_1, .string e_0_2, .slice e_0_3.base e_0_3.len e_0_3.cap] 28) fun (e_1 : Nat) (w1 : World) =>
  VLd none w1 ⟨e_1, 0, none⟩ [CT.int .i64] fun (v4 : Int) =>
  VLd (some (!(decide (v4 < 1)))) w1 ⟨e_1, 0, none⟩ [CT.int .i64] fun (v8 : Int) =>
  VIf ((decide (v4 < 1)) || (decide (v8 > 2147483647))) (
    R (.returned (.bool false)) w1
  ) (
    VLd none w1 ⟨e_1, 1, none⟩ [CT.int .u8] fun (v12 : Int) =>
    VIf (v12 == 1) (
      VLd none w1 ⟨e_1, 2, none⟩ [CT.str] fun (v16 : ByteArray) =>
      VLd (some (v16.toList == (ByteArray.mk #[]).toList)) w1 ⟨e_1, 3, none⟩ [CT.sl] fun (v20 : Sl) =>
      R (.returned (.bool ((v16.toList == (ByteArray.mk #[]).toList) && (((v20.len : Nat) : Int) == 0)))) w1
    ) (
      VIf (v12 == 2) (
        VLd none w1 ⟨e_1, 2, none⟩ [CT.str] fun (v27 : ByteArray) =>
        VLd (some (decide (((v27.size : Nat) : Int) ≤ 256))) w1 ⟨e_1, 3, none⟩ [CT.sl] fun (v32 : Sl) =>
        R (.returned (.bool ((decide (((v27.size : Nat) : Int) ≤ 256)) && (((v32.len : Nat) : Int) == 0)))) w1
      ) (
        VIf (v12 == 3) (
          VLd none w1 ⟨e_1, 2, none⟩ [CT.str] fun (v39 : ByteArray) =>
          VLd (some (v39.toList == (ByteArray.mk #[]).toList)) w1 ⟨e_1, 3, none⟩ [CT.sl] fun (v43 : Sl) =>
          VCall (some (v39.toList == (ByteArray.mk #[]).toList)) Try.prog 52 #[.slice v43.base v43.len v43.cap] w1 (.bool false) fun (r44 : Bool) (w2 : World) =>
          R (.returned (.bool ((v39.toList == (ByteArray.mk #[]).toList) && r44))) w2
        ) (
          R (.returned (.bool false)) w1
        )
      )
    )
  )
theorem sh_rlog_Check_ok (e_0_0 : Int) (e_0_1 : Int) (e_0_2 : ByteArray) (e_0_3 : Sl) (w : World) (R : Ending → World → Prop) (h : sh_rlog_Check e_0_0 e_0_1 e_0_2 e_0_3 w R) : Calls Try.prog 26 #[.agg #[.int .i64 e_0_0, .int .u8 e_0_1, .string e_0_2, .slice e_0_3.base e_0_3.len e_0_3.cap]] w R :=
  calls_of_sh (args := [.agg #[.int .i64 e_0_0, .int .u8 e_0_1, .string e_0_2, .slice e_0_3.base e_0_3.len e_0_3.cap]]) (.two .auto (.two (.two .auto (.two (.two .auto .auto) .auto)) (.two (.two .auto (.one (.two .auto (.two (.two .auto .auto) (.two .auto (.two (.two .auto .auto) (.two .auto (.two (.two .auto .auto) .auto)))))))) (.two .auto .auto)))) Try.func26 (by kernel_rfl) (by kernel_rfl) (by kernel_rfl) h

/-- 27: buttery/butteryref14.Check -/
def sh_butteryref14_Check (e_0_0 : Int) (e_0_1 : Int) (e_0_2 : ByteArray) (e_0_3 : Sl) (w : World) (R : Ending → World → Prop) : Prop :=
  VNw none w (.cells #[.int .i64 e_0_0, .int .u8 e_0_1, .string e_0_2, .slice e_0_3.base e_0_3.len e_0_3.cap] 28) fun (e_1 : Nat) (w1 : World) =>
  VLd none w1 ⟨e_1, 0, none⟩ [CT.int .i64] fun (v5 : Int) =>
  VLd (some (!(decide (v5 < 1)))) w1 ⟨e_1, 0, none⟩ [CT.int .i64] fun (v9 : Int) =>
  VIf ((decide (v5 < 1)) || (decide (v9 > 2147483647))) (
    R (.returned (.bool false)) w1
  ) (
    VLd none w1 ⟨e_1, 1, none⟩ [CT.int .u8] fun (v13 : Int) =>
    VIf (v13 == 1) (
      VLd none w1 ⟨e_1, 2, none⟩ [CT.str] fun (v17 : ByteArray) =>
      VLd (some (v17.toList == (ByteArray.mk #[]).toList)) w1 ⟨e_1, 3, none⟩ [CT.sl] fun (v21 : Sl) =>
      R (.returned (.bool ((v17.toList == (ByteArray.mk #[]).toList) && (((v21.len : Nat) : Int) == 0)))) w1
    ) (
      VIf (v13 == 2) (
        VLd none w1 ⟨e_1, 2, none⟩ [CT.str] fun (v28 : ByteArray) =>
        VLd (some (decide (((v28.size : Nat) : Int) ≤ 256))) w1 ⟨e_1, 3, none⟩ [CT.sl] fun (v33 : Sl) =>
        R (.returned (.bool ((decide (((v28.size : Nat) : Int) ≤ 256)) && (((v33.len : Nat) : Int) == 0)))) w1
      ) (
        VIf (v13 == 3) (
          ∃ I1 : Nat → Int → World → Prop, (∃ k, I1 k 0 w1) ∧ ∀ k1 (i_3 : Int) (w2 : World), I1 k1 i_3 w2 →
          VLd none w2 ⟨e_1, 3, none⟩ [CT.sl] fun (v41 : Sl) =>
          VIf (decide (i_3 < ((v41.len : Nat) : Int))) (
            ∀ (w3 : World), w3 = World.drew w2 →
            VLd none w3 ⟨e_1, 3, none⟩ [CT.sl] fun (v47 : Sl) =>
            VIx none v47.base v47.len i_3 fun (a49 : Addr) =>
            VLd none w3 (Addr.add a49 ((Int.toNat i_3) * 1)) [CT.int .i64] fun (v50 : Int) =>
            VLd (some (!(decide (v50 < 1)))) w3 ⟨e_1, 3, none⟩ [CT.sl] fun (v54 : Sl) =>
            VIx (some (!(decide (v50 < 1)))) v54.base v54.len i_3 fun (a56 : Addr) =>
            VLd (some (!(decide (v50 < 1)))) w3 (Addr.add a56 ((Int.toNat i_3) * 1)) [CT.int .i64] fun (v57 : Int) =>
            VLd (some ((!((decide (v50 < 1)) || (decide (v57 > 5)))) && (decide (i_3 > 0)))) w3 ⟨e_1, 3, none⟩ [CT.sl] fun (v65 : Sl) =>
            VIx (some ((!((decide (v50 < 1)) || (decide (v57 > 5)))) && (decide (i_3 > 0)))) v65.base v65.len (IntKind.wrap .i64 (i_3 - 1)) fun (a68 : Addr) =>
            VLd (some ((!((decide (v50 < 1)) || (decide (v57 > 5)))) && (decide (i_3 > 0)))) w3 (Addr.add a68 ((Int.toNat (IntKind.wrap .i64 (i_3 - 1))) * 1)) [CT.int .i64] fun (v69 : Int) =>
            VLd (some ((!((decide (v50 < 1)) || (decide (v57 > 5)))) && (decide (i_3 > 0)))) w3 ⟨e_1, 3, none⟩ [CT.sl] fun (v71 : Sl) =>
            VIx (some ((!((decide (v50 < 1)) || (decide (v57 > 5)))) && (decide (i_3 > 0)))) v71.base v71.len i_3 fun (a73 : Addr) =>
            VLd (some ((!((decide (v50 < 1)) || (decide (v57 > 5)))) && (decide (i_3 > 0)))) w3 (Addr.add a73 ((Int.toNat i_3) * 1)) [CT.int .i64] fun (v74 : Int) =>
            VIf (((decide (v50 < 1)) || (decide (v57 > 5))) || ((decide (i_3 > 0)) && (decide (v69 ≥ v74)))) (
              R (.returned (.bool false)) w3
            ) (
              VSet (IntKind.wrap .i64 (i_3 + 1)) fun (i_3' : Int) =>
              ∃ k', k' < k1 ∧ I1 k' i_3' w3
            )
          ) (
            VLd none w2 ⟨e_1, 2, none⟩ [CT.str] fun (v79 : ByteArray) =>
            VLd (some (v79.toList == (ByteArray.mk #[]).toList)) w2 ⟨e_1, 3, none⟩ [CT.sl] fun (v83 : Sl) =>
            R (.returned (.bool ((v79.toList == (ByteArray.mk #[]).toList) && (decide (((v83.len : Nat) : Int) > 0))))) w2
          )
        ) (
          R (.returned (.bool false)) w1
        )
      )
    )
  )
theorem sh_butteryref14_Check_ok (e_0_0 : Int) (e_0_1 : Int) (e_0_2 : ByteArray) (e_0_3 : Sl) (w : World) (R : Ending → World → Prop) (h : sh_butteryref14_Check e_0_0 e_0_1 e_0_2 e_0_3 w R) : Calls Try.prog 27 #[.agg #[.int .i64 e_0_0, .int .u8 e_0_1, .string e_0_2, .slice e_0_3.base e_0_3.len e_0_3.cap]] w R :=
  calls_of_sh (args := [.agg #[.int .i64 e_0_0, .int .u8 e_0_1, .string e_0_2, .slice e_0_3.base e_0_3.len e_0_3.cap]]) (.two .auto (.two (.two .auto (.two (.two .auto .auto) .auto)) (.two (.two .auto (.one (.two .auto (.two (.two .auto .auto) (.two .auto (.two (.two .auto .auto) (.two .auto (.two (.two (.two .auto (.one (.loop [(3, .int .i64 0)] (.two (.two .auto (.two .auto .auto)) (.two (.one (.two .auto (.two (.two .auto .auto) .auto))) .auto))))) (.two .auto .auto)) .auto)))))))) (.two .auto .auto)))) Try.func27 (by kernel_rfl) (by kernel_rfl) (by kernel_rfl) h

/-- 28: (*buttery/rlog.Log).Members -/
def sh_rlog_Log_Members (g_0 : Option Addr) (i_1 : Int) (w : World) (R : Ending → World → Prop) : Prop :=
  VNw none w (.cells #[.pointer g_0] 30) fun (g_2 : Nat) (w1 : World) =>
  VNw none w1 (.cells #[.int .i64 i_1] 3) fun (i_3 : Nat) (w2 : World) =>
  VNw none w2 (.cells #[.slice none 0 0] 26) fun (b4 : Nat) (w3 : World) =>
  VNw none w3 (.cells #[.bool false] 4) fun (b5 : Nat) (w4 : World) =>
  VLd none w4 ⟨g_2, 0, none⟩ [CT.ptr] fun (v8 : Option Addr) =>
  VIf v8.isNone (
    VSt none w4 ⟨b4, 0, none⟩ [.slice none 0 0] fun (w5 : World) =>
    VSt none w5 ⟨b5, 0, none⟩ [.bool false] fun (w6 : World) =>
    VLd none w6 ⟨b4, 0, none⟩ [CT.sl] fun (res4 : Sl) =>
    VLd none w6 ⟨b5, 0, none⟩ [CT.bool] fun (res5 : Bool) =>
    R (.returned (.tuple #[.slice res4.base res4.len res4.cap, .bool res5])) w6
  ) (
    VLd none w4 ⟨g_2, 0, none⟩ [CT.ptr] fun (v10 : Option Addr) =>
    VNN none v10 fun (a11 : Addr) =>
    VLd none w4 (Addr.add a11 2) [CT.sl] fun (v13 : Sl) =>
    VCall none Try.prog 53 #[.slice v13.base v13.len v13.cap] w4 (.nilFunc) fun (r14 : Value) (w7 : World) =>
    False
  )
theorem sh_rlog_Log_Members_ok (g_0 : Option Addr) (i_1 : Int) (w : World) (R : Ending → World → Prop) (h : sh_rlog_Log_Members g_0 i_1 w R) : Calls Try.prog 28 #[.pointer g_0, .int .i64 i_1] w R :=
  calls_of_sh (args := [.pointer g_0, .int .i64 i_1]) (.two .auto (.two (.two .auto (.two (.two .auto .auto) .auto)) (.two (.two .auto (.one .auto)) .auto))) Try.func28 (by kernel_rfl) (by kernel_rfl) (by kernel_rfl) h

/-- 29: (*buttery/rlog.Log).Append -/
def sh_rlog_Log_Append (g_0 : Option Addr) (e_1_0 : Int) (e_1_1 : Int) (e_1_2 : ByteArray) (e_1_3 : Sl) (w : World) (R : Ending → World → Prop) : Prop :=
  VNw none w (.cells #[.int .i64 e_1_0, .int .u8 e_1_1, .string e_1_2, .slice e_1_3.base e_1_3.len e_1_3.cap] 28) fun (e_3 : Nat) (w1 : World) =>
  VIf g_0.isNone (
    R (.returned (.int .i64 2)) w1
  ) (
    VCall none Try.prog 12 #[.pointer g_0] w1 (.tuple #[.int .i64 0, .int .i64 0]) fun (r11_0 : Int) (r11_1 : Int) (w2 : World) =>
    VSet r11_0 fun (at_5 : Int) =>
    VSet r11_1 fun (term_6 : Int) =>
    VLd none w2 ⟨e_3, 0, none⟩ [CT.int .i64, CT.int .u8, CT.str, CT.sl] fun (v15_0 : Int) (v15_1 : Int) (v15_2 : ByteArray) (v15_3 : Sl) =>
    VCall none Try.prog 26 #[.agg #[.int .i64 v15_0, .int .u8 v15_1, .string v15_2, .slice v15_3.base v15_3.len v15_3.cap]] w2 (.bool false) fun (r16 : Bool) (w3 : World) =>
    VLd (some (!(!r16))) w3 ⟨e_3, 0, none⟩ [CT.int .i64] fun (v20 : Int) =>
    VIf ((!r16) || (decide (v20 < term_6))) (
      R (.returned (.int .i64 1)) w3
    ) (
      VIf (at_5 == 2147483647) (
        R (.returned (.int .i64 70)) w3
      ) (
        ∀ (w4 : World), w4 = World.drew w3 →
        VNN none g_0 fun (a29 : Addr) =>
        VLd none w4 (Addr.add a29 2) [CT.sl] fun (v31 : Sl) =>
        VLd none w4 ⟨e_3, 0, none⟩ [CT.int .i64, CT.int .u8, CT.str, CT.sl] fun (v32_0 : Int) (v32_1 : Int) (v32_2 : ByteArray) (v32_3 : Sl) =>
        VCall none Try.prog 39 #[.agg #[.int .i64 v32_0, .int .u8 v32_1, .string v32_2, .slice v32_3.base v32_3.len v32_3.cap]] w4 (.agg #[.int .i64 0, .int .u8 0, .string ByteArray.empty, .slice none 0 0]) fun (r33_0 : Int) (r33_1 : Int) (r33_2 : ByteArray) (r33_3 : Sl) (w5 : World) =>
        Rd w5 (Addr.add a29 2) [.slice v31.base v31.len v31.cap] ∧
        VNw none w5 (.cells #[.int .i64 r33_0, .int .u8 r33_1, .string r33_2, .slice r33_3.base r33_3.len r33_3.cap] 28) fun (b34 : Nat) (w6 : World) =>
        Rd w6 (Addr.add a29 2) [.slice v31.base v31.len v31.cap] ∧
        VApp none w6 28 4 56 #[.int .i64 0, .int .u8 0, .string ByteArray.empty, .slice none 0 0] v31.base v31.len v31.cap 1 (fun news => Seg w6 (some ⟨b34, 0, none⟩) 1 4 news) fun (l35 : Sl) (w7 : World) =>
        VNN none g_0 fun (a36 : Addr) =>
        VSt none w7 (Addr.add a36 2) [.slice l35.base l35.len l35.cap] fun (w8 : World) =>
        R (.returned (.int .i64 0)) w8
      )
    )
  )
theorem sh_rlog_Log_Append_ok (g_0 : Option Addr) (e_1_0 : Int) (e_1_1 : Int) (e_1_2 : ByteArray) (e_1_3 : Sl) (w : World) (R : Ending → World → Prop) (h : sh_rlog_Log_Append g_0 e_1_0 e_1_1 e_1_2 e_1_3 w R) : Calls Try.prog 29 #[.pointer g_0, .agg #[.int .i64 e_1_0, .int .u8 e_1_1, .string e_1_2, .slice e_1_3.base e_1_3.len e_1_3.cap]] w R :=
  calls_of_sh (args := [.pointer g_0, .agg #[.int .i64 e_1_0, .int .u8 e_1_1, .string e_1_2, .slice e_1_3.base e_1_3.len e_1_3.cap]]) (.two .auto (.two (.two .auto (.two (.two .auto .auto) .auto)) (.two .auto (.two (.one (.two .auto (.two (.two .auto .auto) (.two .auto (.two (.two .auto .auto) .auto))))) (.two .auto (.two .auto .auto)))))) Try.func29 (by kernel_rfl) (by kernel_rfl) (by kernel_rfl) h

/-- 30: (*buttery/rlog.Log).Reset -/
def sh_rlog_Log_Reset (g_0 : Option Addr) (base_1 : Int) (term_2 : Int) (w : World) (R : Ending → World → Prop) : Prop :=
  VIf g_0.isNone (
    R (.returned (.int .i64 2)) w
  ) (
    VCall none Try.prog 33 #[.int .i64 base_1] w (.bool false) fun (r12 : Bool) (w1 : World) =>
    VCall (some (!(!r12))) Try.prog 33 #[.int .i64 term_2] w1 (.bool false) fun (r16 : Bool) (w2 : World) =>
    VIf ((!r12) || (!r16)) (
      R (.returned (.int .i64 1)) w2
    ) (
      VNN none g_0 fun (a23 : Addr) =>
      VSt none w2 a23 [.int .i64 base_1, .int .i64 term_2, .slice none 0 0] fun (w3 : World) =>
      R (.returned (.int .i64 0)) w3
    )
  )
theorem sh_rlog_Log_Reset_ok (g_0 : Option Addr) (base_1 : Int) (term_2 : Int) (w : World) (R : Ending → World → Prop) (h : sh_rlog_Log_Reset g_0 base_1 term_2 w R) : Calls Try.prog 30 #[.pointer g_0, .int .i64 base_1, .int .i64 term_2] w R :=
  calls_of_sh (args := [.pointer g_0, .int .i64 base_1, .int .i64 term_2]) (.two .auto (.two (.one (.two .auto (.two (.two .auto .auto) (.two .auto (.two (.two .auto .auto) .auto))))) (.two .auto (.two .auto .auto)))) Try.func30 (by kernel_rfl) (by kernel_rfl) (by kernel_rfl) h

/-- 31: (*buttery/rlog.Log).Above -/
def sh_rlog_Log_Above (g_0 : Option Addr) (index_1 : Int) (term_2 : Int) (w : World) (R : Ending → World → Prop) : Prop :=
  VIf g_0.isNone (
    R (.returned (.bool true)) w
  ) (
    VCall none Try.prog 12 #[.pointer g_0] w (.tuple #[.int .i64 0, .int .i64 0]) fun (r13_0 : Int) (r13_1 : Int) (w1 : World) =>
    VSet r13_0 fun (at_7 : Int) =>
    VSet r13_1 fun (t_8 : Int) =>
    R (.returned (.bool ((decide (term_2 > t_8)) || ((term_2 == t_8) && (decide (index_1 ≥ at_7)))))) w1
  )
theorem sh_rlog_Log_Above_ok (g_0 : Option Addr) (index_1 : Int) (term_2 : Int) (w : World) (R : Ending → World → Prop) (h : sh_rlog_Log_Above g_0 index_1 term_2 w R) : Calls Try.prog 31 #[.pointer g_0, .int .i64 index_1, .int .i64 term_2] w R :=
  calls_of_sh (args := [.pointer g_0, .int .i64 index_1, .int .i64 term_2]) (.two .auto (.two (.two .auto (.two (.two .auto .auto) .auto)) (.two .auto (.two .auto .auto)))) Try.func31 (by kernel_rfl) (by kernel_rfl) (by kernel_rfl) h

/-- 32: buttery/butterylaw14.noop -/
def sh_butterylaw14_noop (term_0 : Int) (w : World) (R : Ending → World → Prop) : Prop :=
  VNw none w (.cells #[.int .i64 0, .int .u8 0, .string ByteArray.empty, .slice none 0 0] 28) fun (b2 : Nat) (w1 : World) =>
  VSt none w1 ⟨b2, 0, none⟩ [.int .i64 term_0, .int .u8 1, .string ByteArray.empty, .slice none 0 0] fun (w2 : World) =>
  VLd none w2 ⟨b2, 0, none⟩ [CT.int .i64, CT.int .u8, CT.str, CT.sl] fun (res2_0 : Int) (res2_1 : Int) (res2_2 : ByteArray) (res2_3 : Sl) =>
  R (.returned (.agg #[.int .i64 res2_0, .int .u8 res2_1, .string res2_2, .slice res2_3.base res2_3.len res2_3.cap])) w2
theorem sh_butterylaw14_noop_ok (term_0 : Int) (w : World) (R : Ending → World → Prop) (h : sh_butterylaw14_noop term_0 w R) : Calls Try.prog 32 #[.int .i64 term_0] w R :=
  calls_of_sh (args := [.int .i64 term_0]) (.two .auto (.two .auto .auto)) Try.func32 (by kernel_rfl) (by kernel_rfl) (by kernel_rfl) h

/-- 33: buttery/rlog.count -/
def sh_rlog_count (n_0 : Int) (w : World) (R : Ending → World → Prop) : Prop :=
  R (.returned (.bool ((decide (n_0 ≥ 0)) && (decide (n_0 ≤ 2147483647))))) w
theorem sh_rlog_count_ok (n_0 : Int) (w : World) (R : Ending → World → Prop) (h : sh_rlog_count n_0 w R) : Calls Try.prog 33 #[.int .i64 n_0] w R :=
  calls_of_sh (args := [.int .i64 n_0]) (.two .auto (.two .auto .auto)) Try.func33 (by kernel_rfl) (by kernel_rfl) (by kernel_rfl) h

/-- 34: buttery/rlog.may -/
def sh_rlog_may (term_0 : Int) (l_1 : Sl) (w : World) (R : Ending → World → Prop) : Prop :=
  VNw none w (.cells #[.int .i64 term_0] 3) fun (term_2 : Nat) (w1 : World) =>
  VCall none Try.prog 55 #[.slice l_1.base l_1.len l_1.cap, .func (.func 56) #[] #[.pointer (some ⟨term_2, 0, none⟩)]] w1 (.bool false) fun (r7 : Bool) (w2 : World) =>
  R (.returned (.bool (!r7))) w2
theorem sh_rlog_may_ok (term_0 : Int) (l_1 : Sl) (w : World) (R : Ending → World → Prop) (h : sh_rlog_may term_0 l_1 w R) : Calls Try.prog 34 #[.int .i64 term_0, .slice l_1.base l_1.len l_1.cap] w R :=
  calls_of_sh (args := [.int .i64 term_0, .slice l_1.base l_1.len l_1.cap]) (.two .auto (.two .auto .auto)) Try.func34 (by kernel_rfl) (by kernel_rfl) (by kernel_rfl) h

/-- 35: buttery/rlog.twins -/
def sh_rlog_twins (l_0 : Sl) (w : World) (R : Ending → World → Prop) : Prop :=
  VMk none w 28 4 56 #[.int .i64 0, .int .u8 0, .string ByteArray.empty, .slice none 0 0] ((l_0.len : Nat) : Int) ((l_0.len : Nat) : Int) fun (b7 : Nat) (w1 : World) =>
  VCopy none w1 4 (some ⟨b7, 0, none⟩) l_0.len l_0.len (fun news => Seg w1 l_0.base (Nat.min l_0.len l_0.len) 4 news) fun (w2 : World) =>
  ∃ I1 : Nat → Int → World → Prop, (∃ k, I1 k 0 w2) ∧ ∀ k1 (x13 : Int) (w3 : World), I1 k1 x13 w3 →
  VIf (decide (x13 < ((l_0.len : Nat) : Int))) (
    VSet x13 fun (i_4 : Int) =>
    VIx none (some ⟨b7, 0, none⟩) l_0.len i_4 fun (a20 : Addr) =>
    VLd none w3 (Addr.add a20 ((Int.toNat i_4) * 4)) [CT.int .i64, CT.int .u8, CT.str, CT.sl] fun (v21_0 : Int) (v21_1 : Int) (v21_2 : ByteArray) (v21_3 : Sl) =>
    VCall none Try.prog 39 #[.agg #[.int .i64 v21_0, .int .u8 v21_1, .string v21_2, .slice v21_3.base v21_3.len v21_3.cap]] w3 (.agg #[.int .i64 0, .int .u8 0, .string ByteArray.empty, .slice none 0 0]) fun (r22_0 : Int) (r22_1 : Int) (r22_2 : ByteArray) (r22_3 : Sl) (w4 : World) =>
    VIx none (some ⟨b7, 0, none⟩) l_0.len i_4 fun (a23 : Addr) =>
    VSt none w4 (Addr.add a23 ((Int.toNat i_4) * 4)) [.int .i64 r22_0, .int .u8 r22_1, .string r22_2, .slice r22_3.base r22_3.len r22_3.cap] fun (w5 : World) =>
    ∃ k', k' < k1 ∧ I1 k' (IntKind.wrap .i64 (x13 + 1)) w5
  ) (
    R (.returned (.slice (some ⟨b7, 0, none⟩) l_0.len l_0.len)) w3
  )
theorem sh_rlog_twins_ok (l_0 : Sl) (w : World) (R : Ending → World → Prop) (h : sh_rlog_twins l_0 w R) : Calls Try.prog 35 #[.slice l_0.base l_0.len l_0.cap] w R :=
  calls_of_sh (args := [.slice l_0.base l_0.len l_0.cap]) (.two .auto (.two .auto (.two .auto (.two (.two .auto (.one (.loop [(13, .int .i64 0)] (.two .auto (.two (.two .auto .auto) (.two (.one (.two .auto .auto)) .auto)))))) (.two .auto .auto))))) Try.func35 (by kernel_rfl) (by kernel_rfl) (by kernel_rfl) h

/-- 36: slices.Clone of  of buttery/api.Entry,buttery/api.Entry -/
def sh_slices_Clone (s_0 : Sl) (w : World) (R : Ending → World → Prop) : Prop :=
  VIf s_0.base.isNone (
    R (.returned (.slice none 0 0)) w
  ) (
    VNw none w (.cells #[] 28) fun (b5 : Nat) (w1 : World) =>
    VApp none w1 28 4 56 #[.int .i64 0, .int .u8 0, .string ByteArray.empty, .slice none 0 0] (some ⟨b5, 0, none⟩) 0 0 s_0.len (fun news => Seg w1 s_0.base s_0.len 4 news) fun (l7 : Sl) (w2 : World) =>
    R (.returned (.slice l7.base l7.len l7.cap)) w2
  )
theorem sh_slices_Clone_ok (s_0 : Sl) (w : World) (R : Ending → World → Prop) (h : sh_slices_Clone s_0 w R) : Calls Try.prog 36 #[.slice s_0.base s_0.len s_0.cap] w R :=
  calls_of_sh (args := [.slice s_0.base s_0.len s_0.cap]) (.two .auto (.two (.two .auto (.two (.two .auto .auto) .auto)) (.two .auto .auto))) Try.func36 (by kernel_rfl) (by kernel_rfl) (by kernel_rfl) h

/-- 37: (*buttery/rlog.Log).parts -/
def sh_rlog_Log_parts (g_0 : Option Addr) (prev_1 : Int) (l_2 : Sl) (w : World) (R : Ending → World → Prop) : Prop :=
  VNw none w (.cells #[.pointer g_0] 30) fun (g_3 : Nat) (w1 : World) =>
  VNw none w1 (.cells #[.int .i64 0] 3) fun (at_7 : Nat) (w2 : World) =>
  VSt none w2 ⟨at_7, 0, none⟩ [.int .i64 prev_1] fun (w3 : World) =>
  VCall none Try.prog 57 #[.slice l_2.base l_2.len l_2.cap, .func (.func 58) #[] #[.pointer (some ⟨at_7, 0, none⟩), .pointer (some ⟨g_3, 0, none⟩)]] w3 (.int .i64 0) fun (r11 : Int) (w4 : World) =>
  VSet r11 fun (v6 : Int) =>
  R (.returned (.int .i64 v6)) w4
theorem sh_rlog_Log_parts_ok (g_0 : Option Addr) (prev_1 : Int) (l_2 : Sl) (w : World) (R : Ending → World → Prop) (h : sh_rlog_Log_parts g_0 prev_1 l_2 w R) : Calls Try.prog 37 #[.pointer g_0, .int .i64 prev_1, .slice l_2.base l_2.len l_2.cap] w R :=
  calls_of_sh (args := [.pointer g_0, .int .i64 prev_1, .slice l_2.base l_2.len l_2.cap]) (.two .auto (.two .auto (.two .auto .auto))) Try.func37 (by kernel_rfl) (by kernel_rfl) (by kernel_rfl) h

/-- 38: slices.Clip of  of buttery/api.Entry,buttery/api.Entry -/
def sh_slices_Clip (s_0 : Sl) (w : World) (R : Ending → World → Prop) : Prop :=
  VCk none ((0 : Int) ≤ 0 ∧ (0 : Int) ≤ ((s_0.len : Nat) : Int) ∧ (((s_0.len : Nat) : Int) : Int) ≤ ((s_0.len : Nat) : Int) ∧ (((s_0.len : Nat) : Int) : Int) ≤ ((s_0.cap : Nat) : Int)) (
    R (.returned (.slice (cutB s_0.base s_0.len 4 0) (s_0.len - 0) (s_0.len - 0))) w
  )
theorem sh_slices_Clip_ok (s_0 : Sl) (w : World) (R : Ending → World → Prop) (h : sh_slices_Clip s_0 w R) : Calls Try.prog 38 #[.slice s_0.base s_0.len s_0.cap] w R :=
  calls_of_sh (args := [.slice s_0.base s_0.len s_0.cap]) (.two .auto (.two .auto .auto)) Try.func38 (by kernel_rfl) (by kernel_rfl) (by kernel_rfl) h

/-- 39: buttery/rlog.twin -/
def sh_rlog_twin (e_0_0 : Int) (e_0_1 : Int) (e_0_2 : ByteArray) (e_0_3 : Sl) (w : World) (R : Ending → World → Prop) : Prop :=
  VNw none w (.cells #[.int .i64 e_0_0, .int .u8 e_0_1, .string e_0_2, .slice e_0_3.base e_0_3.len e_0_3.cap] 28) fun (e_1 : Nat) (w1 : World) =>
  VNw none w1 (.cells #[.int .i64 0, .int .u8 0, .string ByteArray.empty, .slice none 0 0] 28) fun (b2 : Nat) (w2 : World) =>
  VLd none w2 ⟨e_1, 3, none⟩ [CT.sl] fun (v4 : Sl) =>
  VCall none Try.prog 54 #[.slice v4.base v4.len v4.cap] w2 (.slice none 0 0) fun (r5 : Sl) (w3 : World) =>
  VSt none w3 ⟨e_1, 3, none⟩ [.slice r5.base r5.len r5.cap] fun (w4 : World) =>
  VLd none w4 ⟨e_1, 0, none⟩ [CT.int .i64, CT.int .u8, CT.str, CT.sl] fun (v7_0 : Int) (v7_1 : Int) (v7_2 : ByteArray) (v7_3 : Sl) =>
  VSt none w4 ⟨b2, 0, none⟩ [.int .i64 v7_0, .int .u8 v7_1, .string v7_2, .slice v7_3.base v7_3.len v7_3.cap] fun (w5 : World) =>
  VLd none w5 ⟨b2, 0, none⟩ [CT.int .i64, CT.int .u8, CT.str, CT.sl] fun (res2_0 : Int) (res2_1 : Int) (res2_2 : ByteArray) (res2_3 : Sl) =>
  R (.returned (.agg #[.int .i64 res2_0, .int .u8 res2_1, .string res2_2, .slice res2_3.base res2_3.len res2_3.cap])) w5
theorem sh_rlog_twin_ok (e_0_0 : Int) (e_0_1 : Int) (e_0_2 : ByteArray) (e_0_3 : Sl) (w : World) (R : Ending → World → Prop) (h : sh_rlog_twin e_0_0 e_0_1 e_0_2 e_0_3 w R) : Calls Try.prog 39 #[.agg #[.int .i64 e_0_0, .int .u8 e_0_1, .string e_0_2, .slice e_0_3.base e_0_3.len e_0_3.cap]] w R :=
  calls_of_sh (args := [.agg #[.int .i64 e_0_0, .int .u8 e_0_1, .string e_0_2, .slice e_0_3.base e_0_3.len e_0_3.cap]]) (.two .auto (.two .auto (.two .auto .auto))) Try.func39 (by kernel_rfl) (by kernel_rfl) (by kernel_rfl) h

/-- 40: buttery/butteryref01.Count -/
def sh_butteryref01_Count (b_0 : Sl) (n_1 : Int) (w : World) (R : Ending → World → Prop) : Prop :=
  VIf ((decide (n_1 < 0)) || (decide (n_1 > 2147483647))) (
    VCall none Try.prog 59 #[.slice b_0.base b_0.len b_0.cap, .slice none 0 0] w (.slice none 0 0) fun (r12 : Sl) (w1 : World) =>
    R (.returned (.slice r12.base r12.len r12.cap)) w1
  ) (
    VCall none Try.prog 60 #[.int .u64 (IntKind.wrap .u64 n_1)] w (.slice none 0 0) fun (r16 : Sl) (w2 : World) =>
    VCall none Try.prog 59 #[.slice b_0.base b_0.len b_0.cap, .slice r16.base r16.len r16.cap] w2 (.slice none 0 0) fun (r17 : Sl) (w3 : World) =>
    R (.returned (.slice r17.base r17.len r17.cap)) w3
  )
theorem sh_butteryref01_Count_ok (b_0 : Sl) (n_1 : Int) (w : World) (R : Ending → World → Prop) (h : sh_butteryref01_Count b_0 n_1 w R) : Calls Try.prog 40 #[.slice b_0.base b_0.len b_0.cap, .int .i64 n_1] w R :=
  calls_of_sh (args := [.slice b_0.base b_0.len b_0.cap, .int .i64 n_1]) (.two .auto (.two (.two .auto (.two (.two .auto .auto) .auto)) (.two .auto .auto))) Try.func40 (by kernel_rfl) (by kernel_rfl) (by kernel_rfl) h

/-- 41: buttery/butteryref01.Str -/
def sh_butteryref01_Str (b_0 : Sl) (s_1 : ByteArray) (w : World) (R : Ending → World → Prop) : Prop :=
  VCall none Try.prog 40 #[.slice b_0.base b_0.len b_0.cap, .int .i64 ((s_1.size : Nat) : Int)] w (.slice none 0 0) fun (r8 : Sl) (w1 : World) =>
  VBytes none w1 5 s_1 fun (b10 cb10 : Nat) (w2 : World) =>
  VCall none Try.prog 59 #[.slice r8.base r8.len r8.cap, .slice (some ⟨b10, 0, none⟩) s_1.size cb10] w2 (.slice none 0 0) fun (r11 : Sl) (w3 : World) =>
  R (.returned (.slice r11.base r11.len r11.cap)) w3
theorem sh_butteryref01_Str_ok (b_0 : Sl) (s_1 : ByteArray) (w : World) (R : Ending → World → Prop) (h : sh_butteryref01_Str b_0 s_1 w R) : Calls Try.prog 41 #[.slice b_0.base b_0.len b_0.cap, .string s_1] w R :=
  calls_of_sh (args := [.slice b_0.base b_0.len b_0.cap, .string s_1]) (.two .auto (.two .auto .auto)) Try.func41 (by kernel_rfl) (by kernel_rfl) (by kernel_rfl) h

/-- 42: buttery/code.Str -/
def sh_code_Str (b_0 : Sl) (s_1 : ByteArray) (w : World) (R : Ending → World → Prop) : Prop :=
  VIf (decide (((s_1.size : Nat) : Int) > 2147483647)) (
    VCall none Try.prog 61 #[.slice b_0.base b_0.len b_0.cap] w (.slice none 0 0) fun (r9 : Sl) (w1 : World) =>
    R (.returned (.slice r9.base r9.len r9.cap)) w1
  ) (
    VCall none Try.prog 43 #[.slice b_0.base b_0.len b_0.cap, .int .i64 ((s_1.size : Nat) : Int)] w (.slice none 0 0) fun (r13 : Sl) (w2 : World) =>
    VApp none w2 5 1 1 #[.int .u8 0] r13.base r13.len r13.cap s_1.size (fun news => news = strCells s_1) fun (l15 : Sl) (w3 : World) =>
    R (.returned (.slice l15.base l15.len l15.cap)) w3
  )
theorem sh_code_Str_ok (b_0 : Sl) (s_1 : ByteArray) (w : World) (R : Ending → World → Prop) (h : sh_code_Str b_0 s_1 w R) : Calls Try.prog 42 #[.slice b_0.base b_0.len b_0.cap, .string s_1] w R :=
  calls_of_sh (args := [.slice b_0.base b_0.len b_0.cap, .string s_1]) (.two .auto (.two (.two .auto (.two (.two .auto .auto) .auto)) (.two .auto .auto))) Try.func42 (by kernel_rfl) (by kernel_rfl) (by kernel_rfl) h

/-- 43: buttery/code.Count -/
def sh_code_Count (b_0 : Sl) (n_1 : Int) (w : World) (R : Ending → World → Prop) : Prop :=
  VIf ((decide (n_1 < 0)) || (decide (n_1 > 2147483647))) (
    VCall none Try.prog 61 #[.slice b_0.base b_0.len b_0.cap] w (.slice none 0 0) fun (r12 : Sl) (w1 : World) =>
    R (.returned (.slice r12.base r12.len r12.cap)) w1
  ) (
    VCall none Try.prog 62 #[.slice b_0.base b_0.len b_0.cap, .int .u64 (IntKind.wrap .u64 n_1)] w (.slice none 0 0) fun (r16 : Sl) (w2 : World) =>
    R (.returned (.slice r16.base r16.len r16.cap)) w2
  )
theorem sh_code_Count_ok (b_0 : Sl) (n_1 : Int) (w : World) (R : Ending → World → Prop) (h : sh_code_Count b_0 n_1 w R) : Calls Try.prog 43 #[.slice b_0.base b_0.len b_0.cap, .int .i64 n_1] w R :=
  calls_of_sh (args := [.slice b_0.base b_0.len b_0.cap, .int .i64 n_1]) (.two .auto (.two (.two .auto (.two (.two .auto .auto) .auto)) (.two .auto .auto))) Try.func43 (by kernel_rfl) (by kernel_rfl) (by kernel_rfl) h

/-- 44: buttery/code.NewReader -/
def sh_code_NewReader (b_0 : Sl) (w : World) (R : Ending → World → Prop) : Prop :=
  VCall none Try.prog 61 #[.slice b_0.base b_0.len b_0.cap] w (.slice none 0 0) fun (r4 : Sl) (w1 : World) =>
  VNw none w1 (.cells #[.slice r4.base r4.len r4.cap, .bool false] 93) fun (b6 : Nat) (w2 : World) =>
  VNw none w2 (.cells #[.pointer (some ⟨b6, 0, none⟩)] 95) fun (b8 : Nat) (w3 : World) =>
  R (.returned (.pointer (some ⟨b8, 0, none⟩))) w3
theorem sh_code_NewReader_ok (b_0 : Sl) (w : World) (R : Ending → World → Prop) (h : sh_code_NewReader b_0 w R) : Calls Try.prog 44 #[.slice b_0.base b_0.len b_0.cap] w R :=
  calls_of_sh (args := [.slice b_0.base b_0.len b_0.cap]) (.two .auto (.two .auto .auto)) Try.func44 (by kernel_rfl) (by kernel_rfl) (by kernel_rfl) h

/-- 45: (*buttery/code.Reader).Count -/
def sh_code_Reader_Count (r_0 : Option Addr) (most_1 : Int) (w : World) (R : Ending → World → Prop) : Prop :=
  VIf r_0.isNone (
    R (.returned (.int .i64 0)) w
  ) (
    VCall none Try.prog 63 #[.pointer r_0] w (.tuple #[.int .u64 0, .bool false]) fun (r11_0 : Int) (r11_1 : Bool) (w1 : World) =>
    VSet r11_0 fun (u_5 : Int) =>
    VCall none Try.prog 64 #[.pointer r_0, .int .i64 (IntKind.wrap .i64 u_5), .bool (((r11_1 && (decide (most_1 ≥ 0))) && (decide (u_5 ≤ 2147483647))) && (decide ((IntKind.wrap .i64 u_5) ≤ most_1)))] w1 (.int .i64 0) fun (r32 : Int) (w2 : World) =>
    VSet r32 fun (v4 : Int) =>
    R (.returned (.int .i64 v4)) w2
  )
theorem sh_code_Reader_Count_ok (r_0 : Option Addr) (most_1 : Int) (w : World) (R : Ending → World → Prop) (h : sh_code_Reader_Count r_0 most_1 w R) : Calls Try.prog 45 #[.pointer r_0, .int .i64 most_1] w R :=
  calls_of_sh (args := [.pointer r_0, .int .i64 most_1]) (.two .auto (.two (.two .auto (.two (.two .auto .auto) .auto)) (.two .auto (.two .auto .auto)))) Try.func45 (by kernel_rfl) (by kernel_rfl) (by kernel_rfl) h

/-- 46: (*buttery/code.Reader).Str -/
def sh_code_Reader_Str (r_0 : Option Addr) (most_1 : Int) (w : World) (R : Ending → World → Prop) : Prop :=
  VIf r_0.isNone (
    R (.returned (.string (ByteArray.mk #[]))) w
  ) (
    VCall none Try.prog 45 #[.pointer r_0, .int .i64 most_1] w (.int .i64 0) fun (r10 : Int) (w1 : World) =>
    VSet r10 fun (n_5 : Int) =>
    VCall none Try.prog 65 #[.pointer r_0] w1 (.bool false) fun (r12 : Bool) (w2 : World) =>
    VNN (some (!(!r12))) r_0 fun (a17 : Addr) =>
    VLd (some (!(!r12))) w2 a17 [CT.ptr] fun (v19 : Option Addr) =>
    VNN (some (!(!r12))) v19 fun (a20 : Addr) =>
    VLd (some (!(!r12))) w2 a20 [CT.sl] fun (v22 : Sl) =>
    VIf ((!r12) || (decide (n_5 > ((v22.len : Nat) : Int)))) (
      VCall none Try.prog 66 #[.pointer r_0, .string (ByteArray.mk #[]), .bool false] w2 (.string ByteArray.empty) fun (r27 : ByteArray) (w3 : World) =>
      R (.returned (.string r27)) w3
    ) (
      VNN none r_0 fun (a30 : Addr) =>
      VLd none w2 a30 [CT.ptr] fun (v32 : Option Addr) =>
      VCall none Try.prog 67 #[.pointer v32, .int .i64 n_5] w2 (.slice none 0 0) fun (r34 : Sl) (w4 : World) =>
      VStr none w4 r34.base r34.len fun (s35 : ByteArray) =>
      VCall none Try.prog 66 #[.pointer r_0, .string s35, .bool true] w4 (.string ByteArray.empty) fun (r36 : ByteArray) (w5 : World) =>
      R (.returned (.string r36)) w5
    )
  )
theorem sh_code_Reader_Str_ok (r_0 : Option Addr) (most_1 : Int) (w : World) (R : Ending → World → Prop) (h : sh_code_Reader_Str r_0 most_1 w R) : Calls Try.prog 46 #[.pointer r_0, .int .i64 most_1] w R :=
  calls_of_sh (args := [.pointer r_0, .int .i64 most_1]) (.two .auto (.two (.two .auto (.two (.two .auto .auto) .auto)) (.two .auto (.two (.two .auto (.two (.two .auto .auto) .auto)) (.two .auto .auto))))) Try.func46 (by kernel_rfl) (by kernel_rfl) (by kernel_rfl) h

/-- 47: (*buttery/code.Reader).Done -/
def sh_code_Reader_Done (r_0 : Option Addr) (w : World) (R : Ending → World → Prop) : Prop :=
  VCall none Try.prog 65 #[.pointer r_0] w (.bool false) fun (r4 : Bool) (w1 : World) =>
  VCall (some r4) Try.prog 68 #[.pointer r_0] w1 (.int .i64 0) fun (r7 : Int) (w2 : World) =>
  R (.returned (.bool (r4 && (r7 == 0)))) w2
theorem sh_code_Reader_Done_ok (r_0 : Option Addr) (w : World) (R : Ending → World → Prop) (h : sh_code_Reader_Done r_0 w R) : Calls Try.prog 47 #[.pointer r_0] w R :=
  calls_of_sh (args := [.pointer r_0]) (.two .auto (.two .auto .auto)) Try.func47 (by kernel_rfl) (by kernel_rfl) (by kernel_rfl) h

/-- 48: buttery/butteryref01.NewReader -/
def sh_butteryref01_NewReader (b_0 : Sl) (w : World) (R : Ending → World → Prop) : Prop :=
  VNw none w (.cells #[] 5) fun (b3 : Nat) (w1 : World) =>
  VApp none w1 5 1 1 #[.int .u8 0] (some ⟨b3, 0, none⟩) 0 0 b_0.len (fun news => Seg w1 b_0.base b_0.len 1 news) fun (l5 : Sl) (w2 : World) =>
  VNw none w2 (.cells #[.slice l5.base l5.len l5.cap, .bool false] 103) fun (b7 : Nat) (w3 : World) =>
  R (.returned (.pointer (some ⟨b7, 0, none⟩))) w3
theorem sh_butteryref01_NewReader_ok (b_0 : Sl) (w : World) (R : Ending → World → Prop) (h : sh_butteryref01_NewReader b_0 w R) : Calls Try.prog 48 #[.slice b_0.base b_0.len b_0.cap] w R :=
  calls_of_sh (args := [.slice b_0.base b_0.len b_0.cap]) (.two .auto (.two .auto .auto)) Try.func48 (by kernel_rfl) (by kernel_rfl) (by kernel_rfl) h

/-- 49: (*buttery/butteryref01.Reader).Count -/
def sh_butteryref01_Reader_Count (r_0 : Option Addr) (most_1 : Int) (w : World) (R : Ending → World → Prop) : Prop :=
  VCall none Try.prog 69 #[.pointer r_0] w (.int .u64 0) fun (r7 : Int) (w1 : World) =>
  VSet r7 fun (u_5 : Int) =>
  VNN none r_0 fun (a9 : Addr) =>
  VLd none w1 (Addr.add a9 1) [CT.bool] fun (v11 : Bool) =>
  VIf (((v11 || (decide (most_1 < 0))) || (decide (u_5 > 2147483647))) || (decide ((IntKind.wrap .i64 u_5) > most_1))) (
    VCall none Try.prog 70 #[.pointer r_0] w1 (.tuple #[]) fun (w2 : World) =>
    R (.returned (.int .i64 0)) w2
  ) (
    VSet (IntKind.wrap .i64 u_5) fun (v4 : Int) =>
    R (.returned (.int .i64 v4)) w1
  )
theorem sh_butteryref01_Reader_Count_ok (r_0 : Option Addr) (most_1 : Int) (w : World) (R : Ending → World → Prop) (h : sh_butteryref01_Reader_Count r_0 most_1 w R) : Calls Try.prog 49 #[.pointer r_0, .int .i64 most_1] w R :=
  calls_of_sh (args := [.pointer r_0, .int .i64 most_1]) (.two .auto (.two .auto (.two (.two .auto (.two (.two .auto (.two .auto .auto)) .auto)) (.two .auto .auto)))) Try.func49 (by kernel_rfl) (by kernel_rfl) (by kernel_rfl) h

/-- 50: (*buttery/butteryref01.Reader).Str -/
def sh_butteryref01_Reader_Str (r_0 : Option Addr) (most_1 : Int) (w : World) (R : Ending → World → Prop) : Prop :=
  VCall none Try.prog 49 #[.pointer r_0, .int .i64 most_1] w (.int .i64 0) fun (r9 : Int) (w1 : World) =>
  VSet r9 fun (n_5 : Int) =>
  VNN none r_0 fun (a11 : Addr) =>
  VLd none w1 (Addr.add a11 1) [CT.bool] fun (v13 : Bool) =>
  VNN (some (!v13)) r_0 fun (a17 : Addr) =>
  VLd (some (!v13)) w1 a17 [CT.sl] fun (v19 : Sl) =>
  VIf (v13 || (decide (n_5 > ((v19.len : Nat) : Int)))) (
    VCall none Try.prog 70 #[.pointer r_0] w1 (.tuple #[]) fun (w2 : World) =>
    R (.returned (.string (ByteArray.mk #[]))) w2
  ) (
    VNN none r_0 fun (a26 : Addr) =>
    VLd none w1 a26 [CT.sl] fun (v28 : Sl) =>
    VCk none ((0 : Int) ≤ 0 ∧ (0 : Int) ≤ n_5 ∧ (n_5 : Int) ≤ ((v28.cap : Nat) : Int)) (
      VStr none w1 (cutB v28.base v28.cap 1 0) ((Int.toNat n_5) - 0) fun (s31 : ByteArray) =>
      VNN none r_0 fun (a34 : Addr) =>
      VLd none w1 a34 [CT.sl] fun (v36 : Sl) =>
      VCk none ((0 : Int) ≤ n_5 ∧ (n_5 : Int) ≤ ((v36.len : Nat) : Int) ∧ (((v36.len : Nat) : Int) : Int) ≤ ((v36.cap : Nat) : Int)) (
        VNN none r_0 fun (a39 : Addr) =>
        VSt none w1 a39 [.slice (cutB v36.base v36.cap 1 (Int.toNat n_5)) (v36.len - (Int.toNat n_5)) (v36.cap - (Int.toNat n_5))] fun (w3 : World) =>
        R (.returned (.string s31)) w3
      )
    )
  )
theorem sh_butteryref01_Reader_Str_ok (r_0 : Option Addr) (most_1 : Int) (w : World) (R : Ending → World → Prop) (h : sh_butteryref01_Reader_Str r_0 most_1 w R) : Calls Try.prog 50 #[.pointer r_0, .int .i64 most_1] w R :=
  calls_of_sh (args := [.pointer r_0, .int .i64 most_1]) (.two .auto (.two .auto (.two (.two .auto (.two (.two .auto (.two .auto .auto)) .auto)) (.two .auto (.two .auto (.two .auto .auto)))))) Try.func50 (by kernel_rfl) (by kernel_rfl) (by kernel_rfl) h

/-- 51: (*buttery/butteryref01.Reader).Done -/
def sh_butteryref01_Reader_Done (r_0 : Option Addr) (w : World) (R : Ending → World → Prop) : Prop :=
  VNN none r_0 fun (a4 : Addr) =>
  VLd none w (Addr.add a4 1) [CT.bool] fun (v6 : Bool) =>
  VNN (some (!v6)) r_0 fun (a10 : Addr) =>
  VLd (some (!v6)) w a10 [CT.sl] fun (v12 : Sl) =>
  R (.returned (.bool ((!v6) && (((v12.len : Nat) : Int) == 0)))) w
theorem sh_butteryref01_Reader_Done_ok (r_0 : Option Addr) (w : World) (R : Ending → World → Prop) (h : sh_butteryref01_Reader_Done r_0 w R) : Calls Try.prog 51 #[.pointer r_0] w R :=
  calls_of_sh (args := [.pointer r_0]) (.two .auto (.two .auto .auto)) Try.func51 (by kernel_rfl) (by kernel_rfl) (by kernel_rfl) h

/-- 52: buttery/rlog.rising -/
def sh_rlog_rising (l_0 : Sl) (w : World) (R : Ending → World → Prop) : Prop :=
  ∃ I1 : Nat → Int → World → Prop, (∃ k, I1 k 0 w) ∧ ∀ k1 (x7 : Int) (w1 : World), I1 k1 x7 w1 →
  VIf (decide (x7 < ((l_0.len : Nat) : Int))) (
    VIx none l_0.base l_0.len x7 fun (a10 : Addr) =>
    VLd none w1 (Addr.add a10 ((Int.toNat x7) * 1)) [CT.int .i64] fun (v11 : Int) =>
    VSet x7 fun (i_3 : Int) =>
    VSet v11 fun (n_4 : Int) =>
    VIx (some ((!((decide (n_4 < 1)) || (decide (n_4 > 5)))) && (decide (i_3 > 0)))) l_0.base l_0.len (IntKind.wrap .i64 (i_3 - 1)) fun (a25 : Addr) =>
    VLd (some ((!((decide (n_4 < 1)) || (decide (n_4 > 5)))) && (decide (i_3 > 0)))) w1 (Addr.add a25 ((Int.toNat (IntKind.wrap .i64 (i_3 - 1))) * 1)) [CT.int .i64] fun (v26 : Int) =>
    VIf (((decide (n_4 < 1)) || (decide (n_4 > 5))) || ((decide (i_3 > 0)) && (decide (v26 ≥ n_4)))) (
      R (.returned (.bool false)) w1
    ) (
      ∃ k', k' < k1 ∧ I1 k' (IntKind.wrap .i64 (x7 + 1)) w1
    )
  ) (
    R (.returned (.bool (decide (((l_0.len : Nat) : Int) > 0)))) w1
  )
theorem sh_rlog_rising_ok (l_0 : Sl) (w : World) (R : Ending → World → Prop) (h : sh_rlog_rising l_0 w R) : Calls Try.prog 52 #[.slice l_0.base l_0.len l_0.cap] w R :=
  calls_of_sh (args := [.slice l_0.base l_0.len l_0.cap]) (.two .auto (.two (.two .auto (.one (.loop [(7, .int .i64 0)] (.two .auto (.two (.two .auto .auto) (.two (.one (.two .auto (.two .auto (.two (.two .auto .auto) .auto)))) .auto)))))) (.two .auto .auto))) Try.func52 (by kernel_rfl) (by kernel_rfl) (by kernel_rfl) h

/-- 53: slices.Backward of  of buttery/api.Entry,buttery/api.Entry -/
def sh_slices_Backward (s_0 : Sl) (w : World) (R : Ending → World → Prop) : Prop :=
  VNw none w (.cells #[.slice s_0.base s_0.len s_0.cap] 25) fun (s_1 : Nat) (w1 : World) =>
  R (.returned (.func (.func 71) #[] #[.pointer (some ⟨s_1, 0, none⟩)])) w1
theorem sh_slices_Backward_ok (s_0 : Sl) (w : World) (R : Ending → World → Prop) (h : sh_slices_Backward s_0 w R) : Calls Try.prog 53 #[.slice s_0.base s_0.len s_0.cap] w R :=
  calls_of_sh (args := [.slice s_0.base s_0.len s_0.cap]) (.two .auto (.two .auto .auto)) Try.func53 (by kernel_rfl) (by kernel_rfl) (by kernel_rfl) h

/-- 54: slices.Clone of  of int,int -/
def sh_slices_Clone' (s_0 : Sl) (w : World) (R : Ending → World → Prop) : Prop :=
  VIf s_0.base.isNone (
    R (.returned (.slice none 0 0)) w
  ) (
    VNw none w (.cells #[] 3) fun (b5 : Nat) (w1 : World) =>
    VApp none w1 3 1 8 #[.int .i64 0] (some ⟨b5, 0, none⟩) 0 0 s_0.len (fun news => Seg w1 s_0.base s_0.len 1 news) fun (l7 : Sl) (w2 : World) =>
    R (.returned (.slice l7.base l7.len l7.cap)) w2
  )
theorem sh_slices_Clone'_ok (s_0 : Sl) (w : World) (R : Ending → World → Prop) (h : sh_slices_Clone' s_0 w R) : Calls Try.prog 54 #[.slice s_0.base s_0.len s_0.cap] w R :=
  calls_of_sh (args := [.slice s_0.base s_0.len s_0.cap]) (.two .auto (.two (.two .auto (.two (.two .auto .auto) .auto)) (.two .auto .auto))) Try.func54 (by kernel_rfl) (by kernel_rfl) (by kernel_rfl) h

/-- 55: slices.ContainsFunc of  of buttery/api.Entry,buttery/api.Entry -/
def sh_slices_ContainsFunc (s_0 : Sl) (f_1 : Value) (w : World) (R : Ending → World → Prop) : Prop :=
  VCall none Try.prog 57 #[.slice s_0.base s_0.len s_0.cap, f_1] w (.int .i64 0) fun (r7 : Int) (w1 : World) =>
  R (.returned (.bool (decide (r7 ≥ 0)))) w1
theorem sh_slices_ContainsFunc_ok (s_0 : Sl) (f_1 : Value) (w : World) (R : Ending → World → Prop) (h : sh_slices_ContainsFunc s_0 f_1 w R) : Calls Try.prog 55 #[.slice s_0.base s_0.len s_0.cap, f_1] w R :=
  calls_of_sh (args := [.slice s_0.base s_0.len s_0.cap, f_1]) (.two .auto (.two .auto .auto)) Try.func55 (by kernel_rfl) (by kernel_rfl) (by kernel_rfl) h

/-- 56: buttery/rlog.may$1 -/
def sh_rlog_may_1 (e_0_0 : Int) (e_0_1 : Int) (e_0_2 : ByteArray) (e_0_3 : Sl) (cap0 : Addr) (w : World) (R : Ending → World → Prop) : Prop :=
  VNw none w (.cells #[.int .i64 e_0_0, .int .u8 e_0_1, .string e_0_2, .slice e_0_3.base e_0_3.len e_0_3.cap] 28) fun (e_2 : Nat) (w1 : World) =>
  VLd none w1 ⟨e_2, 0, none⟩ [CT.int .i64, CT.int .u8, CT.str, CT.sl] fun (v5_0 : Int) (v5_1 : Int) (v5_2 : ByteArray) (v5_3 : Sl) =>
  VCall none Try.prog 26 #[.agg #[.int .i64 v5_0, .int .u8 v5_1, .string v5_2, .slice v5_3.base v5_3.len v5_3.cap]] w1 (.bool false) fun (r6 : Bool) (w2 : World) =>
  VLd (some (!(!r6))) w2 ⟨e_2, 0, none⟩ [CT.int .i64] fun (v10 : Int) =>
  VLd (some (!(!r6))) w2 cap0 [CT.int .i64] fun (v11 : Int) =>
  VLd none w2 ⟨e_2, 0, none⟩ [CT.int .i64] fun (v15 : Int) =>
  VSt none w2 cap0 [.int .i64 v15] fun (w3 : World) =>
  R (.returned (.bool ((!r6) || (decide (v10 < v11))))) w3
theorem sh_rlog_may_1_ok (e_0_0 : Int) (e_0_1 : Int) (e_0_2 : ByteArray) (e_0_3 : Sl) (cap0 : Addr) (w : World) (R : Ending → World → Prop) (h : sh_rlog_may_1 e_0_0 e_0_1 e_0_2 e_0_3 cap0 w R) : Calls Try.prog 56 #[.agg #[.int .i64 e_0_0, .int .u8 e_0_1, .string e_0_2, .slice e_0_3.base e_0_3.len e_0_3.cap], .pointer (some cap0)] w R :=
  calls_of_sh (args := [.agg #[.int .i64 e_0_0, .int .u8 e_0_1, .string e_0_2, .slice e_0_3.base e_0_3.len e_0_3.cap], .pointer (some cap0)]) (.two .auto (.two .auto (.two .auto (.two .auto .auto)))) Try.func56 (by kernel_rfl) (by kernel_rfl) (by kernel_rfl) h

/-- 57: slices.IndexFunc of  of buttery/api.Entry,buttery/api.Entry -/
def sh_slices_IndexFunc (s_0 : Sl) (f_1 : Value) (w : World) (R : Ending → World → Prop) : Prop :=
  ∃ I1 : Nat → Int → World → Prop, (∃ k, I1 k 0 w) ∧ ∀ k1 (x8 : Int) (w1 : World), I1 k1 x8 w1 →
  VIf (decide (x8 < ((s_0.len : Nat) : Int))) (
    VSet x8 fun (i_5 : Int) =>
    VIx none s_0.base s_0.len i_5 fun (a14 : Addr) =>
    VLd none w1 (Addr.add a14 ((Int.toNat i_5) * 4)) [CT.int .i64, CT.int .u8, CT.str, CT.sl] fun (v15_0 : Int) (v15_1 : Int) (v15_2 : ByteArray) (v15_3 : Sl) =>
    VDyn none Try.prog f_1 #[.agg #[.int .i64 v15_0, .int .u8 v15_1, .string v15_2, .slice v15_3.base v15_3.len v15_3.cap]] w1 (.bool false) fun (r16 : Bool) (w2 : World) =>
    VIf r16 (
      VSet i_5 fun (v4 : Int) =>
      R (.returned (.int .i64 v4)) w2
    ) (
      ∃ k', k' < k1 ∧ I1 k' (IntKind.wrap .i64 (x8 + 1)) w2
    )
  ) (
    R (.returned (.int .i64 (-1))) w1
  )
theorem sh_slices_IndexFunc_ok (s_0 : Sl) (f_1 : Value) (w : World) (R : Ending → World → Prop) (h : sh_slices_IndexFunc s_0 f_1 w R) : Calls Try.prog 57 #[.slice s_0.base s_0.len s_0.cap, f_1] w R :=
  calls_of_sh (args := [.slice s_0.base s_0.len s_0.cap, f_1]) (.two .auto (.two (.two .auto (.one (.loop [(8, .int .i64 0)] (.two .auto (.two (.two .auto .auto) (.two (.one (.two .auto (.two .auto (.two (.two .auto .auto) .auto)))) .auto)))))) (.two .auto .auto))) Try.func57 (by kernel_rfl) (by kernel_rfl) (by kernel_rfl) h

/-- 58: (*buttery/rlog.Log).parts$1 -/
def sh_rlog_Log_parts_1 (e_0_0 : Int) (e_0_1 : Int) (e_0_2 : ByteArray) (e_0_3 : Sl) (cap0 : Addr) (cap1 : Addr) (w : World) (R : Ending → World → Prop) : Prop :=
  VNw none w (.cells #[.int .i64 e_0_0, .int .u8 e_0_1, .string e_0_2, .slice e_0_3.base e_0_3.len e_0_3.cap] 28) fun (e_3 : Nat) (w1 : World) =>
  VLd none w1 cap0 [CT.int .i64] fun (v7 : Int) =>
  VSt none w1 cap0 [.int .i64 (IntKind.wrap .i64 (v7 + 1))] fun (w2 : World) =>
  VLd none w2 cap1 [CT.ptr] fun (v10 : Option Addr) =>
  VLd none w2 cap0 [CT.int .i64] fun (v11 : Int) =>
  VCall none Try.prog 18 #[.pointer v10, .int .i64 v11] w2 (.tuple #[.int .i64 0, .bool false]) fun (r12_0 : Int) (r12_1 : Bool) (w3 : World) =>
  VSet r12_0 fun (t_5 : Int) =>
  ∀ (w4 : World), w4 = World.drew w3 →
  VLd none w4 cap0 [CT.int .i64] fun (v15 : Int) =>
  VLd none w4 cap1 [CT.ptr] fun (v16 : Option Addr) =>
  VNN none v16 fun (a17 : Addr) =>
  VLd none w4 a17 [CT.int .i64] fun (v19 : Int) =>
  VLd (some ((decide (v15 > v19)) && (!(!r12_1)))) w4 ⟨e_3, 0, none⟩ [CT.int .i64] fun (v27 : Int) =>
  R (.returned (.bool ((decide (v15 > v19)) && ((!r12_1) || (t_5 != v27))))) w4
theorem sh_rlog_Log_parts_1_ok (e_0_0 : Int) (e_0_1 : Int) (e_0_2 : ByteArray) (e_0_3 : Sl) (cap0 : Addr) (cap1 : Addr) (w : World) (R : Ending → World → Prop) (h : sh_rlog_Log_parts_1 e_0_0 e_0_1 e_0_2 e_0_3 cap0 cap1 w R) : Calls Try.prog 58 #[.agg #[.int .i64 e_0_0, .int .u8 e_0_1, .string e_0_2, .slice e_0_3.base e_0_3.len e_0_3.cap], .pointer (some cap0), .pointer (some cap1)] w R :=
  calls_of_sh (args := [.agg #[.int .i64 e_0_0, .int .u8 e_0_1, .string e_0_2, .slice e_0_3.base e_0_3.len e_0_3.cap], .pointer (some cap0), .pointer (some cap1)]) (.two .auto (.two .auto (.two .auto (.two .auto .auto)))) Try.func58 (by kernel_rfl) (by kernel_rfl) (by kernel_rfl) h

/-- 59: buttery/butteryref01.with -/
def sh_butteryref01_with (b_0 : Sl) (c_1 : Sl) (w : World) (R : Ending → World → Prop) : Prop :=
  VNw none w (.cells #[] 5) fun (b6 : Nat) (w1 : World) =>
  VApp none w1 5 1 1 #[.int .u8 0] (some ⟨b6, 0, none⟩) 0 0 b_0.len (fun news => Seg w1 b_0.base b_0.len 1 news) fun (l8 : Sl) (w2 : World) =>
  VApp none w2 5 1 1 #[.int .u8 0] l8.base l8.len l8.cap c_1.len (fun news => Seg w2 c_1.base c_1.len 1 news) fun (l11 : Sl) (w3 : World) =>
  R (.returned (.slice l11.base l11.len l11.cap)) w3
theorem sh_butteryref01_with_ok (b_0 : Sl) (c_1 : Sl) (w : World) (R : Ending → World → Prop) (h : sh_butteryref01_with b_0 c_1 w R) : Calls Try.prog 59 #[.slice b_0.base b_0.len b_0.cap, .slice c_1.base c_1.len c_1.cap] w R :=
  calls_of_sh (args := [.slice b_0.base b_0.len b_0.cap, .slice c_1.base c_1.len c_1.cap]) (.two .auto (.two .auto (.two .auto .auto))) Try.func59 (by kernel_rfl) (by kernel_rfl) (by kernel_rfl) h

/-- 60: buttery/butteryref01.Uint -/
def sh_butteryref01_Uint (u_0 : Int) (w : World) (R : Ending → World → Prop) : Prop :=
  ∃ I1 : Nat → Int → Sl → World → Prop, (∃ k, I1 k u_0 ⟨none, 0, 0⟩ w) ∧ ∀ k1 (u_0 : Int) (out_3 : Sl) (w1 : World), I1 k1 u_0 out_3 w1 →
  VIf (decide (u_0 ≥ 128)) (
    VNw none w1 (.cells #[.int .u8 (IntKind.wrap .u8 (IntKind.wrap .u64 ((Int.tmod u_0 128) + 128)))] 5) fun (b11 : Nat) (w2 : World) =>
    VApp none w2 5 1 1 #[.int .u8 0] out_3.base out_3.len out_3.cap 1 (fun news => Seg w2 (some ⟨b11, 0, none⟩) 1 1 news) fun (l12 : Sl) (w3 : World) =>
    VSet (IntKind.wrap .u64 (Int.tdiv u_0 128)) fun (u_0' : Int) =>
    ∃ k', k' < k1 ∧ I1 k' u_0' l12 w3
  ) (
    VNw none w1 (.cells #[.int .u8 (IntKind.wrap .u8 u_0)] 5) fun (b18 : Nat) (w4 : World) =>
    VApp none w4 5 1 1 #[.int .u8 0] out_3.base out_3.len out_3.cap 1 (fun news => Seg w4 (some ⟨b18, 0, none⟩) 1 1 news) fun (l19 : Sl) (w5 : World) =>
    R (.returned (.slice l19.base l19.len l19.cap)) w5
  )
theorem sh_butteryref01_Uint_ok (u_0 : Int) (w : World) (R : Ending → World → Prop) (h : sh_butteryref01_Uint u_0 w R) : Calls Try.prog 60 #[.int .u64 u_0] w R :=
  calls_of_sh (args := [.int .u64 u_0]) (.two .auto (.two .auto (.two (.one (.loop [(0, .int .u64 0), (3, .slice none 0 0)] (.two (.two .auto (.two .auto .auto)) (.one (.two .auto .auto))))) (.two .auto .auto)))) Try.func60 (by kernel_rfl) (by kernel_rfl) (by kernel_rfl) h

/-- 61: bytes.Clone -/
def sh_bytes_Clone (b_0 : Sl) (w : World) (R : Ending → World → Prop) : Prop :=
  VIf b_0.base.isNone (
    R (.returned (.slice none 0 0)) w
  ) (
    VNw none w (.cells #[] 5) fun (b5 : Nat) (w1 : World) =>
    VApp none w1 5 1 1 #[.int .u8 0] (some ⟨b5, 0, none⟩) 0 0 b_0.len (fun news => Seg w1 b_0.base b_0.len 1 news) fun (l7 : Sl) (w2 : World) =>
    R (.returned (.slice l7.base l7.len l7.cap)) w2
  )
theorem sh_bytes_Clone_ok (b_0 : Sl) (w : World) (R : Ending → World → Prop) (h : sh_bytes_Clone b_0 w R) : Calls Try.prog 61 #[.slice b_0.base b_0.len b_0.cap] w R :=
  calls_of_sh (args := [.slice b_0.base b_0.len b_0.cap]) (.two .auto (.two (.two .auto (.two (.two .auto .auto) .auto)) (.two .auto .auto))) Try.func61 (by kernel_rfl) (by kernel_rfl) (by kernel_rfl) h

/-- 62: buttery/code.uvarint -/
def sh_code_uvarint (b_0 : Sl) (u_1 : Int) (w : World) (R : Ending → World → Prop) : Prop :=
  VCall none Try.prog 61 #[.slice b_0.base b_0.len b_0.cap] w (.slice none 0 0) fun (r7 : Sl) (w1 : World) =>
  ∃ I1 : Nat → Int → Sl → World → Prop, (∃ k, I1 k u_1 r7 w1) ∧ ∀ k1 (u_1 : Int) (out_5 : Sl) (w2 : World), I1 k1 u_1 out_5 w2 →
  VIf (decide (u_1 > 127)) (
    VNw none w2 (.cells #[.int .u8 (bOr .u8 (IntKind.wrap .u8 u_1) 128)] 5) fun (b16 : Nat) (w3 : World) =>
    VApp none w3 5 1 1 #[.int .u8 0] out_5.base out_5.len out_5.cap 1 (fun news => Seg w3 (some ⟨b16, 0, none⟩) 1 1 news) fun (l17 : Sl) (w4 : World) =>
    VSet (Int.fdiv u_1 (2 ^ 7)) fun (u_1' : Int) =>
    ∃ k', k' < k1 ∧ I1 k' u_1' l17 w4
  ) (
    VNw none w2 (.cells #[.int .u8 (IntKind.wrap .u8 u_1)] 5) fun (b21 : Nat) (w5 : World) =>
    VApp none w5 5 1 1 #[.int .u8 0] out_5.base out_5.len out_5.cap 1 (fun news => Seg w5 (some ⟨b21, 0, none⟩) 1 1 news) fun (l22 : Sl) (w6 : World) =>
    R (.returned (.slice l22.base l22.len l22.cap)) w6
  )
theorem sh_code_uvarint_ok (b_0 : Sl) (u_1 : Int) (w : World) (R : Ending → World → Prop) (h : sh_code_uvarint b_0 u_1 w R) : Calls Try.prog 62 #[.slice b_0.base b_0.len b_0.cap, .int .u64 u_1] w R :=
  calls_of_sh (args := [.slice b_0.base b_0.len b_0.cap, .int .u64 u_1]) (.two .auto (.two .auto (.two (.one (.loop [(1, .int .u64 0), (5, .slice none 0 0)] (.two (.two .auto (.two .auto .auto)) (.two (.one .auto) .auto)))) (.two .auto .auto)))) Try.func62 (by kernel_rfl) (by kernel_rfl) (by kernel_rfl) h

/-- 63: (*buttery/code.Reader).uvarint -/
def sh_code_Reader_uvarint (r_0 : Option Addr) (w : World) (R : Ending → World → Prop) : Prop :=
  VCall none Try.prog 65 #[.pointer r_0] w (.bool false) fun (r7 : Bool) (w1 : World) =>
  VIf (!r7) (
    R (.returned (.tuple #[.int .u64 0, .bool false])) w1
  ) (
    VNN none r_0 fun (a11 : Addr) =>
    VLd none w1 a11 [CT.ptr] fun (v13 : Option Addr) =>
    VNN none v13 fun (a14 : Addr) =>
    VLd none w1 a14 [CT.sl] fun (v16 : Sl) =>
    VCall none Try.prog 72 #[.slice v16.base v16.len v16.cap] w1 (.tuple #[.int .u64 0, .int .i64 0]) fun (r17_0 : Int) (r17_1 : Int) (w2 : World) =>
    VSet r17_0 fun (u_4 : Int) =>
    VSet r17_1 fun (n_5 : Int) =>
    VNN (some ((!(decide (n_5 ≤ 0))) && (decide (n_5 > 1)))) r_0 fun (a27 : Addr) =>
    VLd (some ((!(decide (n_5 ≤ 0))) && (decide (n_5 > 1)))) w2 a27 [CT.ptr] fun (v29 : Option Addr) =>
    VNN (some ((!(decide (n_5 ≤ 0))) && (decide (n_5 > 1)))) v29 fun (a30 : Addr) =>
    VLd (some ((!(decide (n_5 ≤ 0))) && (decide (n_5 > 1)))) w2 a30 [CT.sl] fun (v32 : Sl) =>
    VIx (some ((!(decide (n_5 ≤ 0))) && (decide (n_5 > 1)))) v32.base v32.len (IntKind.wrap .i64 (n_5 - 1)) fun (a35 : Addr) =>
    VLd (some ((!(decide (n_5 ≤ 0))) && (decide (n_5 > 1)))) w2 (Addr.add a35 ((Int.toNat (IntKind.wrap .i64 (n_5 - 1))) * 1)) [CT.int .u8] fun (v36 : Int) =>
    VIf ((decide (n_5 ≤ 0)) || ((decide (n_5 > 1)) && (v36 == 0))) (
      R (.returned (.tuple #[.int .u64 0, .bool false])) w2
    ) (
      VNN none r_0 fun (a41 : Addr) =>
      VLd none w2 a41 [CT.ptr] fun (v43 : Option Addr) =>
      VCall none Try.prog 67 #[.pointer v43, .int .i64 n_5] w2 (.slice none 0 0) fun (r45 : Sl) (w3 : World) =>
      VSet u_4 fun (v2 : Int) =>
      R (.returned (.tuple #[.int .u64 v2, .bool true])) w3
    )
  )
theorem sh_code_Reader_uvarint_ok (r_0 : Option Addr) (w : World) (R : Ending → World → Prop) (h : sh_code_Reader_uvarint r_0 w R) : Calls Try.prog 63 #[.pointer r_0] w R :=
  calls_of_sh (args := [.pointer r_0]) (.two .auto (.two (.two .auto (.two (.two .auto .auto) .auto)) (.two .auto (.two (.two .auto (.two (.two .auto .auto) .auto)) (.two .auto (.two .auto .auto)))))) Try.func63 (by kernel_rfl) (by kernel_rfl) (by kernel_rfl) h

/-- 64: buttery/code.told of int -/
def sh_code_told (r_0 : Option Addr) (v_1 : Int) (ok_2 : Bool) (w : World) (R : Ending → World → Prop) : Prop :=
  ∃ Φ1 : World → Prop, (
    VIf (!ok_2) (
      VNN none r_0 fun (a11 : Addr) =>
      VLd none w a11 [CT.ptr] fun (v13 : Option Addr) =>
      VNN none v13 fun (a14 : Addr) =>
      VSt none w (Addr.add a14 1) [.bool true] fun (w1 : World) =>
      Φ1 w1
    ) (
      Φ1 w
    )
  ) ∧ ∀ (w2 : World), Φ1 w2 →
  VNN none r_0 fun (a17 : Addr) =>
  VLd none w2 a17 [CT.ptr] fun (v19 : Option Addr) =>
  VNN none v19 fun (a20 : Addr) =>
  VLd none w2 (Addr.add a20 1) [CT.bool] fun (v22 : Bool) =>
  VIf v22 (
    VSet 0 fun (v6 : Int) =>
    R (.returned (.int .i64 v6)) w2
  ) (
    VSet v_1 fun (v6' : Int) =>
    R (.returned (.int .i64 v6')) w2
  )
theorem sh_code_told_ok (r_0 : Option Addr) (v_1 : Int) (ok_2 : Bool) (w : World) (R : Ending → World → Prop) (h : sh_code_told r_0 v_1 ok_2 w R) : Calls Try.prog 64 #[.pointer r_0, .int .i64 v_1, .bool ok_2] w R :=
  calls_of_sh (args := [.pointer r_0, .int .i64 v_1, .bool ok_2]) (.two .auto (.join [] (.two .auto (.two .auto .auto)) (.two (.two .auto (.two (.two .auto (.two .auto .auto)) .auto)) (.two .auto .auto)))) Try.func64 (by kernel_rfl) (by kernel_rfl) (by kernel_rfl) h

/-- 65: (*buttery/code.Reader).OK -/
def sh_code_Reader_OK (r_0 : Option Addr) (w : World) (R : Ending → World → Prop) : Prop :=
  VNN (some (!r_0.isNone)) r_0 fun (a7 : Addr) =>
  VLd (some (!r_0.isNone)) w a7 [CT.ptr] fun (v9 : Option Addr) =>
  VCall (some (!r_0.isNone)) Try.prog 73 #[.pointer v9] w (.bool false) fun (r10 : Bool) (w1 : World) =>
  R (.returned (.bool ((!r_0.isNone) && r10))) w1
theorem sh_code_Reader_OK_ok (r_0 : Option Addr) (w : World) (R : Ending → World → Prop) (h : sh_code_Reader_OK r_0 w R) : Calls Try.prog 65 #[.pointer r_0] w R :=
  calls_of_sh (args := [.pointer r_0]) (.two .auto (.two .auto .auto)) Try.func65 (by kernel_rfl) (by kernel_rfl) (by kernel_rfl) h

/-- 66: buttery/code.told of string -/
def sh_code_told' (r_0 : Option Addr) (v_1 : ByteArray) (ok_2 : Bool) (w : World) (R : Ending → World → Prop) : Prop :=
  ∃ Φ1 : World → Prop, (
    VIf (!ok_2) (
      VNN none r_0 fun (a11 : Addr) =>
      VLd none w a11 [CT.ptr] fun (v13 : Option Addr) =>
      VNN none v13 fun (a14 : Addr) =>
      VSt none w (Addr.add a14 1) [.bool true] fun (w1 : World) =>
      Φ1 w1
    ) (
      Φ1 w
    )
  ) ∧ ∀ (w2 : World), Φ1 w2 →
  VNN none r_0 fun (a17 : Addr) =>
  VLd none w2 a17 [CT.ptr] fun (v19 : Option Addr) =>
  VNN none v19 fun (a20 : Addr) =>
  VLd none w2 (Addr.add a20 1) [CT.bool] fun (v22 : Bool) =>
  VIf v22 (
    R (.returned (.string (ByteArray.mk #[]))) w2
  ) (
    R (.returned (.string v_1)) w2
  )
theorem sh_code_told'_ok (r_0 : Option Addr) (v_1 : ByteArray) (ok_2 : Bool) (w : World) (R : Ending → World → Prop) (h : sh_code_told' r_0 v_1 ok_2 w R) : Calls Try.prog 66 #[.pointer r_0, .string v_1, .bool ok_2] w R :=
  calls_of_sh (args := [.pointer r_0, .string v_1, .bool ok_2]) (.two .auto (.join [] (.two .auto (.two .auto .auto)) (.two (.two .auto (.two (.two .auto (.two .auto .auto)) .auto)) (.two .auto .auto)))) Try.func66 (by kernel_rfl) (by kernel_rfl) (by kernel_rfl) h

/-- 67: (*buttery/code.rest).take -/
def sh_code_rest_take (r_0 : Option Addr) (n_1 : Int) (w : World) (R : Ending → World → Prop) : Prop :=
  VNN none r_0 fun (a7 : Addr) =>
  VLd none w a7 [CT.sl] fun (v9 : Sl) =>
  VCk none ((0 : Int) ≤ 0 ∧ (0 : Int) ≤ n_1 ∧ (n_1 : Int) ≤ ((v9.cap : Nat) : Int)) (
    VNN none r_0 fun (a14 : Addr) =>
    VLd none w a14 [CT.sl] fun (v16 : Sl) =>
    VCk none ((0 : Int) ≤ n_1 ∧ (n_1 : Int) ≤ ((v16.len : Nat) : Int) ∧ (((v16.len : Nat) : Int) : Int) ≤ ((v16.cap : Nat) : Int)) (
      VNN none r_0 fun (a19 : Addr) =>
      VSt none w a19 [.slice (cutB v16.base v16.cap 1 (Int.toNat n_1)) (v16.len - (Int.toNat n_1)) (v16.cap - (Int.toNat n_1))] fun (w1 : World) =>
      R (.returned (.slice (cutB v9.base v9.cap 1 0) ((Int.toNat n_1) - 0) (v9.cap - 0))) w1
    )
  )
theorem sh_code_rest_take_ok (r_0 : Option Addr) (n_1 : Int) (w : World) (R : Ending → World → Prop) (h : sh_code_rest_take r_0 n_1 w R) : Calls Try.prog 67 #[.pointer r_0, .int .i64 n_1] w R :=
  calls_of_sh (args := [.pointer r_0, .int .i64 n_1]) (.two .auto (.two .auto (.two .auto (.two .auto .auto)))) Try.func67 (by kernel_rfl) (by kernel_rfl) (by kernel_rfl) h

/-- 68: (*buttery/code.Reader).Left -/
def sh_code_Reader_Left (r_0 : Option Addr) (w : World) (R : Ending → World → Prop) : Prop :=
  VIf r_0.isNone (
    R (.returned (.int .i64 0)) w
  ) (
    VNN none r_0 fun (a6 : Addr) =>
    VLd none w a6 [CT.ptr] fun (v8 : Option Addr) =>
    VCall none Try.prog 74 #[.pointer v8] w (.int .i64 0) fun (r9 : Int) (w1 : World) =>
    VSet r9 fun (v2 : Int) =>
    R (.returned (.int .i64 v2)) w1
  )
theorem sh_code_Reader_Left_ok (r_0 : Option Addr) (w : World) (R : Ending → World → Prop) (h : sh_code_Reader_Left r_0 w R) : Calls Try.prog 68 #[.pointer r_0] w R :=
  calls_of_sh (args := [.pointer r_0]) (.two .auto (.two (.two .auto (.two (.two .auto .auto) .auto)) (.two .auto .auto))) Try.func68 (by kernel_rfl) (by kernel_rfl) (by kernel_rfl) h

/-- 69: (*buttery/butteryref01.Reader).uint -/
def sh_butteryref01_Reader_uint (r_0 : Option Addr) (w : World) (R : Ending → World → Prop) : Prop :=
  ∃ Φ1 : World → Prop, (
    ∃ I2 : Nat → Int → Int → Int → World → Prop, (∃ k, I2 k 0 1 0 w) ∧ ∀ k2 (u_3 : Int) (scale_4 : Int) (i_5 : Int) (w1 : World), I2 k2 u_3 scale_4 i_5 w1 →
    VNN none r_0 fun (a9 : Addr) =>
    VLd none w1 a9 [CT.sl] fun (v11 : Sl) =>
    VIf ((decide (i_5 < ((v11.len : Nat) : Int))) && (decide (i_5 < 10))) (
      VNN none r_0 fun (a21 : Addr) =>
      VLd none w1 a21 [CT.sl] fun (v23 : Sl) =>
      VIx none v23.base v23.len i_5 fun (a25 : Addr) =>
      VLd none w1 (Addr.add a25 ((Int.toNat i_5) * 1)) [CT.int .u8] fun (v26 : Int) =>
      VSet (IntKind.wrap .u64 v26) fun (c_6 : Int) =>
      VIf ((i_5 == 9) && (decide (c_6 > 1))) (
        Φ1 w1
      ) (
        VSet (IntKind.wrap .u64 (u_3 + (IntKind.wrap .u64 ((Int.tmod c_6 128) * scale_4)))) fun (u_3' : Int) =>
        VSet (IntKind.wrap .u64 (scale_4 * 128)) fun (scale_4' : Int) =>
        VIf (decide (c_6 ≥ 128)) (
          VSet (IntKind.wrap .i64 (i_5 + 1)) fun (i_5' : Int) =>
          ∃ k', k' < k2 ∧ I2 k' u_3' scale_4' i_5' w1
        ) (
          VIf ((decide (i_5 > 0)) && (c_6 == 0)) (
            Φ1 w1
          ) (
            VNN none r_0 fun (a52 : Addr) =>
            VLd none w1 a52 [CT.sl] fun (v54 : Sl) =>
            VCk none ((0 : Int) ≤ IntKind.wrap .i64 (i_5 + 1) ∧ (IntKind.wrap .i64 (i_5 + 1) : Int) ≤ ((v54.len : Nat) : Int) ∧ (((v54.len : Nat) : Int) : Int) ≤ ((v54.cap : Nat) : Int)) (
              VNN none r_0 fun (a58 : Addr) =>
              VSt none w1 a58 [.slice (cutB v54.base v54.cap 1 (Int.toNat (IntKind.wrap .i64 (i_5 + 1)))) (v54.len - (Int.toNat (IntKind.wrap .i64 (i_5 + 1)))) (v54.cap - (Int.toNat (IntKind.wrap .i64 (i_5 + 1))))] fun (w2 : World) =>
              VSet u_3' fun (v2 : Int) =>
              R (.returned (.int .u64 v2)) w2
            )
          )
        )
      )
    ) (
      Φ1 w1
    )
  ) ∧ ∀ (w3 : World), Φ1 w3 →
  VCall none Try.prog 70 #[.pointer r_0] w3 (.tuple #[]) fun (w4 : World) =>
  R (.returned (.int .u64 0)) w4
theorem sh_butteryref01_Reader_uint_ok (r_0 : Option Addr) (w : World) (R : Ending → World → Prop) (h : sh_butteryref01_Reader_uint r_0 w R) : Calls Try.prog 69 #[.pointer r_0] w R :=
  calls_of_sh (args := [.pointer r_0]) (.two .auto (.two .auto (.two .auto (.two (.two .auto (.bjoin [] (.loop [(3, .int .u64 0), (4, .int .u64 0), (5, .int .i64 0)] (.two (.two .auto (.two .auto .auto)) (.two (.one (.two .auto (.two (.two .auto (.two .auto .auto)) (.two .auto (.two .auto (.two (.two .auto (.two .auto .auto)) (.two (.two .auto (.two .auto .auto)) (.two .auto (.two .auto .auto))))))))) .auto))))) (.two .auto (.two .auto .auto)))))) Try.func69 (by kernel_rfl) (by kernel_rfl) (by kernel_rfl) h

/-- 70: (*buttery/butteryref01.Reader).fail -/
def sh_butteryref01_Reader_fail (r_0 : Option Addr) (w : World) (R : Ending → World → Prop) : Prop :=
  VNN none r_0 fun (a3 : Addr) =>
  VSt none w (Addr.add a3 1) [.bool true] fun (w1 : World) =>
  VNN none r_0 fun (a6 : Addr) =>
  VSt none w1 a6 [.slice none 0 0] fun (w2 : World) =>
  R (.returned (.tuple #[])) w2
theorem sh_butteryref01_Reader_fail_ok (r_0 : Option Addr) (w : World) (R : Ending → World → Prop) (h : sh_butteryref01_Reader_fail r_0 w R) : Calls Try.prog 70 #[.pointer r_0] w R :=
  calls_of_sh (args := [.pointer r_0]) (.two .auto .auto) Try.func70 (by kernel_rfl) (by kernel_rfl) (by kernel_rfl) h

/-- 71: slices.Backward of  of buttery/api.Entry,buttery/api.Entry$1 -/
def sh_slices_Backward' (yield_0 : Value) (cap0 : Addr) (w : World) (R : Ending → World → Prop) : Prop :=
  VLd none w cap0 [CT.sl] fun (v4 : Sl) =>
  VSet (IntKind.wrap .i64 (((v4.len : Nat) : Int) - 1)) fun (i_3 : Int) =>
  ∃ I1 : Nat → Int → World → Prop, (∃ k, I1 k i_3 w) ∧ ∀ k1 (i_3' : Int) (w1 : World), I1 k1 i_3' w1 →
  VIf (decide (i_3' ≥ 0)) (
    VLd none w1 cap0 [CT.sl] fun (v13 : Sl) =>
    VIx none v13.base v13.len i_3' fun (a15 : Addr) =>
    VLd none w1 (Addr.add a15 ((Int.toNat i_3') * 4)) [CT.int .i64, CT.int .u8, CT.str, CT.sl] fun (v16_0 : Int) (v16_1 : Int) (v16_2 : ByteArray) (v16_3 : Sl) =>
    VDyn none Try.prog yield_0 #[.int .i64 i_3', .agg #[.int .i64 v16_0, .int .u8 v16_1, .string v16_2, .slice v16_3.base v16_3.len v16_3.cap]] w1 (.bool false) fun (r17 : Bool) (w2 : World) =>
    VIf (!r17) (
      R (.returned (.tuple #[])) w2
    ) (
      VSet (IntKind.wrap .i64 (i_3' - 1)) fun (i_3'' : Int) =>
      ∃ k', k' < k1 ∧ I1 k' i_3'' w2
    )
  ) (
    R (.returned (.tuple #[])) w1
  )
theorem sh_slices_Backward'_ok (yield_0 : Value) (cap0 : Addr) (w : World) (R : Ending → World → Prop) (h : sh_slices_Backward' yield_0 cap0 w R) : Calls Try.prog 71 #[yield_0, .pointer (some cap0)] w R :=
  calls_of_sh (args := [yield_0, .pointer (some cap0)]) (.two .auto (.one (.loop [(3, .int .i64 0)] (.two (.two .auto (.two .auto .auto)) (.two (.one (.two .auto (.two .auto .auto))) .auto))))) Try.func71 (by kernel_rfl) (by kernel_rfl) (by kernel_rfl) h

/-- 72: buttery/code.first -/
def sh_code_first (b_0 : Sl) (w : World) (R : Ending → World → Prop) : Prop :=
  ∃ I1 : Nat → Int → Int → World → Prop, (∃ k, I1 k 0 0 w) ∧ ∀ k1 (u_4 : Int) (x9 : Int) (w1 : World), I1 k1 u_4 x9 w1 →
  VIf (decide (x9 < ((b_0.len : Nat) : Int))) (
    VIx none b_0.base b_0.len x9 fun (a12 : Addr) =>
    VLd none w1 (Addr.add a12 ((Int.toNat x9) * 1)) [CT.int .u8] fun (v13 : Int) =>
    VSet x9 fun (i_5 : Int) =>
    VSet v13 fun (c_6 : Int) =>
    VIf ((i_5 == 10) || ((i_5 == 9) && (decide (c_6 > 1)))) (
      R (.returned (.tuple #[.int .u64 0, .int .i64 0])) w1
    ) (
      VCk none ((0 : Int) ≤ (IntKind.wrap .i64 (7 * i_5))) (
        VSet (bOr .u64 u_4 (IntKind.wrap .u64 ((IntKind.wrap .u64 (bAnd .u8 c_6 127)) * 2 ^ (min (Int.toNat (IntKind.wrap .i64 (7 * i_5))) (IntKind.bits .u64))))) fun (u_4' : Int) =>
        VIf (decide (c_6 < 128)) (
          VSet u_4' fun (v2 : Int) =>
          VSet (IntKind.wrap .i64 (i_5 + 1)) fun (v3 : Int) =>
          R (.returned (.tuple #[.int .u64 v2, .int .i64 v3])) w1
        ) (
          ∃ k', k' < k1 ∧ I1 k' u_4' (IntKind.wrap .i64 (x9 + 1)) w1
        )
      )
    )
  ) (
    R (.returned (.tuple #[.int .u64 0, .int .i64 0])) w1
  )
theorem sh_code_first_ok (b_0 : Sl) (w : World) (R : Ending → World → Prop) (h : sh_code_first b_0 w R) : Calls Try.prog 72 #[.slice b_0.base b_0.len b_0.cap] w R :=
  calls_of_sh (args := [.slice b_0.base b_0.len b_0.cap]) (.two .auto (.two .auto (.two (.two .auto (.one (.loop [(4, .int .u64 0), (9, .int .i64 0)] (.two .auto (.two (.two .auto .auto) (.two (.one (.two .auto (.two (.two .auto (.two (.two .auto .auto) .auto)) (.two .auto (.two .auto (.two (.two .auto .auto) .auto)))))) .auto)))))) (.two .auto .auto)))) Try.func72 (by kernel_rfl) (by kernel_rfl) (by kernel_rfl) h

/-- 73: (*buttery/code.rest).OK -/
def sh_code_rest_OK (r_0 : Option Addr) (w : World) (R : Ending → World → Prop) : Prop :=
  VNN (some (!r_0.isNone)) r_0 fun (a7 : Addr) =>
  VLd (some (!r_0.isNone)) w (Addr.add a7 1) [CT.bool] fun (v9 : Bool) =>
  R (.returned (.bool ((!r_0.isNone) && (!v9)))) w
theorem sh_code_rest_OK_ok (r_0 : Option Addr) (w : World) (R : Ending → World → Prop) (h : sh_code_rest_OK r_0 w R) : Calls Try.prog 73 #[.pointer r_0] w R :=
  calls_of_sh (args := [.pointer r_0]) (.two .auto (.two .auto .auto)) Try.func73 (by kernel_rfl) (by kernel_rfl) (by kernel_rfl) h

/-- 74: (*buttery/code.rest).Left -/
def sh_code_rest_Left (r_0 : Option Addr) (w : World) (R : Ending → World → Prop) : Prop :=
  VNN (some (!r_0.isNone)) r_0 fun (a7 : Addr) =>
  VLd (some (!r_0.isNone)) w (Addr.add a7 1) [CT.bool] fun (v9 : Bool) =>
  VIf (r_0.isNone || v9) (
    R (.returned (.int .i64 0)) w
  ) (
    VNN none r_0 fun (a12 : Addr) =>
    VLd none w a12 [CT.sl] fun (v14 : Sl) =>
    VSet ((v14.len : Nat) : Int) fun (v2 : Int) =>
    R (.returned (.int .i64 v2)) w
  )
theorem sh_code_rest_Left_ok (r_0 : Option Addr) (w : World) (R : Ending → World → Prop) (h : sh_code_rest_Left r_0 w R) : Calls Try.prog 74 #[.pointer r_0] w R :=
  calls_of_sh (args := [.pointer r_0]) (.two .auto (.two (.two .auto (.two (.two .auto .auto) .auto)) (.two .auto .auto))) Try.func74 (by kernel_rfl) (by kernel_rfl) (by kernel_rfl) h

end Go.Proofs.Ytkekjbdppabmhaa
