/-
  By program (own tool): what the code of each function asks, in plain text, and that it suffices (the kernel compares the two).
-/
import Derived.Test.YtknohdgcigcmdaaRows
import Derived.Test.YtknohdgcigcmdaaEngJ
import Derived.KernelRfl
namespace Go.Proofs.Ytknohdgcigcmdaa
open Go.RowKit
set_option maxRecDepth 100000

/-- 3: buttery/butterylaw06.NodeTurns -/
def sh_butterylaw06_NodeTurns (n_0_0 : Bool) (n_0_1 : Sl) (n_0_2 : Sl) (m_1_0 : Bool) (m_1_1 : Sl) (m_1_2 : Sl) (key_2 : ByteArray) (w : World) (R : Ending → World → Prop) : Prop :=
  VNw none w (.cells #[.bool n_0_0, .slice n_0_1.base n_0_1.len n_0_1.cap, .slice n_0_2.base n_0_2.len n_0_2.cap] 25) fun (n_3 : Nat) (w1 : World) =>
  VNw none w1 (.cells #[.bool m_1_0, .slice m_1_1.base m_1_1.len m_1_1.cap, .slice m_1_2.base m_1_2.len m_1_2.cap] 25) fun (m_4 : Nat) (w2 : World) =>
  VLd none w2 ⟨n_3, 0, none⟩ [CT.bool, CT.sl, CT.sl] fun (v20_0 : Bool) (v20_1 : Sl) (v20_2 : Sl) =>
  VCall none Try.prog 8 #[.agg #[.bool v20_0, .slice v20_1.base v20_1.len v20_1.cap, .slice v20_2.base v20_2.len v20_2.cap]] w2 (.bool false) fun (r21 : Bool) (w3 : World) =>
  VLd (some (!r21)) w3 ⟨m_4, 0, none⟩ [CT.bool, CT.sl, CT.sl] fun (v23_0 : Bool) (v23_1 : Sl) (v23_2 : Sl) =>
  VCall (some (!r21)) Try.prog 8 #[.agg #[.bool v23_0, .slice v23_1.base v23_1.len v23_1.cap, .slice v23_2.base v23_2.len v23_2.cap]] w3 (.bool false) fun (r24 : Bool) (w4 : World) =>
  VIf ((r21 || r24) || (decide (((key_2.size : Nat) : Int) > 2000))) (
    VCall none Try.prog 9 #[] w4 (.bool false) fun (r31 : Bool) (w5 : World) =>
    R (.returned (.bool r31)) w5
  ) (
    ∃ Φ1 : Option Addr → Option Addr → World → Prop, (
      ∀ (w6 : World), w6 = World.drew w4 →
      VLd none w6 ⟨n_3, 0, none⟩ [CT.bool, CT.sl, CT.sl] fun (v32_0 : Bool) (v32_1 : Sl) (v32_2 : Sl) =>
      VLd none w6 ⟨m_4, 0, none⟩ [CT.bool, CT.sl, CT.sl] fun (v34_0 : Bool) (v34_1 : Sl) (v34_2 : Sl) =>
      (
        VCall none Try.prog 10 #[.agg #[.bool v32_0, .slice v32_1.base v32_1.len v32_1.cap, .slice v32_2.base v32_2.len v32_2.cap]] w6 (.agg #[.bool false, .slice none 0 0, .slice none 0 0]) fun (r33_0 : Bool) (r33_1 : Sl) (r33_2 : Sl) (w7 : World) =>
        Rd w7 ⟨m_4, 0, none⟩ [.bool v34_0, .slice v34_1.base v34_1.len v34_1.cap, .slice v34_2.base v34_2.len v34_2.cap] ∧
        (
          VCall none Try.prog 10 #[.agg #[.bool v34_0, .slice v34_1.base v34_1.len v34_1.cap, .slice v34_2.base v34_2.len v34_2.cap]] w7 (.agg #[.bool false, .slice none 0 0, .slice none 0 0]) fun (r35_0 : Bool) (r35_1 : Sl) (r35_2 : Sl) (w8 : World) =>
          (
            VNw none w8 (.cells #[.bool false, .slice none 0 0, .slice none 0 0] 30) fun (in_7 : Nat) (w9 : World) =>
            VNw none w9 (.cells #[.bool false, .slice none 0 0, .slice none 0 0] 30) fun (other_8 : Nat) (w10 : World) =>
            VSt none w10 ⟨in_7, 0, none⟩ [.bool r33_0, .slice r33_1.base r33_1.len r33_1.cap, .slice r33_2.base r33_2.len r33_2.cap] fun (w11 : World) =>
            VSt none w11 ⟨other_8, 0, none⟩ [.bool r35_0, .slice r35_1.base r35_1.len r35_1.cap, .slice r35_2.base r35_2.len r35_2.cap] fun (w12 : World) =>
            Φ1 (some ⟨in_7, 0, none⟩) (some ⟨other_8, 0, none⟩) w12
          ) ∧ (
            VNw none w8 (.cells #[.bool false, .slice none 0 0, .slice none 0 0] 30) fun (other_8 : Nat) (w13 : World) =>
            VNw none w13 (.cells #[.bool false, .slice none 0 0, .slice none 0 0] 30) fun (in_7 : Nat) (w14 : World) =>
            VSt none w14 ⟨in_7, 0, none⟩ [.bool r33_0, .slice r33_1.base r33_1.len r33_1.cap, .slice r33_2.base r33_2.len r33_2.cap] fun (w15 : World) =>
            VSt none w15 ⟨other_8, 0, none⟩ [.bool r35_0, .slice r35_1.base r35_1.len r35_1.cap, .slice r35_2.base r35_2.len r35_2.cap] fun (w16 : World) =>
            Φ1 (some ⟨in_7, 0, none⟩) (some ⟨other_8, 0, none⟩) w16
          )
        ) ∧ (
        (
          VNw none w7 (.cells #[.bool false, .slice none 0 0, .slice none 0 0] 30) fun (in_7 : Nat) (w17 : World) =>
          Rd w17 ⟨m_4, 0, none⟩ [.bool v34_0, .slice v34_1.base v34_1.len v34_1.cap, .slice v34_2.base v34_2.len v34_2.cap] ∧
          (
            VCall none Try.prog 10 #[.agg #[.bool v34_0, .slice v34_1.base v34_1.len v34_1.cap, .slice v34_2.base v34_2.len v34_2.cap]] w17 (.agg #[.bool false, .slice none 0 0, .slice none 0 0]) fun (r35_0 : Bool) (r35_1 : Sl) (r35_2 : Sl) (w18 : World) =>
            VNw none w18 (.cells #[.bool false, .slice none 0 0, .slice none 0 0] 30) fun (other_8 : Nat) (w19 : World) =>
            VSt none w19 ⟨in_7, 0, none⟩ [.bool r33_0, .slice r33_1.base r33_1.len r33_1.cap, .slice r33_2.base r33_2.len r33_2.cap] fun (w20 : World) =>
            VSt none w20 ⟨other_8, 0, none⟩ [.bool r35_0, .slice r35_1.base r35_1.len r35_1.cap, .slice r35_2.base r35_2.len r35_2.cap] fun (w21 : World) =>
            Φ1 (some ⟨in_7, 0, none⟩) (some ⟨other_8, 0, none⟩) w21
          ) ∧ (
            VNw none w17 (.cells #[.bool false, .slice none 0 0, .slice none 0 0] 30) fun (other_8 : Nat) (w22 : World) =>
            Rd w22 ⟨m_4, 0, none⟩ [.bool v34_0, .slice v34_1.base v34_1.len v34_1.cap, .slice v34_2.base v34_2.len v34_2.cap] ∧
            VCall none Try.prog 10 #[.agg #[.bool v34_0, .slice v34_1.base v34_1.len v34_1.cap, .slice v34_2.base v34_2.len v34_2.cap]] w22 (.agg #[.bool false, .slice none 0 0, .slice none 0 0]) fun (r35_0 : Bool) (r35_1 : Sl) (r35_2 : Sl) (w23 : World) =>
            VSt none w23 ⟨in_7, 0, none⟩ [.bool r33_0, .slice r33_1.base r33_1.len r33_1.cap, .slice r33_2.base r33_2.len r33_2.cap] fun (w24 : World) =>
            VSt none w24 ⟨other_8, 0, none⟩ [.bool r35_0, .slice r35_1.base r35_1.len r35_1.cap, .slice r35_2.base r35_2.len r35_2.cap] fun (w25 : World) =>
            Φ1 (some ⟨in_7, 0, none⟩) (some ⟨other_8, 0, none⟩) w25
          )
        ) ∧ (
          VNw none w7 (.cells #[.bool false, .slice none 0 0, .slice none 0 0] 30) fun (other_8 : Nat) (w26 : World) =>
          Rd w26 ⟨m_4, 0, none⟩ [.bool v34_0, .slice v34_1.base v34_1.len v34_1.cap, .slice v34_2.base v34_2.len v34_2.cap] ∧
          (
            VCall none Try.prog 10 #[.agg #[.bool v34_0, .slice v34_1.base v34_1.len v34_1.cap, .slice v34_2.base v34_2.len v34_2.cap]] w26 (.agg #[.bool false, .slice none 0 0, .slice none 0 0]) fun (r35_0 : Bool) (r35_1 : Sl) (r35_2 : Sl) (w27 : World) =>
            VNw none w27 (.cells #[.bool false, .slice none 0 0, .slice none 0 0] 30) fun (in_7 : Nat) (w28 : World) =>
            VSt none w28 ⟨in_7, 0, none⟩ [.bool r33_0, .slice r33_1.base r33_1.len r33_1.cap, .slice r33_2.base r33_2.len r33_2.cap] fun (w29 : World) =>
            VSt none w29 ⟨other_8, 0, none⟩ [.bool r35_0, .slice r35_1.base r35_1.len r35_1.cap, .slice r35_2.base r35_2.len r35_2.cap] fun (w30 : World) =>
            Φ1 (some ⟨in_7, 0, none⟩) (some ⟨other_8, 0, none⟩) w30
          ) ∧ (
            VNw none w26 (.cells #[.bool false, .slice none 0 0, .slice none 0 0] 30) fun (in_7 : Nat) (w31 : World) =>
            Rd w31 ⟨m_4, 0, none⟩ [.bool v34_0, .slice v34_1.base v34_1.len v34_1.cap, .slice v34_2.base v34_2.len v34_2.cap] ∧
            VCall none Try.prog 10 #[.agg #[.bool v34_0, .slice v34_1.base v34_1.len v34_1.cap, .slice v34_2.base v34_2.len v34_2.cap]] w31 (.agg #[.bool false, .slice none 0 0, .slice none 0 0]) fun (r35_0 : Bool) (r35_1 : Sl) (r35_2 : Sl) (w32 : World) =>
            VSt none w32 ⟨in_7, 0, none⟩ [.bool r33_0, .slice r33_1.base r33_1.len r33_1.cap, .slice r33_2.base r33_2.len r33_2.cap] fun (w33 : World) =>
            VSt none w33 ⟨other_8, 0, none⟩ [.bool r35_0, .slice r35_1.base r35_1.len r35_1.cap, .slice r35_2.base r35_2.len r35_2.cap] fun (w34 : World) =>
            Φ1 (some ⟨in_7, 0, none⟩) (some ⟨other_8, 0, none⟩) w34
          )
        ))
      ) ∧ (
      (
        VNw none w6 (.cells #[.bool false, .slice none 0 0, .slice none 0 0] 30) fun (in_7 : Nat) (w35 : World) =>
        Rd w35 ⟨m_4, 0, none⟩ [.bool v34_0, .slice v34_1.base v34_1.len v34_1.cap, .slice v34_2.base v34_2.len v34_2.cap] ∧
        Rd w35 ⟨n_3, 0, none⟩ [.bool v32_0, .slice v32_1.base v32_1.len v32_1.cap, .slice v32_2.base v32_2.len v32_2.cap] ∧
        (
          VCall none Try.prog 10 #[.agg #[.bool v32_0, .slice v32_1.base v32_1.len v32_1.cap, .slice v32_2.base v32_2.len v32_2.cap]] w35 (.agg #[.bool false, .slice none 0 0, .slice none 0 0]) fun (r33_0 : Bool) (r33_1 : Sl) (r33_2 : Sl) (w36 : World) =>
          Rd w36 ⟨m_4, 0, none⟩ [.bool v34_0, .slice v34_1.base v34_1.len v34_1.cap, .slice v34_2.base v34_2.len v34_2.cap] ∧
          (
            VCall none Try.prog 10 #[.agg #[.bool v34_0, .slice v34_1.base v34_1.len v34_1.cap, .slice v34_2.base v34_2.len v34_2.cap]] w36 (.agg #[.bool false, .slice none 0 0, .slice none 0 0]) fun (r35_0 : Bool) (r35_1 : Sl) (r35_2 : Sl) (w37 : World) =>
            VNw none w37 (.cells #[.bool false, .slice none 0 0, .slice none 0 0] 30) fun (other_8 : Nat) (w38 : World) =>
            VSt none w38 ⟨in_7, 0, none⟩ [.bool r33_0, .slice r33_1.base r33_1.len r33_1.cap, .slice r33_2.base r33_2.len r33_2.cap] fun (w39 : World) =>
            VSt none w39 ⟨other_8, 0, none⟩ [.bool r35_0, .slice r35_1.base r35_1.len r35_1.cap, .slice r35_2.base r35_2.len r35_2.cap] fun (w40 : World) =>
            Φ1 (some ⟨in_7, 0, none⟩) (some ⟨other_8, 0, none⟩) w40
          ) ∧ (
            VNw none w36 (.cells #[.bool false, .slice none 0 0, .slice none 0 0] 30) fun (other_8 : Nat) (w41 : World) =>
            Rd w41 ⟨m_4, 0, none⟩ [.bool v34_0, .slice v34_1.base v34_1.len v34_1.cap, .slice v34_2.base v34_2.len v34_2.cap] ∧
            VCall none Try.prog 10 #[.agg #[.bool v34_0, .slice v34_1.base v34_1.len v34_1.cap, .slice v34_2.base v34_2.len v34_2.cap]] w41 (.agg #[.bool false, .slice none 0 0, .slice none 0 0]) fun (r35_0 : Bool) (r35_1 : Sl) (r35_2 : Sl) (w42 : World) =>
            VSt none w42 ⟨in_7, 0, none⟩ [.bool r33_0, .slice r33_1.base r33_1.len r33_1.cap, .slice r33_2.base r33_2.len r33_2.cap] fun (w43 : World) =>
            VSt none w43 ⟨other_8, 0, none⟩ [.bool r35_0, .slice r35_1.base r35_1.len r35_1.cap, .slice r35_2.base r35_2.len r35_2.cap] fun (w44 : World) =>
            Φ1 (some ⟨in_7, 0, none⟩) (some ⟨other_8, 0, none⟩) w44
          )
        ) ∧ (
          VNw none w35 (.cells #[.bool false, .slice none 0 0, .slice none 0 0] 30) fun (other_8 : Nat) (w45 : World) =>
          Rd w45 ⟨m_4, 0, none⟩ [.bool v34_0, .slice v34_1.base v34_1.len v34_1.cap, .slice v34_2.base v34_2.len v34_2.cap] ∧
          Rd w45 ⟨n_3, 0, none⟩ [.bool v32_0, .slice v32_1.base v32_1.len v32_1.cap, .slice v32_2.base v32_2.len v32_2.cap] ∧
          VCall none Try.prog 10 #[.agg #[.bool v32_0, .slice v32_1.base v32_1.len v32_1.cap, .slice v32_2.base v32_2.len v32_2.cap]] w45 (.agg #[.bool false, .slice none 0 0, .slice none 0 0]) fun (r33_0 : Bool) (r33_1 : Sl) (r33_2 : Sl) (w46 : World) =>
          Rd w46 ⟨m_4, 0, none⟩ [.bool v34_0, .slice v34_1.base v34_1.len v34_1.cap, .slice v34_2.base v34_2.len v34_2.cap] ∧
          VCall none Try.prog 10 #[.agg #[.bool v34_0, .slice v34_1.base v34_1.len v34_1.cap, .slice v34_2.base v34_2.len v34_2.cap]] w46 (.agg #[.bool false, .slice none 0 0, .slice none 0 0]) fun (r35_0 : Bool) (r35_1 : Sl) (r35_2 : Sl) (w47 : World) =>
          VSt none w47 ⟨in_7, 0, none⟩ [.bool r33_0, .slice r33_1.base r33_1.len r33_1.cap, .slice r33_2.base r33_2.len r33_2.cap] fun (w48 : World) =>
          VSt none w48 ⟨other_8, 0, none⟩ [.bool r35_0, .slice r35_1.base r35_1.len r35_1.cap, .slice r35_2.base r35_2.len r35_2.cap] fun (w49 : World) =>
          Φ1 (some ⟨in_7, 0, none⟩) (some ⟨other_8, 0, none⟩) w49
        )
      ) ∧ (
        VNw none w6 (.cells #[.bool false, .slice none 0 0, .slice none 0 0] 30) fun (other_8 : Nat) (w50 : World) =>
        Rd w50 ⟨m_4, 0, none⟩ [.bool v34_0, .slice v34_1.base v34_1.len v34_1.cap, .slice v34_2.base v34_2.len v34_2.cap] ∧
        Rd w50 ⟨n_3, 0, none⟩ [.bool v32_0, .slice v32_1.base v32_1.len v32_1.cap, .slice v32_2.base v32_2.len v32_2.cap] ∧
        (
          VCall none Try.prog 10 #[.agg #[.bool v32_0, .slice v32_1.base v32_1.len v32_1.cap, .slice v32_2.base v32_2.len v32_2.cap]] w50 (.agg #[.bool false, .slice none 0 0, .slice none 0 0]) fun (r33_0 : Bool) (r33_1 : Sl) (r33_2 : Sl) (w51 : World) =>
          Rd w51 ⟨m_4, 0, none⟩ [.bool v34_0, .slice v34_1.base v34_1.len v34_1.cap, .slice v34_2.base v34_2.len v34_2.cap] ∧
          (
            VCall none Try.prog 10 #[.agg #[.bool v34_0, .slice v34_1.base v34_1.len v34_1.cap, .slice v34_2.base v34_2.len v34_2.cap]] w51 (.agg #[.bool false, .slice none 0 0, .slice none 0 0]) fun (r35_0 : Bool) (r35_1 : Sl) (r35_2 : Sl) (w52 : World) =>
            VNw none w52 (.cells #[.bool false, .slice none 0 0, .slice none 0 0] 30) fun (in_7 : Nat) (w53 : World) =>
            VSt none w53 ⟨in_7, 0, none⟩ [.bool r33_0, .slice r33_1.base r33_1.len r33_1.cap, .slice r33_2.base r33_2.len r33_2.cap] fun (w54 : World) =>
            VSt none w54 ⟨other_8, 0, none⟩ [.bool r35_0, .slice r35_1.base r35_1.len r35_1.cap, .slice r35_2.base r35_2.len r35_2.cap] fun (w55 : World) =>
            Φ1 (some ⟨in_7, 0, none⟩) (some ⟨other_8, 0, none⟩) w55
          ) ∧ (
            VNw none w51 (.cells #[.bool false, .slice none 0 0, .slice none 0 0] 30) fun (in_7 : Nat) (w56 : World) =>
            Rd w56 ⟨m_4, 0, none⟩ [.bool v34_0, .slice v34_1.base v34_1.len v34_1.cap, .slice v34_2.base v34_2.len v34_2.cap] ∧
            VCall none Try.prog 10 #[.agg #[.bool v34_0, .slice v34_1.base v34_1.len v34_1.cap, .slice v34_2.base v34_2.len v34_2.cap]] w56 (.agg #[.bool false, .slice none 0 0, .slice none 0 0]) fun (r35_0 : Bool) (r35_1 : Sl) (r35_2 : Sl) (w57 : World) =>
            VSt none w57 ⟨in_7, 0, none⟩ [.bool r33_0, .slice r33_1.base r33_1.len r33_1.cap, .slice r33_2.base r33_2.len r33_2.cap] fun (w58 : World) =>
            VSt none w58 ⟨other_8, 0, none⟩ [.bool r35_0, .slice r35_1.base r35_1.len r35_1.cap, .slice r35_2.base r35_2.len r35_2.cap] fun (w59 : World) =>
            Φ1 (some ⟨in_7, 0, none⟩) (some ⟨other_8, 0, none⟩) w59
          )
        ) ∧ (
          VNw none w50 (.cells #[.bool false, .slice none 0 0, .slice none 0 0] 30) fun (in_7 : Nat) (w60 : World) =>
          Rd w60 ⟨m_4, 0, none⟩ [.bool v34_0, .slice v34_1.base v34_1.len v34_1.cap, .slice v34_2.base v34_2.len v34_2.cap] ∧
          Rd w60 ⟨n_3, 0, none⟩ [.bool v32_0, .slice v32_1.base v32_1.len v32_1.cap, .slice v32_2.base v32_2.len v32_2.cap] ∧
          VCall none Try.prog 10 #[.agg #[.bool v32_0, .slice v32_1.base v32_1.len v32_1.cap, .slice v32_2.base v32_2.len v32_2.cap]] w60 (.agg #[.bool false, .slice none 0 0, .slice none 0 0]) fun (r33_0 : Bool) (r33_1 : Sl) (r33_2 : Sl) (w61 : World) =>
          Rd w61 ⟨m_4, 0, none⟩ [.bool v34_0, .slice v34_1.base v34_1.len v34_1.cap, .slice v34_2.base v34_2.len v34_2.cap] ∧
          VCall none Try.prog 10 #[.agg #[.bool v34_0, .slice v34_1.base v34_1.len v34_1.cap, .slice v34_2.base v34_2.len v34_2.cap]] w61 (.agg #[.bool false, .slice none 0 0, .slice none 0 0]) fun (r35_0 : Bool) (r35_1 : Sl) (r35_2 : Sl) (w62 : World) =>
          VSt none w62 ⟨in_7, 0, none⟩ [.bool r33_0, .slice r33_1.base r33_1.len r33_1.cap, .slice r33_2.base r33_2.len r33_2.cap] fun (w63 : World) =>
          VSt none w63 ⟨other_8, 0, none⟩ [.bool r35_0, .slice r35_1.base r35_1.len r35_1.cap, .slice r35_2.base r35_2.len r35_2.cap] fun (w64 : World) =>
          Φ1 (some ⟨in_7, 0, none⟩) (some ⟨other_8, 0, none⟩) w64
        )
      ))
    ) ∧ ∀ (in_7 : Option Addr) (other_8 : Option Addr) (w65 : World), Φ1 in_7 other_8 w65 →
    onPtr in_7 fun (q_v37 : Addr) =>
    VLd none w65 q_v37 [CT.bool, CT.sl, CT.sl] fun (v37_0 : Bool) (v37_1 : Sl) (v37_2 : Sl) =>
    VCall none Try.prog 11 #[.agg #[.bool v37_0, .slice v37_1.base v37_1.len v37_1.cap, .slice v37_2.base v37_2.len v37_2.cap], .string key_2] w65 (.tuple #[.int .i64 0, .bool false]) fun (r39_0 : Int) (r39_1 : Bool) (w66 : World) =>
    VSet r39_0 fun (i_9 : Int) =>
    VLd none w66 ⟨n_3, 0, none⟩ [CT.bool, CT.sl, CT.sl] fun (v43_0 : Bool) (v43_1 : Sl) (v43_2 : Sl) =>
    VCall none Try.prog 12 #[.agg #[.bool v43_0, .slice v43_1.base v43_1.len v43_1.cap, .slice v43_2.base v43_2.len v43_2.cap], .string key_2] w66 (.tuple #[.int .i64 0, .bool false]) fun (r45_0 : Int) (r45_1 : Bool) (w67 : World) =>
    VSet r45_0 fun (j_11 : Int) =>
    VIf ((i_9 != j_11) || (!(r39_1 == r45_1))) (
      R (.returned (.bool false)) w67
    ) (
      onPtr in_7 fun (q_v57 : Addr) =>
      VLd none w67 q_v57 [CT.bool, CT.sl, CT.sl] fun (v57_0 : Bool) (v57_1 : Sl) (v57_2 : Sl) =>
      VCall none Try.prog 13 #[.agg #[.bool v57_0, .slice v57_1.base v57_1.len v57_1.cap, .slice v57_2.base v57_2.len v57_2.cap]] w67 (.tuple #[.agg #[.bool false, .slice none 0 0, .slice none 0 0], .string ByteArray.empty, .agg #[.bool false, .slice none 0 0, .slice none 0 0]]) fun (r58_0 : Bool) (r58_1 : Sl) (r58_2 : Sl) (r58_3 : ByteArray) (r58_4 : Bool) (r58_5 : Sl) (r58_6 : Sl) (w68 : World) =>
      VNw none w68 (.cells #[.bool false, .slice none 0 0, .slice none 0 0] 30) fun (a_13 : Nat) (w69 : World) =>
      VNw none w69 (.cells #[.bool false, .slice none 0 0, .slice none 0 0] 30) fun (b_15 : Nat) (w70 : World) =>
      VSt none w70 ⟨a_13, 0, none⟩ [.bool r58_0, .slice r58_1.base r58_1.len r58_1.cap, .slice r58_2.base r58_2.len r58_2.cap] fun (w71 : World) =>
      VSt none w71 ⟨b_15, 0, none⟩ [.bool r58_4, .slice r58_5.base r58_5.len r58_5.cap, .slice r58_6.base r58_6.len r58_6.cap] fun (w72 : World) =>
      VLd none w72 ⟨n_3, 0, none⟩ [CT.bool, CT.sl, CT.sl] fun (v63_0 : Bool) (v63_1 : Sl) (v63_2 : Sl) =>
      VCall none Try.prog 14 #[.agg #[.bool v63_0, .slice v63_1.base v63_1.len v63_1.cap, .slice v63_2.base v63_2.len v63_2.cap]] w72 (.tuple #[.agg #[.bool false, .slice none 0 0, .slice none 0 0], .string ByteArray.empty, .agg #[.bool false, .slice none 0 0, .slice none 0 0]]) fun (r64_0 : Bool) (r64_1 : Sl) (r64_2 : Sl) (r64_3 : ByteArray) (r64_4 : Bool) (r64_5 : Sl) (r64_6 : Sl) (w73 : World) =>
      VNw none w73 (.cells #[.bool false, .slice none 0 0, .slice none 0 0] 25) fun (c_16 : Nat) (w74 : World) =>
      VNw none w74 (.cells #[.bool false, .slice none 0 0, .slice none 0 0] 25) fun (d_18 : Nat) (w75 : World) =>
      VSt none w75 ⟨c_16, 0, none⟩ [.bool r64_0, .slice r64_1.base r64_1.len r64_1.cap, .slice r64_2.base r64_2.len r64_2.cap] fun (w76 : World) =>
      VSt none w76 ⟨d_18, 0, none⟩ [.bool r64_4, .slice r64_5.base r64_5.len r64_5.cap, .slice r64_6.base r64_6.len r64_6.cap] fun (w77 : World) =>
      onPtr in_7 fun (q_v68 : Addr) =>
      VLd none w77 q_v68 [CT.bool, CT.sl, CT.sl] fun (v68_0 : Bool) (v68_1 : Sl) (v68_2 : Sl) =>
      onPtr other_8 fun (q_v70 : Addr) =>
      VLd none w77 q_v70 [CT.bool, CT.sl, CT.sl] fun (v70_0 : Bool) (v70_1 : Sl) (v70_2 : Sl) =>
      VCall none Try.prog 15 #[.agg #[.bool v68_0, .slice v68_1.base v68_1.len v68_1.cap, .slice v68_2.base v68_2.len v68_2.cap], .string key_2, .agg #[.bool v70_0, .slice v70_1.base v70_1.len v70_1.cap, .slice v70_2.base v70_2.len v70_2.cap]] w77 (.agg #[.bool false, .slice none 0 0, .slice none 0 0]) fun (r71_0 : Bool) (r71_1 : Sl) (r71_2 : Sl) (w78 : World) =>
      VNw none w78 (.cells #[.bool false, .slice none 0 0, .slice none 0 0] 30) fun (x_19 : Nat) (w79 : World) =>
      VSt none w79 ⟨x_19, 0, none⟩ [.bool r71_0, .slice r71_1.base r71_1.len r71_1.cap, .slice r71_2.base r71_2.len r71_2.cap] fun (w80 : World) =>
      ∀ (w81 : World), w81 = World.drew w80 →
      VLd (some (!(!(r58_3.toList == r64_3.toList)))) w81 ⟨a_13, 0, none⟩ [CT.bool, CT.sl, CT.sl] fun (v76_0 : Bool) (v76_1 : Sl) (v76_2 : Sl) =>
      VLd (some (!(!(r58_3.toList == r64_3.toList)))) w81 ⟨c_16, 0, none⟩ [CT.bool, CT.sl, CT.sl] fun (v78_0 : Bool) (v78_1 : Sl) (v78_2 : Sl) =>
      VCall (some (!(!(r58_3.toList == r64_3.toList)))) Try.prog 17 #[.agg #[.bool v76_0, .slice v76_1.base v76_1.len v76_1.cap, .slice v76_2.base v76_2.len v76_2.cap]] w81 (.agg #[.bool false, .slice none 0 0, .slice none 0 0]) fun (r77_0 : Bool) (r77_1 : Sl) (r77_2 : Sl) (w82 : World) =>
      ((!(!(r58_3.toList == r64_3.toList))) = true → Rd w82 ⟨c_16, 0, none⟩ [.bool v78_0, .slice v78_1.base v78_1.len v78_1.cap, .slice v78_2.base v78_2.len v78_2.cap]) ∧
      VCall (some (!(!(r58_3.toList == r64_3.toList)))) Try.prog 16 #[.agg #[.bool r77_0, .slice r77_1.base r77_1.len r77_1.cap, .slice r77_2.base r77_2.len r77_2.cap], .agg #[.bool v78_0, .slice v78_1.base v78_1.len v78_1.cap, .slice v78_2.base v78_2.len v78_2.cap]] w82 (.bool false) fun (r79 : Bool) (w83 : World) =>
      VLd (some (!((!(r58_3.toList == r64_3.toList)) || (!r79)))) w83 ⟨b_15, 0, none⟩ [CT.bool, CT.sl, CT.sl] fun (v83_0 : Bool) (v83_1 : Sl) (v83_2 : Sl) =>
      VLd (some (!((!(r58_3.toList == r64_3.toList)) || (!r79)))) w83 ⟨d_18, 0, none⟩ [CT.bool, CT.sl, CT.sl] fun (v85_0 : Bool) (v85_1 : Sl) (v85_2 : Sl) =>
      VCall (some (!((!(r58_3.toList == r64_3.toList)) || (!r79)))) Try.prog 17 #[.agg #[.bool v83_0, .slice v83_1.base v83_1.len v83_1.cap, .slice v83_2.base v83_2.len v83_2.cap]] w83 (.agg #[.bool false, .slice none 0 0, .slice none 0 0]) fun (r84_0 : Bool) (r84_1 : Sl) (r84_2 : Sl) (w84 : World) =>
      ((!((!(r58_3.toList == r64_3.toList)) || (!r79))) = true → Rd w84 ⟨d_18, 0, none⟩ [.bool v85_0, .slice v85_1.base v85_1.len v85_1.cap, .slice v85_2.base v85_2.len v85_2.cap]) ∧
      VCall (some (!((!(r58_3.toList == r64_3.toList)) || (!r79)))) Try.prog 16 #[.agg #[.bool r84_0, .slice r84_1.base r84_1.len r84_1.cap, .slice r84_2.base r84_2.len r84_2.cap], .agg #[.bool v85_0, .slice v85_1.base v85_1.len v85_1.cap, .slice v85_2.base v85_2.len v85_2.cap]] w84 (.bool false) fun (r86 : Bool) (w85 : World) =>
      VLd (some (!(((!(r58_3.toList == r64_3.toList)) || (!r79)) || (!r86)))) w85 ⟨x_19, 0, none⟩ [CT.bool, CT.sl, CT.sl] fun (v90_0 : Bool) (v90_1 : Sl) (v90_2 : Sl) =>
      VLd (some (!(((!(r58_3.toList == r64_3.toList)) || (!r79)) || (!r86)))) w85 ⟨n_3, 0, none⟩ [CT.bool, CT.sl, CT.sl] fun (v92_0 : Bool) (v92_1 : Sl) (v92_2 : Sl) =>
      VLd (some (!(((!(r58_3.toList == r64_3.toList)) || (!r79)) || (!r86)))) w85 ⟨m_4, 0, none⟩ [CT.bool, CT.sl, CT.sl] fun (v94_0 : Bool) (v94_1 : Sl) (v94_2 : Sl) =>
      VCall (some (!(((!(r58_3.toList == r64_3.toList)) || (!r79)) || (!r86)))) Try.prog 17 #[.agg #[.bool v90_0, .slice v90_1.base v90_1.len v90_1.cap, .slice v90_2.base v90_2.len v90_2.cap]] w85 (.agg #[.bool false, .slice none 0 0, .slice none 0 0]) fun (r91_0 : Bool) (r91_1 : Sl) (r91_2 : Sl) (w86 : World) =>
      ((!(((!(r58_3.toList == r64_3.toList)) || (!r79)) || (!r86))) = true → Rd w86 ⟨m_4, 0, none⟩ [.bool v94_0, .slice v94_1.base v94_1.len v94_1.cap, .slice v94_2.base v94_2.len v94_2.cap]) ∧
      ((!(((!(r58_3.toList == r64_3.toList)) || (!r79)) || (!r86))) = true → Rd w86 ⟨n_3, 0, none⟩ [.bool v92_0, .slice v92_1.base v92_1.len v92_1.cap, .slice v92_2.base v92_2.len v92_2.cap]) ∧
      VCall (some (!(((!(r58_3.toList == r64_3.toList)) || (!r79)) || (!r86)))) Try.prog 18 #[.agg #[.bool v92_0, .slice v92_1.base v92_1.len v92_1.cap, .slice v92_2.base v92_2.len v92_2.cap], .string key_2, .agg #[.bool v94_0, .slice v94_1.base v94_1.len v94_1.cap, .slice v94_2.base v94_2.len v94_2.cap]] w86 (.agg #[.bool false, .slice none 0 0, .slice none 0 0]) fun (r95_0 : Bool) (r95_1 : Sl) (r95_2 : Sl) (w87 : World) =>
      VCall (some (!(((!(r58_3.toList == r64_3.toList)) || (!r79)) || (!r86)))) Try.prog 16 #[.agg #[.bool r91_0, .slice r91_1.base r91_1.len r91_1.cap, .slice r91_2.base r91_2.len r91_2.cap], .agg #[.bool r95_0, .slice r95_1.base r95_1.len r95_1.cap, .slice r95_2.base r95_2.len r95_2.cap]] w87 (.bool false) fun (r96 : Bool) (w88 : World) =>
      VIf ((((!(r58_3.toList == r64_3.toList)) || (!r79)) || (!r86)) || (!r96)) (
        R (.returned (.bool false)) w88
      ) (
        ∀ (w89 : World), w89 = World.drew w88 →
        VLd none w89 ⟨a_13, 0, none⟩ [CT.bool, CT.sl, CT.sl] fun (v99_0 : Bool) (v99_1 : Sl) (v99_2 : Sl) =>
        VCall none Try.prog 19 #[.agg #[.bool v99_0, .slice v99_1.base v99_1.len v99_1.cap, .slice v99_2.base v99_2.len v99_2.cap]] w89 (.int .i64 0) fun (r100 : Int) (w90 : World) =>
        VLd (some (!(decide (r100 < 0)))) w90 ⟨b_15, 0, none⟩ [CT.bool, CT.sl, CT.sl] fun (v103_0 : Bool) (v103_1 : Sl) (v103_2 : Sl) =>
        VLd (some (!(decide (r100 < 0)))) w90 ⟨d_18, 0, none⟩ [CT.bool, CT.sl, CT.sl] fun (v105_0 : Bool) (v105_1 : Sl) (v105_2 : Sl) =>
        VCall (some (!(decide (r100 < 0)))) Try.prog 17 #[.agg #[.bool v103_0, .slice v103_1.base v103_1.len v103_1.cap, .slice v103_2.base v103_2.len v103_2.cap]] w90 (.agg #[.bool false, .slice none 0 0, .slice none 0 0]) fun (r104_0 : Bool) (r104_1 : Sl) (r104_2 : Sl) (w91 : World) =>
        ((!(decide (r100 < 0))) = true → Rd w91 ⟨d_18, 0, none⟩ [.bool v105_0, .slice v105_1.base v105_1.len v105_1.cap, .slice v105_2.base v105_2.len v105_2.cap]) ∧
        VCall (some (!(decide (r100 < 0)))) Try.prog 16 #[.agg #[.bool r104_0, .slice r104_1.base r104_1.len r104_1.cap, .slice r104_2.base r104_2.len r104_2.cap], .agg #[.bool v105_0, .slice v105_1.base v105_1.len v105_1.cap, .slice v105_2.base v105_2.len v105_2.cap]] w91 (.bool false) fun (r106 : Bool) (w92 : World) =>
        VLd (some (!((decide (r100 < 0)) || (!r106)))) w92 ⟨b_15, 0, none⟩ [CT.bool, CT.sl, CT.sl] fun (v110_0 : Bool) (v110_1 : Sl) (v110_2 : Sl) =>
        VLd (some (!((decide (r100 < 0)) || (!r106)))) w92 ⟨x_19, 0, none⟩ [CT.bool, CT.sl, CT.sl] fun (v112_0 : Bool) (v112_1 : Sl) (v112_2 : Sl) =>
        VCall (some (!((decide (r100 < 0)) || (!r106)))) Try.prog 19 #[.agg #[.bool v110_0, .slice v110_1.base v110_1.len v110_1.cap, .slice v110_2.base v110_2.len v110_2.cap]] w92 (.int .i64 0) fun (r111 : Int) (w93 : World) =>
        ((!((decide (r100 < 0)) || (!r106))) = true → Rd w93 ⟨x_19, 0, none⟩ [.bool v112_0, .slice v112_1.base v112_1.len v112_1.cap, .slice v112_2.base v112_2.len v112_2.cap]) ∧
        VCall (some (!((decide (r100 < 0)) || (!r106)))) Try.prog 19 #[.agg #[.bool v112_0, .slice v112_1.base v112_1.len v112_1.cap, .slice v112_2.base v112_2.len v112_2.cap]] w93 (.int .i64 0) fun (r113 : Int) (w94 : World) =>
        VIf (((decide (r100 < 0)) || (!r106)) || (decide ((IntKind.wrap .i64 (r111 + r113)) < 0))) (
          R (.returned (.bool false)) w94
        ) (
          ∀ (w95 : World), w95 = World.drew w94 →
          onPtr in_7 fun (q_v117 : Addr) =>
          VLd none w95 q_v117 [CT.bool, CT.sl, CT.sl] fun (v117_0 : Bool) (v117_1 : Sl) (v117_2 : Sl) =>
          VLd none w95 ⟨n_3, 0, none⟩ [CT.bool, CT.sl, CT.sl] fun (v119_0 : Bool) (v119_1 : Sl) (v119_2 : Sl) =>
          VCall none Try.prog 17 #[.agg #[.bool v117_0, .slice v117_1.base v117_1.len v117_1.cap, .slice v117_2.base v117_2.len v117_2.cap]] w95 (.agg #[.bool false, .slice none 0 0, .slice none 0 0]) fun (r118_0 : Bool) (r118_1 : Sl) (r118_2 : Sl) (w96 : World) =>
          Rd w96 ⟨n_3, 0, none⟩ [.bool v119_0, .slice v119_1.base v119_1.len v119_1.cap, .slice v119_2.base v119_2.len v119_2.cap] ∧
          VCall none Try.prog 16 #[.agg #[.bool r118_0, .slice r118_1.base r118_1.len r118_1.cap, .slice r118_2.base r118_2.len r118_2.cap], .agg #[.bool v119_0, .slice v119_1.base v119_1.len v119_1.cap, .slice v119_2.base v119_2.len v119_2.cap]] w96 (.bool false) fun (r120 : Bool) (w97 : World) =>
          onPtr other_8 fun (q_v122 : Addr) =>
          VLd (some r120) w97 q_v122 [CT.bool, CT.sl, CT.sl] fun (v122_0 : Bool) (v122_1 : Sl) (v122_2 : Sl) =>
          VLd (some r120) w97 ⟨m_4, 0, none⟩ [CT.bool, CT.sl, CT.sl] fun (v124_0 : Bool) (v124_1 : Sl) (v124_2 : Sl) =>
          VCall (some r120) Try.prog 17 #[.agg #[.bool v122_0, .slice v122_1.base v122_1.len v122_1.cap, .slice v122_2.base v122_2.len v122_2.cap]] w97 (.agg #[.bool false, .slice none 0 0, .slice none 0 0]) fun (r123_0 : Bool) (r123_1 : Sl) (r123_2 : Sl) (w98 : World) =>
          (r120 = true → Rd w98 ⟨m_4, 0, none⟩ [.bool v124_0, .slice v124_1.base v124_1.len v124_1.cap, .slice v124_2.base v124_2.len v124_2.cap]) ∧
          VCall (some r120) Try.prog 16 #[.agg #[.bool r123_0, .slice r123_1.base r123_1.len r123_1.cap, .slice r123_2.base r123_2.len r123_2.cap], .agg #[.bool v124_0, .slice v124_1.base v124_1.len v124_1.cap, .slice v124_2.base v124_2.len v124_2.cap]] w98 (.bool false) fun (r125 : Bool) (w99 : World) =>
          VCall (some (r120 && r125)) Try.prog 9 #[] w99 (.bool false) fun (r128 : Bool) (w100 : World) =>
          R (.returned (.bool ((r120 && r125) && r128))) w100
        )
      )
    )
  )
theorem sh_butterylaw06_NodeTurns_ok (n_0_0 : Bool) (n_0_1 : Sl) (n_0_2 : Sl) (m_1_0 : Bool) (m_1_1 : Sl) (m_1_2 : Sl) (key_2 : ByteArray) (w : World) (R : Ending → World → Prop) (h : sh_butterylaw06_NodeTurns n_0_0 n_0_1 n_0_2 m_1_0 m_1_1 m_1_2 key_2 w R) : Calls Try.prog 3 #[.agg #[.bool n_0_0, .slice n_0_1.base n_0_1.len n_0_1.cap, .slice n_0_2.base n_0_2.len n_0_2.cap], .agg #[.bool m_1_0, .slice m_1_1.base m_1_1.len m_1_1.cap, .slice m_1_2.base m_1_2.len m_1_2.cap], .string key_2] w R :=
  calls_of_sh (args := [.agg #[.bool n_0_0, .slice n_0_1.base n_0_1.len n_0_1.cap, .slice n_0_2.base n_0_2.len n_0_2.cap], .agg #[.bool m_1_0, .slice m_1_1.base m_1_1.len m_1_1.cap, .slice m_1_2.base m_1_2.len m_1_2.cap], .string key_2]) (.two .auto (.two (.two .auto (.two (.two .auto .auto) .auto)) (.two (.bjoin [(7, .pointer none), (8, .pointer none)] .auto) (.two .auto (.two .auto (.two (.two .auto (.two (.two .auto .auto) .auto)) (.two .auto (.two .auto (.two .auto (.two (.two .auto (.two (.two .auto .auto) .auto)) (.two (.two .auto (.two (.two .auto .auto) .auto)) (.two .auto .auto)))))))))))) Try.func3 (by kernel_rfl) (by kernel_rfl) (by kernel_rfl) h

/-- 4: buttery/butterylaw06.NodeHalves -/
def sh_butterylaw06_NodeHalves (n_0_0 : Bool) (n_0_1 : Sl) (n_0_2 : Sl) (w : World) (R : Ending → World → Prop) : Prop :=
  VNw none w (.cells #[.bool n_0_0, .slice n_0_1.base n_0_1.len n_0_1.cap, .slice n_0_2.base n_0_2.len n_0_2.cap] 25) fun (n_1 : Nat) (w1 : World) =>
  VLd none w1 ⟨n_1, 0, none⟩ [CT.bool, CT.sl, CT.sl] fun (v13_0 : Bool) (v13_1 : Sl) (v13_2 : Sl) =>
  VCall none Try.prog 8 #[.agg #[.bool v13_0, .slice v13_1.base v13_1.len v13_1.cap, .slice v13_2.base v13_2.len v13_2.cap]] w1 (.bool false) fun (r14 : Bool) (w2 : World) =>
  VCall (some (!r14)) Try.prog 9 #[] w2 (.bool false) fun (r16 : Bool) (w3 : World) =>
  VIf (r14 || (!r16)) (
    VCall none Try.prog 9 #[] w3 (.bool false) fun (r19 : Bool) (w4 : World) =>
    R (.returned (.bool r19)) w4
  ) (
    VLd none w3 ⟨n_1, 0, none⟩ [CT.bool, CT.sl, CT.sl] fun (v20_0 : Bool) (v20_1 : Sl) (v20_2 : Sl) =>
    VCall none Try.prog 10 #[.agg #[.bool v20_0, .slice v20_1.base v20_1.len v20_1.cap, .slice v20_2.base v20_2.len v20_2.cap]] w3 (.agg #[.bool false, .slice none 0 0, .slice none 0 0]) fun (r21_0 : Bool) (r21_1 : Sl) (r21_2 : Sl) (w5 : World) =>
    VNw none w5 (.cells #[.bool false, .slice none 0 0, .slice none 0 0] 30) fun (in_3 : Nat) (w6 : World) =>
    VSt none w6 ⟨in_3, 0, none⟩ [.bool r21_0, .slice r21_1.base r21_1.len r21_1.cap, .slice r21_2.base r21_2.len r21_2.cap] fun (w7 : World) =>
    VLd none w7 ⟨in_3, 0, none⟩ [CT.bool, CT.sl, CT.sl] fun (v22_0 : Bool) (v22_1 : Sl) (v22_2 : Sl) =>
    VCall none Try.prog 20 #[.agg #[.bool v22_0, .slice v22_1.base v22_1.len v22_1.cap, .slice v22_2.base v22_2.len v22_2.cap]] w7 (.bool false) fun (r23 : Bool) (w8 : World) =>
    VIf (!r23) (
      R (.returned (.bool true)) w8
    ) (
      ∃ I1 : Nat → Int → World → Prop, (∃ k, I1 k 0 w8) ∧ ∀ k1 (i_4 : Int) (w9 : World), I1 k1 i_4 w9 →
      VLd none w9 ⟨n_1, 1, none⟩ [CT.sl] fun (v27 : Sl) =>
      VIf (decide (i_4 < ((v27.len : Nat) : Int))) (
        ∀ (w10 : World), w10 = World.drew w9 →
        VLd none w10 ⟨in_3, 0, none⟩ [CT.bool, CT.sl, CT.sl] fun (v33_0 : Bool) (v33_1 : Sl) (v33_2 : Sl) =>
        VLd none w10 ⟨n_1, 1, none⟩ [CT.sl] fun (v35 : Sl) =>
        VIx none v35.base v35.len i_4 fun (a37 : Addr) =>
        VLd none w10 (Addr.add a37 ((Int.toNat i_4) * 4)) [CT.str] fun (v39 : ByteArray) =>
        VCall none Try.prog 11 #[.agg #[.bool v33_0, .slice v33_1.base v33_1.len v33_1.cap, .slice v33_2.base v33_2.len v33_2.cap], .string v39] w10 (.tuple #[.int .i64 0, .bool false]) fun (r40_0 : Int) (r40_1 : Bool) (w11 : World) =>
        VSet r40_0 fun (k_5 : Int) =>
        VIf ((k_5 != i_4) || (!r40_1)) (
          R (.returned (.bool false)) w11
        ) (
          VSet (IntKind.wrap .i64 (i_4 + 1)) fun (i_4' : Int) =>
          ∃ k', k' < k1 ∧ I1 k' i_4' w11
        )
      ) (
        VLd none w9 ⟨in_3, 0, none⟩ [CT.bool, CT.sl, CT.sl] fun (v51_0 : Bool) (v51_1 : Sl) (v51_2 : Sl) =>
        VCall none Try.prog 13 #[.agg #[.bool v51_0, .slice v51_1.base v51_1.len v51_1.cap, .slice v51_2.base v51_2.len v51_2.cap]] w9 (.tuple #[.agg #[.bool false, .slice none 0 0, .slice none 0 0], .string ByteArray.empty, .agg #[.bool false, .slice none 0 0, .slice none 0 0]]) fun (r52_0 : Bool) (r52_1 : Sl) (r52_2 : Sl) (r52_3 : ByteArray) (r52_4 : Bool) (r52_5 : Sl) (r52_6 : Sl) (w12 : World) =>
        VNw none w12 (.cells #[.bool false, .slice none 0 0, .slice none 0 0] 30) fun (a_7 : Nat) (w13 : World) =>
        VNw none w13 (.cells #[.bool false, .slice none 0 0, .slice none 0 0] 30) fun (b_9 : Nat) (w14 : World) =>
        VSt none w14 ⟨a_7, 0, none⟩ [.bool r52_0, .slice r52_1.base r52_1.len r52_1.cap, .slice r52_2.base r52_2.len r52_2.cap] fun (w15 : World) =>
        VSt none w15 ⟨b_9, 0, none⟩ [.bool r52_4, .slice r52_5.base r52_5.len r52_5.cap, .slice r52_6.base r52_6.len r52_6.cap] fun (w16 : World) =>
        VLd none w16 ⟨n_1, 0, none⟩ [CT.bool] fun (v57 : Bool) =>
        VLd (some v57) w16 ⟨n_1, 1, none⟩ [CT.sl] fun (v60 : Sl) =>
        VLd (some (!(v57 && (decide (((v60.len : Nat) : Int) < 2))))) w16 ⟨n_1, 1, none⟩ [CT.sl] fun (v66 : Sl) =>
        VIf ((v57 && (decide (((v60.len : Nat) : Int) < 2))) || (decide (((v66.len : Nat) : Int) < 1))) (
          ∀ (w17 : World), w17 = World.drew w16 →
          VLd none w17 ⟨a_7, 0, none⟩ [CT.bool, CT.sl, CT.sl] fun (v70_0 : Bool) (v70_1 : Sl) (v70_2 : Sl) =>
          VLd none w17 ⟨n_1, 0, none⟩ [CT.bool, CT.sl, CT.sl] fun (v72_0 : Bool) (v72_1 : Sl) (v72_2 : Sl) =>
          VCall none Try.prog 17 #[.agg #[.bool v70_0, .slice v70_1.base v70_1.len v70_1.cap, .slice v70_2.base v70_2.len v70_2.cap]] w17 (.agg #[.bool false, .slice none 0 0, .slice none 0 0]) fun (r71_0 : Bool) (r71_1 : Sl) (r71_2 : Sl) (w18 : World) =>
          Rd w18 ⟨n_1, 0, none⟩ [.bool v72_0, .slice v72_1.base v72_1.len v72_1.cap, .slice v72_2.base v72_2.len v72_2.cap] ∧
          VCall none Try.prog 16 #[.agg #[.bool r71_0, .slice r71_1.base r71_1.len r71_1.cap, .slice r71_2.base r71_2.len r71_2.cap], .agg #[.bool v72_0, .slice v72_1.base v72_1.len v72_1.cap, .slice v72_2.base v72_2.len v72_2.cap]] w18 (.bool false) fun (r73 : Bool) (w19 : World) =>
          VLd (some (r73 && (r52_3.toList == (ByteArray.mk #[]).toList))) w19 ⟨b_9, 0, none⟩ [CT.bool] fun (v80 : Bool) =>
          VLd (some ((r73 && (r52_3.toList == (ByteArray.mk #[]).toList)) && (!v80))) w19 ⟨b_9, 1, none⟩ [CT.sl] fun (v85 : Sl) =>
          VLd (some ((r73 && (r52_3.toList == (ByteArray.mk #[]).toList)) && (!v80))) w19 ⟨b_9, 2, none⟩ [CT.sl] fun (v88 : Sl) =>
          R (.returned (.bool (((r73 && (r52_3.toList == (ByteArray.mk #[]).toList)) && (!v80)) && ((IntKind.wrap .i64 (((v85.len : Nat) : Int) + ((v88.len : Nat) : Int))) == 0)))) w19
        ) (
          ∀ (w20 : World), w20 = World.drew w16 →
          VLd none w20 ⟨a_7, 0, none⟩ [CT.bool, CT.sl, CT.sl] fun (v93_0 : Bool) (v93_1 : Sl) (v93_2 : Sl) =>
          VCall none Try.prog 20 #[.agg #[.bool v93_0, .slice v93_1.base v93_1.len v93_1.cap, .slice v93_2.base v93_2.len v93_2.cap]] w20 (.bool false) fun (r94 : Bool) (w21 : World) =>
          VLd (some (!(!r94))) w21 ⟨b_9, 0, none⟩ [CT.bool, CT.sl, CT.sl] fun (v97_0 : Bool) (v97_1 : Sl) (v97_2 : Sl) =>
          VCall (some (!(!r94))) Try.prog 20 #[.agg #[.bool v97_0, .slice v97_1.base v97_1.len v97_1.cap, .slice v97_2.base v97_2.len v97_2.cap]] w21 (.bool false) fun (r98 : Bool) (w22 : World) =>
          VLd (some (!((!r94) || (!r98)))) w22 ⟨a_7, 0, none⟩ [CT.bool, CT.sl, CT.sl] fun (v102_0 : Bool) (v102_1 : Sl) (v102_2 : Sl) =>
          VLd (some (!((!r94) || (!r98)))) w22 ⟨b_9, 0, none⟩ [CT.bool, CT.sl, CT.sl] fun (v104_0 : Bool) (v104_1 : Sl) (v104_2 : Sl) =>
          VLd (some (!((!r94) || (!r98)))) w22 ⟨n_1, 0, none⟩ [CT.bool, CT.sl, CT.sl] fun (v107_0 : Bool) (v107_1 : Sl) (v107_2 : Sl) =>
          VCall (some (!((!r94) || (!r98)))) Try.prog 15 #[.agg #[.bool v102_0, .slice v102_1.base v102_1.len v102_1.cap, .slice v102_2.base v102_2.len v102_2.cap], .string r52_3, .agg #[.bool v104_0, .slice v104_1.base v104_1.len v104_1.cap, .slice v104_2.base v104_2.len v104_2.cap]] w22 (.agg #[.bool false, .slice none 0 0, .slice none 0 0]) fun (r105_0 : Bool) (r105_1 : Sl) (r105_2 : Sl) (w23 : World) =>
          ((!((!r94) || (!r98))) = true → Rd w23 ⟨n_1, 0, none⟩ [.bool v107_0, .slice v107_1.base v107_1.len v107_1.cap, .slice v107_2.base v107_2.len v107_2.cap]) ∧
          VCall (some (!((!r94) || (!r98)))) Try.prog 17 #[.agg #[.bool r105_0, .slice r105_1.base r105_1.len r105_1.cap, .slice r105_2.base r105_2.len r105_2.cap]] w23 (.agg #[.bool false, .slice none 0 0, .slice none 0 0]) fun (r106_0 : Bool) (r106_1 : Sl) (r106_2 : Sl) (w24 : World) =>
          ((!((!r94) || (!r98))) = true → Rd w24 ⟨n_1, 0, none⟩ [.bool v107_0, .slice v107_1.base v107_1.len v107_1.cap, .slice v107_2.base v107_2.len v107_2.cap]) ∧
          VCall (some (!((!r94) || (!r98)))) Try.prog 16 #[.agg #[.bool r106_0, .slice r106_1.base r106_1.len r106_1.cap, .slice r106_2.base r106_2.len r106_2.cap], .agg #[.bool v107_0, .slice v107_1.base v107_1.len v107_1.cap, .slice v107_2.base v107_2.len v107_2.cap]] w24 (.bool false) fun (r108 : Bool) (w25 : World) =>
          VIf (((!r94) || (!r98)) || (!r108)) (
            R (.returned (.bool false)) w25
          ) (
            ∃ I2 : Nat → Int → World → Prop, (∃ k, I2 k 0 w25) ∧ ∀ k2 (i_10 : Int) (w26 : World), I2 k2 i_10 w26 →
            VLd none w26 ⟨a_7, 1, none⟩ [CT.sl] fun (v113 : Sl) =>
            VIf (decide (i_10 < ((v113.len : Nat) : Int))) (
              VLd none w26 ⟨a_7, 1, none⟩ [CT.sl] fun (v119 : Sl) =>
              VIx none v119.base v119.len i_10 fun (a121 : Addr) =>
              VLd none w26 (Addr.add a121 ((Int.toNat i_10) * 4)) [CT.str] fun (v123 : ByteArray) =>
              VIf (!(Op.bytesLess v123.toList r52_3.toList)) (
                R (.returned (.bool false)) w26
              ) (
                VSet (IntKind.wrap .i64 (i_10 + 1)) fun (i_10' : Int) =>
                ∃ k', k' < k2 ∧ I2 k' i_10' w26
              )
            ) (
              ∃ I3 : Nat → Int → World → Prop, (∃ k, I3 k 0 w26) ∧ ∀ k3 (i_11 : Int) (w27 : World), I3 k3 i_11 w27 →
              VLd none w27 ⟨b_9, 1, none⟩ [CT.sl] fun (v128 : Sl) =>
              VIf (decide (i_11 < ((v128.len : Nat) : Int))) (
                VLd none w27 ⟨b_9, 1, none⟩ [CT.sl] fun (v134 : Sl) =>
                VIx none v134.base v134.len i_11 fun (a136 : Addr) =>
                VLd none w27 (Addr.add a136 ((Int.toNat i_11) * 4)) [CT.str] fun (v138 : ByteArray) =>
                VIf (Op.bytesLess v138.toList r52_3.toList) (
                  R (.returned (.bool false)) w27
                ) (
                  VSet (IntKind.wrap .i64 (i_11 + 1)) fun (i_11' : Int) =>
                  ∃ k', k' < k3 ∧ I3 k' i_11' w27
                )
              ) (
                ∀ (w28 : World), w28 = World.drew w27 →
                VLd none w28 ⟨a_7, 0, none⟩ [CT.bool, CT.sl, CT.sl] fun (v141_0 : Bool) (v141_1 : Sl) (v141_2 : Sl) =>
                VLd none w28 ⟨b_9, 0, none⟩ [CT.bool, CT.sl, CT.sl] fun (v143_0 : Bool) (v143_1 : Sl) (v143_2 : Sl) =>
                VCall none Try.prog 21 #[.agg #[.bool v141_0, .slice v141_1.base v141_1.len v141_1.cap, .slice v141_2.base v141_2.len v141_2.cap]] w28 (.int .i64 0) fun (r142 : Int) (w29 : World) =>
                Rd w29 ⟨b_9, 0, none⟩ [.bool v143_0, .slice v143_1.base v143_1.len v143_1.cap, .slice v143_2.base v143_2.len v143_2.cap] ∧
                VCall none Try.prog 21 #[.agg #[.bool v143_0, .slice v143_1.base v143_1.len v143_1.cap, .slice v143_2.base v143_2.len v143_2.cap]] w29 (.int .i64 0) fun (r144 : Int) (w30 : World) =>
                VSet (IntKind.wrap .i64 (r142 - r144)) fun (d_12 : Int) =>
                VLd none w30 ⟨n_1, 0, none⟩ [CT.bool] fun (v147 : Bool) =>
                VLd (some (!(!v147))) w30 ⟨n_1, 0, none⟩ [CT.bool, CT.sl, CT.sl] fun (v151_0 : Bool) (v151_1 : Sl) (v151_2 : Sl) =>
                VCall (some (!(!v147))) Try.prog 22 #[.agg #[.bool v151_0, .slice v151_1.base v151_1.len v151_1.cap, .slice v151_2.base v151_2.len v151_2.cap]] w30 (.int .i64 0) fun (r152 : Int) (w31 : World) =>
                VLd (some ((!(!v147)) && (decide (d_12 ≤ r152)))) w31 ⟨n_1, 0, none⟩ [CT.bool, CT.sl, CT.sl] fun (v157_0 : Bool) (v157_1 : Sl) (v157_2 : Sl) =>
                VCall (some ((!(!v147)) && (decide (d_12 ≤ r152)))) Try.prog 22 #[.agg #[.bool v157_0, .slice v157_1.base v157_1.len v157_1.cap, .slice v157_2.base v157_2.len v157_2.cap]] w31 (.int .i64 0) fun (r158 : Int) (w32 : World) =>
                R (.returned (.bool ((!v147) || ((decide (d_12 ≤ r152)) && (decide ((IntKind.wrap .i64 (0 - d_12)) ≤ r158)))))) w32
              )
            )
          )
        )
      )
    )
  )
theorem sh_butterylaw06_NodeHalves_ok (n_0_0 : Bool) (n_0_1 : Sl) (n_0_2 : Sl) (w : World) (R : Ending → World → Prop) (h : sh_butterylaw06_NodeHalves n_0_0 n_0_1 n_0_2 w R) : Calls Try.prog 4 #[.agg #[.bool n_0_0, .slice n_0_1.base n_0_1.len n_0_1.cap, .slice n_0_2.base n_0_2.len n_0_2.cap]] w R :=
  calls_of_sh (args := [.agg #[.bool n_0_0, .slice n_0_1.base n_0_1.len n_0_1.cap, .slice n_0_2.base n_0_2.len n_0_2.cap]]) (.two .auto (.two (.two .auto (.two (.two .auto .auto) .auto)) (.two .auto (.two (.two .auto (.two (.two .auto .auto) .auto)) (.two (.two .auto (.one (.loop [(4, .int .i64 0)] (.two (.two .auto (.two .auto .auto)) (.two (.one (.two .auto (.two .auto (.two (.two .auto .auto) .auto)))) .auto))))) (.two .auto (.two (.two .auto (.two (.two .auto .auto) .auto)) (.two (.two .auto (.two (.two .auto .auto) .auto)) (.two (.two .auto (.one (.loop [(10, .int .i64 0)] (.two (.two .auto (.two .auto .auto)) (.two (.one (.two .auto (.two (.two .auto .auto) .auto))) .auto))))) (.two (.two .auto (.one (.loop [(11, .int .i64 0)] (.two (.two .auto (.two .auto .auto)) (.two (.one (.two .auto (.two (.two .auto .auto) .auto))) .auto))))) (.two .auto (.two .auto .auto)))))))))))) Try.func4 (by kernel_rfl) (by kernel_rfl) (by kernel_rfl) h

/-- 5: buttery/butterylaw06.NodeBytes -/
def sh_butterylaw06_NodeBytes (n_0_0 : Bool) (n_0_1 : Sl) (n_0_2 : Sl) (b_1 : Sl) (w : World) (R : Ending → World → Prop) : Prop :=
  VNw none w (.cells #[.bool n_0_0, .slice n_0_1.base n_0_1.len n_0_1.cap, .slice n_0_2.base n_0_2.len n_0_2.cap] 25) fun (n_2 : Nat) (w1 : World) =>
  VLd none w1 ⟨n_2, 0, none⟩ [CT.bool, CT.sl, CT.sl] fun (v16_0 : Bool) (v16_1 : Sl) (v16_2 : Sl) =>
  VCall none Try.prog 8 #[.agg #[.bool v16_0, .slice v16_1.base v16_1.len v16_1.cap, .slice v16_2.base v16_2.len v16_2.cap]] w1 (.bool false) fun (r17 : Bool) (w2 : World) =>
  VIf (r17 || (decide (((b_1.len : Nat) : Int) > 2000))) (
    VCall none Try.prog 9 #[] w2 (.bool false) fun (r23 : Bool) (w3 : World) =>
    R (.returned (.bool r23)) w3
  ) (
    VLd none w2 ⟨n_2, 0, none⟩ [CT.bool, CT.sl, CT.sl] fun (v24_0 : Bool) (v24_1 : Sl) (v24_2 : Sl) =>
    VCall none Try.prog 10 #[.agg #[.bool v24_0, .slice v24_1.base v24_1.len v24_1.cap, .slice v24_2.base v24_2.len v24_2.cap]] w2 (.agg #[.bool false, .slice none 0 0, .slice none 0 0]) fun (r25_0 : Bool) (r25_1 : Sl) (r25_2 : Sl) (w4 : World) =>
    VNw none w4 (.cells #[] 5) fun (b26 : Nat) (w5 : World) =>
    VApp none w5 5 1 1 #[.int .u8 0] (some ⟨b26, 0, none⟩) 0 0 b_1.len (fun news => Seg w5 b_1.base b_1.len 1 news) fun (l28 : Sl) (w6 : World) =>
    VNw none w6 (.cells #[.bool false, .slice none 0 0, .slice none 0 0] 30) fun (in_5 : Nat) (w7 : World) =>
    VSt none w7 ⟨in_5, 0, none⟩ [.bool r25_0, .slice r25_1.base r25_1.len r25_1.cap, .slice r25_2.base r25_2.len r25_2.cap] fun (w8 : World) =>
    VLd none w8 ⟨n_2, 0, none⟩ [CT.bool, CT.sl, CT.sl] fun (v30_0 : Bool) (v30_1 : Sl) (v30_2 : Sl) =>
    VCall none Try.prog 23 #[.agg #[.bool v30_0, .slice v30_1.base v30_1.len v30_1.cap, .slice v30_2.base v30_2.len v30_2.cap]] w8 (.tuple #[.slice none 0 0, .int .i64 0]) fun (r31_0 : Sl) (r31_1 : Int) (w9 : World) =>
    VSet r31_1 fun (e_8 : Int) =>
    VLd none w9 ⟨in_5, 0, none⟩ [CT.bool, CT.sl, CT.sl] fun (v35_0 : Bool) (v35_1 : Sl) (v35_2 : Sl) =>
    VCall none Try.prog 24 #[.agg #[.bool v35_0, .slice v35_1.base v35_1.len v35_1.cap, .slice v35_2.base v35_2.len v35_2.cap]] w9 (.tuple #[.slice none 0 0, .int .i64 0]) fun (r36_0 : Sl) (r36_1 : Int) (w10 : World) =>
    VSet r36_1 fun (f_10 : Int) =>
    ∀ (w11 : World), w11 = World.drew w10 →
    VStr (some (!(e_8 != f_10))) w11 r36_0.base r36_0.len fun (s44 : ByteArray) =>
    VStr (some (!(e_8 != f_10))) w11 r31_0.base r31_0.len fun (s46 : ByteArray) =>
    VLd (some (!((e_8 != f_10) || (!(s44.toList == s46.toList))))) w11 ⟨in_5, 0, none⟩ [CT.bool, CT.sl, CT.sl] fun (v50_0 : Bool) (v50_1 : Sl) (v50_2 : Sl) =>
    VLd (some (!((e_8 != f_10) || (!(s44.toList == s46.toList))))) w11 ⟨n_2, 0, none⟩ [CT.bool, CT.sl, CT.sl] fun (v52_0 : Bool) (v52_1 : Sl) (v52_2 : Sl) =>
    VCall (some (!((e_8 != f_10) || (!(s44.toList == s46.toList))))) Try.prog 20 #[.agg #[.bool v50_0, .slice v50_1.base v50_1.len v50_1.cap, .slice v50_2.base v50_2.len v50_2.cap]] w11 (.bool false) fun (r51 : Bool) (w12 : World) =>
    ((!((e_8 != f_10) || (!(s44.toList == s46.toList)))) = true → Rd w12 ⟨n_2, 0, none⟩ [.bool v52_0, .slice v52_1.base v52_1.len v52_1.cap, .slice v52_2.base v52_2.len v52_2.cap]) ∧
    VCall (some (!((e_8 != f_10) || (!(s44.toList == s46.toList))))) Try.prog 25 #[.agg #[.bool v52_0, .slice v52_1.base v52_1.len v52_1.cap, .slice v52_2.base v52_2.len v52_2.cap]] w12 (.bool false) fun (r53 : Bool) (w13 : World) =>
    VLd (some (!(((e_8 != f_10) || (!(s44.toList == s46.toList))) || (!(r51 == r53))))) w13 ⟨in_5, 0, none⟩ [CT.bool, CT.sl, CT.sl] fun (v57_0 : Bool) (v57_1 : Sl) (v57_2 : Sl) =>
    VLd (some (!(((e_8 != f_10) || (!(s44.toList == s46.toList))) || (!(r51 == r53))))) w13 ⟨n_2, 0, none⟩ [CT.bool, CT.sl, CT.sl] fun (v59_0 : Bool) (v59_1 : Sl) (v59_2 : Sl) =>
    VCall (some (!(((e_8 != f_10) || (!(s44.toList == s46.toList))) || (!(r51 == r53))))) Try.prog 21 #[.agg #[.bool v57_0, .slice v57_1.base v57_1.len v57_1.cap, .slice v57_2.base v57_2.len v57_2.cap]] w13 (.int .i64 0) fun (r58 : Int) (w14 : World) =>
    ((!(((e_8 != f_10) || (!(s44.toList == s46.toList))) || (!(r51 == r53)))) = true → Rd w14 ⟨n_2, 0, none⟩ [.bool v59_0, .slice v59_1.base v59_1.len v59_1.cap, .slice v59_2.base v59_2.len v59_2.cap]) ∧
    VCall (some (!(((e_8 != f_10) || (!(s44.toList == s46.toList))) || (!(r51 == r53))))) Try.prog 26 #[.agg #[.bool v59_0, .slice v59_1.base v59_1.len v59_1.cap, .slice v59_2.base v59_2.len v59_2.cap]] w14 (.int .i64 0) fun (r60 : Int) (w15 : World) =>
    VIf ((((e_8 != f_10) || (!(s44.toList == s46.toList))) || (!(r51 == r53))) || (r58 != r60)) (
      R (.returned (.bool false)) w15
    ) (
      ∃ I1 : Nat → Int → World → Prop, (∃ k, I1 k 0 w15) ∧ ∀ k1 (i_11 : Int) (w16 : World), I1 k1 i_11 w16 →
      VIf (decide (i_11 < ((r36_0.len : Nat) : Int))) (
        VIx none r36_0.base r36_0.len i_11 fun (a71 : Addr) =>
        VSt none w16 (Addr.add a71 ((Int.toNat i_11) * 1)) [.int .u8 85] fun (w17 : World) =>
        VSet (IntKind.wrap .i64 (i_11 + 1)) fun (i_11' : Int) =>
        ∃ k', k' < k1 ∧ I1 k' i_11' w17
      ) (
        VCall none Try.prog 27 #[.slice b_1.base b_1.len b_1.cap] w16 (.tuple #[.agg #[.bool false, .slice none 0 0, .slice none 0 0], .int .i64 0]) fun (r74_0 : Bool) (r74_1 : Sl) (r74_2 : Sl) (r74_3 : Int) (w18 : World) =>
        VNw none w18 (.cells #[.bool false, .slice none 0 0, .slice none 0 0] 25) fun (x_12 : Nat) (w19 : World) =>
        VSt none w19 ⟨x_12, 0, none⟩ [.bool r74_0, .slice r74_1.base r74_1.len r74_1.cap, .slice r74_2.base r74_2.len r74_2.cap] fun (w20 : World) =>
        VSet r74_3 fun (e_8' : Int) =>
        VCall none Try.prog 28 #[.slice l28.base l28.len l28.cap] w20 (.tuple #[.agg #[.bool false, .slice none 0 0, .slice none 0 0], .int .i64 0]) fun (r79_0 : Bool) (r79_1 : Sl) (r79_2 : Sl) (r79_3 : Int) (w21 : World) =>
        VNw none w21 (.cells #[.bool false, .slice none 0 0, .slice none 0 0] 30) fun (y_13 : Nat) (w22 : World) =>
        VSt none w22 ⟨y_13, 0, none⟩ [.bool r79_0, .slice r79_1.base r79_1.len r79_1.cap, .slice r79_2.base r79_2.len r79_2.cap] fun (w23 : World) =>
        VSet r79_3 fun (f_10' : Int) =>
        VCall none Try.prog 28 #[.slice l28.base l28.len l28.cap] w23 (.tuple #[.agg #[.bool false, .slice none 0 0, .slice none 0 0], .int .i64 0]) fun (r84_0 : Bool) (r84_1 : Sl) (r84_2 : Sl) (r84_3 : Int) (w24 : World) =>
        VNw none w24 (.cells #[.bool false, .slice none 0 0, .slice none 0 0] 30) fun (z_14 : Nat) (w25 : World) =>
        VSt none w25 ⟨z_14, 0, none⟩ [.bool r84_0, .slice r84_1.base r84_1.len r84_1.cap, .slice r84_2.base r84_2.len r84_2.cap] fun (w26 : World) =>
        VSet r84_3 fun (v15 : Int) =>
        ∀ (w27 : World), w27 = World.drew w26 →
        VLd (some (!(e_8' != f_10'))) w27 ⟨y_13, 0, none⟩ [CT.bool, CT.sl, CT.sl] fun (v91_0 : Bool) (v91_1 : Sl) (v91_2 : Sl) =>
        VLd (some (!(e_8' != f_10'))) w27 ⟨x_12, 0, none⟩ [CT.bool, CT.sl, CT.sl] fun (v93_0 : Bool) (v93_1 : Sl) (v93_2 : Sl) =>
        VCall (some (!(e_8' != f_10'))) Try.prog 17 #[.agg #[.bool v91_0, .slice v91_1.base v91_1.len v91_1.cap, .slice v91_2.base v91_2.len v91_2.cap]] w27 (.agg #[.bool false, .slice none 0 0, .slice none 0 0]) fun (r92_0 : Bool) (r92_1 : Sl) (r92_2 : Sl) (w28 : World) =>
        ((!(e_8' != f_10')) = true → Rd w28 ⟨x_12, 0, none⟩ [.bool v93_0, .slice v93_1.base v93_1.len v93_1.cap, .slice v93_2.base v93_2.len v93_2.cap]) ∧
        VCall (some (!(e_8' != f_10'))) Try.prog 16 #[.agg #[.bool r92_0, .slice r92_1.base r92_1.len r92_1.cap, .slice r92_2.base r92_2.len r92_2.cap], .agg #[.bool v93_0, .slice v93_1.base v93_1.len v93_1.cap, .slice v93_2.base v93_2.len v93_2.cap]] w28 (.bool false) fun (r94 : Bool) (w29 : World) =>
        VLd (some (!((e_8' != f_10') || (!r94)))) w29 ⟨y_13, 0, none⟩ [CT.bool, CT.sl, CT.sl] fun (v98_0 : Bool) (v98_1 : Sl) (v98_2 : Sl) =>
        VCall (some (!((e_8' != f_10') || (!r94)))) Try.prog 19 #[.agg #[.bool v98_0, .slice v98_1.base v98_1.len v98_1.cap, .slice v98_2.base v98_2.len v98_2.cap]] w29 (.int .i64 0) fun (r99 : Int) (w30 : World) =>
        VIf (((e_8' != f_10') || (!r94)) || (decide (r99 < 0))) (
          R (.returned (.bool false)) w30
        ) (
          ∀ (w31 : World), w31 = World.drew w30 →
          VLd none w31 ⟨z_14, 0, none⟩ [CT.bool, CT.sl, CT.sl] fun (v102_0 : Bool) (v102_1 : Sl) (v102_2 : Sl) =>
          VLd none w31 ⟨x_12, 0, none⟩ [CT.bool, CT.sl, CT.sl] fun (v104_0 : Bool) (v104_1 : Sl) (v104_2 : Sl) =>
          VCall none Try.prog 17 #[.agg #[.bool v102_0, .slice v102_1.base v102_1.len v102_1.cap, .slice v102_2.base v102_2.len v102_2.cap]] w31 (.agg #[.bool false, .slice none 0 0, .slice none 0 0]) fun (r103_0 : Bool) (r103_1 : Sl) (r103_2 : Sl) (w32 : World) =>
          Rd w32 ⟨x_12, 0, none⟩ [.bool v104_0, .slice v104_1.base v104_1.len v104_1.cap, .slice v104_2.base v104_2.len v104_2.cap] ∧
          VCall none Try.prog 16 #[.agg #[.bool r103_0, .slice r103_1.base r103_1.len r103_1.cap, .slice r103_2.base r103_2.len r103_2.cap], .agg #[.bool v104_0, .slice v104_1.base v104_1.len v104_1.cap, .slice v104_2.base v104_2.len v104_2.cap]] w32 (.bool false) fun (r105 : Bool) (w33 : World) =>
          VStr (some r105) w33 l28.base l28.len fun (s108 : ByteArray) =>
          VStr (some r105) w33 b_1.base b_1.len fun (s110 : ByteArray) =>
          VLd (some (r105 && (s108.toList == s110.toList))) w33 ⟨in_5, 0, none⟩ [CT.bool, CT.sl, CT.sl] fun (v114_0 : Bool) (v114_1 : Sl) (v114_2 : Sl) =>
          VLd (some (r105 && (s108.toList == s110.toList))) w33 ⟨n_2, 0, none⟩ [CT.bool, CT.sl, CT.sl] fun (v116_0 : Bool) (v116_1 : Sl) (v116_2 : Sl) =>
          VCall (some (r105 && (s108.toList == s110.toList))) Try.prog 17 #[.agg #[.bool v114_0, .slice v114_1.base v114_1.len v114_1.cap, .slice v114_2.base v114_2.len v114_2.cap]] w33 (.agg #[.bool false, .slice none 0 0, .slice none 0 0]) fun (r115_0 : Bool) (r115_1 : Sl) (r115_2 : Sl) (w34 : World) =>
          ((r105 && (s108.toList == s110.toList)) = true → Rd w34 ⟨n_2, 0, none⟩ [.bool v116_0, .slice v116_1.base v116_1.len v116_1.cap, .slice v116_2.base v116_2.len v116_2.cap]) ∧
          VCall (some (r105 && (s108.toList == s110.toList))) Try.prog 16 #[.agg #[.bool r115_0, .slice r115_1.base r115_1.len r115_1.cap, .slice r115_2.base r115_2.len r115_2.cap], .agg #[.bool v116_0, .slice v116_1.base v116_1.len v116_1.cap, .slice v116_2.base v116_2.len v116_2.cap]] w34 (.bool false) fun (r117 : Bool) (w35 : World) =>
          VCall (some ((r105 && (s108.toList == s110.toList)) && r117)) Try.prog 9 #[] w35 (.bool false) fun (r120 : Bool) (w36 : World) =>
          R (.returned (.bool (((r105 && (s108.toList == s110.toList)) && r117) && r120))) w36
        )
      )
    )
  )
theorem sh_butterylaw06_NodeBytes_ok (n_0_0 : Bool) (n_0_1 : Sl) (n_0_2 : Sl) (b_1 : Sl) (w : World) (R : Ending → World → Prop) (h : sh_butterylaw06_NodeBytes n_0_0 n_0_1 n_0_2 b_1 w R) : Calls Try.prog 5 #[.agg #[.bool n_0_0, .slice n_0_1.base n_0_1.len n_0_1.cap, .slice n_0_2.base n_0_2.len n_0_2.cap], .slice b_1.base b_1.len b_1.cap] w R :=
  calls_of_sh (args := [.agg #[.bool n_0_0, .slice n_0_1.base n_0_1.len n_0_1.cap, .slice n_0_2.base n_0_2.len n_0_2.cap], .slice b_1.base b_1.len b_1.cap]) (.two .auto (.two (.two .auto (.two (.two .auto .auto) .auto)) (.two .auto (.two .auto (.two .auto (.two (.two .auto (.two (.two .auto .auto) .auto)) (.two (.two .auto (.one (.loop [(11, .int .i64 0)] (.two (.two .auto (.two .auto .auto)) (.two (.one .auto) .auto))))) (.two .auto (.two .auto (.two .auto (.two (.two .auto (.two (.two .auto .auto) .auto)) (.two .auto .auto)))))))))))) Try.func5 (by kernel_rfl) (by kernel_rfl) (by kernel_rfl) h

/-- 6: buttery/butterylaw06.NodeNames -/
def sh_butterylaw06_NodeNames (w : World) (R : Ending → World → Prop) : Prop :=
  VMk none w 5 1 1 #[.int .u8 0] 65 65 fun (b28 : Nat) (w1 : World) =>
  VNw none w1 (.cells #[.string (ByteArray.mk #[98]), .string ByteArray.empty, .int .i64 0, .int .i64 0, .string (ByteArray.mk #[97]), .string ByteArray.empty, .int .i64 0, .int .i64 0] 48) fun (b33 : Nat) (w2 : World) =>
  VDyn none Try.prog (.func (.func 29) #[] #[]) #[.slice (some ⟨b33, 0, none⟩) 2 2] w2 (.agg #[.bool false, .slice none 0 0, .slice none 0 0]) fun (r34_0 : Bool) (r34_1 : Sl) (r34_2 : Sl) (w3 : World) =>
  VCall none Try.prog 24 #[.agg #[.bool r34_0, .slice r34_1.base r34_1.len r34_1.cap, .slice r34_2.base r34_2.len r34_2.cap]] w3 (.tuple #[.slice none 0 0, .int .i64 0]) fun (r35_0 : Sl) (r35_1 : Int) (w4 : World) =>
  VSet r35_1 fun (a_4 : Int) =>
  VStr none w4 (some ⟨b28, 0, none⟩) 65 fun (s41 : ByteArray) =>
  VNw none w4 (.cells #[.string (ByteArray.mk #[97]), .string s41, .int .i64 0, .int .i64 0] 48) fun (b43 : Nat) (w5 : World) =>
  VDyn none Try.prog (.func (.func 29) #[] #[]) #[.slice (some ⟨b43, 0, none⟩) 1 1] w5 (.agg #[.bool false, .slice none 0 0, .slice none 0 0]) fun (r44_0 : Bool) (r44_1 : Sl) (r44_2 : Sl) (w6 : World) =>
  VCall none Try.prog 24 #[.agg #[.bool r44_0, .slice r44_1.base r44_1.len r44_1.cap, .slice r44_2.base r44_2.len r44_2.cap]] w6 (.tuple #[.slice none 0 0, .int .i64 0]) fun (r45_0 : Sl) (r45_1 : Int) (w7 : World) =>
  VSet r45_1 fun (b_6 : Int) =>
  ∀ (w8 : World), w8 = World.drew w7 →
  VCk none ((0 : Int) ≤ 0 ∧ (0 : Int) ≤ 48 ∧ (48 : Int) ≤ ((65 : Nat) : Int)) (
    VStr none w8 (cutB (some ⟨b28, 0, none⟩) 65 1 0) (48 - 0) fun (s52 : ByteArray) =>
    VCk none ((0 : Int) ≤ 0 ∧ (0 : Int) ≤ 64 ∧ (64 : Int) ≤ ((65 : Nat) : Int)) (
      VStr none w8 (cutB (some ⟨b28, 0, none⟩) 65 1 0) (64 - 0) fun (s55 : ByteArray) =>
      VNw none w8 (.cells #[.string s52, .string s55, .int .i64 0, .int .i64 0] 48) fun (b57 : Nat) (w9 : World) =>
      VDyn none Try.prog (.func (.func 29) #[] #[]) #[.slice (some ⟨b57, 0, none⟩) 1 1] w9 (.agg #[.bool false, .slice none 0 0, .slice none 0 0]) fun (r58_0 : Bool) (r58_1 : Sl) (r58_2 : Sl) (w10 : World) =>
      VCall none Try.prog 24 #[.agg #[.bool r58_0, .slice r58_1.base r58_1.len r58_1.cap, .slice r58_2.base r58_2.len r58_2.cap]] w10 (.tuple #[.slice none 0 0, .int .i64 0]) fun (r59_0 : Sl) (r59_1 : Int) (w11 : World) =>
      VSet r59_1 fun (c_8 : Int) =>
      VCk none ((0 : Int) ≤ 0 ∧ (0 : Int) ≤ 49 ∧ (49 : Int) ≤ ((65 : Nat) : Int)) (
        VStr none w11 (cutB (some ⟨b28, 0, none⟩) 65 1 0) (49 - 0) fun (s66 : ByteArray) =>
        VNw none w11 (.cells #[.string s66, .string ByteArray.empty, .int .i64 0, .int .i64 0] 48) fun (b68 : Nat) (w12 : World) =>
        VDyn none Try.prog (.func (.func 29) #[] #[]) #[.slice (some ⟨b68, 0, none⟩) 1 1] w12 (.agg #[.bool false, .slice none 0 0, .slice none 0 0]) fun (r69_0 : Bool) (r69_1 : Sl) (r69_2 : Sl) (w13 : World) =>
        VCall none Try.prog 24 #[.agg #[.bool r69_0, .slice r69_1.base r69_1.len r69_1.cap, .slice r69_2.base r69_2.len r69_2.cap]] w13 (.tuple #[.slice none 0 0, .int .i64 0]) fun (r70_0 : Sl) (r70_1 : Int) (w14 : World) =>
        VSet r70_1 fun (d_10 : Int) =>
        ∃ I1 : Nat → Sl → Int → World → Prop, (∃ k, I1 k ⟨none, 0, 0⟩ 0 w14) ∧ ∀ k1 (many_11 : Sl) (i_12 : Int) (w15 : World), I1 k1 many_11 i_12 w15 →
        VIf (decide (i_12 < 9)) (
          VIx none (some ⟨b28, 0, none⟩) 65 0 fun (a80 : Addr) =>
          VSt none w15 a80 [.int .u8 (IntKind.wrap .u8 i_12)] fun (w16 : World) =>
          ∀ (w17 : World), w17 = World.drew w16 →
          VCk none ((0 : Int) ≤ 0 ∧ (0 : Int) ≤ 48 ∧ (48 : Int) ≤ ((65 : Nat) : Int)) (
            VStr none w17 (cutB (some ⟨b28, 0, none⟩) 65 1 0) (48 - 0) fun (s84 : ByteArray) =>
            VCk none ((0 : Int) ≤ 0 ∧ (0 : Int) ≤ 64 ∧ (64 : Int) ≤ ((65 : Nat) : Int)) (
              VStr none w17 (cutB (some ⟨b28, 0, none⟩) 65 1 0) (64 - 0) fun (s87 : ByteArray) =>
              VNw none w17 (.cells #[.string s84, .string s87, .int .i64 0, .int .i64 0] 48) fun (b89 : Nat) (w18 : World) =>
              VApp none w18 48 4 48 #[.string ByteArray.empty, .string ByteArray.empty, .int .i64 0, .int .i64 0] many_11.base many_11.len many_11.cap 1 (fun news => Seg w18 (some ⟨b89, 0, none⟩) 1 4 news) fun (l90 : Sl) (w19 : World) =>
              VSet (IntKind.wrap .i64 (i_12 + 1)) fun (i_12' : Int) =>
              ∃ k', k' < k1 ∧ I1 k' l90 i_12' w19
            )
          )
        ) (
          VDyn none Try.prog (.func (.func 29) #[] #[]) #[.slice many_11.base many_11.len many_11.cap] w15 (.agg #[.bool false, .slice none 0 0, .slice none 0 0]) fun (r94_0 : Bool) (r94_1 : Sl) (r94_2 : Sl) (w20 : World) =>
          VCall none Try.prog 24 #[.agg #[.bool r94_0, .slice r94_1.base r94_1.len r94_1.cap, .slice r94_2.base r94_2.len r94_2.cap]] w20 (.tuple #[.slice none 0 0, .int .i64 0]) fun (r95_0 : Sl) (r95_1 : Int) (w21 : World) =>
          VSet r95_1 fun (e_14 : Int) =>
          VCk none ((0 : Int) ≤ 0 ∧ (0 : Int) ≤ 4 ∧ (4 : Int) ≤ ((many_11.cap : Nat) : Int)) (
            VDyn none Try.prog (.func (.func 29) #[] #[]) #[.slice (cutB many_11.base many_11.cap 4 0) (4 - 0) (many_11.cap - 0)] w21 (.agg #[.bool false, .slice none 0 0, .slice none 0 0]) fun (r102_0 : Bool) (r102_1 : Sl) (r102_2 : Sl) (w22 : World) =>
            VCall none Try.prog 24 #[.agg #[.bool r102_0, .slice r102_1.base r102_1.len r102_1.cap, .slice r102_2.base r102_2.len r102_2.cap]] w22 (.tuple #[.slice none 0 0, .int .i64 0]) fun (r103_0 : Sl) (r103_1 : Int) (w23 : World) =>
            VSet r103_1 fun (f_16 : Int) =>
            VCall none Try.prog 28 #[.slice none 0 0] w23 (.tuple #[.agg #[.bool false, .slice none 0 0, .slice none 0 0], .int .i64 0]) fun (r107_0 : Bool) (r107_1 : Sl) (r107_2 : Sl) (r107_3 : Int) (w24 : World) =>
            VNw none w24 (.cells #[.bool false, .slice none 0 0, .slice none 0 0] 30) fun (b17 : Nat) (w25 : World) =>
            VSt none w25 ⟨b17, 0, none⟩ [.bool r107_0, .slice r107_1.base r107_1.len r107_1.cap, .slice r107_2.base r107_2.len r107_2.cap] fun (w26 : World) =>
            VSet r107_3 fun (g_18 : Int) =>
            VMk none w26 5 1 1 #[.int .u8 0] 513 513 fun (b110 : Nat) (w27 : World) =>
            VIx none (some ⟨b110, 0, none⟩) 513 0 fun (a112 : Addr) =>
            VSt none w27 a112 [.int .u8 1] fun (w28 : World) =>
            VCk none ((0 : Int) ≤ 0 ∧ (0 : Int) ≤ 512 ∧ (512 : Int) ≤ ((513 : Nat) : Int)) (
              VCall none Try.prog 28 #[.slice (cutB (some ⟨b110, 0, none⟩) 513 1 0) (512 - 0) (513 - 0)] w28 (.tuple #[.agg #[.bool false, .slice none 0 0, .slice none 0 0], .int .i64 0]) fun (r116_0 : Bool) (r116_1 : Sl) (r116_2 : Sl) (r116_3 : Int) (w29 : World) =>
              VNw none w29 (.cells #[.bool false, .slice none 0 0, .slice none 0 0] 30) fun (n_20 : Nat) (w30 : World) =>
              VSt none w30 ⟨n_20, 0, none⟩ [.bool r116_0, .slice r116_1.base r116_1.len r116_1.cap, .slice r116_2.base r116_2.len r116_2.cap] fun (w31 : World) =>
              VSet r116_3 fun (h_21 : Int) =>
              VCall none Try.prog 28 #[.slice (some ⟨b110, 0, none⟩) 513 513] w31 (.tuple #[.agg #[.bool false, .slice none 0 0, .slice none 0 0], .int .i64 0]) fun (r121_0 : Bool) (r121_1 : Sl) (r121_2 : Sl) (r121_3 : Int) (w32 : World) =>
              VNw none w32 (.cells #[.bool false, .slice none 0 0, .slice none 0 0] 30) fun (b22 : Nat) (w33 : World) =>
              VSt none w33 ⟨b22, 0, none⟩ [.bool r121_0, .slice r121_1.base r121_1.len r121_1.cap, .slice r121_2.base r121_2.len r121_2.cap] fun (w34 : World) =>
              VSet r121_3 fun (i_23 : Int) =>
              VIx none (some ⟨b110, 0, none⟩) 513 511 fun (a125 : Addr) =>
              VSt none w34 (Addr.add a125 511) [.int .u8 1] fun (w35 : World) =>
              VCk none ((0 : Int) ≤ 0 ∧ (0 : Int) ≤ 512 ∧ (512 : Int) ≤ ((513 : Nat) : Int)) (
                VCall none Try.prog 28 #[.slice (cutB (some ⟨b110, 0, none⟩) 513 1 0) (512 - 0) (513 - 0)] w35 (.tuple #[.agg #[.bool false, .slice none 0 0, .slice none 0 0], .int .i64 0]) fun (r129_0 : Bool) (r129_1 : Sl) (r129_2 : Sl) (r129_3 : Int) (w36 : World) =>
                VNw none w36 (.cells #[.bool false, .slice none 0 0, .slice none 0 0] 30) fun (b24 : Nat) (w37 : World) =>
                VSt none w37 ⟨b24, 0, none⟩ [.bool r129_0, .slice r129_1.base r129_1.len r129_1.cap, .slice r129_2.base r129_2.len r129_2.cap] fun (w38 : World) =>
                VSet r129_3 fun (j_25 : Int) =>
                VNw none w38 (.cells #[.int .i64 2147483648] 3) fun (b133 : Nat) (w39 : World) =>
                VCall none Try.prog 24 #[.agg #[.bool false, .slice none 0 0, .slice (some ⟨b133, 0, none⟩) 1 1]] w39 (.tuple #[.slice none 0 0, .int .i64 0]) fun (r135_0 : Sl) (r135_1 : Int) (w40 : World) =>
                VSet r135_1 fun (k_27 : Int) =>
                VLd (some (((((((a_4 == 4) && (b_6 == 4)) && (c_8 == 0)) && (d_10 == 4)) && (e_14 == 40)) && (f_16 == 0)) && (g_18 == 4))) w40 ⟨n_20, 0, none⟩ [CT.bool] fun (v166 : Bool) =>
                VLd (some ((((((((a_4 == 4) && (b_6 == 4)) && (c_8 == 0)) && (d_10 == 4)) && (e_14 == 40)) && (f_16 == 0)) && (g_18 == 4)) && v166)) w40 ⟨n_20, 1, none⟩ [CT.sl] fun (v170 : Sl) =>
                VCall (some ((((((((((((((((a_4 == 4) && (b_6 == 4)) && (c_8 == 0)) && (d_10 == 4)) && (e_14 == 40)) && (f_16 == 0)) && (g_18 == 4)) && v166) && (((v170.len : Nat) : Int) == 0)) && (h_21 == 0)) && (i_23 == 4)) && (j_25 == 4)) && (k_27 == 4)) || false) || false) || false)) Try.prog 9 #[] w40 (.bool false) fun (r197 : Bool) (w41 : World) =>
                R (.returned (.bool (((((((((((((((((a_4 == 4) && (b_6 == 4)) && (c_8 == 0)) && (d_10 == 4)) && (e_14 == 40)) && (f_16 == 0)) && (g_18 == 4)) && v166) && (((v170.len : Nat) : Int) == 0)) && (h_21 == 0)) && (i_23 == 4)) && (j_25 == 4)) && (k_27 == 4)) || false) || false) || false) && r197))) w41
              )
            )
          )
        )
      )
    )
  )
theorem sh_butterylaw06_NodeNames_ok (w : World) (R : Ending → World → Prop) (h : sh_butterylaw06_NodeNames w R) : Calls Try.prog 6 #[] w R :=
  calls_of_sh (args := []) (.two .auto (.two .auto (.two .auto (.two .auto (.two .auto (.two .auto (.two .auto (.two .auto (.two (.two .auto (.one (.loop [(11, .slice none 0 0), (12, .int .i64 0)] (.two (.two .auto (.two .auto .auto)) (.two (.one (.two .auto .auto)) .auto))))) (.two .auto (.two .auto (.two .auto (.two .auto (.two .auto (.two .auto (.two .auto (.two .auto (.two .auto (.two .auto (.two .auto .auto)))))))))))))))))))) Try.func6 (by kernel_rfl) (by kernel_rfl) (by kernel_rfl) h

/-- 7: buttery/butterylaw06.NodeBack -/
def sh_butterylaw06_NodeBack (n_0_0 : Bool) (n_0_1 : Sl) (n_0_2 : Sl) (noughts_1 : Int) (b_2 : Sl) (w : World) (R : Ending → World → Prop) : Prop :=
  VNw none w (.cells #[.bool n_0_0, .slice n_0_1.base n_0_1.len n_0_1.cap, .slice n_0_2.base n_0_2.len n_0_2.cap] 25) fun (n_3 : Nat) (w1 : World) =>
  VLd none w1 ⟨n_3, 0, none⟩ [CT.bool, CT.sl, CT.sl] fun (v14_0 : Bool) (v14_1 : Sl) (v14_2 : Sl) =>
  VCall none Try.prog 8 #[.agg #[.bool v14_0, .slice v14_1.base v14_1.len v14_1.cap, .slice v14_2.base v14_2.len v14_2.cap]] w1 (.bool false) fun (r15 : Bool) (w2 : World) =>
  VCall (some (!(r15 || (decide (((b_2.len : Nat) : Int) > 2000))))) Try.prog 9 #[] w2 (.bool false) fun (r22 : Bool) (w3 : World) =>
  VIf ((r15 || (decide (((b_2.len : Nat) : Int) > 2000))) || (!r22)) (
    VCall none Try.prog 9 #[] w3 (.bool false) fun (r25 : Bool) (w4 : World) =>
    R (.returned (.bool r25)) w4
  ) (
    VLd none w3 ⟨n_3, 0, none⟩ [CT.bool, CT.sl, CT.sl] fun (v27_0 : Bool) (v27_1 : Sl) (v27_2 : Sl) =>
    VCall none Try.prog 10 #[.agg #[.bool v27_0, .slice v27_1.base v27_1.len v27_1.cap, .slice v27_2.base v27_2.len v27_2.cap]] w3 (.agg #[.bool false, .slice none 0 0, .slice none 0 0]) fun (r28_0 : Bool) (r28_1 : Sl) (r28_2 : Sl) (w5 : World) =>
    VCall none Try.prog 24 #[.agg #[.bool r28_0, .slice r28_1.base r28_1.len r28_1.cap, .slice r28_2.base r28_2.len r28_2.cap]] w5 (.tuple #[.slice none 0 0, .int .i64 0]) fun (r29_0 : Sl) (r29_1 : Int) (w6 : World) =>
    VSet r29_1 fun (e_8 : Int) =>
    ∃ Φ1 : World → Prop, (
      VIf (e_8 == 0) (
        VCk none (((IntKind.wrap .u64 (IntKind.wrap .i64 (513 - ((r29_0.len : Nat) : Int)))) : Int) ≠ 0) (
          VApp none w6 5 1 1 #[.int .u8 0] r29_0.base r29_0.len r29_0.cap (Int.toNat (IntKind.wrap .i64 (Int.tmod (IntKind.wrap .u64 noughts_1) (IntKind.wrap .u64 (IntKind.wrap .i64 (513 - ((r29_0.len : Nat) : Int))))))) (fun news => 0 ≤ (IntKind.wrap .i64 (Int.tmod (IntKind.wrap .u64 noughts_1) (IntKind.wrap .u64 (IntKind.wrap .i64 (513 - ((r29_0.len : Nat) : Int)))))) ∧ (IntKind.wrap .i64 (Int.tmod (IntKind.wrap .u64 noughts_1) (IntKind.wrap .u64 (IntKind.wrap .i64 (513 - ((r29_0.len : Nat) : Int)))))) ≤ 9223372036854775807 ∧ news = (Builtin.zeroCells #[.int .u8 0] (Int.toNat (IntKind.wrap .i64 (Int.tmod (IntKind.wrap .u64 noughts_1) (IntKind.wrap .u64 (IntKind.wrap .i64 (513 - ((r29_0.len : Nat) : Int)))))))).toList) fun (l43 : Sl) (w7 : World) =>
          VCall none Try.prog 28 #[.slice l43.base l43.len l43.cap] w7 (.tuple #[.agg #[.bool false, .slice none 0 0, .slice none 0 0], .int .i64 0]) fun (r46_0 : Bool) (r46_1 : Sl) (r46_2 : Sl) (r46_3 : Int) (w8 : World) =>
          VNw none w8 (.cells #[.bool false, .slice none 0 0, .slice none 0 0] 30) fun (x_9 : Nat) (w9 : World) =>
          VSt none w9 ⟨x_9, 0, none⟩ [.bool r46_0, .slice r46_1.base r46_1.len r46_1.cap, .slice r46_2.base r46_2.len r46_2.cap] fun (w10 : World) =>
          VSet r46_3 fun (f_10 : Int) =>
          ∀ (w11 : World), w11 = World.drew w10 →
          VLd (some (!(f_10 != 0))) w11 ⟨x_9, 0, none⟩ [CT.bool, CT.sl, CT.sl] fun (v52_0 : Bool) (v52_1 : Sl) (v52_2 : Sl) =>
          VLd (some (!(f_10 != 0))) w11 ⟨n_3, 0, none⟩ [CT.bool, CT.sl, CT.sl] fun (v54_0 : Bool) (v54_1 : Sl) (v54_2 : Sl) =>
          VCall (some (!(f_10 != 0))) Try.prog 17 #[.agg #[.bool v52_0, .slice v52_1.base v52_1.len v52_1.cap, .slice v52_2.base v52_2.len v52_2.cap]] w11 (.agg #[.bool false, .slice none 0 0, .slice none 0 0]) fun (r53_0 : Bool) (r53_1 : Sl) (r53_2 : Sl) (w12 : World) =>
          ((!(f_10 != 0)) = true → Rd w12 ⟨n_3, 0, none⟩ [.bool v54_0, .slice v54_1.base v54_1.len v54_1.cap, .slice v54_2.base v54_2.len v54_2.cap]) ∧
          VCall (some (!(f_10 != 0))) Try.prog 16 #[.agg #[.bool r53_0, .slice r53_1.base r53_1.len r53_1.cap, .slice r53_2.base r53_2.len r53_2.cap], .agg #[.bool v54_0, .slice v54_1.base v54_1.len v54_1.cap, .slice v54_2.base v54_2.len v54_2.cap]] w12 (.bool false) fun (r55 : Bool) (w13 : World) =>
          VIf ((f_10 != 0) || (!r55)) (
            R (.returned (.bool false)) w13
          ) (
            Φ1 w13
          )
        )
      ) (
        Φ1 w6
      )
    ) ∧ ∀ (w14 : World), Φ1 w14 →
    VCall none Try.prog 28 #[.slice b_2.base b_2.len b_2.cap] w14 (.tuple #[.agg #[.bool false, .slice none 0 0, .slice none 0 0], .int .i64 0]) fun (r60_0 : Bool) (r60_1 : Sl) (r60_2 : Sl) (r60_3 : Int) (w15 : World) =>
    VNw none w15 (.cells #[.bool false, .slice none 0 0, .slice none 0 0] 30) fun (x_11 : Nat) (w16 : World) =>
    VSt none w16 ⟨x_11, 0, none⟩ [.bool r60_0, .slice r60_1.base r60_1.len r60_1.cap, .slice r60_2.base r60_2.len r60_2.cap] fun (w17 : World) =>
    VSet r60_3 fun (e_8' : Int) =>
    VIf (e_8' != 0) (
      R (.returned (.bool true)) w17
    ) (
      VLd none w17 ⟨x_11, 0, none⟩ [CT.bool, CT.sl, CT.sl] fun (v66_0 : Bool) (v66_1 : Sl) (v66_2 : Sl) =>
      VCall none Try.prog 24 #[.agg #[.bool v66_0, .slice v66_1.base v66_1.len v66_1.cap, .slice v66_2.base v66_2.len v66_2.cap]] w17 (.tuple #[.slice none 0 0, .int .i64 0]) fun (r67_0 : Sl) (r67_1 : Int) (w18 : World) =>
      VSet r67_1 fun (e_8'' : Int) =>
      ∀ (w19 : World), w19 = World.drew w18 →
      VCk (some (!((e_8'' != 0) || (decide (((r67_0.len : Nat) : Int) > ((b_2.len : Nat) : Int)))))) ((0 : Int) ≤ 0 ∧ (0 : Int) ≤ ((r67_0.len : Nat) : Int) ∧ (((r67_0.len : Nat) : Int) : Int) ≤ ((b_2.cap : Nat) : Int)) (
        VStr (some (!((e_8'' != 0) || (decide (((r67_0.len : Nat) : Int) > ((b_2.len : Nat) : Int)))))) w19 (cutB b_2.base b_2.cap 1 0) (r67_0.len - 0) fun (s84 : ByteArray) =>
        VStr (some (!((e_8'' != 0) || (decide (((r67_0.len : Nat) : Int) > ((b_2.len : Nat) : Int)))))) w19 r67_0.base r67_0.len fun (s86 : ByteArray) =>
        VLd (some (!(((e_8'' != 0) || (decide (((r67_0.len : Nat) : Int) > ((b_2.len : Nat) : Int)))) || (!(s84.toList == s86.toList))))) w19 ⟨x_11, 0, none⟩ [CT.bool, CT.sl, CT.sl] fun (v92_0 : Bool) (v92_1 : Sl) (v92_2 : Sl) =>
        VCall (some (!(((e_8'' != 0) || (decide (((r67_0.len : Nat) : Int) > ((b_2.len : Nat) : Int)))) || (!(s84.toList == s86.toList))))) Try.prog 21 #[.agg #[.bool v92_0, .slice v92_1.base v92_1.len v92_1.cap, .slice v92_2.base v92_2.len v92_2.cap]] w19 (.int .i64 0) fun (r93 : Int) (w20 : World) =>
        VIf ((((e_8'' != 0) || (decide (((r67_0.len : Nat) : Int) > ((b_2.len : Nat) : Int)))) || (!(s84.toList == s86.toList))) || (((r67_0.len : Nat) : Int) != r93)) (
          R (.returned (.bool false)) w20
        ) (
          VSet ((r67_0.len : Nat) : Int) fun (i_13 : Int) =>
          ∃ I2 : Nat → Int → World → Prop, (∃ k, I2 k i_13 w20) ∧ ∀ k2 (i_13' : Int) (w21 : World), I2 k2 i_13' w21 →
          VIf (decide (i_13' < ((b_2.len : Nat) : Int))) (
            VIx none b_2.base b_2.len i_13' fun (a106 : Addr) =>
            VLd none w21 (Addr.add a106 ((Int.toNat i_13') * 1)) [CT.int .u8] fun (v107 : Int) =>
            VIf (v107 != 0) (
              R (.returned (.bool false)) w21
            ) (
              VSet (IntKind.wrap .i64 (i_13' + 1)) fun (i_13'' : Int) =>
              ∃ k', k' < k2 ∧ I2 k' i_13'' w21
            )
          ) (
            R (.returned (.bool true)) w21
          )
        )
      )
    )
  )
theorem sh_butterylaw06_NodeBack_ok (n_0_0 : Bool) (n_0_1 : Sl) (n_0_2 : Sl) (noughts_1 : Int) (b_2 : Sl) (w : World) (R : Ending → World → Prop) (h : sh_butterylaw06_NodeBack n_0_0 n_0_1 n_0_2 noughts_1 b_2 w R) : Calls Try.prog 7 #[.agg #[.bool n_0_0, .slice n_0_1.base n_0_1.len n_0_1.cap, .slice n_0_2.base n_0_2.len n_0_2.cap], .int .i64 noughts_1, .slice b_2.base b_2.len b_2.cap] w R :=
  calls_of_sh (args := [.agg #[.bool n_0_0, .slice n_0_1.base n_0_1.len n_0_1.cap, .slice n_0_2.base n_0_2.len n_0_2.cap], .int .i64 noughts_1, .slice b_2.base b_2.len b_2.cap]) (.two .auto (.two (.two .auto (.two (.two .auto .auto) .auto)) (.two .auto (.join [] (.two .auto (.two (.two .auto (.two .auto (.two .auto (.two (.two .auto .auto) .auto)))) .auto)) (.two .auto (.two (.two .auto (.two (.two .auto .auto) .auto)) (.two .auto (.two (.two .auto (.two (.two .auto .auto) .auto)) (.two (.two .auto (.one (.loop [(13, .int .i64 0)] (.two (.two .auto (.two .auto .auto)) (.two (.one (.two .auto (.two (.two .auto .auto) .auto))) .auto))))) (.two .auto .auto)))))))))) Try.func7 (by kernel_rfl) (by kernel_rfl) (by kernel_rfl) h

/-- 8: buttery/butterylaw06.large -/
def sh_butterylaw06_large (n_0_0 : Bool) (n_0_1 : Sl) (n_0_2 : Sl) (w : World) (R : Ending → World → Prop) : Prop :=
  VNw none w (.cells #[.bool n_0_0, .slice n_0_1.base n_0_1.len n_0_1.cap, .slice n_0_2.base n_0_2.len n_0_2.cap] 25) fun (n_1 : Nat) (w1 : World) =>
  VLd none w1 ⟨n_1, 1, none⟩ [CT.sl] fun (v6 : Sl) =>
  VLd none w1 ⟨n_1, 2, none⟩ [CT.sl] fun (v9 : Sl) =>
  VSet (IntKind.wrap .i64 (((v6.len : Nat) : Int) + ((v9.len : Nat) : Int))) fun (many_3 : Int) =>
  ∃ I1 : Nat → Int → Int → World → Prop, (∃ k, I1 k many_3 0 w1) ∧ ∀ k1 (many_3' : Int) (i_4 : Int) (w2 : World), I1 k1 many_3' i_4 w2 →
  VLd none w2 ⟨n_1, 1, none⟩ [CT.sl] fun (v14 : Sl) =>
  VIf ((decide (i_4 < ((v14.len : Nat) : Int))) && (decide (i_4 < 200))) (
    ∀ (w3 : World), w3 = World.drew w2 →
    VLd none w3 ⟨n_1, 1, none⟩ [CT.sl] fun (v25 : Sl) =>
    VIx none v25.base v25.len i_4 fun (a27 : Addr) =>
    VLd none w3 (Addr.add a27 ((Int.toNat i_4) * 4)) [CT.str] fun (v29 : ByteArray) =>
    VLd none w3 ⟨n_1, 1, none⟩ [CT.sl] fun (v33 : Sl) =>
    VIx none v33.base v33.len i_4 fun (a35 : Addr) =>
    VLd none w3 (Addr.add (Addr.add a35 ((Int.toNat i_4) * 4)) 1) [CT.str] fun (v37 : ByteArray) =>
    VSet (IntKind.wrap .i64 ((IntKind.wrap .i64 (many_3' + ((v29.size : Nat) : Int))) + ((v37.size : Nat) : Int))) fun (many_3'' : Int) =>
    VSet (IntKind.wrap .i64 (i_4 + 1)) fun (i_4' : Int) =>
    ∃ k', k' < k1 ∧ I1 k' many_3'' i_4' w3
  ) (
    VLd (some (!(decide (many_3' > 8000)))) w2 ⟨n_1, 1, none⟩ [CT.sl] fun (v44 : Sl) =>
    VLd (some (!((decide (many_3' > 8000)) || (decide (((v44.len : Nat) : Int) > 100))))) w2 ⟨n_1, 2, none⟩ [CT.sl] fun (v50 : Sl) =>
    R (.returned (.bool (((decide (many_3' > 8000)) || (decide (((v44.len : Nat) : Int) > 100))) || (decide (((v50.len : Nat) : Int) > 100))))) w2
  )
theorem sh_butterylaw06_large_ok (n_0_0 : Bool) (n_0_1 : Sl) (n_0_2 : Sl) (w : World) (R : Ending → World → Prop) (h : sh_butterylaw06_large n_0_0 n_0_1 n_0_2 w R) : Calls Try.prog 8 #[.agg #[.bool n_0_0, .slice n_0_1.base n_0_1.len n_0_1.cap, .slice n_0_2.base n_0_2.len n_0_2.cap]] w R :=
  calls_of_sh (args := [.agg #[.bool n_0_0, .slice n_0_1.base n_0_1.len n_0_1.cap, .slice n_0_2.base n_0_2.len n_0_2.cap]]) (.two .auto (.two .auto (.two (.two .auto (.one (.loop [(3, .int .i64 0), (4, .int .i64 0)] (.two (.two .auto (.two .auto .auto)) (.two (.one .auto) .auto))))) (.two .auto .auto)))) Try.func8 (by kernel_rfl) (by kernel_rfl) (by kernel_rfl) h

/-- 9: buttery/butterylaw06.awake -/
def sh_butterylaw06_awake (w : World) (R : Ending → World → Prop) : Prop :=
  VNw none w (.cells #[.string (ByteArray.mk #[97]), .string (ByteArray.mk #[49]), .int .i64 0, .int .i64 0, .string (ByteArray.mk #[98]), .string ByteArray.empty, .int .i64 7, .int .i64 100] 48) fun (b16 : Nat) (w1 : World) =>
  VNw none w1 (.cells #[.bool false, .slice none 0 0, .slice none 0 0] 30) fun (n_1 : Nat) (w2 : World) =>
  VSt none w2 ⟨n_1, 0, none⟩ [.bool true, .slice (some ⟨b16, 0, none⟩) 2 2, .slice none 0 0] fun (w3 : World) =>
  VLd none w3 ⟨n_1, 0, none⟩ [CT.bool, CT.sl, CT.sl] fun (v19_0 : Bool) (v19_1 : Sl) (v19_2 : Sl) =>
  VCall none Try.prog 24 #[.agg #[.bool v19_0, .slice v19_1.base v19_1.len v19_1.cap, .slice v19_2.base v19_2.len v19_2.cap]] w3 (.tuple #[.slice none 0 0, .int .i64 0]) fun (r20_0 : Sl) (r20_1 : Int) (w4 : World) =>
  VSet r20_1 fun (e_3 : Int) =>
  VLd none w4 ⟨n_1, 0, none⟩ [CT.bool, CT.sl, CT.sl] fun (v24_0 : Bool) (v24_1 : Sl) (v24_2 : Sl) =>
  VCall none Try.prog 11 #[.agg #[.bool v24_0, .slice v24_1.base v24_1.len v24_1.cap, .slice v24_2.base v24_2.len v24_2.cap], .string (ByteArray.mk #[98])] w4 (.tuple #[.int .i64 0, .bool false]) fun (r25_0 : Int) (r25_1 : Bool) (w5 : World) =>
  VSet r25_0 fun (i_4 : Int) =>
  VLd none w5 ⟨n_1, 0, none⟩ [CT.bool, CT.sl, CT.sl] fun (v29_0 : Bool) (v29_1 : Sl) (v29_2 : Sl) =>
  VCall none Try.prog 11 #[.agg #[.bool v29_0, .slice v29_1.base v29_1.len v29_1.cap, .slice v29_2.base v29_2.len v29_2.cap], .string (ByteArray.mk #[97, 97])] w5 (.tuple #[.int .i64 0, .bool false]) fun (r30_0 : Int) (r30_1 : Bool) (w6 : World) =>
  VSet r30_0 fun (k_6 : Int) =>
  VLd none w6 ⟨n_1, 0, none⟩ [CT.bool, CT.sl, CT.sl] fun (v34_0 : Bool) (v34_1 : Sl) (v34_2 : Sl) =>
  VCall none Try.prog 13 #[.agg #[.bool v34_0, .slice v34_1.base v34_1.len v34_1.cap, .slice v34_2.base v34_2.len v34_2.cap]] w6 (.tuple #[.agg #[.bool false, .slice none 0 0, .slice none 0 0], .string ByteArray.empty, .agg #[.bool false, .slice none 0 0, .slice none 0 0]]) fun (r35_0 : Bool) (r35_1 : Sl) (r35_2 : Sl) (r35_3 : ByteArray) (r35_4 : Bool) (r35_5 : Sl) (r35_6 : Sl) (w7 : World) =>
  VNw none w7 (.cells #[.bool false, .slice none 0 0, .slice none 0 0] 30) fun (x_8 : Nat) (w8 : World) =>
  VNw none w8 (.cells #[.bool false, .slice none 0 0, .slice none 0 0] 30) fun (y_10 : Nat) (w9 : World) =>
  VSt none w9 ⟨x_8, 0, none⟩ [.bool r35_0, .slice r35_1.base r35_1.len r35_1.cap, .slice r35_2.base r35_2.len r35_2.cap] fun (w10 : World) =>
  VSt none w10 ⟨y_10, 0, none⟩ [.bool r35_4, .slice r35_5.base r35_5.len r35_5.cap, .slice r35_6.base r35_6.len r35_6.cap] fun (w11 : World) =>
  VNw none w11 (.cells #[.string (ByteArray.mk #[107]), .string ByteArray.empty, .int .i64 0, .int .i64 0, .string (ByteArray.mk #[109]), .string ByteArray.empty, .int .i64 0, .int .i64 0] 48) fun (b41 : Nat) (w12 : World) =>
  VNw none w12 (.cells #[.int .i64 3, .int .i64 4, .int .i64 5] 3) fun (b42 : Nat) (w13 : World) =>
  VNw none w13 (.cells #[.bool false, .slice none 0 0, .slice none 0 0] 30) fun (m_11 : Nat) (w14 : World) =>
  VSt none w14 ⟨m_11, 0, none⟩ [.bool false, .slice (some ⟨b41, 0, none⟩) 2 2, .slice (some ⟨b42, 0, none⟩) 3 3] fun (w15 : World) =>
  VLd none w15 ⟨m_11, 0, none⟩ [CT.bool, CT.sl, CT.sl] fun (v45_0 : Bool) (v45_1 : Sl) (v45_2 : Sl) =>
  VCall none Try.prog 24 #[.agg #[.bool v45_0, .slice v45_1.base v45_1.len v45_1.cap, .slice v45_2.base v45_2.len v45_2.cap]] w15 (.tuple #[.slice none 0 0, .int .i64 0]) fun (r46_0 : Sl) (r46_1 : Int) (w16 : World) =>
  VSet r46_1 fun (f_13 : Int) =>
  VStr (some (e_3 == 0)) w16 r20_0.base r20_0.len fun (s53 : ByteArray) =>
  VLd (some ((e_3 == 0) && (s53.toList == (ByteArray.mk #[1, 2, 1, 97, 0, 1, 49, 1, 98, 7, 100]).toList))) w16 ⟨n_1, 0, none⟩ [CT.bool, CT.sl, CT.sl] fun (v57_0 : Bool) (v57_1 : Sl) (v57_2 : Sl) =>
  VCall (some ((e_3 == 0) && (s53.toList == (ByteArray.mk #[1, 2, 1, 97, 0, 1, 49, 1, 98, 7, 100]).toList))) Try.prog 21 #[.agg #[.bool v57_0, .slice v57_1.base v57_1.len v57_1.cap, .slice v57_2.base v57_2.len v57_2.cap]] w16 (.int .i64 0) fun (r58 : Int) (w17 : World) =>
  VLd (some (((((((e_3 == 0) && (s53.toList == (ByteArray.mk #[1, 2, 1, 97, 0, 1, 49, 1, 98, 7, 100]).toList)) && (r58 == 11)) && (i_4 == 1)) && r25_1) && (k_6 == 1)) && (!r30_1))) w17 ⟨x_8, 1, none⟩ [CT.sl] fun (v78 : Sl) =>
  VLd (some (((((((((e_3 == 0) && (s53.toList == (ByteArray.mk #[1, 2, 1, 97, 0, 1, 49, 1, 98, 7, 100]).toList)) && (r58 == 11)) && (i_4 == 1)) && r25_1) && (k_6 == 1)) && (!r30_1)) && (((v78.len : Nat) : Int) == 1)) && (r35_3.toList == (ByteArray.mk #[98]).toList))) w17 ⟨y_10, 1, none⟩ [CT.sl] fun (v88 : Sl) =>
  VStr (some (((((((((((e_3 == 0) && (s53.toList == (ByteArray.mk #[1, 2, 1, 97, 0, 1, 49, 1, 98, 7, 100]).toList)) && (r58 == 11)) && (i_4 == 1)) && r25_1) && (k_6 == 1)) && (!r30_1)) && (((v78.len : Nat) : Int) == 1)) && (r35_3.toList == (ByteArray.mk #[98]).toList)) && (((v88.len : Nat) : Int) == 1)) && (f_13 == 0))) w17 r46_0.base r46_0.len fun (s98 : ByteArray) =>
  R (.returned (.bool ((((((((((((e_3 == 0) && (s53.toList == (ByteArray.mk #[1, 2, 1, 97, 0, 1, 49, 1, 98, 7, 100]).toList)) && (r58 == 11)) && (i_4 == 1)) && r25_1) && (k_6 == 1)) && (!r30_1)) && (((v78.len : Nat) : Int) == 1)) && (r35_3.toList == (ByteArray.mk #[98]).toList)) && (((v88.len : Nat) : Int) == 1)) && (f_13 == 0)) && (s98.toList == (ByteArray.mk #[0, 2, 1, 107, 1, 109, 3, 4, 5]).toList)))) w17
theorem sh_butterylaw06_awake_ok (w : World) (R : Ending → World → Prop) (h : sh_butterylaw06_awake w R) : Calls Try.prog 9 #[] w R :=
  calls_of_sh (args := []) (.two .auto (.two .auto (.two .auto (.two .auto (.two .auto (.two .auto (.two .auto (.two .auto (.two .auto .auto))))))))) Try.func9 (by kernel_rfl) (by kernel_rfl) (by kernel_rfl) h

/-- 10: buttery/butterylaw06.given -/
def sh_butterylaw06_given (n_0_0 : Bool) (n_0_1 : Sl) (n_0_2 : Sl) (w : World) (R : Ending → World → Prop) : Prop :=
  VNw none w (.cells #[.bool n_0_0, .slice n_0_1.base n_0_1.len n_0_1.cap, .slice n_0_2.base n_0_2.len n_0_2.cap] 25) fun (n_1 : Nat) (w1 : World) =>
  VNw none w1 (.cells #[.bool false, .slice none 0 0, .slice none 0 0] 30) fun (b2 : Nat) (w2 : World) =>
  ∃ Φ1 : Option Addr → World → Prop, (
    ∀ (w3 : World), w3 = World.drew w2 →
    VLd none w3 ⟨n_1, 0, none⟩ [CT.bool] fun (v7 : Bool) =>
    VLd none w3 ⟨n_1, 2, none⟩ [CT.sl] fun (v10 : Sl) =>
    (
      VNw none w3 (.cells #[] 3) fun (b8 : Nat) (w4 : World) =>
      Rd w4 ⟨n_1, 2, none⟩ [.slice v10.base v10.len v10.cap] ∧
      Rd w4 ⟨n_1, 0, none⟩ [.bool v7] ∧
      (
        VApp none w4 3 1 8 #[.int .i64 0] (some ⟨b8, 0, none⟩) 0 0 v10.len (fun news => Seg w4 v10.base v10.len 1 news) fun (l11 : Sl) (w5 : World) =>
        Rd w5 ⟨n_1, 0, none⟩ [.bool v7] ∧
        VNw none w5 (.cells #[.bool false, .slice none 0 0, .slice none 0 0] 30) fun (m_3 : Nat) (w6 : World) =>
        Rd w6 ⟨n_1, 0, none⟩ [.bool v7] ∧
        VSt none w6 ⟨m_3, 0, none⟩ [.bool v7, .slice none 0 0, .slice l11.base l11.len l11.cap] fun (w7 : World) =>
        Φ1 (some ⟨m_3, 0, none⟩) w7
      ) ∧ (
        VNw none w4 (.cells #[.bool false, .slice none 0 0, .slice none 0 0] 30) fun (m_3 : Nat) (w8 : World) =>
        Rd w8 ⟨n_1, 2, none⟩ [.slice v10.base v10.len v10.cap] ∧
        Rd w8 ⟨n_1, 0, none⟩ [.bool v7] ∧
        VApp none w8 3 1 8 #[.int .i64 0] (some ⟨b8, 0, none⟩) 0 0 v10.len (fun news => Seg w8 v10.base v10.len 1 news) fun (l11 : Sl) (w9 : World) =>
        Rd w9 ⟨n_1, 0, none⟩ [.bool v7] ∧
        VSt none w9 ⟨m_3, 0, none⟩ [.bool v7, .slice none 0 0, .slice l11.base l11.len l11.cap] fun (w10 : World) =>
        Φ1 (some ⟨m_3, 0, none⟩) w10
      )
    ) ∧ (
      VNw none w3 (.cells #[.bool false, .slice none 0 0, .slice none 0 0] 30) fun (m_3 : Nat) (w11 : World) =>
      Rd w11 ⟨n_1, 2, none⟩ [.slice v10.base v10.len v10.cap] ∧
      Rd w11 ⟨n_1, 0, none⟩ [.bool v7] ∧
      VNw none w11 (.cells #[] 3) fun (b8 : Nat) (w12 : World) =>
      Rd w12 ⟨n_1, 2, none⟩ [.slice v10.base v10.len v10.cap] ∧
      Rd w12 ⟨n_1, 0, none⟩ [.bool v7] ∧
      VApp none w12 3 1 8 #[.int .i64 0] (some ⟨b8, 0, none⟩) 0 0 v10.len (fun news => Seg w12 v10.base v10.len 1 news) fun (l11 : Sl) (w13 : World) =>
      Rd w13 ⟨n_1, 0, none⟩ [.bool v7] ∧
      VSt none w13 ⟨m_3, 0, none⟩ [.bool v7, .slice none 0 0, .slice l11.base l11.len l11.cap] fun (w14 : World) =>
      Φ1 (some ⟨m_3, 0, none⟩) w14
    )
  ) ∧ ∀ (m_3 : Option Addr) (w15 : World), Φ1 m_3 w15 →
  ∃ I2 : Nat → Int → World → Prop, (∃ k, I2 k 0 w15) ∧ ∀ k2 (i_4 : Int) (w16 : World), I2 k2 i_4 w16 →
  VLd none w16 ⟨n_1, 1, none⟩ [CT.sl] fun (v15 : Sl) =>
  VIf (decide (i_4 < ((v15.len : Nat) : Int))) (
    VLd none w16 ⟨n_1, 1, none⟩ [CT.sl] fun (v21 : Sl) =>
    VIx none v21.base v21.len i_4 fun (a23 : Addr) =>
    VLd none w16 (Addr.add a23 ((Int.toNat i_4) * 4)) [CT.str, CT.str, CT.int .i64, CT.int .i64] fun (v24_0 : ByteArray) (v24_1 : ByteArray) (v24_2 : Int) (v24_3 : Int) =>
    VNw none w16 (.cells #[.string ByteArray.empty, .string ByteArray.empty, .int .i64 0, .int .i64 0] 47) fun (c_5 : Nat) (w17 : World) =>
    VSt none w17 ⟨c_5, 0, none⟩ [.string v24_0, .string v24_1, .int .i64 v24_2, .int .i64 v24_3] fun (w18 : World) =>
    onPtr m_3 fun (q_v25 : Addr) =>
    VLd none w18 (Addr.add q_v25 1) [CT.sl] fun (v26 : Sl) =>
    VLd none w18 ⟨c_5, 0, none⟩ [CT.str] fun (v28 : ByteArray) =>
    VLd none w18 ⟨c_5, 1, none⟩ [CT.str] fun (v30 : ByteArray) =>
    VLd none w18 ⟨c_5, 2, none⟩ [CT.int .i64] fun (v32 : Int) =>
    VLd none w18 ⟨c_5, 3, none⟩ [CT.int .i64] fun (v34 : Int) =>
    VNw none w18 (.cells #[.string v28, .string v30, .int .i64 v32, .int .i64 v34] 48) fun (b36 : Nat) (w19 : World) =>
    VApp none w19 48 4 48 #[.string ByteArray.empty, .string ByteArray.empty, .int .i64 0, .int .i64 0] v26.base v26.len v26.cap 1 (fun news => Seg w19 (some ⟨b36, 0, none⟩) 1 4 news) fun (l37 : Sl) (w20 : World) =>
    onPtr m_3 fun (q_v38 : Addr) =>
    VSt none w20 (Addr.add q_v38 1) [.slice l37.base l37.len l37.cap] fun (w21 : World) =>
    VSet (IntKind.wrap .i64 (i_4 + 1)) fun (i_4' : Int) =>
    ∃ k', k' < k2 ∧ I2 k' i_4' w21
  ) (
    onPtr m_3 fun (q_v39 : Addr) =>
    VLd none w16 q_v39 [CT.bool, CT.sl, CT.sl] fun (v39_0 : Bool) (v39_1 : Sl) (v39_2 : Sl) =>
    VSt none w16 ⟨b2, 0, none⟩ [.bool v39_0, .slice v39_1.base v39_1.len v39_1.cap, .slice v39_2.base v39_2.len v39_2.cap] fun (w22 : World) =>
    VLd none w22 ⟨b2, 0, none⟩ [CT.bool, CT.sl, CT.sl] fun (res2_0 : Bool) (res2_1 : Sl) (res2_2 : Sl) =>
    R (.returned (.agg #[.bool res2_0, .slice res2_1.base res2_1.len res2_1.cap, .slice res2_2.base res2_2.len res2_2.cap])) w22
  )
theorem sh_butterylaw06_given_ok (n_0_0 : Bool) (n_0_1 : Sl) (n_0_2 : Sl) (w : World) (R : Ending → World → Prop) (h : sh_butterylaw06_given n_0_0 n_0_1 n_0_2 w R) : Calls Try.prog 10 #[.agg #[.bool n_0_0, .slice n_0_1.base n_0_1.len n_0_1.cap, .slice n_0_2.base n_0_2.len n_0_2.cap]] w R :=
  calls_of_sh (args := [.agg #[.bool n_0_0, .slice n_0_1.base n_0_1.len n_0_1.cap, .slice n_0_2.base n_0_2.len n_0_2.cap]]) (.two .auto (.two (.bjoin [(3, .pointer none)] .auto) (.two (.two .auto (.one (.loop [(4, .int .i64 0)] (.two (.two .auto (.two .auto .auto)) (.two (.one (.two .auto .auto)) .auto))))) (.two .auto .auto)))) Try.func10 (by kernel_rfl) (by kernel_rfl) (by kernel_rfl) h

/-- 11: buttery/node.Find -/
def sh_node_Find (n_0_0 : Bool) (n_0_1 : Sl) (n_0_2 : Sl) (key_1 : ByteArray) (w : World) (R : Ending → World → Prop) : Prop :=
  VNw none w (.cells #[.bool n_0_0, .slice n_0_1.base n_0_1.len n_0_1.cap, .slice n_0_2.base n_0_2.len n_0_2.cap] 30) fun (n_2 : Nat) (w1 : World) =>
  VNw none w1 (.cells #[.string key_1] 9) fun (key_3 : Nat) (w2 : World) =>
  VLd none w2 ⟨n_2, 1, none⟩ [CT.sl] fun (v8 : Sl) =>
  VCall none Try.prog 30 #[.slice v8.base v8.len v8.cap, .func (.func 31) #[] #[.pointer (some ⟨key_3, 0, none⟩)]] w2 (.int .i64 0) fun (r10 : Int) (w3 : World) =>
  VSet r10 fun (i_6 : Int) =>
  VIf (decide (i_6 < 0)) (
    VLd none w3 ⟨n_2, 1, none⟩ [CT.sl] fun (v14 : Sl) =>
    VSet ((v14.len : Nat) : Int) fun (v4 : Int) =>
    R (.returned (.tuple #[.int .i64 v4, .bool false])) w3
  ) (
    ∀ (w4 : World), w4 = World.drew w3 →
    VLd none w4 ⟨n_2, 1, none⟩ [CT.sl] fun (v18 : Sl) =>
    VIx none v18.base v18.len i_6 fun (a20 : Addr) =>
    VLd none w4 (Addr.add a20 ((Int.toNat i_6) * 4)) [CT.str] fun (v22 : ByteArray) =>
    VLd none w4 ⟨key_3, 0, none⟩ [CT.str] fun (v23 : ByteArray) =>
    VSet i_6 fun (v4' : Int) =>
    R (.returned (.tuple #[.int .i64 v4', .bool (v22.toList == v23.toList)])) w4
  )
theorem sh_node_Find_ok (n_0_0 : Bool) (n_0_1 : Sl) (n_0_2 : Sl) (key_1 : ByteArray) (w : World) (R : Ending → World → Prop) (h : sh_node_Find n_0_0 n_0_1 n_0_2 key_1 w R) : Calls Try.prog 11 #[.agg #[.bool n_0_0, .slice n_0_1.base n_0_1.len n_0_1.cap, .slice n_0_2.base n_0_2.len n_0_2.cap], .string key_1] w R :=
  calls_of_sh (args := [.agg #[.bool n_0_0, .slice n_0_1.base n_0_1.len n_0_1.cap, .slice n_0_2.base n_0_2.len n_0_2.cap], .string key_1]) (.two .auto (.two .auto (.two (.two .auto (.two (.two .auto .auto) .auto)) (.two .auto .auto)))) Try.func11 (by kernel_rfl) (by kernel_rfl) (by kernel_rfl) h

/-- 12: buttery/butteryref06.Find -/
def sh_butteryref06_Find (n_0_0 : Bool) (n_0_1 : Sl) (n_0_2 : Sl) (key_1 : ByteArray) (w : World) (R : Ending → World → Prop) : Prop :=
  VNw none w (.cells #[.bool n_0_0, .slice n_0_1.base n_0_1.len n_0_1.cap, .slice n_0_2.base n_0_2.len n_0_2.cap] 25) fun (n_2 : Nat) (w1 : World) =>
  ∃ I1 : Nat → Int → World → Prop, (∃ k, I1 k 0 w1) ∧ ∀ k1 (i_6 : Int) (w2 : World), I1 k1 i_6 w2 →
  VLd none w2 ⟨n_2, 1, none⟩ [CT.sl] fun (v9 : Sl) =>
  VIf (decide (i_6 < ((v9.len : Nat) : Int))) (
    VLd none w2 ⟨n_2, 1, none⟩ [CT.sl] fun (v15 : Sl) =>
    VIx none v15.base v15.len i_6 fun (a17 : Addr) =>
    VLd none w2 (Addr.add a17 ((Int.toNat i_6) * 4)) [CT.str] fun (v19 : ByteArray) =>
    VIf (!(Op.bytesLess v19.toList key_1.toList)) (
      ∀ (w3 : World), w3 = World.drew w2 →
      VLd none w3 ⟨n_2, 1, none⟩ [CT.sl] fun (v24 : Sl) =>
      VIx none v24.base v24.len i_6 fun (a26 : Addr) =>
      VLd none w3 (Addr.add a26 ((Int.toNat i_6) * 4)) [CT.str] fun (v28 : ByteArray) =>
      VSet i_6 fun (v4 : Int) =>
      R (.returned (.tuple #[.int .i64 v4, .bool (v28.toList == key_1.toList)])) w3
    ) (
      VSet (IntKind.wrap .i64 (i_6 + 1)) fun (i_6' : Int) =>
      ∃ k', k' < k1 ∧ I1 k' i_6' w2
    )
  ) (
    VLd none w2 ⟨n_2, 1, none⟩ [CT.sl] fun (v32 : Sl) =>
    VSet ((v32.len : Nat) : Int) fun (v4' : Int) =>
    R (.returned (.tuple #[.int .i64 v4', .bool false])) w2
  )
theorem sh_butteryref06_Find_ok (n_0_0 : Bool) (n_0_1 : Sl) (n_0_2 : Sl) (key_1 : ByteArray) (w : World) (R : Ending → World → Prop) (h : sh_butteryref06_Find n_0_0 n_0_1 n_0_2 key_1 w R) : Calls Try.prog 12 #[.agg #[.bool n_0_0, .slice n_0_1.base n_0_1.len n_0_1.cap, .slice n_0_2.base n_0_2.len n_0_2.cap], .string key_1] w R :=
  calls_of_sh (args := [.agg #[.bool n_0_0, .slice n_0_1.base n_0_1.len n_0_1.cap, .slice n_0_2.base n_0_2.len n_0_2.cap], .string key_1]) (.two .auto (.two (.two .auto (.one (.loop [(6, .int .i64 0)] (.two (.two .auto (.two .auto .auto)) (.two (.one (.two .auto (.two (.two .auto .auto) .auto))) .auto))))) (.two .auto .auto))) Try.func12 (by kernel_rfl) (by kernel_rfl) (by kernel_rfl) h

/-- 13: buttery/node.Cut -/
def sh_node_Cut (n_0_0 : Bool) (n_0_1 : Sl) (n_0_2 : Sl) (w : World) (R : Ending → World → Prop) : Prop :=
  VNw none w (.cells #[.bool n_0_0, .slice n_0_1.base n_0_1.len n_0_1.cap, .slice n_0_2.base n_0_2.len n_0_2.cap] 30) fun (n_1 : Nat) (w1 : World) =>
  VNw none w1 (.cells #[.bool false, .slice none 0 0, .slice none 0 0] 30) fun (b2 : Nat) (w2 : World) =>
  VNw none w2 (.cells #[.bool false, .slice none 0 0, .slice none 0 0] 30) fun (b4 : Nat) (w3 : World) =>
  ∃ Φ1 : Int → World → Prop, (
    VLd none w3 ⟨n_1, 0, none⟩ [CT.bool] fun (v10 : Bool) =>
    VIf v10 (
      Φ1 1 w3
    ) (
      Φ1 0 w3
    )
  ) ∧ ∀ (first_5 : Int) (w4 : World), Φ1 first_5 w4 →
  VLd none w4 ⟨n_1, 1, none⟩ [CT.sl] fun (v12 : Sl) =>
  VIf (decide (((v12.len : Nat) : Int) ≤ first_5)) (
    VLd none w4 ⟨n_1, 0, none⟩ [CT.bool, CT.sl, CT.sl] fun (v16_0 : Bool) (v16_1 : Sl) (v16_2 : Sl) =>
    VCall none Try.prog 32 #[.agg #[.bool v16_0, .slice v16_1.base v16_1.len v16_1.cap, .slice v16_2.base v16_2.len v16_2.cap]] w4 (.agg #[.bool false, .slice none 0 0, .slice none 0 0]) fun (r17_0 : Bool) (r17_1 : Sl) (r17_2 : Sl) (w5 : World) =>
    VSt none w5 ⟨b2, 0, none⟩ [.bool r17_0, .slice r17_1.base r17_1.len r17_1.cap, .slice r17_2.base r17_2.len r17_2.cap] fun (w6 : World) =>
    VSt none w6 ⟨b4, 0, none⟩ [.bool false, .slice none 0 0, .slice none 0 0] fun (w7 : World) =>
    VLd none w7 ⟨b2, 0, none⟩ [CT.bool, CT.sl, CT.sl] fun (res2_0 : Bool) (res2_1 : Sl) (res2_2 : Sl) =>
    VLd none w7 ⟨b4, 0, none⟩ [CT.bool, CT.sl, CT.sl] fun (res4_0 : Bool) (res4_1 : Sl) (res4_2 : Sl) =>
    R (.returned (.tuple #[.agg #[.bool res2_0, .slice res2_1.base res2_1.len res2_1.cap, .slice res2_2.base res2_2.len res2_2.cap], .string (ByteArray.mk #[]), .agg #[.bool res4_0, .slice res4_1.base res4_1.len res4_1.cap, .slice res4_2.base res4_2.len res4_2.cap]])) w7
  ) (
    VSet first_5 fun (best_7 : Int) =>
    VSet (IntKind.wrap .i64 (first_5 + 1)) fun (i_8 : Int) =>
    ∃ I2 : Nat → Int → Int → World → Prop, (∃ k, I2 k best_7 i_8 w4) ∧ ∀ k2 (best_7' : Int) (i_8' : Int) (w8 : World), I2 k2 best_7' i_8' w8 →
    VLd none w8 ⟨n_1, 1, none⟩ [CT.sl] fun (v25 : Sl) =>
    VIf (decide (i_8' < ((v25.len : Nat) : Int))) (
      ∃ Φ3 : Int → World → Prop, (
        VDyn none Try.prog (.func (.func 33) #[] #[.pointer (some ⟨n_1, 0, none⟩)]) #[.int .i64 i_8'] w8 (.int .i64 0) fun (r32 : Int) (w9 : World) =>
        VDyn none Try.prog (.func (.func 33) #[] #[.pointer (some ⟨n_1, 0, none⟩)]) #[.int .i64 best_7'] w9 (.int .i64 0) fun (r35 : Int) (w10 : World) =>
        VIf (decide (r32 < r35)) (
          VSet i_8' fun (best_7_3 : Int) =>
          Φ3 best_7_3 w10
        ) (
          Φ3 best_7' w10
        )
      ) ∧ ∀ (best_7'' : Int) (w11 : World), Φ3 best_7'' w11 →
      VSet (IntKind.wrap .i64 (i_8' + 1)) fun (i_8'' : Int) =>
      ∃ k', k' < k2 ∧ I2 k' best_7'' i_8'' w11
    ) (
      VLd none w8 ⟨n_1, 0, none⟩ [CT.bool, CT.sl, CT.sl] fun (v38_0 : Bool) (v38_1 : Sl) (v38_2 : Sl) =>
      VCall none Try.prog 34 #[.agg #[.bool v38_0, .slice v38_1.base v38_1.len v38_1.cap, .slice v38_2.base v38_2.len v38_2.cap], .int .i64 best_7'] w8 (.tuple #[.agg #[.bool false, .slice none 0 0, .slice none 0 0], .string ByteArray.empty, .agg #[.bool false, .slice none 0 0, .slice none 0 0]]) fun (r40_0 : Bool) (r40_1 : Sl) (r40_2 : Sl) (r40_3 : ByteArray) (r40_4 : Bool) (r40_5 : Sl) (r40_6 : Sl) (w12 : World) =>
      VSt none w12 ⟨b2, 0, none⟩ [.bool r40_0, .slice r40_1.base r40_1.len r40_1.cap, .slice r40_2.base r40_2.len r40_2.cap] fun (w13 : World) =>
      VSt none w13 ⟨b4, 0, none⟩ [.bool r40_4, .slice r40_5.base r40_5.len r40_5.cap, .slice r40_6.base r40_6.len r40_6.cap] fun (w14 : World) =>
      VLd none w14 ⟨b2, 0, none⟩ [CT.bool, CT.sl, CT.sl] fun (res2_0 : Bool) (res2_1 : Sl) (res2_2 : Sl) =>
      VLd none w14 ⟨b4, 0, none⟩ [CT.bool, CT.sl, CT.sl] fun (res4_0 : Bool) (res4_1 : Sl) (res4_2 : Sl) =>
      R (.returned (.tuple #[.agg #[.bool res2_0, .slice res2_1.base res2_1.len res2_1.cap, .slice res2_2.base res2_2.len res2_2.cap], .string r40_3, .agg #[.bool res4_0, .slice res4_1.base res4_1.len res4_1.cap, .slice res4_2.base res4_2.len res4_2.cap]])) w14
    )
  )
theorem sh_node_Cut_ok (n_0_0 : Bool) (n_0_1 : Sl) (n_0_2 : Sl) (w : World) (R : Ending → World → Prop) (h : sh_node_Cut n_0_0 n_0_1 n_0_2 w R) : Calls Try.prog 13 #[.agg #[.bool n_0_0, .slice n_0_1.base n_0_1.len n_0_1.cap, .slice n_0_2.base n_0_2.len n_0_2.cap]] w R :=
  calls_of_sh (args := [.agg #[.bool n_0_0, .slice n_0_1.base n_0_1.len n_0_1.cap, .slice n_0_2.base n_0_2.len n_0_2.cap]]) (.two .auto (.two .auto (.join [(5, .int .i64 0)] (.two .auto (.two .auto .auto)) (.two (.two .auto (.two (.two .auto .auto) .auto)) (.two .auto (.two .auto (.two (.two .auto (.one (.loop [(7, .int .i64 0), (8, .int .i64 0)] (.two (.two .auto (.two .auto .auto)) (.two (.bjoin [(7, .int .i64 0)] (.two .auto (.two .auto .auto))) .auto))))) (.two .auto .auto)))))))) Try.func13 (by kernel_rfl) (by kernel_rfl) (by kernel_rfl) h

/-- 14: buttery/butteryref06.Cut -/
def sh_butteryref06_Cut (n_0_0 : Bool) (n_0_1 : Sl) (n_0_2 : Sl) (w : World) (R : Ending → World → Prop) : Prop :=
  VNw none w (.cells #[.bool n_0_0, .slice n_0_1.base n_0_1.len n_0_1.cap, .slice n_0_2.base n_0_2.len n_0_2.cap] 25) fun (n_1 : Nat) (w1 : World) =>
  VNw none w1 (.cells #[.bool false, .slice none 0 0, .slice none 0 0] 25) fun (b2 : Nat) (w2 : World) =>
  VNw none w2 (.cells #[.bool false, .slice none 0 0, .slice none 0 0] 25) fun (b4 : Nat) (w3 : World) =>
  ∃ Φ1 : Int → World → Prop, (
    VLd none w3 ⟨n_1, 0, none⟩ [CT.bool] fun (v14 : Bool) =>
    VIf v14 (
      Φ1 1 w3
    ) (
      Φ1 0 w3
    )
  ) ∧ ∀ (first_5 : Int) (w4 : World), Φ1 first_5 w4 →
  VLd none w4 ⟨n_1, 1, none⟩ [CT.sl] fun (v16 : Sl) =>
  VIf (decide (((v16.len : Nat) : Int) ≤ first_5)) (
    VLd none w4 ⟨n_1, 0, none⟩ [CT.bool, CT.sl, CT.sl] fun (v20_0 : Bool) (v20_1 : Sl) (v20_2 : Sl) =>
    VCall none Try.prog 36 #[.agg #[.bool v20_0, .slice v20_1.base v20_1.len v20_1.cap, .slice v20_2.base v20_2.len v20_2.cap]] w4 (.agg #[.bool false, .slice none 0 0, .slice none 0 0]) fun (r21_0 : Bool) (r21_1 : Sl) (r21_2 : Sl) (w5 : World) =>
    VSt none w5 ⟨b2, 0, none⟩ [.bool r21_0, .slice r21_1.base r21_1.len r21_1.cap, .slice r21_2.base r21_2.len r21_2.cap] fun (w6 : World) =>
    VSt none w6 ⟨b4, 0, none⟩ [.bool false, .slice none 0 0, .slice none 0 0] fun (w7 : World) =>
    VLd none w7 ⟨b2, 0, none⟩ [CT.bool, CT.sl, CT.sl] fun (res2_0 : Bool) (res2_1 : Sl) (res2_2 : Sl) =>
    VLd none w7 ⟨b4, 0, none⟩ [CT.bool, CT.sl, CT.sl] fun (res4_0 : Bool) (res4_1 : Sl) (res4_2 : Sl) =>
    R (.returned (.tuple #[.agg #[.bool res2_0, .slice res2_1.base res2_1.len res2_1.cap, .slice res2_2.base res2_2.len res2_2.cap], .string (ByteArray.mk #[]), .agg #[.bool res4_0, .slice res4_1.base res4_1.len res4_1.cap, .slice res4_2.base res4_2.len res4_2.cap]])) w7
  ) (
    VSet first_5 fun (i_8 : Int) =>
    ∃ I2 : Nat → Int → Int → Int → World → Prop, (∃ k, I2 k (-1) 0 i_8 w4) ∧ ∀ k2 (best_6 : Int) (least_7 : Int) (i_8' : Int) (w8 : World), I2 k2 best_6 least_7 i_8' w8 →
    VLd none w8 ⟨n_1, 1, none⟩ [CT.sl] fun (v26 : Sl) =>
    VIf (decide (i_8' < ((v26.len : Nat) : Int))) (
      ∃ Φ3 : Int → Int → World → Prop, (
        VLd none w8 ⟨n_1, 0, none⟩ [CT.bool, CT.sl, CT.sl] fun (v32_0 : Bool) (v32_1 : Sl) (v32_2 : Sl) =>
        VCall none Try.prog 37 #[.agg #[.bool v32_0, .slice v32_1.base v32_1.len v32_1.cap, .slice v32_2.base v32_2.len v32_2.cap], .int .i64 i_8'] w8 (.tuple #[.agg #[.bool false, .slice none 0 0, .slice none 0 0], .string ByteArray.empty, .agg #[.bool false, .slice none 0 0, .slice none 0 0]]) fun (r34_0 : Bool) (r34_1 : Sl) (r34_2 : Sl) (r34_3 : ByteArray) (r34_4 : Bool) (r34_5 : Sl) (r34_6 : Sl) (w9 : World) =>
        VNw none w9 (.cells #[.bool false, .slice none 0 0, .slice none 0 0] 25) fun (a_9 : Nat) (w10 : World) =>
        VNw none w10 (.cells #[.bool false, .slice none 0 0, .slice none 0 0] 25) fun (b_11 : Nat) (w11 : World) =>
        VSt none w11 ⟨a_9, 0, none⟩ [.bool r34_0, .slice r34_1.base r34_1.len r34_1.cap, .slice r34_2.base r34_2.len r34_2.cap] fun (w12 : World) =>
        VSt none w12 ⟨b_11, 0, none⟩ [.bool r34_4, .slice r34_5.base r34_5.len r34_5.cap, .slice r34_6.base r34_6.len r34_6.cap] fun (w13 : World) =>
        ∀ (w14 : World), w14 = World.drew w13 →
        VLd none w14 ⟨a_9, 0, none⟩ [CT.bool, CT.sl, CT.sl] fun (v38_0 : Bool) (v38_1 : Sl) (v38_2 : Sl) =>
        VLd none w14 ⟨b_11, 0, none⟩ [CT.bool, CT.sl, CT.sl] fun (v41_0 : Bool) (v41_1 : Sl) (v41_2 : Sl) =>
        VCall none Try.prog 38 #[.agg #[.bool v38_0, .slice v38_1.base v38_1.len v38_1.cap, .slice v38_2.base v38_2.len v38_2.cap]] w14 (.slice none 0 0) fun (r39 : Sl) (w15 : World) =>
        Rd w15 ⟨b_11, 0, none⟩ [.bool v41_0, .slice v41_1.base v41_1.len v41_1.cap, .slice v41_2.base v41_2.len v41_2.cap] ∧
        VCall none Try.prog 38 #[.agg #[.bool v41_0, .slice v41_1.base v41_1.len v41_1.cap, .slice v41_2.base v41_2.len v41_2.cap]] w15 (.slice none 0 0) fun (r42 : Sl) (w16 : World) =>
        VSet (IntKind.wrap .i64 (((r39.len : Nat) : Int) - ((r42.len : Nat) : Int))) fun (d_12 : Int) =>
        ∃ Φ4 : Int → World → Prop, (
          VIf (decide (d_12 < 0)) (
            VSet (IntKind.wrap .i64 (0 - d_12)) fun (d_12'' : Int) =>
            Φ4 d_12'' w16
          ) (
            Φ4 d_12 w16
          )
        ) ∧ ∀ (d_12' : Int) (w17 : World), Φ4 d_12' w17 →
        VIf ((decide (best_6 < 0)) || (decide (d_12' < least_7))) (
          VSet i_8' fun (best_6'' : Int) =>
          VSet d_12' fun (least_7'' : Int) =>
          Φ3 best_6'' least_7'' w17
        ) (
          Φ3 best_6 least_7 w17
        )
      ) ∧ ∀ (best_6' : Int) (least_7' : Int) (w18 : World), Φ3 best_6' least_7' w18 →
      VSet (IntKind.wrap .i64 (i_8' + 1)) fun (i_8'' : Int) =>
      ∃ k', k' < k2 ∧ I2 k' best_6' least_7' i_8'' w18
    ) (
      VLd none w8 ⟨n_1, 0, none⟩ [CT.bool, CT.sl, CT.sl] fun (v58_0 : Bool) (v58_1 : Sl) (v58_2 : Sl) =>
      VCall none Try.prog 37 #[.agg #[.bool v58_0, .slice v58_1.base v58_1.len v58_1.cap, .slice v58_2.base v58_2.len v58_2.cap], .int .i64 best_6] w8 (.tuple #[.agg #[.bool false, .slice none 0 0, .slice none 0 0], .string ByteArray.empty, .agg #[.bool false, .slice none 0 0, .slice none 0 0]]) fun (r60_0 : Bool) (r60_1 : Sl) (r60_2 : Sl) (r60_3 : ByteArray) (r60_4 : Bool) (r60_5 : Sl) (r60_6 : Sl) (w19 : World) =>
      VSt none w19 ⟨b2, 0, none⟩ [.bool r60_0, .slice r60_1.base r60_1.len r60_1.cap, .slice r60_2.base r60_2.len r60_2.cap] fun (w20 : World) =>
      VSt none w20 ⟨b4, 0, none⟩ [.bool r60_4, .slice r60_5.base r60_5.len r60_5.cap, .slice r60_6.base r60_6.len r60_6.cap] fun (w21 : World) =>
      VLd none w21 ⟨b2, 0, none⟩ [CT.bool, CT.sl, CT.sl] fun (res2_0 : Bool) (res2_1 : Sl) (res2_2 : Sl) =>
      VLd none w21 ⟨b4, 0, none⟩ [CT.bool, CT.sl, CT.sl] fun (res4_0 : Bool) (res4_1 : Sl) (res4_2 : Sl) =>
      R (.returned (.tuple #[.agg #[.bool res2_0, .slice res2_1.base res2_1.len res2_1.cap, .slice res2_2.base res2_2.len res2_2.cap], .string r60_3, .agg #[.bool res4_0, .slice res4_1.base res4_1.len res4_1.cap, .slice res4_2.base res4_2.len res4_2.cap]])) w21
    )
  )
theorem sh_butteryref06_Cut_ok (n_0_0 : Bool) (n_0_1 : Sl) (n_0_2 : Sl) (w : World) (R : Ending → World → Prop) (h : sh_butteryref06_Cut n_0_0 n_0_1 n_0_2 w R) : Calls Try.prog 14 #[.agg #[.bool n_0_0, .slice n_0_1.base n_0_1.len n_0_1.cap, .slice n_0_2.base n_0_2.len n_0_2.cap]] w R :=
  calls_of_sh (args := [.agg #[.bool n_0_0, .slice n_0_1.base n_0_1.len n_0_1.cap, .slice n_0_2.base n_0_2.len n_0_2.cap]]) (.two .auto (.two .auto (.join [(5, .int .i64 0)] (.two .auto (.two .auto .auto)) (.two (.two .auto (.two (.two .auto .auto) .auto)) (.two .auto (.two (.two .auto (.one (.loop [(6, .int .i64 0), (7, .int .i64 0), (8, .int .i64 0)] (.two (.two .auto (.two .auto .auto)) (.two (.bjoin [(6, .int .i64 0), (7, .int .i64 0)] (.two .auto (.two .auto (.join [(12, .int .i64 0)] (.two .auto (.two .auto .auto)) (.two .auto (.two .auto .auto)))))) .auto))))) (.two .auto .auto))))))) Try.func14 (by kernel_rfl) (by kernel_rfl) (by kernel_rfl) h

/-- 15: buttery/node.Join -/
def sh_node_Join (a_0_0 : Bool) (a_0_1 : Sl) (a_0_2 : Sl) (sep_1 : ByteArray) (b_2_0 : Bool) (b_2_1 : Sl) (b_2_2 : Sl) (w : World) (R : Ending → World → Prop) : Prop :=
  VNw none w (.cells #[.bool a_0_0, .slice a_0_1.base a_0_1.len a_0_1.cap, .slice a_0_2.base a_0_2.len a_0_2.cap] 30) fun (a_3 : Nat) (w1 : World) =>
  VNw none w1 (.cells #[.bool b_2_0, .slice b_2_1.base b_2_1.len b_2_1.cap, .slice b_2_2.base b_2_2.len b_2_2.cap] 30) fun (b_5 : Nat) (w2 : World) =>
  VNw none w2 (.cells #[.bool false, .slice none 0 0, .slice none 0 0] 30) fun (b6 : Nat) (w3 : World) =>
  VLd none w3 ⟨a_3, 0, none⟩ [CT.bool] fun (v8 : Bool) =>
  VIf v8 (
    VLd none w3 ⟨a_3, 1, none⟩ [CT.sl] fun (v10 : Sl) =>
    VLd none w3 ⟨b_5, 1, none⟩ [CT.sl] fun (v12 : Sl) =>
    VNw none w3 (.cells #[.slice v10.base v10.len v10.cap, .slice v12.base v12.len v12.cap] 28) fun (b13 : Nat) (w4 : World) =>
    VCall none Try.prog 39 #[.slice (some ⟨b13, 0, none⟩) 2 2] w4 (.slice none 0 0) fun (r14 : Sl) (w5 : World) =>
    VSt none w5 ⟨b6, 0, none⟩ [.bool true, .slice r14.base r14.len r14.cap, .slice none 0 0] fun (w6 : World) =>
    VLd none w6 ⟨b6, 0, none⟩ [CT.bool, CT.sl, CT.sl] fun (res6_0 : Bool) (res6_1 : Sl) (res6_2 : Sl) =>
    R (.returned (.agg #[.bool res6_0, .slice res6_1.base res6_1.len res6_1.cap, .slice res6_2.base res6_2.len res6_2.cap])) w6
  ) (
    ∃ Φ1 : World → Prop, (
      ∀ (w7 : World), w7 = World.drew w3 →
      VLd none w7 ⟨a_3, 1, none⟩ [CT.sl] fun (v17 : Sl) =>
      VLd none w7 ⟨b_5, 1, none⟩ [CT.sl] fun (v22 : Sl) =>
      VLd none w7 ⟨a_3, 2, none⟩ [CT.sl] fun (v26 : Sl) =>
      VLd none w7 ⟨b_5, 2, none⟩ [CT.sl] fun (v28 : Sl) =>
      (
        VNw none w7 (.cells #[.string sep_1, .string ByteArray.empty, .int .i64 0, .int .i64 0] 48) fun (b20 : Nat) (w8 : World) =>
        Rd w8 ⟨b_5, 2, none⟩ [.slice v28.base v28.len v28.cap] ∧
        Rd w8 ⟨a_3, 2, none⟩ [.slice v26.base v26.len v26.cap] ∧
        Rd w8 ⟨b_5, 1, none⟩ [.slice v22.base v22.len v22.cap] ∧
        Rd w8 ⟨a_3, 1, none⟩ [.slice v17.base v17.len v17.cap] ∧
        (
          VNw none w8 (.cells #[.slice v17.base v17.len v17.cap, .slice (some ⟨b20, 0, none⟩) 1 1, .slice v22.base v22.len v22.cap] 28) fun (b23 : Nat) (w9 : World) =>
          Rd w9 ⟨b_5, 2, none⟩ [.slice v28.base v28.len v28.cap] ∧
          Rd w9 ⟨a_3, 2, none⟩ [.slice v26.base v26.len v26.cap] ∧
          (
            VCall none Try.prog 39 #[.slice (some ⟨b23, 0, none⟩) 3 3] w9 (.slice none 0 0) fun (r24 : Sl) (w10 : World) =>
            Rd w10 ⟨b_5, 2, none⟩ [.slice v28.base v28.len v28.cap] ∧
            Rd w10 ⟨a_3, 2, none⟩ [.slice v26.base v26.len v26.cap] ∧
            VNw none w10 (.cells #[.slice v26.base v26.len v26.cap, .slice v28.base v28.len v28.cap] 23) fun (b29 : Nat) (w11 : World) =>
            VCall none Try.prog 40 #[.slice (some ⟨b29, 0, none⟩) 2 2] w11 (.slice none 0 0) fun (r30 : Sl) (w12 : World) =>
            VSt none w12 ⟨b6, 0, none⟩ [.bool false, .slice r24.base r24.len r24.cap, .slice r30.base r30.len r30.cap] fun (w13 : World) =>
            Φ1 w13
          ) ∧ (
            VNw none w9 (.cells #[.slice v26.base v26.len v26.cap, .slice v28.base v28.len v28.cap] 23) fun (b29 : Nat) (w14 : World) =>
            VCall none Try.prog 39 #[.slice (some ⟨b23, 0, none⟩) 3 3] w14 (.slice none 0 0) fun (r24 : Sl) (w15 : World) =>
            VCall none Try.prog 40 #[.slice (some ⟨b29, 0, none⟩) 2 2] w15 (.slice none 0 0) fun (r30 : Sl) (w16 : World) =>
            VSt none w16 ⟨b6, 0, none⟩ [.bool false, .slice r24.base r24.len r24.cap, .slice r30.base r30.len r30.cap] fun (w17 : World) =>
            Φ1 w17
          )
        ) ∧ (
          VNw none w8 (.cells #[.slice v26.base v26.len v26.cap, .slice v28.base v28.len v28.cap] 23) fun (b29 : Nat) (w18 : World) =>
          Rd w18 ⟨b_5, 1, none⟩ [.slice v22.base v22.len v22.cap] ∧
          Rd w18 ⟨a_3, 1, none⟩ [.slice v17.base v17.len v17.cap] ∧
          VNw none w18 (.cells #[.slice v17.base v17.len v17.cap, .slice (some ⟨b20, 0, none⟩) 1 1, .slice v22.base v22.len v22.cap] 28) fun (b23 : Nat) (w19 : World) =>
          VCall none Try.prog 39 #[.slice (some ⟨b23, 0, none⟩) 3 3] w19 (.slice none 0 0) fun (r24 : Sl) (w20 : World) =>
          VCall none Try.prog 40 #[.slice (some ⟨b29, 0, none⟩) 2 2] w20 (.slice none 0 0) fun (r30 : Sl) (w21 : World) =>
          VSt none w21 ⟨b6, 0, none⟩ [.bool false, .slice r24.base r24.len r24.cap, .slice r30.base r30.len r30.cap] fun (w22 : World) =>
          Φ1 w22
        )
      ) ∧ (
        VNw none w7 (.cells #[.slice v26.base v26.len v26.cap, .slice v28.base v28.len v28.cap] 23) fun (b29 : Nat) (w23 : World) =>
        Rd w23 ⟨b_5, 1, none⟩ [.slice v22.base v22.len v22.cap] ∧
        Rd w23 ⟨a_3, 1, none⟩ [.slice v17.base v17.len v17.cap] ∧
        VNw none w23 (.cells #[.string sep_1, .string ByteArray.empty, .int .i64 0, .int .i64 0] 48) fun (b20 : Nat) (w24 : World) =>
        Rd w24 ⟨b_5, 1, none⟩ [.slice v22.base v22.len v22.cap] ∧
        Rd w24 ⟨a_3, 1, none⟩ [.slice v17.base v17.len v17.cap] ∧
        VNw none w24 (.cells #[.slice v17.base v17.len v17.cap, .slice (some ⟨b20, 0, none⟩) 1 1, .slice v22.base v22.len v22.cap] 28) fun (b23 : Nat) (w25 : World) =>
        VCall none Try.prog 39 #[.slice (some ⟨b23, 0, none⟩) 3 3] w25 (.slice none 0 0) fun (r24 : Sl) (w26 : World) =>
        VCall none Try.prog 40 #[.slice (some ⟨b29, 0, none⟩) 2 2] w26 (.slice none 0 0) fun (r30 : Sl) (w27 : World) =>
        VSt none w27 ⟨b6, 0, none⟩ [.bool false, .slice r24.base r24.len r24.cap, .slice r30.base r30.len r30.cap] fun (w28 : World) =>
        Φ1 w28
      )
    ) ∧ ∀ (w29 : World), Φ1 w29 →
    VLd none w29 ⟨b6, 0, none⟩ [CT.bool, CT.sl, CT.sl] fun (res6_0 : Bool) (res6_1 : Sl) (res6_2 : Sl) =>
    R (.returned (.agg #[.bool res6_0, .slice res6_1.base res6_1.len res6_1.cap, .slice res6_2.base res6_2.len res6_2.cap])) w29
  )
theorem sh_node_Join_ok (a_0_0 : Bool) (a_0_1 : Sl) (a_0_2 : Sl) (sep_1 : ByteArray) (b_2_0 : Bool) (b_2_1 : Sl) (b_2_2 : Sl) (w : World) (R : Ending → World → Prop) (h : sh_node_Join a_0_0 a_0_1 a_0_2 sep_1 b_2_0 b_2_1 b_2_2 w R) : Calls Try.prog 15 #[.agg #[.bool a_0_0, .slice a_0_1.base a_0_1.len a_0_1.cap, .slice a_0_2.base a_0_2.len a_0_2.cap], .string sep_1, .agg #[.bool b_2_0, .slice b_2_1.base b_2_1.len b_2_1.cap, .slice b_2_2.base b_2_2.len b_2_2.cap]] w R :=
  calls_of_sh (args := [.agg #[.bool a_0_0, .slice a_0_1.base a_0_1.len a_0_1.cap, .slice a_0_2.base a_0_2.len a_0_2.cap], .string sep_1, .agg #[.bool b_2_0, .slice b_2_1.base b_2_1.len b_2_1.cap, .slice b_2_2.base b_2_2.len b_2_2.cap]]) (.two .auto (.two (.two .auto (.two (.two .auto .auto) .auto)) (.two (.bjoin [] .auto) .auto))) Try.func15 (by kernel_rfl) (by kernel_rfl) (by kernel_rfl) h

/-- 16: buttery/butteryref06.Same -/
def sh_butteryref06_Same (a_0_0 : Bool) (a_0_1 : Sl) (a_0_2 : Sl) (b_1_0 : Bool) (b_1_1 : Sl) (b_1_2 : Sl) (w : World) (R : Ending → World → Prop) : Prop :=
  VNw none w (.cells #[.bool a_0_0, .slice a_0_1.base a_0_1.len a_0_1.cap, .slice a_0_2.base a_0_2.len a_0_2.cap] 25) fun (a_2 : Nat) (w1 : World) =>
  VNw none w1 (.cells #[.bool b_1_0, .slice b_1_1.base b_1_1.len b_1_1.cap, .slice b_1_2.base b_1_2.len b_1_2.cap] 25) fun (b_3 : Nat) (w2 : World) =>
  VLd none w2 ⟨a_2, 0, none⟩ [CT.bool] fun (v8 : Bool) =>
  VLd none w2 ⟨b_3, 0, none⟩ [CT.bool] fun (v10 : Bool) =>
  VLd (some (!(!(v8 == v10)))) w2 ⟨a_2, 1, none⟩ [CT.sl] fun (v14 : Sl) =>
  VLd (some (!(!(v8 == v10)))) w2 ⟨b_3, 1, none⟩ [CT.sl] fun (v17 : Sl) =>
  VLd (some (!((!(v8 == v10)) || (((v14.len : Nat) : Int) != ((v17.len : Nat) : Int))))) w2 ⟨a_2, 2, none⟩ [CT.sl] fun (v23 : Sl) =>
  VLd (some (!((!(v8 == v10)) || (((v14.len : Nat) : Int) != ((v17.len : Nat) : Int))))) w2 ⟨b_3, 2, none⟩ [CT.sl] fun (v26 : Sl) =>
  VIf (((!(v8 == v10)) || (((v14.len : Nat) : Int) != ((v17.len : Nat) : Int))) || (((v23.len : Nat) : Int) != ((v26.len : Nat) : Int))) (
    R (.returned (.bool false)) w2
  ) (
    ∃ I1 : Nat → Int → World → Prop, (∃ k, I1 k 0 w2) ∧ ∀ k1 (i_5 : Int) (w3 : World), I1 k1 i_5 w3 →
    VLd none w3 ⟨a_2, 1, none⟩ [CT.sl] fun (v32 : Sl) =>
    VIf (decide (i_5 < ((v32.len : Nat) : Int))) (
      ∀ (w4 : World), w4 = World.drew w3 →
      VLd none w4 ⟨a_2, 1, none⟩ [CT.sl] fun (v38 : Sl) =>
      VIx none v38.base v38.len i_5 fun (a40 : Addr) =>
      VLd none w4 (Addr.add a40 ((Int.toNat i_5) * 4)) [CT.str, CT.str, CT.int .i64, CT.int .i64] fun (v41_0 : ByteArray) (v41_1 : ByteArray) (v41_2 : Int) (v41_3 : Int) =>
      VLd none w4 ⟨b_3, 1, none⟩ [CT.sl] fun (v43 : Sl) =>
      VIx none v43.base v43.len i_5 fun (a45 : Addr) =>
      VLd none w4 (Addr.add a45 ((Int.toNat i_5) * 4)) [CT.str, CT.str, CT.int .i64, CT.int .i64] fun (v46_0 : ByteArray) (v46_1 : ByteArray) (v46_2 : Int) (v46_3 : Int) =>
      VIf (!((v41_0.toList == v46_0.toList) && ((v41_1.toList == v46_1.toList) && ((v41_2 == v46_2) && (v41_3 == v46_3))))) (
        R (.returned (.bool false)) w4
      ) (
        VSet (IntKind.wrap .i64 (i_5 + 1)) fun (i_5' : Int) =>
        ∃ k', k' < k1 ∧ I1 k' i_5' w4
      )
    ) (
      ∃ I2 : Nat → Int → World → Prop, (∃ k, I2 k 0 w3) ∧ ∀ k2 (i_6 : Int) (w5 : World), I2 k2 i_6 w5 →
      VLd none w5 ⟨a_2, 2, none⟩ [CT.sl] fun (v50 : Sl) =>
      VIf (decide (i_6 < ((v50.len : Nat) : Int))) (
        ∀ (w6 : World), w6 = World.drew w5 →
        VLd none w6 ⟨a_2, 2, none⟩ [CT.sl] fun (v56 : Sl) =>
        VIx none v56.base v56.len i_6 fun (a58 : Addr) =>
        VLd none w6 (Addr.add a58 ((Int.toNat i_6) * 1)) [CT.int .i64] fun (v59 : Int) =>
        VLd none w6 ⟨b_3, 2, none⟩ [CT.sl] fun (v61 : Sl) =>
        VIx none v61.base v61.len i_6 fun (a63 : Addr) =>
        VLd none w6 (Addr.add a63 ((Int.toNat i_6) * 1)) [CT.int .i64] fun (v64 : Int) =>
        VIf (v59 != v64) (
          R (.returned (.bool false)) w6
        ) (
          VSet (IntKind.wrap .i64 (i_6 + 1)) fun (i_6' : Int) =>
          ∃ k', k' < k2 ∧ I2 k' i_6' w6
        )
      ) (
        R (.returned (.bool true)) w5
      )
    )
  )
theorem sh_butteryref06_Same_ok (a_0_0 : Bool) (a_0_1 : Sl) (a_0_2 : Sl) (b_1_0 : Bool) (b_1_1 : Sl) (b_1_2 : Sl) (w : World) (R : Ending → World → Prop) (h : sh_butteryref06_Same a_0_0 a_0_1 a_0_2 b_1_0 b_1_1 b_1_2 w R) : Calls Try.prog 16 #[.agg #[.bool a_0_0, .slice a_0_1.base a_0_1.len a_0_1.cap, .slice a_0_2.base a_0_2.len a_0_2.cap], .agg #[.bool b_1_0, .slice b_1_1.base b_1_1.len b_1_1.cap, .slice b_1_2.base b_1_2.len b_1_2.cap]] w R :=
  calls_of_sh (args := [.agg #[.bool a_0_0, .slice a_0_1.base a_0_1.len a_0_1.cap, .slice a_0_2.base a_0_2.len a_0_2.cap], .agg #[.bool b_1_0, .slice b_1_1.base b_1_1.len b_1_1.cap, .slice b_1_2.base b_1_2.len b_1_2.cap]]) (.two .auto (.two (.two .auto (.two (.two .auto .auto) .auto)) (.two (.two .auto (.one (.loop [(5, .int .i64 0)] (.two (.two .auto (.two .auto .auto)) (.two (.one (.two .auto (.two (.two .auto .auto) .auto))) .auto))))) (.two (.two .auto (.one (.loop [(6, .int .i64 0)] (.two (.two .auto (.two .auto .auto)) (.two (.one (.two .auto (.two (.two .auto .auto) .auto))) .auto))))) (.two .auto .auto))))) Try.func16 (by kernel_rfl) (by kernel_rfl) (by kernel_rfl) h

/-- 17: buttery/butterylaw06.back -/
def sh_butterylaw06_back (n_0_0 : Bool) (n_0_1 : Sl) (n_0_2 : Sl) (w : World) (R : Ending → World → Prop) : Prop :=
  VNw none w (.cells #[.bool n_0_0, .slice n_0_1.base n_0_1.len n_0_1.cap, .slice n_0_2.base n_0_2.len n_0_2.cap] 30) fun (n_1 : Nat) (w1 : World) =>
  VNw none w1 (.cells #[.bool false, .slice none 0 0, .slice none 0 0] 25) fun (b2 : Nat) (w2 : World) =>
  ∃ Φ1 : Option Addr → World → Prop, (
    ∀ (w3 : World), w3 = World.drew w2 →
    VLd none w3 ⟨n_1, 0, none⟩ [CT.bool] fun (v7 : Bool) =>
    VLd none w3 ⟨n_1, 2, none⟩ [CT.sl] fun (v10 : Sl) =>
    (
      VNw none w3 (.cells #[] 3) fun (b8 : Nat) (w4 : World) =>
      Rd w4 ⟨n_1, 2, none⟩ [.slice v10.base v10.len v10.cap] ∧
      Rd w4 ⟨n_1, 0, none⟩ [.bool v7] ∧
      (
        VApp none w4 3 1 8 #[.int .i64 0] (some ⟨b8, 0, none⟩) 0 0 v10.len (fun news => Seg w4 v10.base v10.len 1 news) fun (l11 : Sl) (w5 : World) =>
        Rd w5 ⟨n_1, 0, none⟩ [.bool v7] ∧
        VNw none w5 (.cells #[.bool false, .slice none 0 0, .slice none 0 0] 25) fun (m_3 : Nat) (w6 : World) =>
        Rd w6 ⟨n_1, 0, none⟩ [.bool v7] ∧
        VSt none w6 ⟨m_3, 0, none⟩ [.bool v7, .slice none 0 0, .slice l11.base l11.len l11.cap] fun (w7 : World) =>
        Φ1 (some ⟨m_3, 0, none⟩) w7
      ) ∧ (
        VNw none w4 (.cells #[.bool false, .slice none 0 0, .slice none 0 0] 25) fun (m_3 : Nat) (w8 : World) =>
        Rd w8 ⟨n_1, 2, none⟩ [.slice v10.base v10.len v10.cap] ∧
        Rd w8 ⟨n_1, 0, none⟩ [.bool v7] ∧
        VApp none w8 3 1 8 #[.int .i64 0] (some ⟨b8, 0, none⟩) 0 0 v10.len (fun news => Seg w8 v10.base v10.len 1 news) fun (l11 : Sl) (w9 : World) =>
        Rd w9 ⟨n_1, 0, none⟩ [.bool v7] ∧
        VSt none w9 ⟨m_3, 0, none⟩ [.bool v7, .slice none 0 0, .slice l11.base l11.len l11.cap] fun (w10 : World) =>
        Φ1 (some ⟨m_3, 0, none⟩) w10
      )
    ) ∧ (
      VNw none w3 (.cells #[.bool false, .slice none 0 0, .slice none 0 0] 25) fun (m_3 : Nat) (w11 : World) =>
      Rd w11 ⟨n_1, 2, none⟩ [.slice v10.base v10.len v10.cap] ∧
      Rd w11 ⟨n_1, 0, none⟩ [.bool v7] ∧
      VNw none w11 (.cells #[] 3) fun (b8 : Nat) (w12 : World) =>
      Rd w12 ⟨n_1, 2, none⟩ [.slice v10.base v10.len v10.cap] ∧
      Rd w12 ⟨n_1, 0, none⟩ [.bool v7] ∧
      VApp none w12 3 1 8 #[.int .i64 0] (some ⟨b8, 0, none⟩) 0 0 v10.len (fun news => Seg w12 v10.base v10.len 1 news) fun (l11 : Sl) (w13 : World) =>
      Rd w13 ⟨n_1, 0, none⟩ [.bool v7] ∧
      VSt none w13 ⟨m_3, 0, none⟩ [.bool v7, .slice none 0 0, .slice l11.base l11.len l11.cap] fun (w14 : World) =>
      Φ1 (some ⟨m_3, 0, none⟩) w14
    )
  ) ∧ ∀ (m_3 : Option Addr) (w15 : World), Φ1 m_3 w15 →
  ∃ I2 : Nat → Int → World → Prop, (∃ k, I2 k 0 w15) ∧ ∀ k2 (i_4 : Int) (w16 : World), I2 k2 i_4 w16 →
  VLd none w16 ⟨n_1, 1, none⟩ [CT.sl] fun (v15 : Sl) =>
  VIf (decide (i_4 < ((v15.len : Nat) : Int))) (
    VLd none w16 ⟨n_1, 1, none⟩ [CT.sl] fun (v21 : Sl) =>
    VIx none v21.base v21.len i_4 fun (a23 : Addr) =>
    VLd none w16 (Addr.add a23 ((Int.toNat i_4) * 4)) [CT.str, CT.str, CT.int .i64, CT.int .i64] fun (v24_0 : ByteArray) (v24_1 : ByteArray) (v24_2 : Int) (v24_3 : Int) =>
    VNw none w16 (.cells #[.string ByteArray.empty, .string ByteArray.empty, .int .i64 0, .int .i64 0] 48) fun (c_5 : Nat) (w17 : World) =>
    VSt none w17 ⟨c_5, 0, none⟩ [.string v24_0, .string v24_1, .int .i64 v24_2, .int .i64 v24_3] fun (w18 : World) =>
    onPtr m_3 fun (q_v25 : Addr) =>
    VLd none w18 (Addr.add q_v25 1) [CT.sl] fun (v26 : Sl) =>
    VLd none w18 ⟨c_5, 0, none⟩ [CT.str] fun (v28 : ByteArray) =>
    VLd none w18 ⟨c_5, 1, none⟩ [CT.str] fun (v30 : ByteArray) =>
    VLd none w18 ⟨c_5, 2, none⟩ [CT.int .i64] fun (v32 : Int) =>
    VLd none w18 ⟨c_5, 3, none⟩ [CT.int .i64] fun (v34 : Int) =>
    VNw none w18 (.cells #[.string v28, .string v30, .int .i64 v32, .int .i64 v34] 47) fun (b36 : Nat) (w19 : World) =>
    VApp none w19 47 4 48 #[.string ByteArray.empty, .string ByteArray.empty, .int .i64 0, .int .i64 0] v26.base v26.len v26.cap 1 (fun news => Seg w19 (some ⟨b36, 0, none⟩) 1 4 news) fun (l37 : Sl) (w20 : World) =>
    onPtr m_3 fun (q_v38 : Addr) =>
    VSt none w20 (Addr.add q_v38 1) [.slice l37.base l37.len l37.cap] fun (w21 : World) =>
    VSet (IntKind.wrap .i64 (i_4 + 1)) fun (i_4' : Int) =>
    ∃ k', k' < k2 ∧ I2 k' i_4' w21
  ) (
    onPtr m_3 fun (q_v39 : Addr) =>
    VLd none w16 q_v39 [CT.bool, CT.sl, CT.sl] fun (v39_0 : Bool) (v39_1 : Sl) (v39_2 : Sl) =>
    VSt none w16 ⟨b2, 0, none⟩ [.bool v39_0, .slice v39_1.base v39_1.len v39_1.cap, .slice v39_2.base v39_2.len v39_2.cap] fun (w22 : World) =>
    VLd none w22 ⟨b2, 0, none⟩ [CT.bool, CT.sl, CT.sl] fun (res2_0 : Bool) (res2_1 : Sl) (res2_2 : Sl) =>
    R (.returned (.agg #[.bool res2_0, .slice res2_1.base res2_1.len res2_1.cap, .slice res2_2.base res2_2.len res2_2.cap])) w22
  )
theorem sh_butterylaw06_back_ok (n_0_0 : Bool) (n_0_1 : Sl) (n_0_2 : Sl) (w : World) (R : Ending → World → Prop) (h : sh_butterylaw06_back n_0_0 n_0_1 n_0_2 w R) : Calls Try.prog 17 #[.agg #[.bool n_0_0, .slice n_0_1.base n_0_1.len n_0_1.cap, .slice n_0_2.base n_0_2.len n_0_2.cap]] w R :=
  calls_of_sh (args := [.agg #[.bool n_0_0, .slice n_0_1.base n_0_1.len n_0_1.cap, .slice n_0_2.base n_0_2.len n_0_2.cap]]) (.two .auto (.two (.bjoin [(3, .pointer none)] .auto) (.two (.two .auto (.one (.loop [(4, .int .i64 0)] (.two (.two .auto (.two .auto .auto)) (.two (.one (.two .auto .auto)) .auto))))) (.two .auto .auto)))) Try.func17 (by kernel_rfl) (by kernel_rfl) (by kernel_rfl) h

/-- 18: buttery/butteryref06.Join -/
def sh_butteryref06_Join (a_0_0 : Bool) (a_0_1 : Sl) (a_0_2 : Sl) (sep_1 : ByteArray) (b_2_0 : Bool) (b_2_1 : Sl) (b_2_2 : Sl) (w : World) (R : Ending → World → Prop) : Prop :=
  VNw none w (.cells #[.bool a_0_0, .slice a_0_1.base a_0_1.len a_0_1.cap, .slice a_0_2.base a_0_2.len a_0_2.cap] 25) fun (a_3 : Nat) (w1 : World) =>
  VNw none w1 (.cells #[.bool b_2_0, .slice b_2_1.base b_2_1.len b_2_1.cap, .slice b_2_2.base b_2_2.len b_2_2.cap] 25) fun (b_5 : Nat) (w2 : World) =>
  VNw none w2 (.cells #[.bool false, .slice none 0 0, .slice none 0 0] 25) fun (b6 : Nat) (w3 : World) =>
  ∃ Φ1 : Option Addr → Option Addr → World → Prop, (
    ∀ (w4 : World), w4 = World.drew w3 →
    VLd none w4 ⟨a_3, 0, none⟩ [CT.bool, CT.sl, CT.sl] fun (v10_0 : Bool) (v10_1 : Sl) (v10_2 : Sl) =>
    VLd none w4 ⟨b_5, 0, none⟩ [CT.bool, CT.sl, CT.sl] fun (v12_0 : Bool) (v12_1 : Sl) (v12_2 : Sl) =>
    (
      VCall none Try.prog 36 #[.agg #[.bool v10_0, .slice v10_1.base v10_1.len v10_1.cap, .slice v10_2.base v10_2.len v10_2.cap]] w4 (.agg #[.bool false, .slice none 0 0, .slice none 0 0]) fun (r11_0 : Bool) (r11_1 : Sl) (r11_2 : Sl) (w5 : World) =>
      Rd w5 ⟨b_5, 0, none⟩ [.bool v12_0, .slice v12_1.base v12_1.len v12_1.cap, .slice v12_2.base v12_2.len v12_2.cap] ∧
      (
        VCall none Try.prog 36 #[.agg #[.bool v12_0, .slice v12_1.base v12_1.len v12_1.cap, .slice v12_2.base v12_2.len v12_2.cap]] w5 (.agg #[.bool false, .slice none 0 0, .slice none 0 0]) fun (r13_0 : Bool) (r13_1 : Sl) (r13_2 : Sl) (w6 : World) =>
        (
          VNw none w6 (.cells #[.bool false, .slice none 0 0, .slice none 0 0] 25) fun (x_7 : Nat) (w7 : World) =>
          VNw none w7 (.cells #[.bool false, .slice none 0 0, .slice none 0 0] 25) fun (y_8 : Nat) (w8 : World) =>
          VSt none w8 ⟨x_7, 0, none⟩ [.bool r11_0, .slice r11_1.base r11_1.len r11_1.cap, .slice r11_2.base r11_2.len r11_2.cap] fun (w9 : World) =>
          VSt none w9 ⟨y_8, 0, none⟩ [.bool r13_0, .slice r13_1.base r13_1.len r13_1.cap, .slice r13_2.base r13_2.len r13_2.cap] fun (w10 : World) =>
          Φ1 (some ⟨x_7, 0, none⟩) (some ⟨y_8, 0, none⟩) w10
        ) ∧ (
          VNw none w6 (.cells #[.bool false, .slice none 0 0, .slice none 0 0] 25) fun (y_8 : Nat) (w11 : World) =>
          VNw none w11 (.cells #[.bool false, .slice none 0 0, .slice none 0 0] 25) fun (x_7 : Nat) (w12 : World) =>
          VSt none w12 ⟨x_7, 0, none⟩ [.bool r11_0, .slice r11_1.base r11_1.len r11_1.cap, .slice r11_2.base r11_2.len r11_2.cap] fun (w13 : World) =>
          VSt none w13 ⟨y_8, 0, none⟩ [.bool r13_0, .slice r13_1.base r13_1.len r13_1.cap, .slice r13_2.base r13_2.len r13_2.cap] fun (w14 : World) =>
          Φ1 (some ⟨x_7, 0, none⟩) (some ⟨y_8, 0, none⟩) w14
        )
      ) ∧ (
      (
        VNw none w5 (.cells #[.bool false, .slice none 0 0, .slice none 0 0] 25) fun (x_7 : Nat) (w15 : World) =>
        Rd w15 ⟨b_5, 0, none⟩ [.bool v12_0, .slice v12_1.base v12_1.len v12_1.cap, .slice v12_2.base v12_2.len v12_2.cap] ∧
        (
          VCall none Try.prog 36 #[.agg #[.bool v12_0, .slice v12_1.base v12_1.len v12_1.cap, .slice v12_2.base v12_2.len v12_2.cap]] w15 (.agg #[.bool false, .slice none 0 0, .slice none 0 0]) fun (r13_0 : Bool) (r13_1 : Sl) (r13_2 : Sl) (w16 : World) =>
          VNw none w16 (.cells #[.bool false, .slice none 0 0, .slice none 0 0] 25) fun (y_8 : Nat) (w17 : World) =>
          VSt none w17 ⟨x_7, 0, none⟩ [.bool r11_0, .slice r11_1.base r11_1.len r11_1.cap, .slice r11_2.base r11_2.len r11_2.cap] fun (w18 : World) =>
          VSt none w18 ⟨y_8, 0, none⟩ [.bool r13_0, .slice r13_1.base r13_1.len r13_1.cap, .slice r13_2.base r13_2.len r13_2.cap] fun (w19 : World) =>
          Φ1 (some ⟨x_7, 0, none⟩) (some ⟨y_8, 0, none⟩) w19
        ) ∧ (
          VNw none w15 (.cells #[.bool false, .slice none 0 0, .slice none 0 0] 25) fun (y_8 : Nat) (w20 : World) =>
          Rd w20 ⟨b_5, 0, none⟩ [.bool v12_0, .slice v12_1.base v12_1.len v12_1.cap, .slice v12_2.base v12_2.len v12_2.cap] ∧
          VCall none Try.prog 36 #[.agg #[.bool v12_0, .slice v12_1.base v12_1.len v12_1.cap, .slice v12_2.base v12_2.len v12_2.cap]] w20 (.agg #[.bool false, .slice none 0 0, .slice none 0 0]) fun (r13_0 : Bool) (r13_1 : Sl) (r13_2 : Sl) (w21 : World) =>
          VSt none w21 ⟨x_7, 0, none⟩ [.bool r11_0, .slice r11_1.base r11_1.len r11_1.cap, .slice r11_2.base r11_2.len r11_2.cap] fun (w22 : World) =>
          VSt none w22 ⟨y_8, 0, none⟩ [.bool r13_0, .slice r13_1.base r13_1.len r13_1.cap, .slice r13_2.base r13_2.len r13_2.cap] fun (w23 : World) =>
          Φ1 (some ⟨x_7, 0, none⟩) (some ⟨y_8, 0, none⟩) w23
        )
      ) ∧ (
        VNw none w5 (.cells #[.bool false, .slice none 0 0, .slice none 0 0] 25) fun (y_8 : Nat) (w24 : World) =>
        Rd w24 ⟨b_5, 0, none⟩ [.bool v12_0, .slice v12_1.base v12_1.len v12_1.cap, .slice v12_2.base v12_2.len v12_2.cap] ∧
        (
          VCall none Try.prog 36 #[.agg #[.bool v12_0, .slice v12_1.base v12_1.len v12_1.cap, .slice v12_2.base v12_2.len v12_2.cap]] w24 (.agg #[.bool false, .slice none 0 0, .slice none 0 0]) fun (r13_0 : Bool) (r13_1 : Sl) (r13_2 : Sl) (w25 : World) =>
          VNw none w25 (.cells #[.bool false, .slice none 0 0, .slice none 0 0] 25) fun (x_7 : Nat) (w26 : World) =>
          VSt none w26 ⟨x_7, 0, none⟩ [.bool r11_0, .slice r11_1.base r11_1.len r11_1.cap, .slice r11_2.base r11_2.len r11_2.cap] fun (w27 : World) =>
          VSt none w27 ⟨y_8, 0, none⟩ [.bool r13_0, .slice r13_1.base r13_1.len r13_1.cap, .slice r13_2.base r13_2.len r13_2.cap] fun (w28 : World) =>
          Φ1 (some ⟨x_7, 0, none⟩) (some ⟨y_8, 0, none⟩) w28
        ) ∧ (
          VNw none w24 (.cells #[.bool false, .slice none 0 0, .slice none 0 0] 25) fun (x_7 : Nat) (w29 : World) =>
          Rd w29 ⟨b_5, 0, none⟩ [.bool v12_0, .slice v12_1.base v12_1.len v12_1.cap, .slice v12_2.base v12_2.len v12_2.cap] ∧
          VCall none Try.prog 36 #[.agg #[.bool v12_0, .slice v12_1.base v12_1.len v12_1.cap, .slice v12_2.base v12_2.len v12_2.cap]] w29 (.agg #[.bool false, .slice none 0 0, .slice none 0 0]) fun (r13_0 : Bool) (r13_1 : Sl) (r13_2 : Sl) (w30 : World) =>
          VSt none w30 ⟨x_7, 0, none⟩ [.bool r11_0, .slice r11_1.base r11_1.len r11_1.cap, .slice r11_2.base r11_2.len r11_2.cap] fun (w31 : World) =>
          VSt none w31 ⟨y_8, 0, none⟩ [.bool r13_0, .slice r13_1.base r13_1.len r13_1.cap, .slice r13_2.base r13_2.len r13_2.cap] fun (w32 : World) =>
          Φ1 (some ⟨x_7, 0, none⟩) (some ⟨y_8, 0, none⟩) w32
        )
      ))
    ) ∧ (
    (
      VNw none w4 (.cells #[.bool false, .slice none 0 0, .slice none 0 0] 25) fun (x_7 : Nat) (w33 : World) =>
      Rd w33 ⟨b_5, 0, none⟩ [.bool v12_0, .slice v12_1.base v12_1.len v12_1.cap, .slice v12_2.base v12_2.len v12_2.cap] ∧
      Rd w33 ⟨a_3, 0, none⟩ [.bool v10_0, .slice v10_1.base v10_1.len v10_1.cap, .slice v10_2.base v10_2.len v10_2.cap] ∧
      (
        VCall none Try.prog 36 #[.agg #[.bool v10_0, .slice v10_1.base v10_1.len v10_1.cap, .slice v10_2.base v10_2.len v10_2.cap]] w33 (.agg #[.bool false, .slice none 0 0, .slice none 0 0]) fun (r11_0 : Bool) (r11_1 : Sl) (r11_2 : Sl) (w34 : World) =>
        Rd w34 ⟨b_5, 0, none⟩ [.bool v12_0, .slice v12_1.base v12_1.len v12_1.cap, .slice v12_2.base v12_2.len v12_2.cap] ∧
        (
          VCall none Try.prog 36 #[.agg #[.bool v12_0, .slice v12_1.base v12_1.len v12_1.cap, .slice v12_2.base v12_2.len v12_2.cap]] w34 (.agg #[.bool false, .slice none 0 0, .slice none 0 0]) fun (r13_0 : Bool) (r13_1 : Sl) (r13_2 : Sl) (w35 : World) =>
          VNw none w35 (.cells #[.bool false, .slice none 0 0, .slice none 0 0] 25) fun (y_8 : Nat) (w36 : World) =>
          VSt none w36 ⟨x_7, 0, none⟩ [.bool r11_0, .slice r11_1.base r11_1.len r11_1.cap, .slice r11_2.base r11_2.len r11_2.cap] fun (w37 : World) =>
          VSt none w37 ⟨y_8, 0, none⟩ [.bool r13_0, .slice r13_1.base r13_1.len r13_1.cap, .slice r13_2.base r13_2.len r13_2.cap] fun (w38 : World) =>
          Φ1 (some ⟨x_7, 0, none⟩) (some ⟨y_8, 0, none⟩) w38
        ) ∧ (
          VNw none w34 (.cells #[.bool false, .slice none 0 0, .slice none 0 0] 25) fun (y_8 : Nat) (w39 : World) =>
          Rd w39 ⟨b_5, 0, none⟩ [.bool v12_0, .slice v12_1.base v12_1.len v12_1.cap, .slice v12_2.base v12_2.len v12_2.cap] ∧
          VCall none Try.prog 36 #[.agg #[.bool v12_0, .slice v12_1.base v12_1.len v12_1.cap, .slice v12_2.base v12_2.len v12_2.cap]] w39 (.agg #[.bool false, .slice none 0 0, .slice none 0 0]) fun (r13_0 : Bool) (r13_1 : Sl) (r13_2 : Sl) (w40 : World) =>
          VSt none w40 ⟨x_7, 0, none⟩ [.bool r11_0, .slice r11_1.base r11_1.len r11_1.cap, .slice r11_2.base r11_2.len r11_2.cap] fun (w41 : World) =>
          VSt none w41 ⟨y_8, 0, none⟩ [.bool r13_0, .slice r13_1.base r13_1.len r13_1.cap, .slice r13_2.base r13_2.len r13_2.cap] fun (w42 : World) =>
          Φ1 (some ⟨x_7, 0, none⟩) (some ⟨y_8, 0, none⟩) w42
        )
      ) ∧ (
        VNw none w33 (.cells #[.bool false, .slice none 0 0, .slice none 0 0] 25) fun (y_8 : Nat) (w43 : World) =>
        Rd w43 ⟨b_5, 0, none⟩ [.bool v12_0, .slice v12_1.base v12_1.len v12_1.cap, .slice v12_2.base v12_2.len v12_2.cap] ∧
        Rd w43 ⟨a_3, 0, none⟩ [.bool v10_0, .slice v10_1.base v10_1.len v10_1.cap, .slice v10_2.base v10_2.len v10_2.cap] ∧
        VCall none Try.prog 36 #[.agg #[.bool v10_0, .slice v10_1.base v10_1.len v10_1.cap, .slice v10_2.base v10_2.len v10_2.cap]] w43 (.agg #[.bool false, .slice none 0 0, .slice none 0 0]) fun (r11_0 : Bool) (r11_1 : Sl) (r11_2 : Sl) (w44 : World) =>
        Rd w44 ⟨b_5, 0, none⟩ [.bool v12_0, .slice v12_1.base v12_1.len v12_1.cap, .slice v12_2.base v12_2.len v12_2.cap] ∧
        VCall none Try.prog 36 #[.agg #[.bool v12_0, .slice v12_1.base v12_1.len v12_1.cap, .slice v12_2.base v12_2.len v12_2.cap]] w44 (.agg #[.bool false, .slice none 0 0, .slice none 0 0]) fun (r13_0 : Bool) (r13_1 : Sl) (r13_2 : Sl) (w45 : World) =>
        VSt none w45 ⟨x_7, 0, none⟩ [.bool r11_0, .slice r11_1.base r11_1.len r11_1.cap, .slice r11_2.base r11_2.len r11_2.cap] fun (w46 : World) =>
        VSt none w46 ⟨y_8, 0, none⟩ [.bool r13_0, .slice r13_1.base r13_1.len r13_1.cap, .slice r13_2.base r13_2.len r13_2.cap] fun (w47 : World) =>
        Φ1 (some ⟨x_7, 0, none⟩) (some ⟨y_8, 0, none⟩) w47
      )
    ) ∧ (
      VNw none w4 (.cells #[.bool false, .slice none 0 0, .slice none 0 0] 25) fun (y_8 : Nat) (w48 : World) =>
      Rd w48 ⟨b_5, 0, none⟩ [.bool v12_0, .slice v12_1.base v12_1.len v12_1.cap, .slice v12_2.base v12_2.len v12_2.cap] ∧
      Rd w48 ⟨a_3, 0, none⟩ [.bool v10_0, .slice v10_1.base v10_1.len v10_1.cap, .slice v10_2.base v10_2.len v10_2.cap] ∧
      (
        VCall none Try.prog 36 #[.agg #[.bool v10_0, .slice v10_1.base v10_1.len v10_1.cap, .slice v10_2.base v10_2.len v10_2.cap]] w48 (.agg #[.bool false, .slice none 0 0, .slice none 0 0]) fun (r11_0 : Bool) (r11_1 : Sl) (r11_2 : Sl) (w49 : World) =>
        Rd w49 ⟨b_5, 0, none⟩ [.bool v12_0, .slice v12_1.base v12_1.len v12_1.cap, .slice v12_2.base v12_2.len v12_2.cap] ∧
        (
          VCall none Try.prog 36 #[.agg #[.bool v12_0, .slice v12_1.base v12_1.len v12_1.cap, .slice v12_2.base v12_2.len v12_2.cap]] w49 (.agg #[.bool false, .slice none 0 0, .slice none 0 0]) fun (r13_0 : Bool) (r13_1 : Sl) (r13_2 : Sl) (w50 : World) =>
          VNw none w50 (.cells #[.bool false, .slice none 0 0, .slice none 0 0] 25) fun (x_7 : Nat) (w51 : World) =>
          VSt none w51 ⟨x_7, 0, none⟩ [.bool r11_0, .slice r11_1.base r11_1.len r11_1.cap, .slice r11_2.base r11_2.len r11_2.cap] fun (w52 : World) =>
          VSt none w52 ⟨y_8, 0, none⟩ [.bool r13_0, .slice r13_1.base r13_1.len r13_1.cap, .slice r13_2.base r13_2.len r13_2.cap] fun (w53 : World) =>
          Φ1 (some ⟨x_7, 0, none⟩) (some ⟨y_8, 0, none⟩) w53
        ) ∧ (
          VNw none w49 (.cells #[.bool false, .slice none 0 0, .slice none 0 0] 25) fun (x_7 : Nat) (w54 : World) =>
          Rd w54 ⟨b_5, 0, none⟩ [.bool v12_0, .slice v12_1.base v12_1.len v12_1.cap, .slice v12_2.base v12_2.len v12_2.cap] ∧
          VCall none Try.prog 36 #[.agg #[.bool v12_0, .slice v12_1.base v12_1.len v12_1.cap, .slice v12_2.base v12_2.len v12_2.cap]] w54 (.agg #[.bool false, .slice none 0 0, .slice none 0 0]) fun (r13_0 : Bool) (r13_1 : Sl) (r13_2 : Sl) (w55 : World) =>
          VSt none w55 ⟨x_7, 0, none⟩ [.bool r11_0, .slice r11_1.base r11_1.len r11_1.cap, .slice r11_2.base r11_2.len r11_2.cap] fun (w56 : World) =>
          VSt none w56 ⟨y_8, 0, none⟩ [.bool r13_0, .slice r13_1.base r13_1.len r13_1.cap, .slice r13_2.base r13_2.len r13_2.cap] fun (w57 : World) =>
          Φ1 (some ⟨x_7, 0, none⟩) (some ⟨y_8, 0, none⟩) w57
        )
      ) ∧ (
        VNw none w48 (.cells #[.bool false, .slice none 0 0, .slice none 0 0] 25) fun (x_7 : Nat) (w58 : World) =>
        Rd w58 ⟨b_5, 0, none⟩ [.bool v12_0, .slice v12_1.base v12_1.len v12_1.cap, .slice v12_2.base v12_2.len v12_2.cap] ∧
        Rd w58 ⟨a_3, 0, none⟩ [.bool v10_0, .slice v10_1.base v10_1.len v10_1.cap, .slice v10_2.base v10_2.len v10_2.cap] ∧
        VCall none Try.prog 36 #[.agg #[.bool v10_0, .slice v10_1.base v10_1.len v10_1.cap, .slice v10_2.base v10_2.len v10_2.cap]] w58 (.agg #[.bool false, .slice none 0 0, .slice none 0 0]) fun (r11_0 : Bool) (r11_1 : Sl) (r11_2 : Sl) (w59 : World) =>
        Rd w59 ⟨b_5, 0, none⟩ [.bool v12_0, .slice v12_1.base v12_1.len v12_1.cap, .slice v12_2.base v12_2.len v12_2.cap] ∧
        VCall none Try.prog 36 #[.agg #[.bool v12_0, .slice v12_1.base v12_1.len v12_1.cap, .slice v12_2.base v12_2.len v12_2.cap]] w59 (.agg #[.bool false, .slice none 0 0, .slice none 0 0]) fun (r13_0 : Bool) (r13_1 : Sl) (r13_2 : Sl) (w60 : World) =>
        VSt none w60 ⟨x_7, 0, none⟩ [.bool r11_0, .slice r11_1.base r11_1.len r11_1.cap, .slice r11_2.base r11_2.len r11_2.cap] fun (w61 : World) =>
        VSt none w61 ⟨y_8, 0, none⟩ [.bool r13_0, .slice r13_1.base r13_1.len r13_1.cap, .slice r13_2.base r13_2.len r13_2.cap] fun (w62 : World) =>
        Φ1 (some ⟨x_7, 0, none⟩) (some ⟨y_8, 0, none⟩) w62
      )
    ))
  ) ∧ ∀ (x_7 : Option Addr) (y_8 : Option Addr) (w63 : World), Φ1 x_7 y_8 w63 →
  VLd none w63 ⟨a_3, 0, none⟩ [CT.bool] fun (v15 : Bool) =>
  VIf v15 (
    onPtr x_7 fun (q_v16 : Addr) =>
    VLd none w63 (Addr.add q_v16 1) [CT.sl] fun (v17 : Sl) =>
    onPtr y_8 fun (q_v18 : Addr) =>
    VLd none w63 (Addr.add q_v18 1) [CT.sl] fun (v19 : Sl) =>
    VApp none w63 47 4 48 #[.string ByteArray.empty, .string ByteArray.empty, .int .i64 0, .int .i64 0] v17.base v17.len v17.cap v19.len (fun news => Seg w63 v19.base v19.len 4 news) fun (l20 : Sl) (w64 : World) =>
    VSt none w64 ⟨b6, 0, none⟩ [.bool true, .slice l20.base l20.len l20.cap, .slice none 0 0] fun (w65 : World) =>
    VLd none w65 ⟨b6, 0, none⟩ [CT.bool, CT.sl, CT.sl] fun (res6_0 : Bool) (res6_1 : Sl) (res6_2 : Sl) =>
    R (.returned (.agg #[.bool res6_0, .slice res6_1.base res6_1.len res6_1.cap, .slice res6_2.base res6_2.len res6_2.cap])) w65
  ) (
    onPtr x_7 fun (q_v22 : Addr) =>
    VLd none w63 (Addr.add q_v22 1) [CT.sl] fun (v23 : Sl) =>
    VNw none w63 (.cells #[.string sep_1, .string ByteArray.empty, .int .i64 0, .int .i64 0] 47) fun (b26 : Nat) (w66 : World) =>
    VApp none w66 47 4 48 #[.string ByteArray.empty, .string ByteArray.empty, .int .i64 0, .int .i64 0] v23.base v23.len v23.cap 1 (fun news => Seg w66 (some ⟨b26, 0, none⟩) 1 4 news) fun (l27 : Sl) (w67 : World) =>
    VNw none w67 (.cells #[.bool false, .slice none 0 0, .slice none 0 0] 25) fun (n_9 : Nat) (w68 : World) =>
    VSt none w68 ⟨n_9, 0, none⟩ [.bool false, .slice l27.base l27.len l27.cap, .slice none 0 0] fun (w69 : World) =>
    VLd none w69 ⟨n_9, 1, none⟩ [CT.sl] fun (v30 : Sl) =>
    onPtr y_8 fun (q_v31 : Addr) =>
    VLd none w69 (Addr.add q_v31 1) [CT.sl] fun (v32 : Sl) =>
    VApp none w69 47 4 48 #[.string ByteArray.empty, .string ByteArray.empty, .int .i64 0, .int .i64 0] v30.base v30.len v30.cap v32.len (fun news => Seg w69 v32.base v32.len 4 news) fun (l33 : Sl) (w70 : World) =>
    VSt none w70 ⟨n_9, 1, none⟩ [.slice l33.base l33.len l33.cap] fun (w71 : World) =>
    onPtr x_7 fun (q_v35 : Addr) =>
    VLd none w71 (Addr.add q_v35 2) [CT.sl] fun (v36 : Sl) =>
    onPtr y_8 fun (q_v37 : Addr) =>
    VLd none w71 (Addr.add q_v37 2) [CT.sl] fun (v38 : Sl) =>
    VApp none w71 3 1 8 #[.int .i64 0] v36.base v36.len v36.cap v38.len (fun news => Seg w71 v38.base v38.len 1 news) fun (l39 : Sl) (w72 : World) =>
    VSt none w72 ⟨n_9, 2, none⟩ [.slice l39.base l39.len l39.cap] fun (w73 : World) =>
    VLd none w73 ⟨n_9, 0, none⟩ [CT.bool, CT.sl, CT.sl] fun (v41_0 : Bool) (v41_1 : Sl) (v41_2 : Sl) =>
    VSt none w73 ⟨b6, 0, none⟩ [.bool v41_0, .slice v41_1.base v41_1.len v41_1.cap, .slice v41_2.base v41_2.len v41_2.cap] fun (w74 : World) =>
    VLd none w74 ⟨b6, 0, none⟩ [CT.bool, CT.sl, CT.sl] fun (res6_0 : Bool) (res6_1 : Sl) (res6_2 : Sl) =>
    R (.returned (.agg #[.bool res6_0, .slice res6_1.base res6_1.len res6_1.cap, .slice res6_2.base res6_2.len res6_2.cap])) w74
  )
theorem sh_butteryref06_Join_ok (a_0_0 : Bool) (a_0_1 : Sl) (a_0_2 : Sl) (sep_1 : ByteArray) (b_2_0 : Bool) (b_2_1 : Sl) (b_2_2 : Sl) (w : World) (R : Ending → World → Prop) (h : sh_butteryref06_Join a_0_0 a_0_1 a_0_2 sep_1 b_2_0 b_2_1 b_2_2 w R) : Calls Try.prog 18 #[.agg #[.bool a_0_0, .slice a_0_1.base a_0_1.len a_0_1.cap, .slice a_0_2.base a_0_2.len a_0_2.cap], .string sep_1, .agg #[.bool b_2_0, .slice b_2_1.base b_2_1.len b_2_1.cap, .slice b_2_2.base b_2_2.len b_2_2.cap]] w R :=
  calls_of_sh (args := [.agg #[.bool a_0_0, .slice a_0_1.base a_0_1.len a_0_1.cap, .slice a_0_2.base a_0_2.len a_0_2.cap], .string sep_1, .agg #[.bool b_2_0, .slice b_2_1.base b_2_1.len b_2_1.cap, .slice b_2_2.base b_2_2.len b_2_2.cap]]) (.two .auto (.two (.bjoin [(7, .pointer none), (8, .pointer none)] .auto) (.two (.two .auto (.two (.two .auto .auto) .auto)) (.two .auto (.two .auto (.two .auto (.two .auto .auto))))))) Try.func18 (by kernel_rfl) (by kernel_rfl) (by kernel_rfl) h

/-- 19: buttery/butterylaw06.spoil -/
def sh_butterylaw06_spoil (n_0_0 : Bool) (n_0_1 : Sl) (n_0_2 : Sl) (w : World) (R : Ending → World → Prop) : Prop :=
  VNw none w (.cells #[.bool n_0_0, .slice n_0_1.base n_0_1.len n_0_1.cap, .slice n_0_2.base n_0_2.len n_0_2.cap] 30) fun (n_1 : Nat) (w1 : World) =>
  ∃ I1 : Nat → Int → World → Prop, (∃ k, I1 k 0 w1) ∧ ∀ k1 (i_3 : Int) (w2 : World), I1 k1 i_3 w2 →
  VLd none w2 ⟨n_1, 1, none⟩ [CT.sl] fun (v7 : Sl) =>
  VIf (decide (i_3 < ((v7.len : Nat) : Int))) (
    VLd none w2 ⟨n_1, 1, none⟩ [CT.sl] fun (v13 : Sl) =>
    VIx none v13.base v13.len i_3 fun (a15 : Addr) =>
    VSt none w2 (Addr.add a15 ((Int.toNat i_3) * 4)) [.string (ByteArray.mk #[115, 112, 111, 105, 108, 116])] fun (w3 : World) =>
    VSet (IntKind.wrap .i64 (i_3 + 1)) fun (i_3' : Int) =>
    ∃ k', k' < k1 ∧ I1 k' i_3' w3
  ) (
    ∃ I2 : Nat → Int → World → Prop, (∃ k, I2 k 0 w2) ∧ ∀ k2 (i_4 : Int) (w4 : World), I2 k2 i_4 w4 →
    VLd none w4 ⟨n_1, 2, none⟩ [CT.sl] fun (v19 : Sl) =>
    VIf (decide (i_4 < ((v19.len : Nat) : Int))) (
      VLd none w4 ⟨n_1, 2, none⟩ [CT.sl] fun (v25 : Sl) =>
      VIx none v25.base v25.len i_4 fun (a27 : Addr) =>
      VSt none w4 (Addr.add a27 ((Int.toNat i_4) * 1)) [.int .i64 (-1)] fun (w5 : World) =>
      VSet (IntKind.wrap .i64 (i_4 + 1)) fun (i_4' : Int) =>
      ∃ k', k' < k2 ∧ I2 k' i_4' w5
    ) (
      ∃ Φ3 : Int → World → Prop, (
        ∀ (w6 : World), w6 = World.drew w4 →
        VLd none w6 ⟨n_1, 1, none⟩ [CT.sl] fun (v29 : Sl) =>
        VLd none w6 ⟨n_1, 2, none⟩ [CT.sl] fun (v35 : Sl) =>
        (
          VNw none w6 (.cells #[.string (ByteArray.mk #[109, 111, 114, 101]), .string ByteArray.empty, .int .i64 0, .int .i64 0] 48) fun (b31 : Nat) (w7 : World) =>
          Rd w7 ⟨n_1, 2, none⟩ [.slice v35.base v35.len v35.cap] ∧
          Rd w7 ⟨n_1, 1, none⟩ [.slice v29.base v29.len v29.cap] ∧
          (
            VApp none w7 48 4 48 #[.string ByteArray.empty, .string ByteArray.empty, .int .i64 0, .int .i64 0] v29.base v29.len v29.cap 1 (fun news => Seg w7 (some ⟨b31, 0, none⟩) 1 4 news) fun (l32 : Sl) (w8 : World) =>
            Rd w8 ⟨n_1, 2, none⟩ [.slice v35.base v35.len v35.cap] ∧
            VNw none w8 (.cells #[.int .i64 (-2)] 3) fun (b36 : Nat) (w9 : World) =>
            Rd w9 ⟨n_1, 2, none⟩ [.slice v35.base v35.len v35.cap] ∧
            VApp none w9 3 1 8 #[.int .i64 0] v35.base v35.len v35.cap 1 (fun news => Seg w9 (some ⟨b36, 0, none⟩) 1 1 news) fun (l37 : Sl) (w10 : World) =>
            VSet (IntKind.wrap .i64 (((l32.len : Nat) : Int) + ((l37.len : Nat) : Int))) fun (v2 : Int) =>
            Φ3 v2 w10
          ) ∧ (
            VNw none w7 (.cells #[.int .i64 (-2)] 3) fun (b36 : Nat) (w11 : World) =>
            Rd w11 ⟨n_1, 2, none⟩ [.slice v35.base v35.len v35.cap] ∧
            Rd w11 ⟨n_1, 1, none⟩ [.slice v29.base v29.len v29.cap] ∧
            VApp none w11 48 4 48 #[.string ByteArray.empty, .string ByteArray.empty, .int .i64 0, .int .i64 0] v29.base v29.len v29.cap 1 (fun news => Seg w11 (some ⟨b31, 0, none⟩) 1 4 news) fun (l32 : Sl) (w12 : World) =>
            Rd w12 ⟨n_1, 2, none⟩ [.slice v35.base v35.len v35.cap] ∧
            VApp none w12 3 1 8 #[.int .i64 0] v35.base v35.len v35.cap 1 (fun news => Seg w12 (some ⟨b36, 0, none⟩) 1 1 news) fun (l37 : Sl) (w13 : World) =>
            VSet (IntKind.wrap .i64 (((l32.len : Nat) : Int) + ((l37.len : Nat) : Int))) fun (v2' : Int) =>
            Φ3 v2' w13
          )
        ) ∧ (
          VNw none w6 (.cells #[.int .i64 (-2)] 3) fun (b36 : Nat) (w14 : World) =>
          Rd w14 ⟨n_1, 2, none⟩ [.slice v35.base v35.len v35.cap] ∧
          Rd w14 ⟨n_1, 1, none⟩ [.slice v29.base v29.len v29.cap] ∧
          VNw none w14 (.cells #[.string (ByteArray.mk #[109, 111, 114, 101]), .string ByteArray.empty, .int .i64 0, .int .i64 0] 48) fun (b31 : Nat) (w15 : World) =>
          Rd w15 ⟨n_1, 2, none⟩ [.slice v35.base v35.len v35.cap] ∧
          Rd w15 ⟨n_1, 1, none⟩ [.slice v29.base v29.len v29.cap] ∧
          VApp none w15 48 4 48 #[.string ByteArray.empty, .string ByteArray.empty, .int .i64 0, .int .i64 0] v29.base v29.len v29.cap 1 (fun news => Seg w15 (some ⟨b31, 0, none⟩) 1 4 news) fun (l32 : Sl) (w16 : World) =>
          Rd w16 ⟨n_1, 2, none⟩ [.slice v35.base v35.len v35.cap] ∧
          VApp none w16 3 1 8 #[.int .i64 0] v35.base v35.len v35.cap 1 (fun news => Seg w16 (some ⟨b36, 0, none⟩) 1 1 news) fun (l37 : Sl) (w17 : World) =>
          VSet (IntKind.wrap .i64 (((l32.len : Nat) : Int) + ((l37.len : Nat) : Int))) fun (v2'' : Int) =>
          Φ3 v2'' w17
        )
      ) ∧ ∀ (x2 : Int) (w18 : World), Φ3 x2 w18 →
      R (.returned (.int .i64 x2)) w18
    )
  )
theorem sh_butterylaw06_spoil_ok (n_0_0 : Bool) (n_0_1 : Sl) (n_0_2 : Sl) (w : World) (R : Ending → World → Prop) (h : sh_butterylaw06_spoil n_0_0 n_0_1 n_0_2 w R) : Calls Try.prog 19 #[.agg #[.bool n_0_0, .slice n_0_1.base n_0_1.len n_0_1.cap, .slice n_0_2.base n_0_2.len n_0_2.cap]] w R :=
  calls_of_sh (args := [.agg #[.bool n_0_0, .slice n_0_1.base n_0_1.len n_0_1.cap, .slice n_0_2.base n_0_2.len n_0_2.cap]]) (.two .auto (.two (.two .auto (.one (.loop [(3, .int .i64 0)] (.two (.two .auto (.two .auto .auto)) (.two (.one .auto) .auto))))) (.two (.two .auto (.one (.loop [(4, .int .i64 0)] (.two (.two .auto (.two .auto .auto)) (.two (.one .auto) .auto))))) (.two (.bjoin [(2, .int .i64 0)] .auto) .auto)))) Try.func19 (by kernel_rfl) (by kernel_rfl) (by kernel_rfl) h

/-- 20: buttery/node.Check -/
def sh_node_Check (n_0_0 : Bool) (n_0_1 : Sl) (n_0_2 : Sl) (w : World) (R : Ending → World → Prop) : Prop :=
  VNw none w (.cells #[.bool n_0_0, .slice n_0_1.base n_0_1.len n_0_1.cap, .slice n_0_2.base n_0_2.len n_0_2.cap] 30) fun (n_1 : Nat) (w1 : World) =>
  VLd none w1 ⟨n_1, 1, none⟩ [CT.sl] fun (v7 : Sl) =>
  ∃ I1 : Nat → Int → World → Prop, (∃ k, I1 k 0 w1) ∧ ∀ k1 (x9 : Int) (w2 : World), I1 k1 x9 w2 →
  VIf (decide (x9 < ((v7.len : Nat) : Int))) (
    VIx none v7.base v7.len x9 fun (a12 : Addr) =>
    VLd none w2 (Addr.add a12 ((Int.toNat x9) * 4)) [CT.str, CT.str, CT.int .i64, CT.int .i64] fun (v13_0 : ByteArray) (v13_1 : ByteArray) (v13_2 : Int) (v13_3 : Int) =>
    VNw none w2 (.cells #[.string ByteArray.empty, .string ByteArray.empty, .int .i64 0, .int .i64 0] 48) fun (c_4 : Nat) (w3 : World) =>
    VSet x9 fun (i_3 : Int) =>
    VSt none w3 ⟨c_4, 0, none⟩ [.string v13_0, .string v13_1, .int .i64 v13_2, .int .i64 v13_3] fun (w4 : World) =>
    ∀ (w5 : World), w5 = World.drew w4 →
    VLd none w5 ⟨c_4, 0, none⟩ [CT.str, CT.str, CT.int .i64, CT.int .i64] fun (v14_0 : ByteArray) (v14_1 : ByteArray) (v14_2 : Int) (v14_3 : Int) =>
    VLd none w5 ⟨n_1, 0, none⟩ [CT.bool] fun (v16 : Bool) =>
    VCall none Try.prog 41 #[.agg #[.string v14_0, .string v14_1, .int .i64 v14_2, .int .i64 v14_3], .bool v16] w5 (.bool false) fun (r17 : Bool) (w6 : World) =>
    VLd (some ((!(!r17)) && (decide (i_3 > 0)))) w6 ⟨n_1, 1, none⟩ [CT.sl] fun (v24 : Sl) =>
    VIx (some ((!(!r17)) && (decide (i_3 > 0)))) v24.base v24.len (IntKind.wrap .i64 (i_3 - 1)) fun (a27 : Addr) =>
    VLd (some ((!(!r17)) && (decide (i_3 > 0)))) w6 (Addr.add a27 ((Int.toNat (IntKind.wrap .i64 (i_3 - 1))) * 4)) [CT.str] fun (v29 : ByteArray) =>
    VLd (some ((!(!r17)) && (decide (i_3 > 0)))) w6 ⟨c_4, 0, none⟩ [CT.str] fun (v31 : ByteArray) =>
    VIf ((!r17) || ((decide (i_3 > 0)) && (!(Op.bytesLess v29.toList v31.toList)))) (
      R (.returned (.bool false)) w6
    ) (
      ∃ k', k' < k1 ∧ I1 k' (IntKind.wrap .i64 (x9 + 1)) w6
    )
  ) (
    VLd none w2 ⟨n_1, 1, none⟩ [CT.sl] fun (v37 : Sl) =>
    VSet (IntKind.wrap .i64 (((v37.len : Nat) : Int) + 1)) fun (kids_5 : Int) =>
    ∃ Φ2 : Int → World → Prop, (
      VLd none w2 ⟨n_1, 0, none⟩ [CT.bool] fun (v41 : Bool) =>
      VIf v41 (
        Φ2 0 w2
      ) (
        Φ2 kids_5 w2
      )
    ) ∧ ∀ (kids_5' : Int) (w7 : World), Φ2 kids_5' w7 →
    VLd none w7 ⟨n_1, 2, none⟩ [CT.sl] fun (v43 : Sl) =>
    VLd (some (((v43.len : Nat) : Int) == kids_5')) w7 ⟨n_1, 2, none⟩ [CT.sl] fun (v49 : Sl) =>
    VCall (some (((v43.len : Nat) : Int) == kids_5')) Try.prog 42 #[.slice v49.base v49.len v49.cap, .func (.func 43) #[] #[]] w7 (.bool false) fun (r50 : Bool) (w8 : World) =>
    R (.returned (.bool ((((v43.len : Nat) : Int) == kids_5') && (!r50)))) w8
  )
theorem sh_node_Check_ok (n_0_0 : Bool) (n_0_1 : Sl) (n_0_2 : Sl) (w : World) (R : Ending → World → Prop) (h : sh_node_Check n_0_0 n_0_1 n_0_2 w R) : Calls Try.prog 20 #[.agg #[.bool n_0_0, .slice n_0_1.base n_0_1.len n_0_1.cap, .slice n_0_2.base n_0_2.len n_0_2.cap]] w R :=
  calls_of_sh (args := [.agg #[.bool n_0_0, .slice n_0_1.base n_0_1.len n_0_1.cap, .slice n_0_2.base n_0_2.len n_0_2.cap]]) (.two .auto (.two (.two .auto (.one (.loop [(9, .int .i64 0)] (.two .auto (.two (.two .auto .auto) (.two (.one (.two .auto (.two .auto (.two (.two .auto .auto) .auto)))) .auto)))))) (.two .auto (.join [(5, .int .i64 0)] (.two .auto (.two .auto .auto)) (.two .auto .auto))))) Try.func20 (by kernel_rfl) (by kernel_rfl) (by kernel_rfl) h

/-- 21: buttery/node.Size -/
def sh_node_Size (n_0_0 : Bool) (n_0_1 : Sl) (n_0_2 : Sl) (w : World) (R : Ending → World → Prop) : Prop :=
  VNw none w (.cells #[.bool n_0_0, .slice n_0_1.base n_0_1.len n_0_1.cap, .slice n_0_2.base n_0_2.len n_0_2.cap] 30) fun (n_1 : Nat) (w1 : World) =>
  VLd none w1 ⟨n_1, 0, none⟩ [CT.bool, CT.sl, CT.sl] fun (v3_0 : Bool) (v3_1 : Sl) (v3_2 : Sl) =>
  VCall none Try.prog 20 #[.agg #[.bool v3_0, .slice v3_1.base v3_1.len v3_1.cap, .slice v3_2.base v3_2.len v3_2.cap]] w1 (.bool false) fun (r4 : Bool) (w2 : World) =>
  VIf (!r4) (
    R (.returned (.int .i64 0)) w2
  ) (
    VLd none w2 ⟨n_1, 0, none⟩ [CT.bool, CT.sl, CT.sl] fun (v6_0 : Bool) (v6_1 : Sl) (v6_2 : Sl) =>
    VCall none Try.prog 35 #[.agg #[.bool v6_0, .slice v6_1.base v6_1.len v6_1.cap, .slice v6_2.base v6_2.len v6_2.cap]] w2 (.slice none 0 0) fun (r7 : Sl) (w3 : World) =>
    VSet ((r7.len : Nat) : Int) fun (v2 : Int) =>
    R (.returned (.int .i64 v2)) w3
  )
theorem sh_node_Size_ok (n_0_0 : Bool) (n_0_1 : Sl) (n_0_2 : Sl) (w : World) (R : Ending → World → Prop) (h : sh_node_Size n_0_0 n_0_1 n_0_2 w R) : Calls Try.prog 21 #[.agg #[.bool n_0_0, .slice n_0_1.base n_0_1.len n_0_1.cap, .slice n_0_2.base n_0_2.len n_0_2.cap]] w R :=
  calls_of_sh (args := [.agg #[.bool n_0_0, .slice n_0_1.base n_0_1.len n_0_1.cap, .slice n_0_2.base n_0_2.len n_0_2.cap]]) (.two .auto (.two (.two .auto (.two (.two .auto .auto) .auto)) (.two .auto .auto))) Try.func21 (by kernel_rfl) (by kernel_rfl) (by kernel_rfl) h

/-- 22: buttery/butterylaw06.biggest -/
def sh_butterylaw06_biggest (n_0_0 : Bool) (n_0_1 : Sl) (n_0_2 : Sl) (w : World) (R : Ending → World → Prop) : Prop :=
  VNw none w (.cells #[.bool n_0_0, .slice n_0_1.base n_0_1.len n_0_1.cap, .slice n_0_2.base n_0_2.len n_0_2.cap] 25) fun (n_1 : Nat) (w1 : World) =>
  ∃ I1 : Nat → Int → Int → World → Prop, (∃ k, I1 k 0 0 w1) ∧ ∀ k1 (most_3 : Int) (i_4 : Int) (w2 : World), I1 k1 most_3 i_4 w2 →
  VLd none w2 ⟨n_1, 1, none⟩ [CT.sl] fun (v8 : Sl) =>
  VIf (decide (i_4 < ((v8.len : Nat) : Int))) (
    VLd none w2 ⟨n_1, 1, none⟩ [CT.sl] fun (v14 : Sl) =>
    VCk none ((0 : Int) ≤ i_4 ∧ (i_4 : Int) ≤ IntKind.wrap .i64 (i_4 + 1) ∧ (IntKind.wrap .i64 (i_4 + 1) : Int) ≤ ((v14.cap : Nat) : Int)) (
      VCall none Try.prog 10 #[.agg #[.bool true, .slice (cutB v14.base v14.cap 4 (Int.toNat i_4)) ((Int.toNat (IntKind.wrap .i64 (i_4 + 1))) - (Int.toNat i_4)) (v14.cap - (Int.toNat i_4)), .slice none 0 0]] w2 (.agg #[.bool false, .slice none 0 0, .slice none 0 0]) fun (r20_0 : Bool) (r20_1 : Sl) (r20_2 : Sl) (w3 : World) =>
      VCall none Try.prog 21 #[.agg #[.bool r20_0, .slice r20_1.base r20_1.len r20_1.cap, .slice r20_2.base r20_2.len r20_2.cap]] w3 (.int .i64 0) fun (r21 : Int) (w4 : World) =>
      VSet r21 fun (one_5 : Int) =>
      VSet (if (IntKind.wrap .i64 (one_5 - 2)) > most_3 then IntKind.wrap .i64 (one_5 - 2) else most_3) fun (most_3' : Int) =>
      VSet (IntKind.wrap .i64 (i_4 + 1)) fun (i_4' : Int) =>
      ∃ k', k' < k1 ∧ I1 k' most_3' i_4' w4
    )
  ) (
    VSet most_3 fun (v2 : Int) =>
    R (.returned (.int .i64 v2)) w2
  )
theorem sh_butterylaw06_biggest_ok (n_0_0 : Bool) (n_0_1 : Sl) (n_0_2 : Sl) (w : World) (R : Ending → World → Prop) (h : sh_butterylaw06_biggest n_0_0 n_0_1 n_0_2 w R) : Calls Try.prog 22 #[.agg #[.bool n_0_0, .slice n_0_1.base n_0_1.len n_0_1.cap, .slice n_0_2.base n_0_2.len n_0_2.cap]] w R :=
  calls_of_sh (args := [.agg #[.bool n_0_0, .slice n_0_1.base n_0_1.len n_0_1.cap, .slice n_0_2.base n_0_2.len n_0_2.cap]]) (.two .auto (.two .auto (.two (.two .auto (.one (.loop [(3, .int .i64 0), (4, .int .i64 0)] (.two (.two .auto (.two .auto .auto)) (.two (.one (.two .auto .auto)) .auto))))) (.two .auto .auto)))) Try.func22 (by kernel_rfl) (by kernel_rfl) (by kernel_rfl) h

/-- 23: buttery/butteryref06.Encode -/
def sh_butteryref06_Encode (n_0_0 : Bool) (n_0_1 : Sl) (n_0_2 : Sl) (w : World) (R : Ending → World → Prop) : Prop :=
  VNw none w (.cells #[.bool n_0_0, .slice n_0_1.base n_0_1.len n_0_1.cap, .slice n_0_2.base n_0_2.len n_0_2.cap] 25) fun (n_1 : Nat) (w1 : World) =>
  VLd none w1 ⟨n_1, 0, none⟩ [CT.bool, CT.sl, CT.sl] fun (v5_0 : Bool) (v5_1 : Sl) (v5_2 : Sl) =>
  VCall none Try.prog 25 #[.agg #[.bool v5_0, .slice v5_1.base v5_1.len v5_1.cap, .slice v5_2.base v5_2.len v5_2.cap]] w1 (.bool false) fun (r6 : Bool) (w2 : World) =>
  VIf (!r6) (
    R (.returned (.tuple #[.slice none 0 0, .int .i64 4])) w2
  ) (
    VLd none w2 ⟨n_1, 0, none⟩ [CT.bool, CT.sl, CT.sl] fun (v8_0 : Bool) (v8_1 : Sl) (v8_2 : Sl) =>
    VCall none Try.prog 38 #[.agg #[.bool v8_0, .slice v8_1.base v8_1.len v8_1.cap, .slice v8_2.base v8_2.len v8_2.cap]] w2 (.slice none 0 0) fun (r9 : Sl) (w3 : World) =>
    VIf (decide (((r9.len : Nat) : Int) > 512)) (
      R (.returned (.tuple #[.slice none 0 0, .int .i64 40])) w3
    ) (
      R (.returned (.tuple #[.slice r9.base r9.len r9.cap, .int .i64 0])) w3
    )
  )
theorem sh_butteryref06_Encode_ok (n_0_0 : Bool) (n_0_1 : Sl) (n_0_2 : Sl) (w : World) (R : Ending → World → Prop) (h : sh_butteryref06_Encode n_0_0 n_0_1 n_0_2 w R) : Calls Try.prog 23 #[.agg #[.bool n_0_0, .slice n_0_1.base n_0_1.len n_0_1.cap, .slice n_0_2.base n_0_2.len n_0_2.cap]] w R :=
  calls_of_sh (args := [.agg #[.bool n_0_0, .slice n_0_1.base n_0_1.len n_0_1.cap, .slice n_0_2.base n_0_2.len n_0_2.cap]]) (.two .auto (.two (.two .auto (.two (.two .auto .auto) .auto)) (.two .auto (.two (.two .auto (.two (.two .auto .auto) .auto)) (.two .auto .auto))))) Try.func23 (by kernel_rfl) (by kernel_rfl) (by kernel_rfl) h

/-- 24: buttery/node.Encode -/
def sh_node_Encode (n_0_0 : Bool) (n_0_1 : Sl) (n_0_2 : Sl) (w : World) (R : Ending → World → Prop) : Prop :=
  VNw none w (.cells #[.bool n_0_0, .slice n_0_1.base n_0_1.len n_0_1.cap, .slice n_0_2.base n_0_2.len n_0_2.cap] 30) fun (n_1 : Nat) (w1 : World) =>
  VLd none w1 ⟨n_1, 0, none⟩ [CT.bool, CT.sl, CT.sl] fun (v5_0 : Bool) (v5_1 : Sl) (v5_2 : Sl) =>
  VCall none Try.prog 20 #[.agg #[.bool v5_0, .slice v5_1.base v5_1.len v5_1.cap, .slice v5_2.base v5_2.len v5_2.cap]] w1 (.bool false) fun (r6 : Bool) (w2 : World) =>
  VIf (!r6) (
    R (.returned (.tuple #[.slice none 0 0, .int .i64 4])) w2
  ) (
    VLd none w2 ⟨n_1, 0, none⟩ [CT.bool, CT.sl, CT.sl] fun (v8_0 : Bool) (v8_1 : Sl) (v8_2 : Sl) =>
    VCall none Try.prog 35 #[.agg #[.bool v8_0, .slice v8_1.base v8_1.len v8_1.cap, .slice v8_2.base v8_2.len v8_2.cap]] w2 (.slice none 0 0) fun (r9 : Sl) (w3 : World) =>
    VIf (decide (((r9.len : Nat) : Int) > 512)) (
      R (.returned (.tuple #[.slice none 0 0, .int .i64 40])) w3
    ) (
      R (.returned (.tuple #[.slice r9.base r9.len r9.cap, .int .i64 0])) w3
    )
  )
theorem sh_node_Encode_ok (n_0_0 : Bool) (n_0_1 : Sl) (n_0_2 : Sl) (w : World) (R : Ending → World → Prop) (h : sh_node_Encode n_0_0 n_0_1 n_0_2 w R) : Calls Try.prog 24 #[.agg #[.bool n_0_0, .slice n_0_1.base n_0_1.len n_0_1.cap, .slice n_0_2.base n_0_2.len n_0_2.cap]] w R :=
  calls_of_sh (args := [.agg #[.bool n_0_0, .slice n_0_1.base n_0_1.len n_0_1.cap, .slice n_0_2.base n_0_2.len n_0_2.cap]]) (.two .auto (.two (.two .auto (.two (.two .auto .auto) .auto)) (.two .auto (.two (.two .auto (.two (.two .auto .auto) .auto)) (.two .auto .auto))))) Try.func24 (by kernel_rfl) (by kernel_rfl) (by kernel_rfl) h

/-- 25: buttery/butteryref06.Check -/
def sh_butteryref06_Check (n_0_0 : Bool) (n_0_1 : Sl) (n_0_2 : Sl) (w : World) (R : Ending → World → Prop) : Prop :=
  VNw none w (.cells #[.bool n_0_0, .slice n_0_1.base n_0_1.len n_0_1.cap, .slice n_0_2.base n_0_2.len n_0_2.cap] 25) fun (n_1 : Nat) (w1 : World) =>
  ∃ I1 : Nat → Int → World → Prop, (∃ k, I1 k 0 w1) ∧ ∀ k1 (i_3 : Int) (w2 : World), I1 k1 i_3 w2 →
  VLd none w2 ⟨n_1, 1, none⟩ [CT.sl] fun (v7 : Sl) =>
  VIf (decide (i_3 < ((v7.len : Nat) : Int))) (
    ∀ (w3 : World), w3 = World.drew w2 →
    VLd none w3 ⟨n_1, 0, none⟩ [CT.bool] fun (v13 : Bool) =>
    VLd none w3 ⟨n_1, 1, none⟩ [CT.sl] fun (v15 : Sl) =>
    VIx none v15.base v15.len i_3 fun (a17 : Addr) =>
    VLd none w3 (Addr.add a17 ((Int.toNat i_3) * 4)) [CT.str, CT.str, CT.int .i64, CT.int .i64] fun (v18_0 : ByteArray) (v18_1 : ByteArray) (v18_2 : Int) (v18_3 : Int) =>
    VCall none Try.prog 45 #[.bool v13, .agg #[.string v18_0, .string v18_1, .int .i64 v18_2, .int .i64 v18_3]] w3 (.bool false) fun (r19 : Bool) (w4 : World) =>
    VLd (some ((!(!r19)) && (decide (i_3 > 0)))) w4 ⟨n_1, 1, none⟩ [CT.sl] fun (v26 : Sl) =>
    VIx (some ((!(!r19)) && (decide (i_3 > 0)))) v26.base v26.len (IntKind.wrap .i64 (i_3 - 1)) fun (a29 : Addr) =>
    VLd (some ((!(!r19)) && (decide (i_3 > 0)))) w4 (Addr.add a29 ((Int.toNat (IntKind.wrap .i64 (i_3 - 1))) * 4)) [CT.str] fun (v31 : ByteArray) =>
    VLd (some ((!(!r19)) && (decide (i_3 > 0)))) w4 ⟨n_1, 1, none⟩ [CT.sl] fun (v33 : Sl) =>
    VIx (some ((!(!r19)) && (decide (i_3 > 0)))) v33.base v33.len i_3 fun (a35 : Addr) =>
    VLd (some ((!(!r19)) && (decide (i_3 > 0)))) w4 (Addr.add a35 ((Int.toNat i_3) * 4)) [CT.str] fun (v37 : ByteArray) =>
    VIf ((!r19) || ((decide (i_3 > 0)) && (!(Op.bytesLess v31.toList v37.toList)))) (
      R (.returned (.bool false)) w4
    ) (
      VSet (IntKind.wrap .i64 (i_3 + 1)) fun (i_3' : Int) =>
      ∃ k', k' < k1 ∧ I1 k' i_3' w4
    )
  ) (
    ∃ I2 : Nat → Int → World → Prop, (∃ k, I2 k 0 w2) ∧ ∀ k2 (i_4 : Int) (w5 : World), I2 k2 i_4 w5 →
    VLd none w5 ⟨n_1, 2, none⟩ [CT.sl] fun (v43 : Sl) =>
    VIf (decide (i_4 < ((v43.len : Nat) : Int))) (
      VLd none w5 ⟨n_1, 2, none⟩ [CT.sl] fun (v49 : Sl) =>
      VIx none v49.base v49.len i_4 fun (a51 : Addr) =>
      VLd none w5 (Addr.add a51 ((Int.toNat i_4) * 1)) [CT.int .i64] fun (v52 : Int) =>
      VLd (some (!(decide (v52 < 0)))) w5 ⟨n_1, 2, none⟩ [CT.sl] fun (v56 : Sl) =>
      VIx (some (!(decide (v52 < 0)))) v56.base v56.len i_4 fun (a58 : Addr) =>
      VLd (some (!(decide (v52 < 0)))) w5 (Addr.add a58 ((Int.toNat i_4) * 1)) [CT.int .i64] fun (v59 : Int) =>
      VIf ((decide (v52 < 0)) || (decide (v59 > 2147483647))) (
        R (.returned (.bool false)) w5
      ) (
        VSet (IntKind.wrap .i64 (i_4 + 1)) fun (i_4' : Int) =>
        ∃ k', k' < k2 ∧ I2 k' i_4' w5
      )
    ) (
      VLd none w5 ⟨n_1, 0, none⟩ [CT.bool] fun (v63 : Bool) =>
      VIf v63 (
        VLd none w5 ⟨n_1, 2, none⟩ [CT.sl] fun (v65 : Sl) =>
        R (.returned (.bool (((v65.len : Nat) : Int) == 0))) w5
      ) (
        VLd none w5 ⟨n_1, 2, none⟩ [CT.sl] fun (v69 : Sl) =>
        VLd none w5 ⟨n_1, 1, none⟩ [CT.sl] fun (v72 : Sl) =>
        R (.returned (.bool (((v69.len : Nat) : Int) == (IntKind.wrap .i64 (((v72.len : Nat) : Int) + 1))))) w5
      )
    )
  )
theorem sh_butteryref06_Check_ok (n_0_0 : Bool) (n_0_1 : Sl) (n_0_2 : Sl) (w : World) (R : Ending → World → Prop) (h : sh_butteryref06_Check n_0_0 n_0_1 n_0_2 w R) : Calls Try.prog 25 #[.agg #[.bool n_0_0, .slice n_0_1.base n_0_1.len n_0_1.cap, .slice n_0_2.base n_0_2.len n_0_2.cap]] w R :=
  calls_of_sh (args := [.agg #[.bool n_0_0, .slice n_0_1.base n_0_1.len n_0_1.cap, .slice n_0_2.base n_0_2.len n_0_2.cap]]) (.two .auto (.two (.two .auto (.one (.loop [(3, .int .i64 0)] (.two (.two .auto (.two .auto .auto)) (.two (.one (.two .auto (.two (.two .auto .auto) .auto))) .auto))))) (.two (.two .auto (.one (.loop [(4, .int .i64 0)] (.two (.two .auto (.two .auto .auto)) (.two (.one (.two .auto (.two (.two .auto .auto) .auto))) .auto))))) (.two (.two .auto (.two (.two .auto .auto) .auto)) (.two .auto .auto))))) Try.func25 (by kernel_rfl) (by kernel_rfl) (by kernel_rfl) h

/-- 26: buttery/butteryref06.Size -/
def sh_butteryref06_Size (n_0_0 : Bool) (n_0_1 : Sl) (n_0_2 : Sl) (w : World) (R : Ending → World → Prop) : Prop :=
  VNw none w (.cells #[.bool n_0_0, .slice n_0_1.base n_0_1.len n_0_1.cap, .slice n_0_2.base n_0_2.len n_0_2.cap] 25) fun (n_1 : Nat) (w1 : World) =>
  VLd none w1 ⟨n_1, 0, none⟩ [CT.bool, CT.sl, CT.sl] fun (v3_0 : Bool) (v3_1 : Sl) (v3_2 : Sl) =>
  VCall none Try.prog 25 #[.agg #[.bool v3_0, .slice v3_1.base v3_1.len v3_1.cap, .slice v3_2.base v3_2.len v3_2.cap]] w1 (.bool false) fun (r4 : Bool) (w2 : World) =>
  VIf (!r4) (
    R (.returned (.int .i64 0)) w2
  ) (
    VLd none w2 ⟨n_1, 0, none⟩ [CT.bool, CT.sl, CT.sl] fun (v6_0 : Bool) (v6_1 : Sl) (v6_2 : Sl) =>
    VCall none Try.prog 38 #[.agg #[.bool v6_0, .slice v6_1.base v6_1.len v6_1.cap, .slice v6_2.base v6_2.len v6_2.cap]] w2 (.slice none 0 0) fun (r7 : Sl) (w3 : World) =>
    VSet ((r7.len : Nat) : Int) fun (v2 : Int) =>
    R (.returned (.int .i64 v2)) w3
  )
theorem sh_butteryref06_Size_ok (n_0_0 : Bool) (n_0_1 : Sl) (n_0_2 : Sl) (w : World) (R : Ending → World → Prop) (h : sh_butteryref06_Size n_0_0 n_0_1 n_0_2 w R) : Calls Try.prog 26 #[.agg #[.bool n_0_0, .slice n_0_1.base n_0_1.len n_0_1.cap, .slice n_0_2.base n_0_2.len n_0_2.cap]] w R :=
  calls_of_sh (args := [.agg #[.bool n_0_0, .slice n_0_1.base n_0_1.len n_0_1.cap, .slice n_0_2.base n_0_2.len n_0_2.cap]]) (.two .auto (.two (.two .auto (.two (.two .auto .auto) .auto)) (.two .auto .auto))) Try.func26 (by kernel_rfl) (by kernel_rfl) (by kernel_rfl) h

/-- 27: buttery/butteryref06.Decode -/
def sh_butteryref06_Decode (b_0 : Sl) (w : World) (R : Ending → World → Prop) : Prop :=
  VNw none w (.cells #[.bool false, .slice none 0 0, .slice none 0 0] 25) fun (b2 : Nat) (w1 : World) =>
  VIf (decide (((b_0.len : Nat) : Int) > 512)) (
    VSt none w1 ⟨b2, 0, none⟩ [.bool false, .slice none 0 0, .slice none 0 0] fun (w2 : World) =>
    VLd none w2 ⟨b2, 0, none⟩ [CT.bool, CT.sl, CT.sl] fun (res2_0 : Bool) (res2_1 : Sl) (res2_2 : Sl) =>
    R (.returned (.tuple #[.agg #[.bool res2_0, .slice res2_1.base res2_1.len res2_1.cap, .slice res2_2.base res2_2.len res2_2.cap], .int .i64 4])) w2
  ) (
    VCall none Try.prog 46 #[.slice b_0.base b_0.len b_0.cap] w1 (.pointer none) fun (r16 : Option Addr) (w3 : World) =>
    VCall none Try.prog 47 #[.pointer r16] w3 (.bool false) fun (r18 : Bool) (w4 : World) =>
    VNw none w4 (.cells #[.bool false, .slice none 0 0, .slice none 0 0] 25) fun (n_5 : Nat) (w5 : World) =>
    VSt none w5 ⟨n_5, 0, none⟩ [.bool r18, .slice none 0 0, .slice none 0 0] fun (w6 : World) =>
    VCall none Try.prog 48 #[.pointer r16, .int .i64 512] w6 (.int .i64 0) fun (r21 : Int) (w7 : World) =>
    VSet r21 fun (cells_6 : Int) =>
    ∃ I1 : Nat → Int → World → Prop, (∃ k, I1 k 0 w7) ∧ ∀ k1 (i_7 : Int) (w8 : World), I1 k1 i_7 w8 →
    VCall (some (decide (i_7 < cells_6))) Try.prog 49 #[.pointer r16] w8 (.bool false) fun (r27 : Bool) (w9 : World) =>
    VIf ((decide (i_7 < cells_6)) && r27) (
      VCall none Try.prog 50 #[.pointer r16, .int .i64 48] w9 (.string ByteArray.empty) fun (r32 : ByteArray) (w10 : World) =>
      VNw none w10 (.cells #[.string ByteArray.empty, .string ByteArray.empty, .int .i64 0, .int .i64 0] 47) fun (c_8 : Nat) (w11 : World) =>
      VSt none w11 ⟨c_8, 0, none⟩ [.string r32, .string ByteArray.empty, .int .i64 0, .int .i64 0] fun (w12 : World) =>
      ∃ Φ2 : World → Prop, (
        VLd none w12 ⟨n_5, 0, none⟩ [CT.bool] fun (v35 : Bool) =>
        VIf v35 (
          VCall none Try.prog 48 #[.pointer r16, .int .i64 2147483647] w12 (.int .i64 0) fun (r37 : Int) (w13 : World) =>
          VSt none w13 ⟨c_8, 2, none⟩ [.int .i64 r37] fun (w14 : World) =>
          VLd none w14 ⟨c_8, 2, none⟩ [CT.int .i64] fun (v40 : Int) =>
          VIf (v40 == 0) (
            VCall none Try.prog 50 #[.pointer r16, .int .i64 64] w14 (.string ByteArray.empty) fun (r43 : ByteArray) (w15 : World) =>
            VSt none w15 ⟨c_8, 1, none⟩ [.string r43] fun (w16 : World) =>
            Φ2 w16
          ) (
            VCall none Try.prog 48 #[.pointer r16, .int .i64 2147483647] w14 (.int .i64 0) fun (r46 : Int) (w17 : World) =>
            VSt none w17 ⟨c_8, 3, none⟩ [.int .i64 r46] fun (w18 : World) =>
            Φ2 w18
          )
        ) (
          Φ2 w12
        )
      ) ∧ ∀ (w19 : World), Φ2 w19 →
      VLd none w19 ⟨n_5, 1, none⟩ [CT.sl] fun (v49 : Sl) =>
      VLd none w19 ⟨c_8, 0, none⟩ [CT.str, CT.str, CT.int .i64, CT.int .i64] fun (v50_0 : ByteArray) (v50_1 : ByteArray) (v50_2 : Int) (v50_3 : Int) =>
      VNw none w19 (.cells #[.string v50_0, .string v50_1, .int .i64 v50_2, .int .i64 v50_3] 47) fun (b51 : Nat) (w20 : World) =>
      VApp none w20 47 4 48 #[.string ByteArray.empty, .string ByteArray.empty, .int .i64 0, .int .i64 0] v49.base v49.len v49.cap 1 (fun news => Seg w20 (some ⟨b51, 0, none⟩) 1 4 news) fun (l52 : Sl) (w21 : World) =>
      VSt none w21 ⟨n_5, 1, none⟩ [.slice l52.base l52.len l52.cap] fun (w22 : World) =>
      VSet (IntKind.wrap .i64 (i_7 + 1)) fun (i_7' : Int) =>
      ∃ k', k' < k1 ∧ I1 k' i_7' w22
    ) (
      ∃ I3 : Nat → Int → World → Prop, (∃ k, I3 k 0 w9) ∧ ∀ k3 (i_9 : Int) (w23 : World), I3 k3 i_9 w23 →
      VCall (some (decide (i_9 ≤ cells_6))) Try.prog 49 #[.pointer r16] w23 (.bool false) fun (r59 : Bool) (w24 : World) =>
      VLd (some ((decide (i_9 ≤ cells_6)) && r59)) w24 ⟨n_5, 0, none⟩ [CT.bool] fun (v63 : Bool) =>
      VIf (((decide (i_9 ≤ cells_6)) && r59) && (!v63)) (
        ∀ (w25 : World), w25 = World.drew w24 →
        VLd none w25 ⟨n_5, 2, none⟩ [CT.sl] fun (v69 : Sl) =>
        VCall none Try.prog 48 #[.pointer r16, .int .i64 2147483647] w25 (.int .i64 0) fun (r71 : Int) (w26 : World) =>
        Rd w26 ⟨n_5, 2, none⟩ [.slice v69.base v69.len v69.cap] ∧
        VNw none w26 (.cells #[.int .i64 r71] 3) fun (b72 : Nat) (w27 : World) =>
        Rd w27 ⟨n_5, 2, none⟩ [.slice v69.base v69.len v69.cap] ∧
        VApp none w27 3 1 8 #[.int .i64 0] v69.base v69.len v69.cap 1 (fun news => Seg w27 (some ⟨b72, 0, none⟩) 1 1 news) fun (l73 : Sl) (w28 : World) =>
        VSt none w28 ⟨n_5, 2, none⟩ [.slice l73.base l73.len l73.cap] fun (w29 : World) =>
        VSet (IntKind.wrap .i64 (i_9 + 1)) fun (i_9' : Int) =>
        ∃ k', k' < k3 ∧ I3 k' i_9' w29
      ) (
        VCall none Try.prog 49 #[.pointer r16] w24 (.bool false) fun (r76 : Bool) (w30 : World) =>
        VLd (some (!(!r76))) w30 ⟨n_5, 0, none⟩ [CT.bool, CT.sl, CT.sl] fun (v79_0 : Bool) (v79_1 : Sl) (v79_2 : Sl) =>
        VCall (some (!(!r76))) Try.prog 25 #[.agg #[.bool v79_0, .slice v79_1.base v79_1.len v79_1.cap, .slice v79_2.base v79_2.len v79_2.cap]] w30 (.bool false) fun (r80 : Bool) (w31 : World) =>
        VIf ((!r76) || (!r80)) (
          VSt none w31 ⟨b2, 0, none⟩ [.bool false, .slice none 0 0, .slice none 0 0] fun (w32 : World) =>
          VLd none w32 ⟨b2, 0, none⟩ [CT.bool, CT.sl, CT.sl] fun (res2_0 : Bool) (res2_1 : Sl) (res2_2 : Sl) =>
          R (.returned (.tuple #[.agg #[.bool res2_0, .slice res2_1.base res2_1.len res2_1.cap, .slice res2_2.base res2_2.len res2_2.cap], .int .i64 4])) w32
        ) (
          VCall none Try.prog 51 #[.pointer r16] w31 (.int .i64 0) fun (r87 : Int) (w33 : World) =>
          VSet (IntKind.wrap .i64 (((b_0.len : Nat) : Int) - r87)) fun (i_10 : Int) =>
          ∃ I4 : Nat → Int → World → Prop, (∃ k, I4 k i_10 w33) ∧ ∀ k4 (i_10' : Int) (w34 : World), I4 k4 i_10' w34 →
          VIf (decide (i_10' < ((b_0.len : Nat) : Int))) (
            VIx none b_0.base b_0.len i_10' fun (a97 : Addr) =>
            VLd none w34 (Addr.add a97 ((Int.toNat i_10') * 1)) [CT.int .u8] fun (v98 : Int) =>
            VIf (v98 != 0) (
              VSt none w34 ⟨b2, 0, none⟩ [.bool false, .slice none 0 0, .slice none 0 0] fun (w35 : World) =>
              VLd none w35 ⟨b2, 0, none⟩ [CT.bool, CT.sl, CT.sl] fun (res2_0 : Bool) (res2_1 : Sl) (res2_2 : Sl) =>
              R (.returned (.tuple #[.agg #[.bool res2_0, .slice res2_1.base res2_1.len res2_1.cap, .slice res2_2.base res2_2.len res2_2.cap], .int .i64 4])) w35
            ) (
              VSet (IntKind.wrap .i64 (i_10' + 1)) fun (i_10'' : Int) =>
              ∃ k', k' < k4 ∧ I4 k' i_10'' w34
            )
          ) (
            VLd none w34 ⟨n_5, 0, none⟩ [CT.bool, CT.sl, CT.sl] fun (v101_0 : Bool) (v101_1 : Sl) (v101_2 : Sl) =>
            VSt none w34 ⟨b2, 0, none⟩ [.bool v101_0, .slice v101_1.base v101_1.len v101_1.cap, .slice v101_2.base v101_2.len v101_2.cap] fun (w36 : World) =>
            VLd none w36 ⟨b2, 0, none⟩ [CT.bool, CT.sl, CT.sl] fun (res2_0 : Bool) (res2_1 : Sl) (res2_2 : Sl) =>
            R (.returned (.tuple #[.agg #[.bool res2_0, .slice res2_1.base res2_1.len res2_1.cap, .slice res2_2.base res2_2.len res2_2.cap], .int .i64 0])) w36
          )
        )
      )
    )
  )
theorem sh_butteryref06_Decode_ok (b_0 : Sl) (w : World) (R : Ending → World → Prop) (h : sh_butteryref06_Decode b_0 w R) : Calls Try.prog 27 #[.slice b_0.base b_0.len b_0.cap] w R :=
  calls_of_sh (args := [.slice b_0.base b_0.len b_0.cap]) (.two .auto (.two (.two .auto (.two (.two .auto .auto) .auto)) (.two .auto (.two .auto (.two .auto (.two (.two .auto (.one (.loop [(7, .int .i64 0)] (.two (.two .auto (.two .auto .auto)) (.two (.one (.two .auto (.join [] (.two .auto (.two (.two .auto (.two .auto (.two .auto .auto))) .auto)) .auto))) .auto))))) (.two (.two .auto (.one (.loop [(9, .int .i64 0)] (.two (.two .auto (.two .auto .auto)) (.two (.one .auto) .auto))))) (.two (.two .auto (.two (.two .auto .auto) .auto)) (.two (.two .auto (.one (.loop [(10, .int .i64 0)] (.two (.two .auto (.two .auto .auto)) (.two (.one (.two .auto (.two (.two .auto .auto) .auto))) .auto))))) (.two .auto .auto)))))))))) Try.func27 (by kernel_rfl) (by kernel_rfl) (by kernel_rfl) h

/-- 28: buttery/node.Decode -/
def sh_node_Decode (b_0 : Sl) (w : World) (R : Ending → World → Prop) : Prop :=
  VNw none w (.cells #[.bool false, .slice none 0 0, .slice none 0 0] 30) fun (b2 : Nat) (w1 : World) =>
  VIf (decide (((b_0.len : Nat) : Int) > 512)) (
    VSt none w1 ⟨b2, 0, none⟩ [.bool false, .slice none 0 0, .slice none 0 0] fun (w2 : World) =>
    VLd none w2 ⟨b2, 0, none⟩ [CT.bool, CT.sl, CT.sl] fun (res2_0 : Bool) (res2_1 : Sl) (res2_2 : Sl) =>
    R (.returned (.tuple #[.agg #[.bool res2_0, .slice res2_1.base res2_1.len res2_1.cap, .slice res2_2.base res2_2.len res2_2.cap], .int .i64 4])) w2
  ) (
    VCall none Try.prog 52 #[.slice b_0.base b_0.len b_0.cap] w1 (.pointer none) fun (r13 : Option Addr) (w3 : World) =>
    VCall none Try.prog 53 #[.pointer r13] w3 (.bool false) fun (r15 : Bool) (w4 : World) =>
    VNw none w4 (.cells #[.bool false, .slice none 0 0, .slice none 0 0] 30) fun (n_5 : Nat) (w5 : World) =>
    VSt none w5 ⟨n_5, 0, none⟩ [.bool r15, .slice none 0 0, .slice none 0 0] fun (w6 : World) =>
    VCall none Try.prog 54 #[.pointer r13, .int .i64 512] w6 (.int .i64 0) fun (r18 : Int) (w7 : World) =>
    ∃ Φ1 : World → Prop, (
      ∃ I2 : Nat → Int → World → Prop, (∃ k, I2 k 0 w7) ∧ ∀ k2 (x19 : Int) (w8 : World), I2 k2 x19 w8 →
      VIf (decide (x19 < r18)) (
        VCall none Try.prog 55 #[.pointer r13] w8 (.bool false) fun (r22 : Bool) (w9 : World) =>
        VIf (!r22) (
          Φ1 w9
        ) (
          ∀ (w10 : World), w10 = World.drew w9 →
          VLd none w10 ⟨n_5, 1, none⟩ [CT.sl] fun (v25 : Sl) =>
          VLd none w10 ⟨n_5, 0, none⟩ [CT.bool] fun (v28 : Bool) =>
          VCall none Try.prog 56 #[.pointer r13, .bool v28] w10 (.agg #[.string ByteArray.empty, .string ByteArray.empty, .int .i64 0, .int .i64 0]) fun (r29_0 : ByteArray) (r29_1 : ByteArray) (r29_2 : Int) (r29_3 : Int) (w11 : World) =>
          Rd w11 ⟨n_5, 1, none⟩ [.slice v25.base v25.len v25.cap] ∧
          VNw none w11 (.cells #[.string r29_0, .string r29_1, .int .i64 r29_2, .int .i64 r29_3] 48) fun (b30 : Nat) (w12 : World) =>
          Rd w12 ⟨n_5, 1, none⟩ [.slice v25.base v25.len v25.cap] ∧
          VApp none w12 48 4 48 #[.string ByteArray.empty, .string ByteArray.empty, .int .i64 0, .int .i64 0] v25.base v25.len v25.cap 1 (fun news => Seg w12 (some ⟨b30, 0, none⟩) 1 4 news) fun (l31 : Sl) (w13 : World) =>
          VSt none w13 ⟨n_5, 1, none⟩ [.slice l31.base l31.len l31.cap] fun (w14 : World) =>
          ∃ k', k' < k2 ∧ I2 k' (IntKind.wrap .i64 (x19 + 1)) w14
        )
      ) (
        Φ1 w8
      )
    ) ∧ ∀ (w15 : World), Φ1 w15 →
    ∃ I3 : Nat → Int → World → Prop, (∃ k, I3 k 0 w15) ∧ ∀ k3 (i_6 : Int) (w16 : World), I3 k3 i_6 w16 →
    VLd none w16 ⟨n_5, 1, none⟩ [CT.sl] fun (v36 : Sl) =>
    VCall (some (decide (i_6 ≤ ((v36.len : Nat) : Int)))) Try.prog 55 #[.pointer r13] w16 (.bool false) fun (r41 : Bool) (w17 : World) =>
    VLd (some ((decide (i_6 ≤ ((v36.len : Nat) : Int))) && r41)) w17 ⟨n_5, 0, none⟩ [CT.bool] fun (v45 : Bool) =>
    VIf (((decide (i_6 ≤ ((v36.len : Nat) : Int))) && r41) && (!v45)) (
      ∀ (w18 : World), w18 = World.drew w17 →
      VLd none w18 ⟨n_5, 2, none⟩ [CT.sl] fun (v51 : Sl) =>
      VCall none Try.prog 54 #[.pointer r13, .int .i64 2147483647] w18 (.int .i64 0) fun (r53 : Int) (w19 : World) =>
      Rd w19 ⟨n_5, 2, none⟩ [.slice v51.base v51.len v51.cap] ∧
      VNw none w19 (.cells #[.int .i64 r53] 3) fun (b54 : Nat) (w20 : World) =>
      Rd w20 ⟨n_5, 2, none⟩ [.slice v51.base v51.len v51.cap] ∧
      VApp none w20 3 1 8 #[.int .i64 0] v51.base v51.len v51.cap 1 (fun news => Seg w20 (some ⟨b54, 0, none⟩) 1 1 news) fun (l55 : Sl) (w21 : World) =>
      VSt none w21 ⟨n_5, 2, none⟩ [.slice l55.base l55.len l55.cap] fun (w22 : World) =>
      VSet (IntKind.wrap .i64 (i_6 + 1)) fun (i_6' : Int) =>
      ∃ k', k' < k3 ∧ I3 k' i_6' w22
    ) (
      VCall none Try.prog 57 #[.pointer r13] w17 (.int .i64 0) fun (r61 : Int) (w23 : World) =>
      VCk none ((0 : Int) ≤ IntKind.wrap .i64 (((b_0.len : Nat) : Int) - r61) ∧ (IntKind.wrap .i64 (((b_0.len : Nat) : Int) - r61) : Int) ≤ ((b_0.len : Nat) : Int) ∧ (((b_0.len : Nat) : Int) : Int) ≤ ((b_0.cap : Nat) : Int)) (
        VCall none Try.prog 55 #[.pointer r13] w23 (.bool false) fun (r65 : Bool) (w24 : World) =>
        VLd (some (!(!r65))) w24 ⟨n_5, 0, none⟩ [CT.bool, CT.sl, CT.sl] fun (v68_0 : Bool) (v68_1 : Sl) (v68_2 : Sl) =>
        VCall (some (!(!r65))) Try.prog 20 #[.agg #[.bool v68_0, .slice v68_1.base v68_1.len v68_1.cap, .slice v68_2.base v68_2.len v68_2.cap]] w24 (.bool false) fun (r69 : Bool) (w25 : World) =>
        VCall (some (!((!r65) || (!r69)))) Try.prog 58 #[.slice (cutB b_0.base b_0.cap 1 (Int.toNat (IntKind.wrap .i64 (((b_0.len : Nat) : Int) - r61)))) (b_0.len - (Int.toNat (IntKind.wrap .i64 (((b_0.len : Nat) : Int) - r61)))) (b_0.cap - (Int.toNat (IntKind.wrap .i64 (((b_0.len : Nat) : Int) - r61)))), .func (.func 59) #[] #[]] w25 (.bool false) fun (r74 : Bool) (w26 : World) =>
        VIf (((!r65) || (!r69)) || r74) (
          VSt none w26 ⟨b2, 0, none⟩ [.bool false, .slice none 0 0, .slice none 0 0] fun (w27 : World) =>
          VLd none w27 ⟨b2, 0, none⟩ [CT.bool, CT.sl, CT.sl] fun (res2_0 : Bool) (res2_1 : Sl) (res2_2 : Sl) =>
          R (.returned (.tuple #[.agg #[.bool res2_0, .slice res2_1.base res2_1.len res2_1.cap, .slice res2_2.base res2_2.len res2_2.cap], .int .i64 4])) w27
        ) (
          VLd none w26 ⟨n_5, 0, none⟩ [CT.bool, CT.sl, CT.sl] fun (v77_0 : Bool) (v77_1 : Sl) (v77_2 : Sl) =>
          VSt none w26 ⟨b2, 0, none⟩ [.bool v77_0, .slice v77_1.base v77_1.len v77_1.cap, .slice v77_2.base v77_2.len v77_2.cap] fun (w28 : World) =>
          VLd none w28 ⟨b2, 0, none⟩ [CT.bool, CT.sl, CT.sl] fun (res2_0 : Bool) (res2_1 : Sl) (res2_2 : Sl) =>
          R (.returned (.tuple #[.agg #[.bool res2_0, .slice res2_1.base res2_1.len res2_1.cap, .slice res2_2.base res2_2.len res2_2.cap], .int .i64 0])) w28
        )
      )
    )
  )
theorem sh_node_Decode_ok (b_0 : Sl) (w : World) (R : Ending → World → Prop) (h : sh_node_Decode b_0 w R) : Calls Try.prog 28 #[.slice b_0.base b_0.len b_0.cap] w R :=
  calls_of_sh (args := [.slice b_0.base b_0.len b_0.cap]) (.two .auto (.two (.two .auto (.two (.two .auto .auto) .auto)) (.two .auto (.two .auto (.two (.two .auto (.bjoin [] (.loop [(19, .int .i64 0)] (.two .auto (.two (.two .auto .auto) (.two (.one (.two (.two .auto (.two .auto .auto)) .auto)) .auto)))))) (.two (.two .auto (.one (.loop [(6, .int .i64 0)] (.two (.two .auto (.two .auto .auto)) (.two (.one .auto) .auto))))) (.two .auto (.two (.two .auto (.two (.two .auto .auto) .auto)) (.two .auto .auto))))))))) Try.func28 (by kernel_rfl) (by kernel_rfl) (by kernel_rfl) h

/-- 29: buttery/butterylaw06.NodeNames$1 -/
def sh_butterylaw06_NodeNames_1 (c_0 : Sl) (w : World) (R : Ending → World → Prop) : Prop :=
  VNw none w (.cells #[.bool false, .slice none 0 0, .slice none 0 0] 30) fun (b2 : Nat) (w1 : World) =>
  VSt none w1 ⟨b2, 0, none⟩ [.bool true, .slice c_0.base c_0.len c_0.cap, .slice none 0 0] fun (w2 : World) =>
  VLd none w2 ⟨b2, 0, none⟩ [CT.bool, CT.sl, CT.sl] fun (res2_0 : Bool) (res2_1 : Sl) (res2_2 : Sl) =>
  R (.returned (.agg #[.bool res2_0, .slice res2_1.base res2_1.len res2_1.cap, .slice res2_2.base res2_2.len res2_2.cap])) w2
theorem sh_butterylaw06_NodeNames_1_ok (c_0 : Sl) (w : World) (R : Ending → World → Prop) (h : sh_butterylaw06_NodeNames_1 c_0 w R) : Calls Try.prog 29 #[.slice c_0.base c_0.len c_0.cap] w R :=
  calls_of_sh (args := [.slice c_0.base c_0.len c_0.cap]) (.two .auto (.two .auto .auto)) Try.func29 (by kernel_rfl) (by kernel_rfl) (by kernel_rfl) h

/-- 30: slices.IndexFunc of  of buttery/node.Cell,buttery/node.Cell -/
def sh_slices_IndexFunc (s_0 : Sl) (f_1 : Value) (w : World) (R : Ending → World → Prop) : Prop :=
  ∃ I1 : Nat → Int → World → Prop, (∃ k, I1 k 0 w) ∧ ∀ k1 (x8 : Int) (w1 : World), I1 k1 x8 w1 →
  VIf (decide (x8 < ((s_0.len : Nat) : Int))) (
    VSet x8 fun (i_5 : Int) =>
    VIx none s_0.base s_0.len i_5 fun (a14 : Addr) =>
    VLd none w1 (Addr.add a14 ((Int.toNat i_5) * 4)) [CT.str, CT.str, CT.int .i64, CT.int .i64] fun (v15_0 : ByteArray) (v15_1 : ByteArray) (v15_2 : Int) (v15_3 : Int) =>
    VDyn none Try.prog f_1 #[.agg #[.string v15_0, .string v15_1, .int .i64 v15_2, .int .i64 v15_3]] w1 (.bool false) fun (r16 : Bool) (w2 : World) =>
    VIf r16 (
      VSet i_5 fun (v4 : Int) =>
      R (.returned (.int .i64 v4)) w2
    ) (
      ∃ k', k' < k1 ∧ I1 k' (IntKind.wrap .i64 (x8 + 1)) w2
    )
  ) (
    R (.returned (.int .i64 (-1))) w1
  )
theorem sh_slices_IndexFunc_ok (s_0 : Sl) (f_1 : Value) (w : World) (R : Ending → World → Prop) (h : sh_slices_IndexFunc s_0 f_1 w R) : Calls Try.prog 30 #[.slice s_0.base s_0.len s_0.cap, f_1] w R :=
  calls_of_sh (args := [.slice s_0.base s_0.len s_0.cap, f_1]) (.two .auto (.two (.two .auto (.one (.loop [(8, .int .i64 0)] (.two .auto (.two (.two .auto .auto) (.two (.one (.two .auto (.two .auto (.two (.two .auto .auto) .auto)))) .auto)))))) (.two .auto .auto))) Try.func30 (by kernel_rfl) (by kernel_rfl) (by kernel_rfl) h

/-- 31: buttery/node.Find$1 -/
def sh_node_Find_1 (c_0_0 : ByteArray) (c_0_1 : ByteArray) (c_0_2 : Int) (c_0_3 : Int) (cap0 : Addr) (w : World) (R : Ending → World → Prop) : Prop :=
  VNw none w (.cells #[.string c_0_0, .string c_0_1, .int .i64 c_0_2, .int .i64 c_0_3] 48) fun (c_2 : Nat) (w1 : World) =>
  VLd none w1 ⟨c_2, 0, none⟩ [CT.str] fun (v5 : ByteArray) =>
  VLd none w1 cap0 [CT.str] fun (v6 : ByteArray) =>
  R (.returned (.bool (!(Op.bytesLess v5.toList v6.toList)))) w1
theorem sh_node_Find_1_ok (c_0_0 : ByteArray) (c_0_1 : ByteArray) (c_0_2 : Int) (c_0_3 : Int) (cap0 : Addr) (w : World) (R : Ending → World → Prop) (h : sh_node_Find_1 c_0_0 c_0_1 c_0_2 c_0_3 cap0 w R) : Calls Try.prog 31 #[.agg #[.string c_0_0, .string c_0_1, .int .i64 c_0_2, .int .i64 c_0_3], .pointer (some cap0)] w R :=
  calls_of_sh (args := [.agg #[.string c_0_0, .string c_0_1, .int .i64 c_0_2, .int .i64 c_0_3], .pointer (some cap0)]) (.two .auto (.two .auto .auto)) Try.func31 (by kernel_rfl) (by kernel_rfl) (by kernel_rfl) h

/-- 32: buttery/node.twin -/
def sh_node_twin (n_0_0 : Bool) (n_0_1 : Sl) (n_0_2 : Sl) (w : World) (R : Ending → World → Prop) : Prop :=
  VNw none w (.cells #[.bool n_0_0, .slice n_0_1.base n_0_1.len n_0_1.cap, .slice n_0_2.base n_0_2.len n_0_2.cap] 30) fun (n_1 : Nat) (w1 : World) =>
  VNw none w1 (.cells #[.bool false, .slice none 0 0, .slice none 0 0] 30) fun (b2 : Nat) (w2 : World) =>
  ∀ (w3 : World), w3 = World.drew w2 →
  VLd none w3 ⟨n_1, 0, none⟩ [CT.bool] fun (v4 : Bool) =>
  VLd none w3 ⟨n_1, 1, none⟩ [CT.sl] fun (v6 : Sl) =>
  VLd none w3 ⟨n_1, 2, none⟩ [CT.sl] fun (v9 : Sl) =>
  VCall none Try.prog 60 #[.slice v6.base v6.len v6.cap] w3 (.slice none 0 0) fun (r7 : Sl) (w4 : World) =>
  Rd w4 ⟨n_1, 2, none⟩ [.slice v9.base v9.len v9.cap] ∧
  Rd w4 ⟨n_1, 0, none⟩ [.bool v4] ∧
  VCall none Try.prog 61 #[.slice v9.base v9.len v9.cap] w4 (.slice none 0 0) fun (r10 : Sl) (w5 : World) =>
  Rd w5 ⟨n_1, 0, none⟩ [.bool v4] ∧
  VSt none w5 ⟨b2, 0, none⟩ [.bool v4, .slice r7.base r7.len r7.cap, .slice r10.base r10.len r10.cap] fun (w6 : World) =>
  VLd none w6 ⟨b2, 0, none⟩ [CT.bool, CT.sl, CT.sl] fun (res2_0 : Bool) (res2_1 : Sl) (res2_2 : Sl) =>
  R (.returned (.agg #[.bool res2_0, .slice res2_1.base res2_1.len res2_1.cap, .slice res2_2.base res2_2.len res2_2.cap])) w6
theorem sh_node_twin_ok (n_0_0 : Bool) (n_0_1 : Sl) (n_0_2 : Sl) (w : World) (R : Ending → World → Prop) (h : sh_node_twin n_0_0 n_0_1 n_0_2 w R) : Calls Try.prog 32 #[.agg #[.bool n_0_0, .slice n_0_1.base n_0_1.len n_0_1.cap, .slice n_0_2.base n_0_2.len n_0_2.cap]] w R :=
  calls_of_sh (args := [.agg #[.bool n_0_0, .slice n_0_1.base n_0_1.len n_0_1.cap, .slice n_0_2.base n_0_2.len n_0_2.cap]]) (.two .auto (.two .auto .auto)) Try.func32 (by kernel_rfl) (by kernel_rfl) (by kernel_rfl) h

/-- 33: buttery/node.Cut$1 -/
def sh_node_Cut_1 (i_0 : Int) (cap0 : Addr) (w : World) (R : Ending → World → Prop) : Prop :=
  VLd none w cap0 [CT.bool, CT.sl, CT.sl] fun (v9_0 : Bool) (v9_1 : Sl) (v9_2 : Sl) =>
  VCall none Try.prog 34 #[.agg #[.bool v9_0, .slice v9_1.base v9_1.len v9_1.cap, .slice v9_2.base v9_2.len v9_2.cap], .int .i64 i_0] w (.tuple #[.agg #[.bool false, .slice none 0 0, .slice none 0 0], .string ByteArray.empty, .agg #[.bool false, .slice none 0 0, .slice none 0 0]]) fun (r11_0 : Bool) (r11_1 : Sl) (r11_2 : Sl) (r11_3 : ByteArray) (r11_4 : Bool) (r11_5 : Sl) (r11_6 : Sl) (w1 : World) =>
  VNw none w1 (.cells #[.bool false, .slice none 0 0, .slice none 0 0] 30) fun (a_4 : Nat) (w2 : World) =>
  VNw none w2 (.cells #[.bool false, .slice none 0 0, .slice none 0 0] 30) fun (b_6 : Nat) (w3 : World) =>
  VSt none w3 ⟨a_4, 0, none⟩ [.bool r11_0, .slice r11_1.base r11_1.len r11_1.cap, .slice r11_2.base r11_2.len r11_2.cap] fun (w4 : World) =>
  VSt none w4 ⟨b_6, 0, none⟩ [.bool r11_4, .slice r11_5.base r11_5.len r11_5.cap, .slice r11_6.base r11_6.len r11_6.cap] fun (w5 : World) =>
  ∀ (w6 : World), w6 = World.drew w5 →
  VLd none w6 ⟨a_4, 0, none⟩ [CT.bool, CT.sl, CT.sl] fun (v15_0 : Bool) (v15_1 : Sl) (v15_2 : Sl) =>
  VLd none w6 ⟨b_6, 0, none⟩ [CT.bool, CT.sl, CT.sl] fun (v18_0 : Bool) (v18_1 : Sl) (v18_2 : Sl) =>
  VCall none Try.prog 35 #[.agg #[.bool v15_0, .slice v15_1.base v15_1.len v15_1.cap, .slice v15_2.base v15_2.len v15_2.cap]] w6 (.slice none 0 0) fun (r16 : Sl) (w7 : World) =>
  Rd w7 ⟨b_6, 0, none⟩ [.bool v18_0, .slice v18_1.base v18_1.len v18_1.cap, .slice v18_2.base v18_2.len v18_2.cap] ∧
  VCall none Try.prog 35 #[.agg #[.bool v18_0, .slice v18_1.base v18_1.len v18_1.cap, .slice v18_2.base v18_2.len v18_2.cap]] w7 (.slice none 0 0) fun (r19 : Sl) (w8 : World) =>
  VSet (IntKind.wrap .i64 (((r16.len : Nat) : Int) - ((r19.len : Nat) : Int))) fun (d_7 : Int) =>
  VSet (if (IntKind.wrap .i64 (0 - d_7)) > d_7 then IntKind.wrap .i64 (0 - d_7) else d_7) fun (v3 : Int) =>
  R (.returned (.int .i64 v3)) w8
theorem sh_node_Cut_1_ok (i_0 : Int) (cap0 : Addr) (w : World) (R : Ending → World → Prop) (h : sh_node_Cut_1 i_0 cap0 w R) : Calls Try.prog 33 #[.int .i64 i_0, .pointer (some cap0)] w R :=
  calls_of_sh (args := [.int .i64 i_0, .pointer (some cap0)]) (.two .auto (.two .auto (.two .auto (.two .auto .auto)))) Try.func33 (by kernel_rfl) (by kernel_rfl) (by kernel_rfl) h

/-- 34: buttery/node.at -/
def sh_node_at (n_0_0 : Bool) (n_0_1 : Sl) (n_0_2 : Sl) (i_1 : Int) (w : World) (R : Ending → World → Prop) : Prop :=
  VNw none w (.cells #[.bool n_0_0, .slice n_0_1.base n_0_1.len n_0_1.cap, .slice n_0_2.base n_0_2.len n_0_2.cap] 30) fun (n_2 : Nat) (w1 : World) =>
  VNw none w1 (.cells #[.bool false, .slice none 0 0, .slice none 0 0] 30) fun (b4 : Nat) (w2 : World) =>
  VNw none w2 (.cells #[.bool false, .slice none 0 0, .slice none 0 0] 30) fun (b6 : Nat) (w3 : World) =>
  VLd none w3 ⟨n_2, 0, none⟩ [CT.bool] fun (v9 : Bool) =>
  VIf v9 (
    ∀ (w4 : World), w4 = World.drew w3 →
    VLd none w4 ⟨n_2, 1, none⟩ [CT.sl] fun (v11 : Sl) =>
    VCk none ((0 : Int) ≤ 0 ∧ (0 : Int) ≤ i_1 ∧ (i_1 : Int) ≤ ((v11.cap : Nat) : Int)) (
      VLd none w4 ⟨n_2, 1, none⟩ [CT.sl] fun (v17 : Sl) =>
      VIx none v17.base v17.len i_1 fun (a19 : Addr) =>
      VLd none w4 (Addr.add a19 ((Int.toNat i_1) * 4)) [CT.str] fun (v21 : ByteArray) =>
      VLd none w4 ⟨n_2, 1, none⟩ [CT.sl] fun (v23 : Sl) =>
      VCk none ((0 : Int) ≤ i_1 ∧ (i_1 : Int) ≤ ((v23.len : Nat) : Int) ∧ (((v23.len : Nat) : Int) : Int) ≤ ((v23.cap : Nat) : Int)) (
        VCall none Try.prog 32 #[.agg #[.bool true, .slice (cutB v11.base v11.cap 4 0) ((Int.toNat i_1) - 0) (v11.cap - 0), .slice none 0 0]] w4 (.agg #[.bool false, .slice none 0 0, .slice none 0 0]) fun (r15_0 : Bool) (r15_1 : Sl) (r15_2 : Sl) (w5 : World) =>
        Rd w5 ⟨n_2, 1, none⟩ [.slice v23.base v23.len v23.cap] ∧
        Rd w5 (Addr.add a19 ((Int.toNat i_1) * 4)) [.string v21] ∧
        Rd w5 ⟨n_2, 1, none⟩ [.slice v17.base v17.len v17.cap] ∧
        VCall none Try.prog 32 #[.agg #[.bool true, .slice (cutB v23.base v23.cap 4 (Int.toNat i_1)) (v23.len - (Int.toNat i_1)) (v23.cap - (Int.toNat i_1)), .slice none 0 0]] w5 (.agg #[.bool false, .slice none 0 0, .slice none 0 0]) fun (r27_0 : Bool) (r27_1 : Sl) (r27_2 : Sl) (w6 : World) =>
        Rd w6 (Addr.add a19 ((Int.toNat i_1) * 4)) [.string v21] ∧
        Rd w6 ⟨n_2, 1, none⟩ [.slice v17.base v17.len v17.cap] ∧
        VSt none w6 ⟨b4, 0, none⟩ [.bool r15_0, .slice r15_1.base r15_1.len r15_1.cap, .slice r15_2.base r15_2.len r15_2.cap] fun (w7 : World) =>
        Rd w7 (Addr.add a19 ((Int.toNat i_1) * 4)) [.string v21] ∧
        Rd w7 ⟨n_2, 1, none⟩ [.slice v17.base v17.len v17.cap] ∧
        VSt none w7 ⟨b6, 0, none⟩ [.bool r27_0, .slice r27_1.base r27_1.len r27_1.cap, .slice r27_2.base r27_2.len r27_2.cap] fun (w8 : World) =>
        VLd none w8 ⟨b4, 0, none⟩ [CT.bool, CT.sl, CT.sl] fun (res4_0 : Bool) (res4_1 : Sl) (res4_2 : Sl) =>
        VLd none w8 ⟨b6, 0, none⟩ [CT.bool, CT.sl, CT.sl] fun (res6_0 : Bool) (res6_1 : Sl) (res6_2 : Sl) =>
        R (.returned (.tuple #[.agg #[.bool res4_0, .slice res4_1.base res4_1.len res4_1.cap, .slice res4_2.base res4_2.len res4_2.cap], .string v21, .agg #[.bool res6_0, .slice res6_1.base res6_1.len res6_1.cap, .slice res6_2.base res6_2.len res6_2.cap]])) w8
      )
    )
  ) (
    VLd none w3 ⟨n_2, 2, none⟩ [CT.sl] fun (v31 : Sl) =>
    VSet (if ((v31.len : Nat) : Int) < (IntKind.wrap .i64 (i_1 + 1)) then ((v31.len : Nat) : Int) else IntKind.wrap .i64 (i_1 + 1)) fun (k_7 : Int) =>
    ∀ (w9 : World), w9 = World.drew w3 →
    VLd none w9 ⟨n_2, 1, none⟩ [CT.sl] fun (v35 : Sl) =>
    VCk none ((0 : Int) ≤ 0 ∧ (0 : Int) ≤ i_1 ∧ (i_1 : Int) ≤ ((v35.cap : Nat) : Int)) (
      VLd none w9 ⟨n_2, 2, none⟩ [CT.sl] fun (v39 : Sl) =>
      VCk none ((0 : Int) ≤ 0 ∧ (0 : Int) ≤ k_7 ∧ (k_7 : Int) ≤ ((v39.cap : Nat) : Int)) (
        VLd none w9 ⟨n_2, 1, none⟩ [CT.sl] fun (v45 : Sl) =>
        VIx none v45.base v45.len i_1 fun (a47 : Addr) =>
        VLd none w9 (Addr.add a47 ((Int.toNat i_1) * 4)) [CT.str] fun (v49 : ByteArray) =>
        VLd none w9 ⟨n_2, 1, none⟩ [CT.sl] fun (v51 : Sl) =>
        VCk none ((0 : Int) ≤ IntKind.wrap .i64 (i_1 + 1) ∧ (IntKind.wrap .i64 (i_1 + 1) : Int) ≤ ((v51.len : Nat) : Int) ∧ (((v51.len : Nat) : Int) : Int) ≤ ((v51.cap : Nat) : Int)) (
          VLd none w9 ⟨n_2, 2, none⟩ [CT.sl] fun (v56 : Sl) =>
          VCk none ((0 : Int) ≤ k_7 ∧ (k_7 : Int) ≤ ((v56.len : Nat) : Int) ∧ (((v56.len : Nat) : Int) : Int) ≤ ((v56.cap : Nat) : Int)) (
            VCall none Try.prog 32 #[.agg #[.bool false, .slice (cutB v35.base v35.cap 4 0) ((Int.toNat i_1) - 0) (v35.cap - 0), .slice (cutB v39.base v39.cap 1 0) ((Int.toNat k_7) - 0) (v39.cap - 0)]] w9 (.agg #[.bool false, .slice none 0 0, .slice none 0 0]) fun (r43_0 : Bool) (r43_1 : Sl) (r43_2 : Sl) (w10 : World) =>
            Rd w10 ⟨n_2, 2, none⟩ [.slice v56.base v56.len v56.cap] ∧
            Rd w10 ⟨n_2, 1, none⟩ [.slice v51.base v51.len v51.cap] ∧
            Rd w10 (Addr.add a47 ((Int.toNat i_1) * 4)) [.string v49] ∧
            Rd w10 ⟨n_2, 1, none⟩ [.slice v45.base v45.len v45.cap] ∧
            VCall none Try.prog 32 #[.agg #[.bool false, .slice (cutB v51.base v51.cap 4 (Int.toNat (IntKind.wrap .i64 (i_1 + 1)))) (v51.len - (Int.toNat (IntKind.wrap .i64 (i_1 + 1)))) (v51.cap - (Int.toNat (IntKind.wrap .i64 (i_1 + 1)))), .slice (cutB v56.base v56.cap 1 (Int.toNat k_7)) (v56.len - (Int.toNat k_7)) (v56.cap - (Int.toNat k_7))]] w10 (.agg #[.bool false, .slice none 0 0, .slice none 0 0]) fun (r60_0 : Bool) (r60_1 : Sl) (r60_2 : Sl) (w11 : World) =>
            Rd w11 (Addr.add a47 ((Int.toNat i_1) * 4)) [.string v49] ∧
            Rd w11 ⟨n_2, 1, none⟩ [.slice v45.base v45.len v45.cap] ∧
            VSt none w11 ⟨b4, 0, none⟩ [.bool r43_0, .slice r43_1.base r43_1.len r43_1.cap, .slice r43_2.base r43_2.len r43_2.cap] fun (w12 : World) =>
            Rd w12 (Addr.add a47 ((Int.toNat i_1) * 4)) [.string v49] ∧
            Rd w12 ⟨n_2, 1, none⟩ [.slice v45.base v45.len v45.cap] ∧
            VSt none w12 ⟨b6, 0, none⟩ [.bool r60_0, .slice r60_1.base r60_1.len r60_1.cap, .slice r60_2.base r60_2.len r60_2.cap] fun (w13 : World) =>
            VLd none w13 ⟨b4, 0, none⟩ [CT.bool, CT.sl, CT.sl] fun (res4_0 : Bool) (res4_1 : Sl) (res4_2 : Sl) =>
            VLd none w13 ⟨b6, 0, none⟩ [CT.bool, CT.sl, CT.sl] fun (res6_0 : Bool) (res6_1 : Sl) (res6_2 : Sl) =>
            R (.returned (.tuple #[.agg #[.bool res4_0, .slice res4_1.base res4_1.len res4_1.cap, .slice res4_2.base res4_2.len res4_2.cap], .string v49, .agg #[.bool res6_0, .slice res6_1.base res6_1.len res6_1.cap, .slice res6_2.base res6_2.len res6_2.cap]])) w13
          )
        )
      )
    )
  )
theorem sh_node_at_ok (n_0_0 : Bool) (n_0_1 : Sl) (n_0_2 : Sl) (i_1 : Int) (w : World) (R : Ending → World → Prop) (h : sh_node_at n_0_0 n_0_1 n_0_2 i_1 w R) : Calls Try.prog 34 #[.agg #[.bool n_0_0, .slice n_0_1.base n_0_1.len n_0_1.cap, .slice n_0_2.base n_0_2.len n_0_2.cap], .int .i64 i_1] w R :=
  calls_of_sh (args := [.agg #[.bool n_0_0, .slice n_0_1.base n_0_1.len n_0_1.cap, .slice n_0_2.base n_0_2.len n_0_2.cap], .int .i64 i_1]) (.two .auto (.two (.two .auto (.two (.two .auto .auto) .auto)) (.two .auto (.two .auto .auto)))) Try.func34 (by kernel_rfl) (by kernel_rfl) (by kernel_rfl) h

/-- 35: buttery/node.bytes -/
def sh_node_bytes (n_0_0 : Bool) (n_0_1 : Sl) (n_0_2 : Sl) (w : World) (R : Ending → World → Prop) : Prop :=
  VNw none w (.cells #[.bool n_0_0, .slice n_0_1.base n_0_1.len n_0_1.cap, .slice n_0_2.base n_0_2.len n_0_2.cap] 30) fun (n_1 : Nat) (w1 : World) =>
  ∃ Φ1 : Sl → World → Prop, (
    ∀ (w2 : World), w2 = World.drew w1 →
    VLd none w2 ⟨n_1, 0, none⟩ [CT.bool] fun (v7 : Bool) =>
    VLd none w2 ⟨n_1, 1, none⟩ [CT.sl] fun (v10 : Sl) =>
    (
      VCall none Try.prog 63 #[.slice none 0 0, .bool v7] w2 (.slice none 0 0) fun (r8 : Sl) (w3 : World) =>
      Rd w3 ⟨n_1, 1, none⟩ [.slice v10.base v10.len v10.cap] ∧
      VNw none w3 (.cells #[.int .i64 ((v10.len : Nat) : Int)] 3) fun (b12 : Nat) (w4 : World) =>
      VCall none Try.prog 62 #[.slice r8.base r8.len r8.cap, .slice (some ⟨b12, 0, none⟩) 1 1] w4 (.slice none 0 0) fun (r13 : Sl) (w5 : World) =>
      Φ1 r13 w5
    ) ∧ (
      VNw none w2 (.cells #[.int .i64 ((v10.len : Nat) : Int)] 3) fun (b12 : Nat) (w6 : World) =>
      Rd w6 ⟨n_1, 0, none⟩ [.bool v7] ∧
      VCall none Try.prog 63 #[.slice none 0 0, .bool v7] w6 (.slice none 0 0) fun (r8 : Sl) (w7 : World) =>
      VCall none Try.prog 62 #[.slice r8.base r8.len r8.cap, .slice (some ⟨b12, 0, none⟩) 1 1] w7 (.slice none 0 0) fun (r13 : Sl) (w8 : World) =>
      Φ1 r13 w8
    )
  ) ∧ ∀ (b_3 : Sl) (w9 : World), Φ1 b_3 w9 →
  VLd none w9 ⟨n_1, 1, none⟩ [CT.sl] fun (v15 : Sl) =>
  ∃ I2 : Nat → Sl → Int → World → Prop, (∃ k, I2 k b_3 0 w9) ∧ ∀ k2 (b_3' : Sl) (x17 : Int) (w10 : World), I2 k2 b_3' x17 w10 →
  VIf (decide (x17 < ((v15.len : Nat) : Int))) (
    VIx none v15.base v15.len x17 fun (a19 : Addr) =>
    VLd none w10 (Addr.add a19 ((Int.toNat x17) * 4)) [CT.str, CT.str, CT.int .i64, CT.int .i64] fun (v20_0 : ByteArray) (v20_1 : ByteArray) (v20_2 : Int) (v20_3 : Int) =>
    VNw none w10 (.cells #[.string ByteArray.empty, .string ByteArray.empty, .int .i64 0, .int .i64 0] 48) fun (c_5 : Nat) (w11 : World) =>
    VSt none w11 ⟨c_5, 0, none⟩ [.string v20_0, .string v20_1, .int .i64 v20_2, .int .i64 v20_3] fun (w12 : World) =>
    VLd none w12 ⟨c_5, 0, none⟩ [CT.str] fun (v23 : ByteArray) =>
    VCall none Try.prog 64 #[.slice b_3'.base b_3'.len b_3'.cap, .string v23] w12 (.slice none 0 0) fun (r24 : Sl) (w13 : World) =>
    ∃ Φ3 : Sl → World → Prop, (
      VLd none w13 ⟨n_1, 0, none⟩ [CT.bool] fun (v34 : Bool) =>
      VIf (!v34) (
        Φ3 r24 w13
      ) (
        VLd none w13 ⟨c_5, 2, none⟩ [CT.int .i64] fun (v38 : Int) =>
        VIf (v38 == 0) (
          ∀ (w14 : World), w14 = World.drew w13 →
          VLd none w14 ⟨c_5, 1, none⟩ [CT.str] fun (v44 : ByteArray) =>
          VNw none w14 (.cells #[.int .i64 0] 3) fun (b41 : Nat) (w15 : World) =>
          Rd w15 ⟨c_5, 1, none⟩ [.string v44] ∧
          VCall none Try.prog 62 #[.slice r24.base r24.len r24.cap, .slice (some ⟨b41, 0, none⟩) 1 1] w15 (.slice none 0 0) fun (r42 : Sl) (w16 : World) =>
          Rd w16 ⟨c_5, 1, none⟩ [.string v44] ∧
          VCall none Try.prog 64 #[.slice r42.base r42.len r42.cap, .string v44] w16 (.slice none 0 0) fun (r45 : Sl) (w17 : World) =>
          Φ3 r45 w17
        ) (
          VLd none w13 ⟨c_5, 2, none⟩ [CT.int .i64] fun (v27 : Int) =>
          VLd none w13 ⟨c_5, 3, none⟩ [CT.int .i64] fun (v29 : Int) =>
          VNw none w13 (.cells #[.int .i64 v27, .int .i64 v29] 3) fun (b30 : Nat) (w18 : World) =>
          VCall none Try.prog 62 #[.slice r24.base r24.len r24.cap, .slice (some ⟨b30, 0, none⟩) 2 2] w18 (.slice none 0 0) fun (r31 : Sl) (w19 : World) =>
          Φ3 r31 w19
        )
      )
    ) ∧ ∀ (b_3'' : Sl) (w20 : World), Φ3 b_3'' w20 →
    ∃ k', k' < k2 ∧ I2 k' ⟨b_3''.base, b_3''.len, b_3''.cap⟩ (IntKind.wrap .i64 (x17 + 1)) w20
  ) (
    VLd none w10 ⟨n_1, 0, none⟩ [CT.bool] fun (v48 : Bool) =>
    VIf v48 (
      R (.returned (.slice b_3'.base b_3'.len b_3'.cap)) w10
    ) (
      VLd none w10 ⟨n_1, 2, none⟩ [CT.sl] fun (v52 : Sl) =>
      VCall none Try.prog 62 #[.slice b_3'.base b_3'.len b_3'.cap, .slice v52.base v52.len v52.cap] w10 (.slice none 0 0) fun (r53 : Sl) (w21 : World) =>
      R (.returned (.slice r53.base r53.len r53.cap)) w21
    )
  )
theorem sh_node_bytes_ok (n_0_0 : Bool) (n_0_1 : Sl) (n_0_2 : Sl) (w : World) (R : Ending → World → Prop) (h : sh_node_bytes n_0_0 n_0_1 n_0_2 w R) : Calls Try.prog 35 #[.agg #[.bool n_0_0, .slice n_0_1.base n_0_1.len n_0_1.cap, .slice n_0_2.base n_0_2.len n_0_2.cap]] w R :=
  calls_of_sh (args := [.agg #[.bool n_0_0, .slice n_0_1.base n_0_1.len n_0_1.cap, .slice n_0_2.base n_0_2.len n_0_2.cap]]) (.two .auto (.two (.bjoin [(3, .slice none 0 0)] .auto) (.two (.two .auto (.one (.loop [(3, .slice none 0 0), (17, .int .i64 0)] (.two .auto (.two (.two .auto .auto) (.two (.one (.two .auto (.two .auto (.bjoin [(3, .slice none 0 0)] (.two .auto (.two .auto (.two .auto (.two .auto .auto)))))))) .auto)))))) (.two (.two .auto (.two (.two .auto .auto) .auto)) (.two .auto .auto))))) Try.func35 (by kernel_rfl) (by kernel_rfl) (by kernel_rfl) h

/-- 36: buttery/butteryref06.Twin -/
def sh_butteryref06_Twin (n_0_0 : Bool) (n_0_1 : Sl) (n_0_2 : Sl) (w : World) (R : Ending → World → Prop) : Prop :=
  VNw none w (.cells #[.bool n_0_0, .slice n_0_1.base n_0_1.len n_0_1.cap, .slice n_0_2.base n_0_2.len n_0_2.cap] 25) fun (n_1 : Nat) (w1 : World) =>
  VNw none w1 (.cells #[.bool false, .slice none 0 0, .slice none 0 0] 25) fun (b2 : Nat) (w2 : World) =>
  ∃ Φ1 : World → Prop, (
    ∀ (w3 : World), w3 = World.drew w2 →
    VLd none w3 ⟨n_1, 0, none⟩ [CT.bool] fun (v4 : Bool) =>
    VLd none w3 ⟨n_1, 1, none⟩ [CT.sl] fun (v7 : Sl) =>
    VLd none w3 ⟨n_1, 2, none⟩ [CT.sl] fun (v11 : Sl) =>
    (
      VNw none w3 (.cells #[] 47) fun (b5 : Nat) (w4 : World) =>
      Rd w4 ⟨n_1, 2, none⟩ [.slice v11.base v11.len v11.cap] ∧
      Rd w4 ⟨n_1, 1, none⟩ [.slice v7.base v7.len v7.cap] ∧
      Rd w4 ⟨n_1, 0, none⟩ [.bool v4] ∧
      (
        VApp none w4 47 4 48 #[.string ByteArray.empty, .string ByteArray.empty, .int .i64 0, .int .i64 0] (some ⟨b5, 0, none⟩) 0 0 v7.len (fun news => Seg w4 v7.base v7.len 4 news) fun (l8 : Sl) (w5 : World) =>
        Rd w5 ⟨n_1, 2, none⟩ [.slice v11.base v11.len v11.cap] ∧
        Rd w5 ⟨n_1, 0, none⟩ [.bool v4] ∧
        VNw none w5 (.cells #[] 3) fun (b9 : Nat) (w6 : World) =>
        Rd w6 ⟨n_1, 2, none⟩ [.slice v11.base v11.len v11.cap] ∧
        Rd w6 ⟨n_1, 0, none⟩ [.bool v4] ∧
        VApp none w6 3 1 8 #[.int .i64 0] (some ⟨b9, 0, none⟩) 0 0 v11.len (fun news => Seg w6 v11.base v11.len 1 news) fun (l12 : Sl) (w7 : World) =>
        Rd w7 ⟨n_1, 0, none⟩ [.bool v4] ∧
        VSt none w7 ⟨b2, 0, none⟩ [.bool v4, .slice l8.base l8.len l8.cap, .slice l12.base l12.len l12.cap] fun (w8 : World) =>
        Φ1 w8
      ) ∧ (
        VNw none w4 (.cells #[] 3) fun (b9 : Nat) (w9 : World) =>
        Rd w9 ⟨n_1, 2, none⟩ [.slice v11.base v11.len v11.cap] ∧
        Rd w9 ⟨n_1, 1, none⟩ [.slice v7.base v7.len v7.cap] ∧
        Rd w9 ⟨n_1, 0, none⟩ [.bool v4] ∧
        VApp none w9 47 4 48 #[.string ByteArray.empty, .string ByteArray.empty, .int .i64 0, .int .i64 0] (some ⟨b5, 0, none⟩) 0 0 v7.len (fun news => Seg w9 v7.base v7.len 4 news) fun (l8 : Sl) (w10 : World) =>
        Rd w10 ⟨n_1, 2, none⟩ [.slice v11.base v11.len v11.cap] ∧
        Rd w10 ⟨n_1, 0, none⟩ [.bool v4] ∧
        VApp none w10 3 1 8 #[.int .i64 0] (some ⟨b9, 0, none⟩) 0 0 v11.len (fun news => Seg w10 v11.base v11.len 1 news) fun (l12 : Sl) (w11 : World) =>
        Rd w11 ⟨n_1, 0, none⟩ [.bool v4] ∧
        VSt none w11 ⟨b2, 0, none⟩ [.bool v4, .slice l8.base l8.len l8.cap, .slice l12.base l12.len l12.cap] fun (w12 : World) =>
        Φ1 w12
      )
    ) ∧ (
      VNw none w3 (.cells #[] 3) fun (b9 : Nat) (w13 : World) =>
      Rd w13 ⟨n_1, 2, none⟩ [.slice v11.base v11.len v11.cap] ∧
      Rd w13 ⟨n_1, 1, none⟩ [.slice v7.base v7.len v7.cap] ∧
      Rd w13 ⟨n_1, 0, none⟩ [.bool v4] ∧
      VNw none w13 (.cells #[] 47) fun (b5 : Nat) (w14 : World) =>
      Rd w14 ⟨n_1, 2, none⟩ [.slice v11.base v11.len v11.cap] ∧
      Rd w14 ⟨n_1, 1, none⟩ [.slice v7.base v7.len v7.cap] ∧
      Rd w14 ⟨n_1, 0, none⟩ [.bool v4] ∧
      VApp none w14 47 4 48 #[.string ByteArray.empty, .string ByteArray.empty, .int .i64 0, .int .i64 0] (some ⟨b5, 0, none⟩) 0 0 v7.len (fun news => Seg w14 v7.base v7.len 4 news) fun (l8 : Sl) (w15 : World) =>
      Rd w15 ⟨n_1, 2, none⟩ [.slice v11.base v11.len v11.cap] ∧
      Rd w15 ⟨n_1, 0, none⟩ [.bool v4] ∧
      VApp none w15 3 1 8 #[.int .i64 0] (some ⟨b9, 0, none⟩) 0 0 v11.len (fun news => Seg w15 v11.base v11.len 1 news) fun (l12 : Sl) (w16 : World) =>
      Rd w16 ⟨n_1, 0, none⟩ [.bool v4] ∧
      VSt none w16 ⟨b2, 0, none⟩ [.bool v4, .slice l8.base l8.len l8.cap, .slice l12.base l12.len l12.cap] fun (w17 : World) =>
      Φ1 w17
    )
  ) ∧ ∀ (w18 : World), Φ1 w18 →
  VLd none w18 ⟨b2, 0, none⟩ [CT.bool, CT.sl, CT.sl] fun (res2_0 : Bool) (res2_1 : Sl) (res2_2 : Sl) =>
  R (.returned (.agg #[.bool res2_0, .slice res2_1.base res2_1.len res2_1.cap, .slice res2_2.base res2_2.len res2_2.cap])) w18
theorem sh_butteryref06_Twin_ok (n_0_0 : Bool) (n_0_1 : Sl) (n_0_2 : Sl) (w : World) (R : Ending → World → Prop) (h : sh_butteryref06_Twin n_0_0 n_0_1 n_0_2 w R) : Calls Try.prog 36 #[.agg #[.bool n_0_0, .slice n_0_1.base n_0_1.len n_0_1.cap, .slice n_0_2.base n_0_2.len n_0_2.cap]] w R :=
  calls_of_sh (args := [.agg #[.bool n_0_0, .slice n_0_1.base n_0_1.len n_0_1.cap, .slice n_0_2.base n_0_2.len n_0_2.cap]]) (.two .auto (.two (.bjoin [] .auto) .auto)) Try.func36 (by kernel_rfl) (by kernel_rfl) (by kernel_rfl) h

/-- 37: buttery/butteryref06.at -/
def sh_butteryref06_at (n_0_0 : Bool) (n_0_1 : Sl) (n_0_2 : Sl) (i_1 : Int) (w : World) (R : Ending → World → Prop) : Prop :=
  VNw none w (.cells #[.bool n_0_0, .slice n_0_1.base n_0_1.len n_0_1.cap, .slice n_0_2.base n_0_2.len n_0_2.cap] 25) fun (n_2 : Nat) (w1 : World) =>
  VNw none w1 (.cells #[.bool false, .slice none 0 0, .slice none 0 0] 25) fun (b4 : Nat) (w2 : World) =>
  VNw none w2 (.cells #[.bool false, .slice none 0 0, .slice none 0 0] 25) fun (b6 : Nat) (w3 : World) =>
  VLd none w3 ⟨n_2, 0, none⟩ [CT.bool, CT.sl, CT.sl] fun (v9_0 : Bool) (v9_1 : Sl) (v9_2 : Sl) =>
  VCall none Try.prog 36 #[.agg #[.bool v9_0, .slice v9_1.base v9_1.len v9_1.cap, .slice v9_2.base v9_2.len v9_2.cap]] w3 (.agg #[.bool false, .slice none 0 0, .slice none 0 0]) fun (r10_0 : Bool) (r10_1 : Sl) (r10_2 : Sl) (w4 : World) =>
  VNw none w4 (.cells #[.bool false, .slice none 0 0, .slice none 0 0] 25) fun (m_7 : Nat) (w5 : World) =>
  VSt none w5 ⟨m_7, 0, none⟩ [.bool r10_0, .slice r10_1.base r10_1.len r10_1.cap, .slice r10_2.base r10_2.len r10_2.cap] fun (w6 : World) =>
  VLd none w6 ⟨n_2, 0, none⟩ [CT.bool] fun (v12 : Bool) =>
  VIf v12 (
    ∀ (w7 : World), w7 = World.drew w6 →
    VLd none w7 ⟨m_7, 1, none⟩ [CT.sl] fun (v14 : Sl) =>
    VCk none ((0 : Int) ≤ 0 ∧ (0 : Int) ≤ i_1 ∧ (i_1 : Int) ≤ ((v14.cap : Nat) : Int)) (
      VLd none w7 ⟨n_2, 1, none⟩ [CT.sl] fun (v19 : Sl) =>
      VIx none v19.base v19.len i_1 fun (a21 : Addr) =>
      VLd none w7 (Addr.add a21 ((Int.toNat i_1) * 4)) [CT.str] fun (v23 : ByteArray) =>
      VLd none w7 ⟨m_7, 1, none⟩ [CT.sl] fun (v25 : Sl) =>
      VCk none ((0 : Int) ≤ i_1 ∧ (i_1 : Int) ≤ ((v25.len : Nat) : Int) ∧ (((v25.len : Nat) : Int) : Int) ≤ ((v25.cap : Nat) : Int)) (
        VSt none w7 ⟨b4, 0, none⟩ [.bool true, .slice (cutB v14.base v14.cap 4 0) ((Int.toNat i_1) - 0) (v14.cap - 0), .slice none 0 0] fun (w8 : World) =>
        Rd w8 ⟨m_7, 1, none⟩ [.slice v25.base v25.len v25.cap] ∧
        Rd w8 (Addr.add a21 ((Int.toNat i_1) * 4)) [.string v23] ∧
        Rd w8 ⟨n_2, 1, none⟩ [.slice v19.base v19.len v19.cap] ∧
        VSt none w8 ⟨b6, 0, none⟩ [.bool true, .slice (cutB v25.base v25.cap 4 (Int.toNat i_1)) (v25.len - (Int.toNat i_1)) (v25.cap - (Int.toNat i_1)), .slice none 0 0] fun (w9 : World) =>
        VLd none w9 ⟨b4, 0, none⟩ [CT.bool, CT.sl, CT.sl] fun (res4_0 : Bool) (res4_1 : Sl) (res4_2 : Sl) =>
        VLd none w9 ⟨b6, 0, none⟩ [CT.bool, CT.sl, CT.sl] fun (res6_0 : Bool) (res6_1 : Sl) (res6_2 : Sl) =>
        R (.returned (.tuple #[.agg #[.bool res4_0, .slice res4_1.base res4_1.len res4_1.cap, .slice res4_2.base res4_2.len res4_2.cap], .string v23, .agg #[.bool res6_0, .slice res6_1.base res6_1.len res6_1.cap, .slice res6_2.base res6_2.len res6_2.cap]])) w9
      )
    )
  ) (
    VLd none w6 ⟨m_7, 2, none⟩ [CT.sl] fun (v32 : Sl) =>
    VSet (if ((v32.len : Nat) : Int) < (IntKind.wrap .i64 (i_1 + 1)) then ((v32.len : Nat) : Int) else IntKind.wrap .i64 (i_1 + 1)) fun (k_8 : Int) =>
    ∀ (w10 : World), w10 = World.drew w6 →
    VLd none w10 ⟨m_7, 1, none⟩ [CT.sl] fun (v36 : Sl) =>
    VCk none ((0 : Int) ≤ 0 ∧ (0 : Int) ≤ i_1 ∧ (i_1 : Int) ≤ ((v36.cap : Nat) : Int)) (
      VLd none w10 ⟨m_7, 2, none⟩ [CT.sl] fun (v40 : Sl) =>
      VCk none ((0 : Int) ≤ 0 ∧ (0 : Int) ≤ k_8 ∧ (k_8 : Int) ≤ ((v40.cap : Nat) : Int)) (
        VLd none w10 ⟨n_2, 1, none⟩ [CT.sl] fun (v45 : Sl) =>
        VIx none v45.base v45.len i_1 fun (a47 : Addr) =>
        VLd none w10 (Addr.add a47 ((Int.toNat i_1) * 4)) [CT.str] fun (v49 : ByteArray) =>
        VLd none w10 ⟨m_7, 1, none⟩ [CT.sl] fun (v51 : Sl) =>
        VCk none ((0 : Int) ≤ IntKind.wrap .i64 (i_1 + 1) ∧ (IntKind.wrap .i64 (i_1 + 1) : Int) ≤ ((v51.len : Nat) : Int) ∧ (((v51.len : Nat) : Int) : Int) ≤ ((v51.cap : Nat) : Int)) (
          VLd none w10 ⟨m_7, 2, none⟩ [CT.sl] fun (v56 : Sl) =>
          VCk none ((0 : Int) ≤ k_8 ∧ (k_8 : Int) ≤ ((v56.len : Nat) : Int) ∧ (((v56.len : Nat) : Int) : Int) ≤ ((v56.cap : Nat) : Int)) (
            VSt none w10 ⟨b4, 0, none⟩ [.bool false, .slice (cutB v36.base v36.cap 4 0) ((Int.toNat i_1) - 0) (v36.cap - 0), .slice (cutB v40.base v40.cap 1 0) ((Int.toNat k_8) - 0) (v40.cap - 0)] fun (w11 : World) =>
            Rd w11 ⟨m_7, 2, none⟩ [.slice v56.base v56.len v56.cap] ∧
            Rd w11 ⟨m_7, 1, none⟩ [.slice v51.base v51.len v51.cap] ∧
            Rd w11 (Addr.add a47 ((Int.toNat i_1) * 4)) [.string v49] ∧
            Rd w11 ⟨n_2, 1, none⟩ [.slice v45.base v45.len v45.cap] ∧
            VSt none w11 ⟨b6, 0, none⟩ [.bool false, .slice (cutB v51.base v51.cap 4 (Int.toNat (IntKind.wrap .i64 (i_1 + 1)))) (v51.len - (Int.toNat (IntKind.wrap .i64 (i_1 + 1)))) (v51.cap - (Int.toNat (IntKind.wrap .i64 (i_1 + 1)))), .slice (cutB v56.base v56.cap 1 (Int.toNat k_8)) (v56.len - (Int.toNat k_8)) (v56.cap - (Int.toNat k_8))] fun (w12 : World) =>
            VLd none w12 ⟨b4, 0, none⟩ [CT.bool, CT.sl, CT.sl] fun (res4_0 : Bool) (res4_1 : Sl) (res4_2 : Sl) =>
            VLd none w12 ⟨b6, 0, none⟩ [CT.bool, CT.sl, CT.sl] fun (res6_0 : Bool) (res6_1 : Sl) (res6_2 : Sl) =>
            R (.returned (.tuple #[.agg #[.bool res4_0, .slice res4_1.base res4_1.len res4_1.cap, .slice res4_2.base res4_2.len res4_2.cap], .string v49, .agg #[.bool res6_0, .slice res6_1.base res6_1.len res6_1.cap, .slice res6_2.base res6_2.len res6_2.cap]])) w12
          )
        )
      )
    )
  )
theorem sh_butteryref06_at_ok (n_0_0 : Bool) (n_0_1 : Sl) (n_0_2 : Sl) (i_1 : Int) (w : World) (R : Ending → World → Prop) (h : sh_butteryref06_at n_0_0 n_0_1 n_0_2 i_1 w R) : Calls Try.prog 37 #[.agg #[.bool n_0_0, .slice n_0_1.base n_0_1.len n_0_1.cap, .slice n_0_2.base n_0_2.len n_0_2.cap], .int .i64 i_1] w R :=
  calls_of_sh (args := [.agg #[.bool n_0_0, .slice n_0_1.base n_0_1.len n_0_1.cap, .slice n_0_2.base n_0_2.len n_0_2.cap], .int .i64 i_1]) (.two .auto (.two .auto (.two (.two .auto (.two (.two .auto .auto) .auto)) (.two .auto (.two .auto .auto))))) Try.func37 (by kernel_rfl) (by kernel_rfl) (by kernel_rfl) h

/-- 38: buttery/butteryref06.bytes -/
def sh_butteryref06_bytes (n_0_0 : Bool) (n_0_1 : Sl) (n_0_2 : Sl) (w : World) (R : Ending → World → Prop) : Prop :=
  VNw none w (.cells #[.bool n_0_0, .slice n_0_1.base n_0_1.len n_0_1.cap, .slice n_0_2.base n_0_2.len n_0_2.cap] 25) fun (n_1 : Nat) (w1 : World) =>
  VLd none w1 ⟨n_1, 0, none⟩ [CT.bool] fun (v8 : Bool) =>
  VCall none Try.prog 65 #[.slice none 0 0, .bool v8] w1 (.slice none 0 0) fun (r9 : Sl) (w2 : World) =>
  VLd none w2 ⟨n_1, 1, none⟩ [CT.sl] fun (v12 : Sl) =>
  VCall none Try.prog 66 #[.slice r9.base r9.len r9.cap, .int .i64 ((v12.len : Nat) : Int)] w2 (.slice none 0 0) fun (r14 : Sl) (w3 : World) =>
  ∃ I1 : Nat → Sl → Int → World → Prop, (∃ k, I1 k r14 0 w3) ∧ ∀ k1 (b_3 : Sl) (i_4 : Int) (w4 : World), I1 k1 b_3 i_4 w4 →
  VLd none w4 ⟨n_1, 1, none⟩ [CT.sl] fun (v17 : Sl) =>
  VIf (decide (i_4 < ((v17.len : Nat) : Int))) (
    ∃ Φ2 : Sl → World → Prop, (
      VLd none w4 ⟨n_1, 1, none⟩ [CT.sl] fun (v23 : Sl) =>
      VIx none v23.base v23.len i_4 fun (a25 : Addr) =>
      VLd none w4 (Addr.add a25 ((Int.toNat i_4) * 4)) [CT.str, CT.str, CT.int .i64, CT.int .i64] fun (v26_0 : ByteArray) (v26_1 : ByteArray) (v26_2 : Int) (v26_3 : Int) =>
      VNw none w4 (.cells #[.string ByteArray.empty, .string ByteArray.empty, .int .i64 0, .int .i64 0] 47) fun (c_5 : Nat) (w5 : World) =>
      VSt none w5 ⟨c_5, 0, none⟩ [.string v26_0, .string v26_1, .int .i64 v26_2, .int .i64 v26_3] fun (w6 : World) =>
      VLd none w6 ⟨c_5, 0, none⟩ [CT.str] fun (v29 : ByteArray) =>
      VCall none Try.prog 67 #[.slice b_3.base b_3.len b_3.cap, .string v29] w6 (.slice none 0 0) fun (r30 : Sl) (w7 : World) =>
      VLd none w7 ⟨n_1, 0, none⟩ [CT.bool] fun (v32 : Bool) =>
      VIf (!v32) (
        Φ2 r30 w7
      ) (
        VLd none w7 ⟨c_5, 2, none⟩ [CT.int .i64] fun (v36 : Int) =>
        VCall none Try.prog 66 #[.slice r30.base r30.len r30.cap, .int .i64 v36] w7 (.slice none 0 0) fun (r37 : Sl) (w8 : World) =>
        VLd none w8 ⟨c_5, 2, none⟩ [CT.int .i64] fun (v39 : Int) =>
        VIf (v39 == 0) (
          VLd none w8 ⟨c_5, 1, none⟩ [CT.str] fun (v43 : ByteArray) =>
          VCall none Try.prog 67 #[.slice r37.base r37.len r37.cap, .string v43] w8 (.slice none 0 0) fun (r44 : Sl) (w9 : World) =>
          Φ2 r44 w9
        ) (
          VLd none w8 ⟨c_5, 3, none⟩ [CT.int .i64] fun (v47 : Int) =>
          VCall none Try.prog 66 #[.slice r37.base r37.len r37.cap, .int .i64 v47] w8 (.slice none 0 0) fun (r48 : Sl) (w10 : World) =>
          Φ2 r48 w10
        )
      )
    ) ∧ ∀ (b_3' : Sl) (w11 : World), Φ2 b_3' w11 →
    VSet (IntKind.wrap .i64 (i_4 + 1)) fun (i_4' : Int) =>
    ∃ k', k' < k1 ∧ I1 k' ⟨b_3'.base, b_3'.len, b_3'.cap⟩ i_4' w11
  ) (
    ∃ I3 : Nat → Sl → Int → World → Prop, (∃ k, I3 k b_3 0 w4) ∧ ∀ k3 (b_3'' : Sl) (i_6 : Int) (w12 : World), I3 k3 b_3'' i_6 w12 →
    VLd none w12 ⟨n_1, 2, none⟩ [CT.sl] fun (v51 : Sl) =>
    VLd (some (decide (i_6 < ((v51.len : Nat) : Int)))) w12 ⟨n_1, 0, none⟩ [CT.bool] fun (v56 : Bool) =>
    VIf ((decide (i_6 < ((v51.len : Nat) : Int))) && (!v56)) (
      VLd none w12 ⟨n_1, 2, none⟩ [CT.sl] fun (v63 : Sl) =>
      VIx none v63.base v63.len i_6 fun (a65 : Addr) =>
      VLd none w12 (Addr.add a65 ((Int.toNat i_6) * 1)) [CT.int .i64] fun (v66 : Int) =>
      VCall none Try.prog 66 #[.slice b_3''.base b_3''.len b_3''.cap, .int .i64 v66] w12 (.slice none 0 0) fun (r67 : Sl) (w13 : World) =>
      VSet (IntKind.wrap .i64 (i_6 + 1)) fun (i_6' : Int) =>
      ∃ k', k' < k3 ∧ I3 k' r67 i_6' w13
    ) (
      R (.returned (.slice b_3''.base b_3''.len b_3''.cap)) w12
    )
  )
theorem sh_butteryref06_bytes_ok (n_0_0 : Bool) (n_0_1 : Sl) (n_0_2 : Sl) (w : World) (R : Ending → World → Prop) (h : sh_butteryref06_bytes n_0_0 n_0_1 n_0_2 w R) : Calls Try.prog 38 #[.agg #[.bool n_0_0, .slice n_0_1.base n_0_1.len n_0_1.cap, .slice n_0_2.base n_0_2.len n_0_2.cap]] w R :=
  calls_of_sh (args := [.agg #[.bool n_0_0, .slice n_0_1.base n_0_1.len n_0_1.cap, .slice n_0_2.base n_0_2.len n_0_2.cap]]) (.two .auto (.two .auto (.two .auto (.two (.two .auto (.one (.loop [(3, .slice none 0 0), (4, .int .i64 0)] (.two (.two .auto (.two .auto .auto)) (.two (.bjoin [(3, .slice none 0 0)] (.two .auto (.two .auto (.two (.two .auto (.two .auto .auto)) (.two .auto (.two .auto (.two .auto .auto))))))) .auto))))) (.two (.two .auto (.one (.loop [(3, .slice none 0 0), (6, .int .i64 0)] (.two (.two .auto (.two .auto .auto)) (.two (.one .auto) .auto))))) (.two .auto .auto)))))) Try.func38 (by kernel_rfl) (by kernel_rfl) (by kernel_rfl) h

/-- 39: slices.Concat of  of buttery/node.Cell,buttery/node.Cell -/
def sh_slices_Concat (slices_0 : Sl) (w : World) (R : Ending → World → Prop) : Prop :=
  ∃ I1 : Nat → Int → Int → World → Prop, (∃ k, I1 k 0 0 w) ∧ ∀ k1 (size_3 : Int) (x11 : Int) (w1 : World), I1 k1 size_3 x11 w1 →
  VIf (decide (x11 < ((slices_0.len : Nat) : Int))) (
    ∃ Φ2 : Int → World → Prop, (
      VIx none slices_0.base slices_0.len x11 fun (a13 : Addr) =>
      VLd none w1 (Addr.add a13 ((Int.toNat x11) * 1)) [CT.sl] fun (v14 : Sl) =>
      VSet (IntKind.wrap .i64 (size_3 + ((v14.len : Nat) : Int))) fun (size_3'' : Int) =>
      VIf (decide (size_3'' < 0)) (
        False
      ) (
        Φ2 size_3'' w1
      )
    ) ∧ ∀ (size_3' : Int) (w2 : World), Φ2 size_3' w2 →
    ∃ k', k' < k1 ∧ I1 k' size_3' (IntKind.wrap .i64 (x11 + 1)) w2
  ) (
    VCall none Try.prog 68 #[.slice none 0 0, .int .i64 size_3] w1 (.slice none 0 0) fun (r24 : Sl) (w3 : World) =>
    ∃ I3 : Nat → Sl → Int → World → Prop, (∃ k, I3 k r24 0 w3) ∧ ∀ k3 (newslice_6 : Sl) (x27 : Int) (w4 : World), I3 k3 newslice_6 x27 w4 →
    VIf (decide (x27 < ((slices_0.len : Nat) : Int))) (
      VIx none slices_0.base slices_0.len x27 fun (a29 : Addr) =>
      VLd none w4 (Addr.add a29 ((Int.toNat x27) * 1)) [CT.sl] fun (v30 : Sl) =>
      VApp none w4 48 4 48 #[.string ByteArray.empty, .string ByteArray.empty, .int .i64 0, .int .i64 0] newslice_6.base newslice_6.len newslice_6.cap v30.len (fun news => Seg w4 v30.base v30.len 4 news) fun (l33 : Sl) (w5 : World) =>
      ∃ k', k' < k3 ∧ I3 k' l33 (IntKind.wrap .i64 (x27 + 1)) w5
    ) (
      R (.returned (.slice newslice_6.base newslice_6.len newslice_6.cap)) w4
    )
  )
theorem sh_slices_Concat_ok (slices_0 : Sl) (w : World) (R : Ending → World → Prop) (h : sh_slices_Concat slices_0 w R) : Calls Try.prog 39 #[.slice slices_0.base slices_0.len slices_0.cap] w R :=
  calls_of_sh (args := [.slice slices_0.base slices_0.len slices_0.cap]) (.two .auto (.two .auto (.two (.two .auto (.one (.loop [(3, .int .i64 0), (11, .int .i64 0)] (.two .auto (.two (.two .auto .auto) (.two (.bjoin [(3, .int .i64 0)] (.two .auto (.two .auto (.two .auto (.two .auto .auto))))) .auto)))))) (.two .auto (.two (.two .auto (.one (.loop [(6, .slice none 0 0), (27, .int .i64 0)] (.two .auto (.two (.two .auto .auto) (.two (.one (.two .auto .auto)) .auto)))))) (.two .auto .auto)))))) Try.func39 (by kernel_rfl) (by kernel_rfl) (by kernel_rfl) h

/-- 40: slices.Concat of  of int,int -/
def sh_slices_Concat' (slices_0 : Sl) (w : World) (R : Ending → World → Prop) : Prop :=
  ∃ I1 : Nat → Int → Int → World → Prop, (∃ k, I1 k 0 0 w) ∧ ∀ k1 (size_3 : Int) (x11 : Int) (w1 : World), I1 k1 size_3 x11 w1 →
  VIf (decide (x11 < ((slices_0.len : Nat) : Int))) (
    ∃ Φ2 : Int → World → Prop, (
      VIx none slices_0.base slices_0.len x11 fun (a13 : Addr) =>
      VLd none w1 (Addr.add a13 ((Int.toNat x11) * 1)) [CT.sl] fun (v14 : Sl) =>
      VSet (IntKind.wrap .i64 (size_3 + ((v14.len : Nat) : Int))) fun (size_3'' : Int) =>
      VIf (decide (size_3'' < 0)) (
        False
      ) (
        Φ2 size_3'' w1
      )
    ) ∧ ∀ (size_3' : Int) (w2 : World), Φ2 size_3' w2 →
    ∃ k', k' < k1 ∧ I1 k' size_3' (IntKind.wrap .i64 (x11 + 1)) w2
  ) (
    VCall none Try.prog 69 #[.slice none 0 0, .int .i64 size_3] w1 (.slice none 0 0) fun (r24 : Sl) (w3 : World) =>
    ∃ I3 : Nat → Sl → Int → World → Prop, (∃ k, I3 k r24 0 w3) ∧ ∀ k3 (newslice_6 : Sl) (x27 : Int) (w4 : World), I3 k3 newslice_6 x27 w4 →
    VIf (decide (x27 < ((slices_0.len : Nat) : Int))) (
      VIx none slices_0.base slices_0.len x27 fun (a29 : Addr) =>
      VLd none w4 (Addr.add a29 ((Int.toNat x27) * 1)) [CT.sl] fun (v30 : Sl) =>
      VApp none w4 3 1 8 #[.int .i64 0] newslice_6.base newslice_6.len newslice_6.cap v30.len (fun news => Seg w4 v30.base v30.len 1 news) fun (l33 : Sl) (w5 : World) =>
      ∃ k', k' < k3 ∧ I3 k' l33 (IntKind.wrap .i64 (x27 + 1)) w5
    ) (
      R (.returned (.slice newslice_6.base newslice_6.len newslice_6.cap)) w4
    )
  )
theorem sh_slices_Concat'_ok (slices_0 : Sl) (w : World) (R : Ending → World → Prop) (h : sh_slices_Concat' slices_0 w R) : Calls Try.prog 40 #[.slice slices_0.base slices_0.len slices_0.cap] w R :=
  calls_of_sh (args := [.slice slices_0.base slices_0.len slices_0.cap]) (.two .auto (.two .auto (.two (.two .auto (.one (.loop [(3, .int .i64 0), (11, .int .i64 0)] (.two .auto (.two (.two .auto .auto) (.two (.bjoin [(3, .int .i64 0)] (.two .auto (.two .auto (.two .auto (.two .auto .auto))))) .auto)))))) (.two .auto (.two (.two .auto (.one (.loop [(6, .slice none 0 0), (27, .int .i64 0)] (.two .auto (.two (.two .auto .auto) (.two (.one (.two .auto .auto)) .auto)))))) (.two .auto .auto)))))) Try.func40 (by kernel_rfl) (by kernel_rfl) (by kernel_rfl) h

/-- 41: (buttery/node.Cell).may -/
def sh_node_Cell_may (c_0_0 : ByteArray) (c_0_1 : ByteArray) (c_0_2 : Int) (c_0_3 : Int) (leaf_1 : Bool) (w : World) (R : Ending → World → Prop) : Prop :=
  VNw none w (.cells #[.string c_0_0, .string c_0_1, .int .i64 c_0_2, .int .i64 c_0_3] 48) fun (c_2 : Nat) (w1 : World) =>
  VLd none w1 ⟨c_2, 0, none⟩ [CT.str] fun (v7 : ByteArray) =>
  VIf (decide (((v7.size : Nat) : Int) > 48)) (
    R (.returned (.bool false)) w1
  ) (
    VIf (!leaf_1) (
      VLd none w1 ⟨c_2, 0, none⟩ [CT.str, CT.str, CT.int .i64, CT.int .i64] fun (v13_0 : ByteArray) (v13_1 : ByteArray) (v13_2 : Int) (v13_3 : Int) =>
      VLd none w1 ⟨c_2, 0, none⟩ [CT.str] fun (v15 : ByteArray) =>
      R (.returned (.bool ((v13_0.toList == v15.toList) && ((v13_1.toList == ByteArray.empty.toList) && ((v13_2 == 0) && (v13_3 == 0)))))) w1
    ) (
      VLd none w1 ⟨c_2, 2, none⟩ [CT.int .i64] fun (v20 : Int) =>
      VIf (v20 == 0) (
        VLd none w1 ⟨c_2, 3, none⟩ [CT.int .i64] fun (v23 : Int) =>
        VLd (some (v23 == 0)) w1 ⟨c_2, 1, none⟩ [CT.str] fun (v27 : ByteArray) =>
        R (.returned (.bool ((v23 == 0) && (decide (((v27.size : Nat) : Int) ≤ 64))))) w1
      ) (
        VLd none w1 ⟨c_2, 1, none⟩ [CT.str] fun (v32 : ByteArray) =>
        VLd (some (v32.toList == (ByteArray.mk #[]).toList)) w1 ⟨c_2, 2, none⟩ [CT.int .i64] fun (v36 : Int) =>
        VCall (some (v32.toList == (ByteArray.mk #[]).toList)) Try.prog 44 #[.int .i64 v36, .int .i64 1] w1 (.bool false) fun (r37 : Bool) (w2 : World) =>
        VLd (some ((v32.toList == (ByteArray.mk #[]).toList) && r37)) w2 ⟨c_2, 3, none⟩ [CT.int .i64] fun (v41 : Int) =>
        VCall (some ((v32.toList == (ByteArray.mk #[]).toList) && r37)) Try.prog 44 #[.int .i64 v41, .int .i64 1] w2 (.bool false) fun (r42 : Bool) (w3 : World) =>
        R (.returned (.bool (((v32.toList == (ByteArray.mk #[]).toList) && r37) && r42))) w3
      )
    )
  )
theorem sh_node_Cell_may_ok (c_0_0 : ByteArray) (c_0_1 : ByteArray) (c_0_2 : Int) (c_0_3 : Int) (leaf_1 : Bool) (w : World) (R : Ending → World → Prop) (h : sh_node_Cell_may c_0_0 c_0_1 c_0_2 c_0_3 leaf_1 w R) : Calls Try.prog 41 #[.agg #[.string c_0_0, .string c_0_1, .int .i64 c_0_2, .int .i64 c_0_3], .bool leaf_1] w R :=
  calls_of_sh (args := [.agg #[.string c_0_0, .string c_0_1, .int .i64 c_0_2, .int .i64 c_0_3], .bool leaf_1]) (.two .auto (.two (.one (.two .auto (.two (.two .auto .auto) (.two .auto (.two (.two .auto .auto) (.two .auto (.two (.two .auto .auto) .auto))))))) (.two .auto .auto))) Try.func41 (by kernel_rfl) (by kernel_rfl) (by kernel_rfl) h

/-- 42: slices.ContainsFunc of  of int,int -/
def sh_slices_ContainsFunc (s_0 : Sl) (f_1 : Value) (w : World) (R : Ending → World → Prop) : Prop :=
  VCall none Try.prog 70 #[.slice s_0.base s_0.len s_0.cap, f_1] w (.int .i64 0) fun (r7 : Int) (w1 : World) =>
  R (.returned (.bool (decide (r7 ≥ 0)))) w1
theorem sh_slices_ContainsFunc_ok (s_0 : Sl) (f_1 : Value) (w : World) (R : Ending → World → Prop) (h : sh_slices_ContainsFunc s_0 f_1 w R) : Calls Try.prog 42 #[.slice s_0.base s_0.len s_0.cap, f_1] w R :=
  calls_of_sh (args := [.slice s_0.base s_0.len s_0.cap, f_1]) (.two .auto (.two .auto .auto)) Try.func42 (by kernel_rfl) (by kernel_rfl) (by kernel_rfl) h

/-- 43: buttery/node.Check$1 -/
def sh_node_Check_1 (k_0 : Int) (w : World) (R : Ending → World → Prop) : Prop :=
  VCall none Try.prog 44 #[.int .i64 k_0, .int .i64 0] w (.bool false) fun (r4 : Bool) (w1 : World) =>
  R (.returned (.bool (!r4))) w1
theorem sh_node_Check_1_ok (k_0 : Int) (w : World) (R : Ending → World → Prop) (h : sh_node_Check_1 k_0 w R) : Calls Try.prog 43 #[.int .i64 k_0] w R :=
  calls_of_sh (args := [.int .i64 k_0]) (.two .auto (.two .auto .auto)) Try.func43 (by kernel_rfl) (by kernel_rfl) (by kernel_rfl) h

/-- 44: buttery/node.count -/
def sh_node_count (n_0 : Int) (least_1 : Int) (w : World) (R : Ending → World → Prop) : Prop :=
  R (.returned (.bool ((decide (n_0 ≥ least_1)) && (decide (n_0 ≤ 2147483647))))) w
theorem sh_node_count_ok (n_0 : Int) (least_1 : Int) (w : World) (R : Ending → World → Prop) (h : sh_node_count n_0 least_1 w R) : Calls Try.prog 44 #[.int .i64 n_0, .int .i64 least_1] w R :=
  calls_of_sh (args := [.int .i64 n_0, .int .i64 least_1]) (.two .auto (.two .auto .auto)) Try.func44 (by kernel_rfl) (by kernel_rfl) (by kernel_rfl) h

/-- 45: buttery/butteryref06.cell -/
def sh_butteryref06_cell (leaf_0 : Bool) (c_1_0 : ByteArray) (c_1_1 : ByteArray) (c_1_2 : Int) (c_1_3 : Int) (w : World) (R : Ending → World → Prop) : Prop :=
  VNw none w (.cells #[.string c_1_0, .string c_1_1, .int .i64 c_1_2, .int .i64 c_1_3] 47) fun (c_3 : Nat) (w1 : World) =>
  VLd none w1 ⟨c_3, 0, none⟩ [CT.str] fun (v6 : ByteArray) =>
  VIf (decide (((v6.size : Nat) : Int) > 48)) (
    R (.returned (.bool false)) w1
  ) (
    VLd none w1 ⟨c_3, 2, none⟩ [CT.int .i64] fun (v10 : Int) =>
    VIf ((v10 == 0) || (!leaf_0)) (
      VLd none w1 ⟨c_3, 2, none⟩ [CT.int .i64] fun (v17 : Int) =>
      VLd (some (v17 == 0)) w1 ⟨c_3, 3, none⟩ [CT.int .i64] fun (v21 : Int) =>
      VLd (some ((v17 == 0) && (v21 == 0))) w1 ⟨c_3, 1, none⟩ [CT.str] fun (v26 : ByteArray) =>
      VLd (some ((((v17 == 0) && (v21 == 0)) && (decide (((v26.size : Nat) : Int) ≤ 64))) && (!leaf_0))) w1 ⟨c_3, 1, none⟩ [CT.str] fun (v34 : ByteArray) =>
      R (.returned (.bool ((((v17 == 0) && (v21 == 0)) && (decide (((v26.size : Nat) : Int) ≤ 64))) && (leaf_0 || (v34.toList == (ByteArray.mk #[]).toList))))) w1
    ) (
      VLd none w1 ⟨c_3, 1, none⟩ [CT.str] fun (v39 : ByteArray) =>
      VLd (some (v39.toList == (ByteArray.mk #[]).toList)) w1 ⟨c_3, 2, none⟩ [CT.int .i64] fun (v43 : Int) =>
      VLd (some ((v39.toList == (ByteArray.mk #[]).toList) && (decide (v43 ≥ 1)))) w1 ⟨c_3, 2, none⟩ [CT.int .i64] fun (v48 : Int) =>
      VLd (some (((v39.toList == (ByteArray.mk #[]).toList) && (decide (v43 ≥ 1))) && (decide (v48 ≤ 2147483647)))) w1 ⟨c_3, 3, none⟩ [CT.int .i64] fun (v53 : Int) =>
      VLd (some ((((v39.toList == (ByteArray.mk #[]).toList) && (decide (v43 ≥ 1))) && (decide (v48 ≤ 2147483647))) && (decide (v53 ≥ 1)))) w1 ⟨c_3, 3, none⟩ [CT.int .i64] fun (v58 : Int) =>
      R (.returned (.bool (((((v39.toList == (ByteArray.mk #[]).toList) && (decide (v43 ≥ 1))) && (decide (v48 ≤ 2147483647))) && (decide (v53 ≥ 1))) && (decide (v58 ≤ 2147483647))))) w1
    )
  )
theorem sh_butteryref06_cell_ok (leaf_0 : Bool) (c_1_0 : ByteArray) (c_1_1 : ByteArray) (c_1_2 : Int) (c_1_3 : Int) (w : World) (R : Ending → World → Prop) (h : sh_butteryref06_cell leaf_0 c_1_0 c_1_1 c_1_2 c_1_3 w R) : Calls Try.prog 45 #[.bool leaf_0, .agg #[.string c_1_0, .string c_1_1, .int .i64 c_1_2, .int .i64 c_1_3]] w R :=
  calls_of_sh (args := [.bool leaf_0, .agg #[.string c_1_0, .string c_1_1, .int .i64 c_1_2, .int .i64 c_1_3]]) (.two .auto (.two (.two .auto (.two (.two .auto .auto) .auto)) (.two (.two .auto (.two (.two .auto .auto) .auto)) (.two .auto .auto)))) Try.func45 (by kernel_rfl) (by kernel_rfl) (by kernel_rfl) h

/-- 46: buttery/butteryref01.NewReader -/
def sh_butteryref01_NewReader (b_0 : Sl) (w : World) (R : Ending → World → Prop) : Prop :=
  VNw none w (.cells #[] 5) fun (b3 : Nat) (w1 : World) =>
  VApp none w1 5 1 1 #[.int .u8 0] (some ⟨b3, 0, none⟩) 0 0 b_0.len (fun news => Seg w1 b_0.base b_0.len 1 news) fun (l5 : Sl) (w2 : World) =>
  VNw none w2 (.cells #[.slice l5.base l5.len l5.cap, .bool false] 100) fun (b7 : Nat) (w3 : World) =>
  R (.returned (.pointer (some ⟨b7, 0, none⟩))) w3
theorem sh_butteryref01_NewReader_ok (b_0 : Sl) (w : World) (R : Ending → World → Prop) (h : sh_butteryref01_NewReader b_0 w R) : Calls Try.prog 46 #[.slice b_0.base b_0.len b_0.cap] w R :=
  calls_of_sh (args := [.slice b_0.base b_0.len b_0.cap]) (.two .auto (.two .auto .auto)) Try.func46 (by kernel_rfl) (by kernel_rfl) (by kernel_rfl) h

/-- 47: (*buttery/butteryref01.Reader).Flag -/
def sh_butteryref01_Reader_Flag (r_0 : Option Addr) (w : World) (R : Ending → World → Prop) : Prop :=
  VCall none Try.prog 48 #[.pointer r_0, .int .i64 1] w (.int .i64 0) fun (r4 : Int) (w1 : World) =>
  R (.returned (.bool (r4 == 1))) w1
theorem sh_butteryref01_Reader_Flag_ok (r_0 : Option Addr) (w : World) (R : Ending → World → Prop) (h : sh_butteryref01_Reader_Flag r_0 w R) : Calls Try.prog 47 #[.pointer r_0] w R :=
  calls_of_sh (args := [.pointer r_0]) (.two .auto (.two .auto .auto)) Try.func47 (by kernel_rfl) (by kernel_rfl) (by kernel_rfl) h

/-- 48: (*buttery/butteryref01.Reader).Count -/
def sh_butteryref01_Reader_Count (r_0 : Option Addr) (most_1 : Int) (w : World) (R : Ending → World → Prop) : Prop :=
  VCall none Try.prog 71 #[.pointer r_0] w (.int .u64 0) fun (r7 : Int) (w1 : World) =>
  VSet r7 fun (u_5 : Int) =>
  VNN none r_0 fun (a9 : Addr) =>
  VLd none w1 (Addr.add a9 1) [CT.bool] fun (v11 : Bool) =>
  VIf (((v11 || (decide (most_1 < 0))) || (decide (u_5 > 2147483647))) || (decide ((IntKind.wrap .i64 u_5) > most_1))) (
    VCall none Try.prog 72 #[.pointer r_0] w1 (.tuple #[]) fun (w2 : World) =>
    R (.returned (.int .i64 0)) w2
  ) (
    VSet (IntKind.wrap .i64 u_5) fun (v4 : Int) =>
    R (.returned (.int .i64 v4)) w1
  )
theorem sh_butteryref01_Reader_Count_ok (r_0 : Option Addr) (most_1 : Int) (w : World) (R : Ending → World → Prop) (h : sh_butteryref01_Reader_Count r_0 most_1 w R) : Calls Try.prog 48 #[.pointer r_0, .int .i64 most_1] w R :=
  calls_of_sh (args := [.pointer r_0, .int .i64 most_1]) (.two .auto (.two .auto (.two (.two .auto (.two (.two .auto (.two .auto .auto)) .auto)) (.two .auto .auto)))) Try.func48 (by kernel_rfl) (by kernel_rfl) (by kernel_rfl) h

/-- 49: (*buttery/butteryref01.Reader).OK -/
def sh_butteryref01_Reader_OK (r_0 : Option Addr) (w : World) (R : Ending → World → Prop) : Prop :=
  VNN none r_0 fun (a4 : Addr) =>
  VLd none w (Addr.add a4 1) [CT.bool] fun (v6 : Bool) =>
  R (.returned (.bool (!v6))) w
theorem sh_butteryref01_Reader_OK_ok (r_0 : Option Addr) (w : World) (R : Ending → World → Prop) (h : sh_butteryref01_Reader_OK r_0 w R) : Calls Try.prog 49 #[.pointer r_0] w R :=
  calls_of_sh (args := [.pointer r_0]) (.two .auto (.two .auto .auto)) Try.func49 (by kernel_rfl) (by kernel_rfl) (by kernel_rfl) h

/-- 50: (*buttery/butteryref01.Reader).Str -/
def sh_butteryref01_Reader_Str (r_0 : Option Addr) (most_1 : Int) (w : World) (R : Ending → World → Prop) : Prop :=
  VCall none Try.prog 48 #[.pointer r_0, .int .i64 most_1] w (.int .i64 0) fun (r9 : Int) (w1 : World) =>
  VSet r9 fun (n_5 : Int) =>
  VNN none r_0 fun (a11 : Addr) =>
  VLd none w1 (Addr.add a11 1) [CT.bool] fun (v13 : Bool) =>
  VNN (some (!v13)) r_0 fun (a17 : Addr) =>
  VLd (some (!v13)) w1 a17 [CT.sl] fun (v19 : Sl) =>
  VIf (v13 || (decide (n_5 > ((v19.len : Nat) : Int)))) (
    VCall none Try.prog 72 #[.pointer r_0] w1 (.tuple #[]) fun (w2 : World) =>
    R (.returned (.string (ByteArray.mk #[]))) w2
  ) (
    VNN none r_0 fun (a26 : Addr) =>
    VLd none w1 a26 [CT.sl] fun (v28 : Sl) =>
    VCk none ((0 : Int) ≤ 0 ∧ (0 : Int) ≤ n_5 ∧ (n_5 : Int) ≤ ((v28.cap : Nat) : Int)) (
      VStr none w1 (cutB v28.base v28.cap 1 0) ((Int.toNat n_5) - 0) fun (s31 : ByteArray) =>
      VNN none r_0 fun (a34 : Addr) =>
      VLd none w1 a34 [CT.sl] fun (v36 : Sl) =>
      VCk none ((0 : Int) ≤ n_5 ∧ (n_5 : Int) ≤ ((v36.len : Nat) : Int) ∧ (((v36.len : Nat) : Int) : Int) ≤ ((v36.cap : Nat) : Int)) (
        VNN none r_0 fun (a39 : Addr) =>
        VSt none w1 a39 [.slice (cutB v36.base v36.cap 1 (Int.toNat n_5)) (v36.len - (Int.toNat n_5)) (v36.cap - (Int.toNat n_5))] fun (w3 : World) =>
        R (.returned (.string s31)) w3
      )
    )
  )
theorem sh_butteryref01_Reader_Str_ok (r_0 : Option Addr) (most_1 : Int) (w : World) (R : Ending → World → Prop) (h : sh_butteryref01_Reader_Str r_0 most_1 w R) : Calls Try.prog 50 #[.pointer r_0, .int .i64 most_1] w R :=
  calls_of_sh (args := [.pointer r_0, .int .i64 most_1]) (.two .auto (.two .auto (.two (.two .auto (.two (.two .auto (.two .auto .auto)) .auto)) (.two .auto (.two .auto (.two .auto .auto)))))) Try.func50 (by kernel_rfl) (by kernel_rfl) (by kernel_rfl) h

/-- 51: (*buttery/butteryref01.Reader).Left -/
def sh_butteryref01_Reader_Left (r_0 : Option Addr) (w : World) (R : Ending → World → Prop) : Prop :=
  VNN none r_0 fun (a4 : Addr) =>
  VLd none w a4 [CT.sl] fun (v6 : Sl) =>
  VSet ((v6.len : Nat) : Int) fun (v2 : Int) =>
  R (.returned (.int .i64 v2)) w
theorem sh_butteryref01_Reader_Left_ok (r_0 : Option Addr) (w : World) (R : Ending → World → Prop) (h : sh_butteryref01_Reader_Left r_0 w R) : Calls Try.prog 51 #[.pointer r_0] w R :=
  calls_of_sh (args := [.pointer r_0]) (.two .auto (.two .auto .auto)) Try.func51 (by kernel_rfl) (by kernel_rfl) (by kernel_rfl) h

/-- 52: buttery/code.NewReader -/
def sh_code_NewReader (b_0 : Sl) (w : World) (R : Ending → World → Prop) : Prop :=
  VCall none Try.prog 73 #[.slice b_0.base b_0.len b_0.cap] w (.slice none 0 0) fun (r4 : Sl) (w1 : World) =>
  VNw none w1 (.cells #[.slice r4.base r4.len r4.cap, .bool false] 106) fun (b6 : Nat) (w2 : World) =>
  VNw none w2 (.cells #[.pointer (some ⟨b6, 0, none⟩)] 108) fun (b8 : Nat) (w3 : World) =>
  R (.returned (.pointer (some ⟨b8, 0, none⟩))) w3
theorem sh_code_NewReader_ok (b_0 : Sl) (w : World) (R : Ending → World → Prop) (h : sh_code_NewReader b_0 w R) : Calls Try.prog 52 #[.slice b_0.base b_0.len b_0.cap] w R :=
  calls_of_sh (args := [.slice b_0.base b_0.len b_0.cap]) (.two .auto (.two .auto .auto)) Try.func52 (by kernel_rfl) (by kernel_rfl) (by kernel_rfl) h

/-- 53: (*buttery/code.Reader).Flag -/
def sh_code_Reader_Flag (r_0 : Option Addr) (w : World) (R : Ending → World → Prop) : Prop :=
  VIf r_0.isNone (
    R (.returned (.bool false)) w
  ) (
    VCall none Try.prog 54 #[.pointer r_0, .int .i64 1] w (.int .i64 0) fun (r6 : Int) (w1 : World) =>
    R (.returned (.bool (r6 == 1))) w1
  )
theorem sh_code_Reader_Flag_ok (r_0 : Option Addr) (w : World) (R : Ending → World → Prop) (h : sh_code_Reader_Flag r_0 w R) : Calls Try.prog 53 #[.pointer r_0] w R :=
  calls_of_sh (args := [.pointer r_0]) (.two .auto (.two (.two .auto (.two (.two .auto .auto) .auto)) (.two .auto .auto))) Try.func53 (by kernel_rfl) (by kernel_rfl) (by kernel_rfl) h

/-- 54: (*buttery/code.Reader).Count -/
def sh_code_Reader_Count (r_0 : Option Addr) (most_1 : Int) (w : World) (R : Ending → World → Prop) : Prop :=
  VIf r_0.isNone (
    R (.returned (.int .i64 0)) w
  ) (
    VCall none Try.prog 74 #[.pointer r_0] w (.tuple #[.int .u64 0, .bool false]) fun (r11_0 : Int) (r11_1 : Bool) (w1 : World) =>
    VSet r11_0 fun (u_5 : Int) =>
    VCall none Try.prog 75 #[.pointer r_0, .int .i64 (IntKind.wrap .i64 u_5), .bool (((r11_1 && (decide (most_1 ≥ 0))) && (decide (u_5 ≤ 2147483647))) && (decide ((IntKind.wrap .i64 u_5) ≤ most_1)))] w1 (.int .i64 0) fun (r32 : Int) (w2 : World) =>
    VSet r32 fun (v4 : Int) =>
    R (.returned (.int .i64 v4)) w2
  )
theorem sh_code_Reader_Count_ok (r_0 : Option Addr) (most_1 : Int) (w : World) (R : Ending → World → Prop) (h : sh_code_Reader_Count r_0 most_1 w R) : Calls Try.prog 54 #[.pointer r_0, .int .i64 most_1] w R :=
  calls_of_sh (args := [.pointer r_0, .int .i64 most_1]) (.two .auto (.two (.two .auto (.two (.two .auto .auto) .auto)) (.two .auto (.two .auto .auto)))) Try.func54 (by kernel_rfl) (by kernel_rfl) (by kernel_rfl) h

/-- 55: (*buttery/code.Reader).OK -/
def sh_code_Reader_OK (r_0 : Option Addr) (w : World) (R : Ending → World → Prop) : Prop :=
  VNN (some (!r_0.isNone)) r_0 fun (a7 : Addr) =>
  VLd (some (!r_0.isNone)) w a7 [CT.ptr] fun (v9 : Option Addr) =>
  VCall (some (!r_0.isNone)) Try.prog 76 #[.pointer v9] w (.bool false) fun (r10 : Bool) (w1 : World) =>
  R (.returned (.bool ((!r_0.isNone) && r10))) w1
theorem sh_code_Reader_OK_ok (r_0 : Option Addr) (w : World) (R : Ending → World → Prop) (h : sh_code_Reader_OK r_0 w R) : Calls Try.prog 55 #[.pointer r_0] w R :=
  calls_of_sh (args := [.pointer r_0]) (.two .auto (.two .auto .auto)) Try.func55 (by kernel_rfl) (by kernel_rfl) (by kernel_rfl) h

/-- 56: buttery/node.cell -/
def sh_node_cell (r_0 : Option Addr) (leaf_1 : Bool) (w : World) (R : Ending → World → Prop) : Prop :=
  VNw none w (.cells #[.string ByteArray.empty, .string ByteArray.empty, .int .i64 0, .int .i64 0] 48) fun (b4 : Nat) (w1 : World) =>
  VCall none Try.prog 77 #[.pointer r_0, .int .i64 48] w1 (.string ByteArray.empty) fun (r7 : ByteArray) (w2 : World) =>
  VNw none w2 (.cells #[.string ByteArray.empty, .string ByteArray.empty, .int .i64 0, .int .i64 0] 48) fun (c_5 : Nat) (w3 : World) =>
  VSt none w3 ⟨c_5, 0, none⟩ [.string r7, .string ByteArray.empty, .int .i64 0, .int .i64 0] fun (w4 : World) =>
  VIf (!leaf_1) (
    VLd none w4 ⟨c_5, 0, none⟩ [CT.str, CT.str, CT.int .i64, CT.int .i64] fun (v11_0 : ByteArray) (v11_1 : ByteArray) (v11_2 : Int) (v11_3 : Int) =>
    VSt none w4 ⟨b4, 0, none⟩ [.string v11_0, .string v11_1, .int .i64 v11_2, .int .i64 v11_3] fun (w5 : World) =>
    VLd none w5 ⟨b4, 0, none⟩ [CT.str, CT.str, CT.int .i64, CT.int .i64] fun (res4_0 : ByteArray) (res4_1 : ByteArray) (res4_2 : Int) (res4_3 : Int) =>
    R (.returned (.agg #[.string res4_0, .string res4_1, .int .i64 res4_2, .int .i64 res4_3])) w5
  ) (
    ∃ Φ1 : World → Prop, (
      VCall none Try.prog 54 #[.pointer r_0, .int .i64 2147483647] w4 (.int .i64 0) fun (r13 : Int) (w6 : World) =>
      VSt none w6 ⟨c_5, 2, none⟩ [.int .i64 r13] fun (w7 : World) =>
      VLd none w7 ⟨c_5, 2, none⟩ [CT.int .i64] fun (v16 : Int) =>
      VIf (v16 == 0) (
        VCall none Try.prog 77 #[.pointer r_0, .int .i64 64] w7 (.string ByteArray.empty) fun (r19 : ByteArray) (w8 : World) =>
        VSt none w8 ⟨c_5, 1, none⟩ [.string r19] fun (w9 : World) =>
        Φ1 w9
      ) (
        VCall none Try.prog 54 #[.pointer r_0, .int .i64 2147483647] w7 (.int .i64 0) fun (r22 : Int) (w10 : World) =>
        VSt none w10 ⟨c_5, 3, none⟩ [.int .i64 r22] fun (w11 : World) =>
        Φ1 w11
      )
    ) ∧ ∀ (w12 : World), Φ1 w12 →
    VLd none w12 ⟨c_5, 0, none⟩ [CT.str, CT.str, CT.int .i64, CT.int .i64] fun (v24_0 : ByteArray) (v24_1 : ByteArray) (v24_2 : Int) (v24_3 : Int) =>
    VSt none w12 ⟨b4, 0, none⟩ [.string v24_0, .string v24_1, .int .i64 v24_2, .int .i64 v24_3] fun (w13 : World) =>
    VLd none w13 ⟨b4, 0, none⟩ [CT.str, CT.str, CT.int .i64, CT.int .i64] fun (res4_0 : ByteArray) (res4_1 : ByteArray) (res4_2 : Int) (res4_3 : Int) =>
    R (.returned (.agg #[.string res4_0, .string res4_1, .int .i64 res4_2, .int .i64 res4_3])) w13
  )
theorem sh_node_cell_ok (r_0 : Option Addr) (leaf_1 : Bool) (w : World) (R : Ending → World → Prop) (h : sh_node_cell r_0 leaf_1 w R) : Calls Try.prog 56 #[.pointer r_0, .bool leaf_1] w R :=
  calls_of_sh (args := [.pointer r_0, .bool leaf_1]) (.two .auto (.two .auto (.two (.two .auto (.two (.two .auto .auto) .auto)) (.join [] (.two .auto (.two .auto (.two .auto .auto))) (.two .auto .auto))))) Try.func56 (by kernel_rfl) (by kernel_rfl) (by kernel_rfl) h

/-- 57: (*buttery/code.Reader).Left -/
def sh_code_Reader_Left (r_0 : Option Addr) (w : World) (R : Ending → World → Prop) : Prop :=
  VIf r_0.isNone (
    R (.returned (.int .i64 0)) w
  ) (
    VNN none r_0 fun (a6 : Addr) =>
    VLd none w a6 [CT.ptr] fun (v8 : Option Addr) =>
    VCall none Try.prog 78 #[.pointer v8] w (.int .i64 0) fun (r9 : Int) (w1 : World) =>
    VSet r9 fun (v2 : Int) =>
    R (.returned (.int .i64 v2)) w1
  )
theorem sh_code_Reader_Left_ok (r_0 : Option Addr) (w : World) (R : Ending → World → Prop) (h : sh_code_Reader_Left r_0 w R) : Calls Try.prog 57 #[.pointer r_0] w R :=
  calls_of_sh (args := [.pointer r_0]) (.two .auto (.two (.two .auto (.two (.two .auto .auto) .auto)) (.two .auto .auto))) Try.func57 (by kernel_rfl) (by kernel_rfl) (by kernel_rfl) h

/-- 58: slices.ContainsFunc of  of byte,byte -/
def sh_slices_ContainsFunc' (s_0 : Sl) (f_1 : Value) (w : World) (R : Ending → World → Prop) : Prop :=
  VCall none Try.prog 79 #[.slice s_0.base s_0.len s_0.cap, f_1] w (.int .i64 0) fun (r7 : Int) (w1 : World) =>
  R (.returned (.bool (decide (r7 ≥ 0)))) w1
theorem sh_slices_ContainsFunc'_ok (s_0 : Sl) (f_1 : Value) (w : World) (R : Ending → World → Prop) (h : sh_slices_ContainsFunc' s_0 f_1 w R) : Calls Try.prog 58 #[.slice s_0.base s_0.len s_0.cap, f_1] w R :=
  calls_of_sh (args := [.slice s_0.base s_0.len s_0.cap, f_1]) (.two .auto (.two .auto .auto)) Try.func58 (by kernel_rfl) (by kernel_rfl) (by kernel_rfl) h

/-- 59: buttery/node.Decode$1 -/
def sh_node_Decode_1 (c_0 : Int) (w : World) (R : Ending → World → Prop) : Prop :=
  R (.returned (.bool (c_0 != 0))) w
theorem sh_node_Decode_1_ok (c_0 : Int) (w : World) (R : Ending → World → Prop) (h : sh_node_Decode_1 c_0 w R) : Calls Try.prog 59 #[.int .u8 c_0] w R :=
  calls_of_sh (args := [.int .u8 c_0]) (.two .auto (.two .auto .auto)) Try.func59 (by kernel_rfl) (by kernel_rfl) (by kernel_rfl) h

/-- 60: slices.Clone of  of buttery/node.Cell,buttery/node.Cell -/
def sh_slices_Clone (s_0 : Sl) (w : World) (R : Ending → World → Prop) : Prop :=
  VIf s_0.base.isNone (
    R (.returned (.slice none 0 0)) w
  ) (
    VNw none w (.cells #[] 48) fun (b5 : Nat) (w1 : World) =>
    VApp none w1 48 4 48 #[.string ByteArray.empty, .string ByteArray.empty, .int .i64 0, .int .i64 0] (some ⟨b5, 0, none⟩) 0 0 s_0.len (fun news => Seg w1 s_0.base s_0.len 4 news) fun (l7 : Sl) (w2 : World) =>
    R (.returned (.slice l7.base l7.len l7.cap)) w2
  )
theorem sh_slices_Clone_ok (s_0 : Sl) (w : World) (R : Ending → World → Prop) (h : sh_slices_Clone s_0 w R) : Calls Try.prog 60 #[.slice s_0.base s_0.len s_0.cap] w R :=
  calls_of_sh (args := [.slice s_0.base s_0.len s_0.cap]) (.two .auto (.two (.two .auto (.two (.two .auto .auto) .auto)) (.two .auto .auto))) Try.func60 (by kernel_rfl) (by kernel_rfl) (by kernel_rfl) h

/-- 61: slices.Clone of  of int,int -/
def sh_slices_Clone' (s_0 : Sl) (w : World) (R : Ending → World → Prop) : Prop :=
  VIf s_0.base.isNone (
    R (.returned (.slice none 0 0)) w
  ) (
    VNw none w (.cells #[] 3) fun (b5 : Nat) (w1 : World) =>
    VApp none w1 3 1 8 #[.int .i64 0] (some ⟨b5, 0, none⟩) 0 0 s_0.len (fun news => Seg w1 s_0.base s_0.len 1 news) fun (l7 : Sl) (w2 : World) =>
    R (.returned (.slice l7.base l7.len l7.cap)) w2
  )
theorem sh_slices_Clone'_ok (s_0 : Sl) (w : World) (R : Ending → World → Prop) (h : sh_slices_Clone' s_0 w R) : Calls Try.prog 61 #[.slice s_0.base s_0.len s_0.cap] w R :=
  calls_of_sh (args := [.slice s_0.base s_0.len s_0.cap]) (.two .auto (.two (.two .auto (.two (.two .auto .auto) .auto)) (.two .auto .auto))) Try.func61 (by kernel_rfl) (by kernel_rfl) (by kernel_rfl) h

/-- 62: buttery/node.counts -/
def sh_node_counts (b_0 : Sl) (l_1 : Sl) (w : World) (R : Ending → World → Prop) : Prop :=
  ∃ I1 : Nat → Sl → Int → World → Prop, (∃ k, I1 k b_0 0 w) ∧ ∀ k1 (b_0 : Sl) (x9 : Int) (w1 : World), I1 k1 b_0 x9 w1 →
  VIf (decide (x9 < ((l_1.len : Nat) : Int))) (
    VIx none l_1.base l_1.len x9 fun (a11 : Addr) =>
    VLd none w1 (Addr.add a11 ((Int.toNat x9) * 1)) [CT.int .i64] fun (v12 : Int) =>
    VSet v12 fun (n_6 : Int) =>
    VCall none Try.prog 80 #[.slice b_0.base b_0.len b_0.cap, .int .i64 n_6] w1 (.slice none 0 0) fun (r15 : Sl) (w2 : World) =>
    ∃ k', k' < k1 ∧ I1 k' r15 (IntKind.wrap .i64 (x9 + 1)) w2
  ) (
    R (.returned (.slice b_0.base b_0.len b_0.cap)) w1
  )
theorem sh_node_counts_ok (b_0 : Sl) (l_1 : Sl) (w : World) (R : Ending → World → Prop) (h : sh_node_counts b_0 l_1 w R) : Calls Try.prog 62 #[.slice b_0.base b_0.len b_0.cap, .slice l_1.base l_1.len l_1.cap] w R :=
  calls_of_sh (args := [.slice b_0.base b_0.len b_0.cap, .slice l_1.base l_1.len l_1.cap]) (.two .auto (.two (.two .auto (.one (.loop [(0, .slice none 0 0), (9, .int .i64 0)] (.two .auto (.two (.two .auto .auto) (.two (.one (.two .auto .auto)) .auto)))))) (.two .auto .auto))) Try.func62 (by kernel_rfl) (by kernel_rfl) (by kernel_rfl) h

/-- 63: buttery/code.Flag -/
def sh_code_Flag (b_0 : Sl) (v_1 : Bool) (w : World) (R : Ending → World → Prop) : Prop :=
  ∃ Φ1 : Int → World → Prop, (
    VIf v_1 (
      Φ1 1 w
    ) (
      Φ1 0 w
    )
  ) ∧ ∀ (n_5 : Int) (w1 : World), Φ1 n_5 w1 →
  VCall none Try.prog 80 #[.slice b_0.base b_0.len b_0.cap, .int .i64 n_5] w1 (.slice none 0 0) fun (r9 : Sl) (w2 : World) =>
  R (.returned (.slice r9.base r9.len r9.cap)) w2
theorem sh_code_Flag_ok (b_0 : Sl) (v_1 : Bool) (w : World) (R : Ending → World → Prop) (h : sh_code_Flag b_0 v_1 w R) : Calls Try.prog 63 #[.slice b_0.base b_0.len b_0.cap, .bool v_1] w R :=
  calls_of_sh (args := [.slice b_0.base b_0.len b_0.cap, .bool v_1]) (.two .auto (.two .auto (.join [(5, .int .i64 0)] (.two .auto (.two .auto .auto)) (.two .auto .auto)))) Try.func63 (by kernel_rfl) (by kernel_rfl) (by kernel_rfl) h

/-- 64: buttery/code.Str -/
def sh_code_Str (b_0 : Sl) (s_1 : ByteArray) (w : World) (R : Ending → World → Prop) : Prop :=
  VIf (decide (((s_1.size : Nat) : Int) > 2147483647)) (
    VCall none Try.prog 73 #[.slice b_0.base b_0.len b_0.cap] w (.slice none 0 0) fun (r9 : Sl) (w1 : World) =>
    R (.returned (.slice r9.base r9.len r9.cap)) w1
  ) (
    VCall none Try.prog 80 #[.slice b_0.base b_0.len b_0.cap, .int .i64 ((s_1.size : Nat) : Int)] w (.slice none 0 0) fun (r13 : Sl) (w2 : World) =>
    VApp none w2 5 1 1 #[.int .u8 0] r13.base r13.len r13.cap s_1.size (fun news => news = strCells s_1) fun (l15 : Sl) (w3 : World) =>
    R (.returned (.slice l15.base l15.len l15.cap)) w3
  )
theorem sh_code_Str_ok (b_0 : Sl) (s_1 : ByteArray) (w : World) (R : Ending → World → Prop) (h : sh_code_Str b_0 s_1 w R) : Calls Try.prog 64 #[.slice b_0.base b_0.len b_0.cap, .string s_1] w R :=
  calls_of_sh (args := [.slice b_0.base b_0.len b_0.cap, .string s_1]) (.two .auto (.two (.two .auto (.two (.two .auto .auto) .auto)) (.two .auto .auto))) Try.func64 (by kernel_rfl) (by kernel_rfl) (by kernel_rfl) h

/-- 65: buttery/butteryref01.Flag -/
def sh_butteryref01_Flag (b_0 : Sl) (v_1 : Bool) (w : World) (R : Ending → World → Prop) : Prop :=
  VIf v_1 (
    VNw none w (.cells #[.int .u8 1] 5) fun (b7 : Nat) (w1 : World) =>
    VCall none Try.prog 81 #[.slice b_0.base b_0.len b_0.cap, .slice (some ⟨b7, 0, none⟩) 1 1] w1 (.slice none 0 0) fun (r8 : Sl) (w2 : World) =>
    R (.returned (.slice r8.base r8.len r8.cap)) w2
  ) (
    VNw none w (.cells #[.int .u8 0] 5) fun (b10 : Nat) (w3 : World) =>
    VCall none Try.prog 81 #[.slice b_0.base b_0.len b_0.cap, .slice (some ⟨b10, 0, none⟩) 1 1] w3 (.slice none 0 0) fun (r11 : Sl) (w4 : World) =>
    R (.returned (.slice r11.base r11.len r11.cap)) w4
  )
theorem sh_butteryref01_Flag_ok (b_0 : Sl) (v_1 : Bool) (w : World) (R : Ending → World → Prop) (h : sh_butteryref01_Flag b_0 v_1 w R) : Calls Try.prog 65 #[.slice b_0.base b_0.len b_0.cap, .bool v_1] w R :=
  calls_of_sh (args := [.slice b_0.base b_0.len b_0.cap, .bool v_1]) (.two .auto (.two (.two .auto (.two (.two .auto .auto) .auto)) (.two .auto .auto))) Try.func65 (by kernel_rfl) (by kernel_rfl) (by kernel_rfl) h

/-- 66: buttery/butteryref01.Count -/
def sh_butteryref01_Count (b_0 : Sl) (n_1 : Int) (w : World) (R : Ending → World → Prop) : Prop :=
  VIf ((decide (n_1 < 0)) || (decide (n_1 > 2147483647))) (
    VCall none Try.prog 81 #[.slice b_0.base b_0.len b_0.cap, .slice none 0 0] w (.slice none 0 0) fun (r12 : Sl) (w1 : World) =>
    R (.returned (.slice r12.base r12.len r12.cap)) w1
  ) (
    VCall none Try.prog 82 #[.int .u64 (IntKind.wrap .u64 n_1)] w (.slice none 0 0) fun (r16 : Sl) (w2 : World) =>
    VCall none Try.prog 81 #[.slice b_0.base b_0.len b_0.cap, .slice r16.base r16.len r16.cap] w2 (.slice none 0 0) fun (r17 : Sl) (w3 : World) =>
    R (.returned (.slice r17.base r17.len r17.cap)) w3
  )
theorem sh_butteryref01_Count_ok (b_0 : Sl) (n_1 : Int) (w : World) (R : Ending → World → Prop) (h : sh_butteryref01_Count b_0 n_1 w R) : Calls Try.prog 66 #[.slice b_0.base b_0.len b_0.cap, .int .i64 n_1] w R :=
  calls_of_sh (args := [.slice b_0.base b_0.len b_0.cap, .int .i64 n_1]) (.two .auto (.two (.two .auto (.two (.two .auto .auto) .auto)) (.two .auto .auto))) Try.func66 (by kernel_rfl) (by kernel_rfl) (by kernel_rfl) h

/-- 67: buttery/butteryref01.Str -/
def sh_butteryref01_Str (b_0 : Sl) (s_1 : ByteArray) (w : World) (R : Ending → World → Prop) : Prop :=
  VCall none Try.prog 66 #[.slice b_0.base b_0.len b_0.cap, .int .i64 ((s_1.size : Nat) : Int)] w (.slice none 0 0) fun (r8 : Sl) (w1 : World) =>
  VBytes none w1 5 s_1 fun (b10 cb10 : Nat) (w2 : World) =>
  VCall none Try.prog 81 #[.slice r8.base r8.len r8.cap, .slice (some ⟨b10, 0, none⟩) s_1.size cb10] w2 (.slice none 0 0) fun (r11 : Sl) (w3 : World) =>
  R (.returned (.slice r11.base r11.len r11.cap)) w3
theorem sh_butteryref01_Str_ok (b_0 : Sl) (s_1 : ByteArray) (w : World) (R : Ending → World → Prop) (h : sh_butteryref01_Str b_0 s_1 w R) : Calls Try.prog 67 #[.slice b_0.base b_0.len b_0.cap, .string s_1] w R :=
  calls_of_sh (args := [.slice b_0.base b_0.len b_0.cap, .string s_1]) (.two .auto (.two .auto .auto)) Try.func67 (by kernel_rfl) (by kernel_rfl) (by kernel_rfl) h

/-- 68: slices.Grow of  of buttery/node.Cell,buttery/node.Cell -/
def sh_slices_Grow (s_0 : Sl) (n_1 : Int) (w : World) (R : Ending → World → Prop) : Prop :=
  ∃ Φ1 : World → Prop, (
    VIf (decide (n_1 < 0)) (
      False
    ) (
      Φ1 w
    )
  ) ∧ ∀ (w1 : World), Φ1 w1 →
  ∃ Φ2 : Sl → World → Prop, (
    VSet (IntKind.wrap .i64 (n_1 - (IntKind.wrap .i64 (((s_0.cap : Nat) : Int) - ((s_0.len : Nat) : Int))))) fun (n_1 : Int) =>
    VIf (decide (n_1 > 0)) (
      VCk none ((0 : Int) ≤ 0 ∧ (0 : Int) ≤ ((s_0.cap : Nat) : Int) ∧ (((s_0.cap : Nat) : Int) : Int) ≤ ((s_0.cap : Nat) : Int)) (
        VApp none w1 48 4 48 #[.string ByteArray.empty, .string ByteArray.empty, .int .i64 0, .int .i64 0] (cutB s_0.base s_0.cap 4 0) (s_0.cap - 0) (s_0.cap - 0) (Int.toNat n_1) (fun news => 0 ≤ n_1 ∧ n_1 ≤ 9223372036854775807 ∧ news = (Builtin.zeroCells #[.string ByteArray.empty, .string ByteArray.empty, .int .i64 0, .int .i64 0] (Int.toNat n_1)).toList) fun (l22 : Sl) (w2 : World) =>
        VCk none ((0 : Int) ≤ 0 ∧ (0 : Int) ≤ ((s_0.len : Nat) : Int) ∧ (((s_0.len : Nat) : Int) : Int) ≤ ((l22.cap : Nat) : Int)) (
          Φ2 ⟨cutB l22.base l22.cap 4 0, s_0.len - 0, l22.cap - 0⟩ w2
        )
      )
    ) (
      Φ2 s_0 w1
    )
  ) ∧ ∀ (s_0 : Sl) (w3 : World), Φ2 s_0 w3 →
  R (.returned (.slice s_0.base s_0.len s_0.cap)) w3
theorem sh_slices_Grow_ok (s_0 : Sl) (n_1 : Int) (w : World) (R : Ending → World → Prop) (h : sh_slices_Grow s_0 n_1 w R) : Calls Try.prog 68 #[.slice s_0.base s_0.len s_0.cap, .int .i64 n_1] w R :=
  calls_of_sh (args := [.slice s_0.base s_0.len s_0.cap, .int .i64 n_1]) (.two .auto (.join [] (.two .auto (.two .auto .auto)) (.join [(0, .slice none 0 0)] (.two .auto (.two .auto (.two .auto .auto))) (.two .auto .auto)))) Try.func68 (by kernel_rfl) (by kernel_rfl) (by kernel_rfl) h

/-- 69: slices.Grow of  of int,int -/
def sh_slices_Grow' (s_0 : Sl) (n_1 : Int) (w : World) (R : Ending → World → Prop) : Prop :=
  ∃ Φ1 : World → Prop, (
    VIf (decide (n_1 < 0)) (
      False
    ) (
      Φ1 w
    )
  ) ∧ ∀ (w1 : World), Φ1 w1 →
  ∃ Φ2 : Sl → World → Prop, (
    VSet (IntKind.wrap .i64 (n_1 - (IntKind.wrap .i64 (((s_0.cap : Nat) : Int) - ((s_0.len : Nat) : Int))))) fun (n_1 : Int) =>
    VIf (decide (n_1 > 0)) (
      VCk none ((0 : Int) ≤ 0 ∧ (0 : Int) ≤ ((s_0.cap : Nat) : Int) ∧ (((s_0.cap : Nat) : Int) : Int) ≤ ((s_0.cap : Nat) : Int)) (
        VApp none w1 3 1 8 #[.int .i64 0] (cutB s_0.base s_0.cap 1 0) (s_0.cap - 0) (s_0.cap - 0) (Int.toNat n_1) (fun news => 0 ≤ n_1 ∧ n_1 ≤ 9223372036854775807 ∧ news = (Builtin.zeroCells #[.int .i64 0] (Int.toNat n_1)).toList) fun (l22 : Sl) (w2 : World) =>
        VCk none ((0 : Int) ≤ 0 ∧ (0 : Int) ≤ ((s_0.len : Nat) : Int) ∧ (((s_0.len : Nat) : Int) : Int) ≤ ((l22.cap : Nat) : Int)) (
          Φ2 ⟨cutB l22.base l22.cap 1 0, s_0.len - 0, l22.cap - 0⟩ w2
        )
      )
    ) (
      Φ2 s_0 w1
    )
  ) ∧ ∀ (s_0 : Sl) (w3 : World), Φ2 s_0 w3 →
  R (.returned (.slice s_0.base s_0.len s_0.cap)) w3
theorem sh_slices_Grow'_ok (s_0 : Sl) (n_1 : Int) (w : World) (R : Ending → World → Prop) (h : sh_slices_Grow' s_0 n_1 w R) : Calls Try.prog 69 #[.slice s_0.base s_0.len s_0.cap, .int .i64 n_1] w R :=
  calls_of_sh (args := [.slice s_0.base s_0.len s_0.cap, .int .i64 n_1]) (.two .auto (.join [] (.two .auto (.two .auto .auto)) (.join [(0, .slice none 0 0)] (.two .auto (.two .auto (.two .auto .auto))) (.two .auto .auto)))) Try.func69 (by kernel_rfl) (by kernel_rfl) (by kernel_rfl) h

/-- 70: slices.IndexFunc of  of int,int -/
def sh_slices_IndexFunc' (s_0 : Sl) (f_1 : Value) (w : World) (R : Ending → World → Prop) : Prop :=
  ∃ I1 : Nat → Int → World → Prop, (∃ k, I1 k 0 w) ∧ ∀ k1 (x8 : Int) (w1 : World), I1 k1 x8 w1 →
  VIf (decide (x8 < ((s_0.len : Nat) : Int))) (
    VSet x8 fun (i_5 : Int) =>
    VIx none s_0.base s_0.len i_5 fun (a14 : Addr) =>
    VLd none w1 (Addr.add a14 ((Int.toNat i_5) * 1)) [CT.int .i64] fun (v15 : Int) =>
    VDyn none Try.prog f_1 #[.int .i64 v15] w1 (.bool false) fun (r16 : Bool) (w2 : World) =>
    VIf r16 (
      VSet i_5 fun (v4 : Int) =>
      R (.returned (.int .i64 v4)) w2
    ) (
      ∃ k', k' < k1 ∧ I1 k' (IntKind.wrap .i64 (x8 + 1)) w2
    )
  ) (
    R (.returned (.int .i64 (-1))) w1
  )
theorem sh_slices_IndexFunc'_ok (s_0 : Sl) (f_1 : Value) (w : World) (R : Ending → World → Prop) (h : sh_slices_IndexFunc' s_0 f_1 w R) : Calls Try.prog 70 #[.slice s_0.base s_0.len s_0.cap, f_1] w R :=
  calls_of_sh (args := [.slice s_0.base s_0.len s_0.cap, f_1]) (.two .auto (.two (.two .auto (.one (.loop [(8, .int .i64 0)] (.two .auto (.two (.two .auto .auto) (.two (.one (.two .auto (.two .auto (.two (.two .auto .auto) .auto)))) .auto)))))) (.two .auto .auto))) Try.func70 (by kernel_rfl) (by kernel_rfl) (by kernel_rfl) h

/-- 71: (*buttery/butteryref01.Reader).uint -/
def sh_butteryref01_Reader_uint (r_0 : Option Addr) (w : World) (R : Ending → World → Prop) : Prop :=
  ∃ Φ1 : World → Prop, (
    ∃ I2 : Nat → Int → Int → Int → World → Prop, (∃ k, I2 k 0 1 0 w) ∧ ∀ k2 (u_3 : Int) (scale_4 : Int) (i_5 : Int) (w1 : World), I2 k2 u_3 scale_4 i_5 w1 →
    VNN none r_0 fun (a9 : Addr) =>
    VLd none w1 a9 [CT.sl] fun (v11 : Sl) =>
    VIf ((decide (i_5 < ((v11.len : Nat) : Int))) && (decide (i_5 < 10))) (
      VNN none r_0 fun (a21 : Addr) =>
      VLd none w1 a21 [CT.sl] fun (v23 : Sl) =>
      VIx none v23.base v23.len i_5 fun (a25 : Addr) =>
      VLd none w1 (Addr.add a25 ((Int.toNat i_5) * 1)) [CT.int .u8] fun (v26 : Int) =>
      VSet (IntKind.wrap .u64 v26) fun (c_6 : Int) =>
      VIf ((i_5 == 9) && (decide (c_6 > 1))) (
        Φ1 w1
      ) (
        VSet (IntKind.wrap .u64 (u_3 + (IntKind.wrap .u64 ((Int.tmod c_6 128) * scale_4)))) fun (u_3' : Int) =>
        VSet (IntKind.wrap .u64 (scale_4 * 128)) fun (scale_4' : Int) =>
        VIf (decide (c_6 ≥ 128)) (
          VSet (IntKind.wrap .i64 (i_5 + 1)) fun (i_5' : Int) =>
          ∃ k', k' < k2 ∧ I2 k' u_3' scale_4' i_5' w1
        ) (
          VIf ((decide (i_5 > 0)) && (c_6 == 0)) (
            Φ1 w1
          ) (
            VNN none r_0 fun (a52 : Addr) =>
            VLd none w1 a52 [CT.sl] fun (v54 : Sl) =>
            VCk none ((0 : Int) ≤ IntKind.wrap .i64 (i_5 + 1) ∧ (IntKind.wrap .i64 (i_5 + 1) : Int) ≤ ((v54.len : Nat) : Int) ∧ (((v54.len : Nat) : Int) : Int) ≤ ((v54.cap : Nat) : Int)) (
              VNN none r_0 fun (a58 : Addr) =>
              VSt none w1 a58 [.slice (cutB v54.base v54.cap 1 (Int.toNat (IntKind.wrap .i64 (i_5 + 1)))) (v54.len - (Int.toNat (IntKind.wrap .i64 (i_5 + 1)))) (v54.cap - (Int.toNat (IntKind.wrap .i64 (i_5 + 1))))] fun (w2 : World) =>
              VSet u_3' fun (v2 : Int) =>
              R (.returned (.int .u64 v2)) w2
            )
          )
        )
      )
    ) (
      Φ1 w1
    )
  ) ∧ ∀ (w3 : World), Φ1 w3 →
  VCall none Try.prog 72 #[.pointer r_0] w3 (.tuple #[]) fun (w4 : World) =>
  R (.returned (.int .u64 0)) w4
theorem sh_butteryref01_Reader_uint_ok (r_0 : Option Addr) (w : World) (R : Ending → World → Prop) (h : sh_butteryref01_Reader_uint r_0 w R) : Calls Try.prog 71 #[.pointer r_0] w R :=
  calls_of_sh (args := [.pointer r_0]) (.two .auto (.two .auto (.two .auto (.two (.two .auto (.bjoin [] (.loop [(3, .int .u64 0), (4, .int .u64 0), (5, .int .i64 0)] (.two (.two .auto (.two .auto .auto)) (.two (.one (.two .auto (.two (.two .auto (.two .auto .auto)) (.two .auto (.two .auto (.two (.two .auto (.two .auto .auto)) (.two (.two .auto (.two .auto .auto)) (.two .auto (.two .auto .auto))))))))) .auto))))) (.two .auto (.two .auto .auto)))))) Try.func71 (by kernel_rfl) (by kernel_rfl) (by kernel_rfl) h

/-- 72: (*buttery/butteryref01.Reader).fail -/
def sh_butteryref01_Reader_fail (r_0 : Option Addr) (w : World) (R : Ending → World → Prop) : Prop :=
  VNN none r_0 fun (a3 : Addr) =>
  VSt none w (Addr.add a3 1) [.bool true] fun (w1 : World) =>
  VNN none r_0 fun (a6 : Addr) =>
  VSt none w1 a6 [.slice none 0 0] fun (w2 : World) =>
  R (.returned (.tuple #[])) w2
theorem sh_butteryref01_Reader_fail_ok (r_0 : Option Addr) (w : World) (R : Ending → World → Prop) (h : sh_butteryref01_Reader_fail r_0 w R) : Calls Try.prog 72 #[.pointer r_0] w R :=
  calls_of_sh (args := [.pointer r_0]) (.two .auto .auto) Try.func72 (by kernel_rfl) (by kernel_rfl) (by kernel_rfl) h

/-- 73: bytes.Clone -/
def sh_bytes_Clone (b_0 : Sl) (w : World) (R : Ending → World → Prop) : Prop :=
  VIf b_0.base.isNone (
    R (.returned (.slice none 0 0)) w
  ) (
    VNw none w (.cells #[] 5) fun (b5 : Nat) (w1 : World) =>
    VApp none w1 5 1 1 #[.int .u8 0] (some ⟨b5, 0, none⟩) 0 0 b_0.len (fun news => Seg w1 b_0.base b_0.len 1 news) fun (l7 : Sl) (w2 : World) =>
    R (.returned (.slice l7.base l7.len l7.cap)) w2
  )
theorem sh_bytes_Clone_ok (b_0 : Sl) (w : World) (R : Ending → World → Prop) (h : sh_bytes_Clone b_0 w R) : Calls Try.prog 73 #[.slice b_0.base b_0.len b_0.cap] w R :=
  calls_of_sh (args := [.slice b_0.base b_0.len b_0.cap]) (.two .auto (.two (.two .auto (.two (.two .auto .auto) .auto)) (.two .auto .auto))) Try.func73 (by kernel_rfl) (by kernel_rfl) (by kernel_rfl) h

/-- 74: (*buttery/code.Reader).uvarint -/
def sh_code_Reader_uvarint (r_0 : Option Addr) (w : World) (R : Ending → World → Prop) : Prop :=
  VCall none Try.prog 55 #[.pointer r_0] w (.bool false) fun (r7 : Bool) (w1 : World) =>
  VIf (!r7) (
    R (.returned (.tuple #[.int .u64 0, .bool false])) w1
  ) (
    VNN none r_0 fun (a11 : Addr) =>
    VLd none w1 a11 [CT.ptr] fun (v13 : Option Addr) =>
    VNN none v13 fun (a14 : Addr) =>
    VLd none w1 a14 [CT.sl] fun (v16 : Sl) =>
    VCall none Try.prog 83 #[.slice v16.base v16.len v16.cap] w1 (.tuple #[.int .u64 0, .int .i64 0]) fun (r17_0 : Int) (r17_1 : Int) (w2 : World) =>
    VSet r17_0 fun (u_4 : Int) =>
    VSet r17_1 fun (n_5 : Int) =>
    VNN (some ((!(decide (n_5 ≤ 0))) && (decide (n_5 > 1)))) r_0 fun (a27 : Addr) =>
    VLd (some ((!(decide (n_5 ≤ 0))) && (decide (n_5 > 1)))) w2 a27 [CT.ptr] fun (v29 : Option Addr) =>
    VNN (some ((!(decide (n_5 ≤ 0))) && (decide (n_5 > 1)))) v29 fun (a30 : Addr) =>
    VLd (some ((!(decide (n_5 ≤ 0))) && (decide (n_5 > 1)))) w2 a30 [CT.sl] fun (v32 : Sl) =>
    VIx (some ((!(decide (n_5 ≤ 0))) && (decide (n_5 > 1)))) v32.base v32.len (IntKind.wrap .i64 (n_5 - 1)) fun (a35 : Addr) =>
    VLd (some ((!(decide (n_5 ≤ 0))) && (decide (n_5 > 1)))) w2 (Addr.add a35 ((Int.toNat (IntKind.wrap .i64 (n_5 - 1))) * 1)) [CT.int .u8] fun (v36 : Int) =>
    VIf ((decide (n_5 ≤ 0)) || ((decide (n_5 > 1)) && (v36 == 0))) (
      R (.returned (.tuple #[.int .u64 0, .bool false])) w2
    ) (
      VNN none r_0 fun (a41 : Addr) =>
      VLd none w2 a41 [CT.ptr] fun (v43 : Option Addr) =>
      VCall none Try.prog 84 #[.pointer v43, .int .i64 n_5] w2 (.slice none 0 0) fun (r45 : Sl) (w3 : World) =>
      VSet u_4 fun (v2 : Int) =>
      R (.returned (.tuple #[.int .u64 v2, .bool true])) w3
    )
  )
theorem sh_code_Reader_uvarint_ok (r_0 : Option Addr) (w : World) (R : Ending → World → Prop) (h : sh_code_Reader_uvarint r_0 w R) : Calls Try.prog 74 #[.pointer r_0] w R :=
  calls_of_sh (args := [.pointer r_0]) (.two .auto (.two (.two .auto (.two (.two .auto .auto) .auto)) (.two .auto (.two (.two .auto (.two (.two .auto .auto) .auto)) (.two .auto (.two .auto .auto)))))) Try.func74 (by kernel_rfl) (by kernel_rfl) (by kernel_rfl) h

/-- 75: buttery/code.told of int -/
def sh_code_told (r_0 : Option Addr) (v_1 : Int) (ok_2 : Bool) (w : World) (R : Ending → World → Prop) : Prop :=
  ∃ Φ1 : World → Prop, (
    VIf (!ok_2) (
      VNN none r_0 fun (a11 : Addr) =>
      VLd none w a11 [CT.ptr] fun (v13 : Option Addr) =>
      VNN none v13 fun (a14 : Addr) =>
      VSt none w (Addr.add a14 1) [.bool true] fun (w1 : World) =>
      Φ1 w1
    ) (
      Φ1 w
    )
  ) ∧ ∀ (w2 : World), Φ1 w2 →
  VNN none r_0 fun (a17 : Addr) =>
  VLd none w2 a17 [CT.ptr] fun (v19 : Option Addr) =>
  VNN none v19 fun (a20 : Addr) =>
  VLd none w2 (Addr.add a20 1) [CT.bool] fun (v22 : Bool) =>
  VIf v22 (
    VSet 0 fun (v6 : Int) =>
    R (.returned (.int .i64 v6)) w2
  ) (
    VSet v_1 fun (v6' : Int) =>
    R (.returned (.int .i64 v6')) w2
  )
theorem sh_code_told_ok (r_0 : Option Addr) (v_1 : Int) (ok_2 : Bool) (w : World) (R : Ending → World → Prop) (h : sh_code_told r_0 v_1 ok_2 w R) : Calls Try.prog 75 #[.pointer r_0, .int .i64 v_1, .bool ok_2] w R :=
  calls_of_sh (args := [.pointer r_0, .int .i64 v_1, .bool ok_2]) (.two .auto (.join [] (.two .auto (.two .auto .auto)) (.two (.two .auto (.two (.two .auto (.two .auto .auto)) .auto)) (.two .auto .auto)))) Try.func75 (by kernel_rfl) (by kernel_rfl) (by kernel_rfl) h

/-- 76: (*buttery/code.rest).OK -/
def sh_code_rest_OK (r_0 : Option Addr) (w : World) (R : Ending → World → Prop) : Prop :=
  VNN (some (!r_0.isNone)) r_0 fun (a7 : Addr) =>
  VLd (some (!r_0.isNone)) w (Addr.add a7 1) [CT.bool] fun (v9 : Bool) =>
  R (.returned (.bool ((!r_0.isNone) && (!v9)))) w
theorem sh_code_rest_OK_ok (r_0 : Option Addr) (w : World) (R : Ending → World → Prop) (h : sh_code_rest_OK r_0 w R) : Calls Try.prog 76 #[.pointer r_0] w R :=
  calls_of_sh (args := [.pointer r_0]) (.two .auto (.two .auto .auto)) Try.func76 (by kernel_rfl) (by kernel_rfl) (by kernel_rfl) h

/-- 77: (*buttery/code.Reader).Str -/
def sh_code_Reader_Str (r_0 : Option Addr) (most_1 : Int) (w : World) (R : Ending → World → Prop) : Prop :=
  VIf r_0.isNone (
    R (.returned (.string (ByteArray.mk #[]))) w
  ) (
    VCall none Try.prog 54 #[.pointer r_0, .int .i64 most_1] w (.int .i64 0) fun (r10 : Int) (w1 : World) =>
    VSet r10 fun (n_5 : Int) =>
    VCall none Try.prog 55 #[.pointer r_0] w1 (.bool false) fun (r12 : Bool) (w2 : World) =>
    VNN (some (!(!r12))) r_0 fun (a17 : Addr) =>
    VLd (some (!(!r12))) w2 a17 [CT.ptr] fun (v19 : Option Addr) =>
    VNN (some (!(!r12))) v19 fun (a20 : Addr) =>
    VLd (some (!(!r12))) w2 a20 [CT.sl] fun (v22 : Sl) =>
    VIf ((!r12) || (decide (n_5 > ((v22.len : Nat) : Int)))) (
      VCall none Try.prog 85 #[.pointer r_0, .string (ByteArray.mk #[]), .bool false] w2 (.string ByteArray.empty) fun (r27 : ByteArray) (w3 : World) =>
      R (.returned (.string r27)) w3
    ) (
      VNN none r_0 fun (a30 : Addr) =>
      VLd none w2 a30 [CT.ptr] fun (v32 : Option Addr) =>
      VCall none Try.prog 84 #[.pointer v32, .int .i64 n_5] w2 (.slice none 0 0) fun (r34 : Sl) (w4 : World) =>
      VStr none w4 r34.base r34.len fun (s35 : ByteArray) =>
      VCall none Try.prog 85 #[.pointer r_0, .string s35, .bool true] w4 (.string ByteArray.empty) fun (r36 : ByteArray) (w5 : World) =>
      R (.returned (.string r36)) w5
    )
  )
theorem sh_code_Reader_Str_ok (r_0 : Option Addr) (most_1 : Int) (w : World) (R : Ending → World → Prop) (h : sh_code_Reader_Str r_0 most_1 w R) : Calls Try.prog 77 #[.pointer r_0, .int .i64 most_1] w R :=
  calls_of_sh (args := [.pointer r_0, .int .i64 most_1]) (.two .auto (.two (.two .auto (.two (.two .auto .auto) .auto)) (.two .auto (.two (.two .auto (.two (.two .auto .auto) .auto)) (.two .auto .auto))))) Try.func77 (by kernel_rfl) (by kernel_rfl) (by kernel_rfl) h

/-- 78: (*buttery/code.rest).Left -/
def sh_code_rest_Left (r_0 : Option Addr) (w : World) (R : Ending → World → Prop) : Prop :=
  VNN (some (!r_0.isNone)) r_0 fun (a7 : Addr) =>
  VLd (some (!r_0.isNone)) w (Addr.add a7 1) [CT.bool] fun (v9 : Bool) =>
  VIf (r_0.isNone || v9) (
    R (.returned (.int .i64 0)) w
  ) (
    VNN none r_0 fun (a12 : Addr) =>
    VLd none w a12 [CT.sl] fun (v14 : Sl) =>
    VSet ((v14.len : Nat) : Int) fun (v2 : Int) =>
    R (.returned (.int .i64 v2)) w
  )
theorem sh_code_rest_Left_ok (r_0 : Option Addr) (w : World) (R : Ending → World → Prop) (h : sh_code_rest_Left r_0 w R) : Calls Try.prog 78 #[.pointer r_0] w R :=
  calls_of_sh (args := [.pointer r_0]) (.two .auto (.two (.two .auto (.two (.two .auto .auto) .auto)) (.two .auto .auto))) Try.func78 (by kernel_rfl) (by kernel_rfl) (by kernel_rfl) h

/-- 79: slices.IndexFunc of  of byte,byte -/
def sh_slices_IndexFunc'' (s_0 : Sl) (f_1 : Value) (w : World) (R : Ending → World → Prop) : Prop :=
  ∃ I1 : Nat → Int → World → Prop, (∃ k, I1 k 0 w) ∧ ∀ k1 (x8 : Int) (w1 : World), I1 k1 x8 w1 →
  VIf (decide (x8 < ((s_0.len : Nat) : Int))) (
    VSet x8 fun (i_5 : Int) =>
    VIx none s_0.base s_0.len i_5 fun (a14 : Addr) =>
    VLd none w1 (Addr.add a14 ((Int.toNat i_5) * 1)) [CT.int .u8] fun (v15 : Int) =>
    VDyn none Try.prog f_1 #[.int .u8 v15] w1 (.bool false) fun (r16 : Bool) (w2 : World) =>
    VIf r16 (
      VSet i_5 fun (v4 : Int) =>
      R (.returned (.int .i64 v4)) w2
    ) (
      ∃ k', k' < k1 ∧ I1 k' (IntKind.wrap .i64 (x8 + 1)) w2
    )
  ) (
    R (.returned (.int .i64 (-1))) w1
  )
theorem sh_slices_IndexFunc''_ok (s_0 : Sl) (f_1 : Value) (w : World) (R : Ending → World → Prop) (h : sh_slices_IndexFunc'' s_0 f_1 w R) : Calls Try.prog 79 #[.slice s_0.base s_0.len s_0.cap, f_1] w R :=
  calls_of_sh (args := [.slice s_0.base s_0.len s_0.cap, f_1]) (.two .auto (.two (.two .auto (.one (.loop [(8, .int .i64 0)] (.two .auto (.two (.two .auto .auto) (.two (.one (.two .auto (.two .auto (.two (.two .auto .auto) .auto)))) .auto)))))) (.two .auto .auto))) Try.func79 (by kernel_rfl) (by kernel_rfl) (by kernel_rfl) h

/-- 80: buttery/code.Count -/
def sh_code_Count (b_0 : Sl) (n_1 : Int) (w : World) (R : Ending → World → Prop) : Prop :=
  VIf ((decide (n_1 < 0)) || (decide (n_1 > 2147483647))) (
    VCall none Try.prog 73 #[.slice b_0.base b_0.len b_0.cap] w (.slice none 0 0) fun (r12 : Sl) (w1 : World) =>
    R (.returned (.slice r12.base r12.len r12.cap)) w1
  ) (
    VCall none Try.prog 86 #[.slice b_0.base b_0.len b_0.cap, .int .u64 (IntKind.wrap .u64 n_1)] w (.slice none 0 0) fun (r16 : Sl) (w2 : World) =>
    R (.returned (.slice r16.base r16.len r16.cap)) w2
  )
theorem sh_code_Count_ok (b_0 : Sl) (n_1 : Int) (w : World) (R : Ending → World → Prop) (h : sh_code_Count b_0 n_1 w R) : Calls Try.prog 80 #[.slice b_0.base b_0.len b_0.cap, .int .i64 n_1] w R :=
  calls_of_sh (args := [.slice b_0.base b_0.len b_0.cap, .int .i64 n_1]) (.two .auto (.two (.two .auto (.two (.two .auto .auto) .auto)) (.two .auto .auto))) Try.func80 (by kernel_rfl) (by kernel_rfl) (by kernel_rfl) h

/-- 81: buttery/butteryref01.with -/
def sh_butteryref01_with (b_0 : Sl) (c_1 : Sl) (w : World) (R : Ending → World → Prop) : Prop :=
  VNw none w (.cells #[] 5) fun (b6 : Nat) (w1 : World) =>
  VApp none w1 5 1 1 #[.int .u8 0] (some ⟨b6, 0, none⟩) 0 0 b_0.len (fun news => Seg w1 b_0.base b_0.len 1 news) fun (l8 : Sl) (w2 : World) =>
  VApp none w2 5 1 1 #[.int .u8 0] l8.base l8.len l8.cap c_1.len (fun news => Seg w2 c_1.base c_1.len 1 news) fun (l11 : Sl) (w3 : World) =>
  R (.returned (.slice l11.base l11.len l11.cap)) w3
theorem sh_butteryref01_with_ok (b_0 : Sl) (c_1 : Sl) (w : World) (R : Ending → World → Prop) (h : sh_butteryref01_with b_0 c_1 w R) : Calls Try.prog 81 #[.slice b_0.base b_0.len b_0.cap, .slice c_1.base c_1.len c_1.cap] w R :=
  calls_of_sh (args := [.slice b_0.base b_0.len b_0.cap, .slice c_1.base c_1.len c_1.cap]) (.two .auto (.two .auto (.two .auto .auto))) Try.func81 (by kernel_rfl) (by kernel_rfl) (by kernel_rfl) h

/-- 82: buttery/butteryref01.Uint -/
def sh_butteryref01_Uint (u_0 : Int) (w : World) (R : Ending → World → Prop) : Prop :=
  ∃ I1 : Nat → Int → Sl → World → Prop, (∃ k, I1 k u_0 ⟨none, 0, 0⟩ w) ∧ ∀ k1 (u_0 : Int) (out_3 : Sl) (w1 : World), I1 k1 u_0 out_3 w1 →
  VIf (decide (u_0 ≥ 128)) (
    VNw none w1 (.cells #[.int .u8 (IntKind.wrap .u8 (IntKind.wrap .u64 ((Int.tmod u_0 128) + 128)))] 5) fun (b11 : Nat) (w2 : World) =>
    VApp none w2 5 1 1 #[.int .u8 0] out_3.base out_3.len out_3.cap 1 (fun news => Seg w2 (some ⟨b11, 0, none⟩) 1 1 news) fun (l12 : Sl) (w3 : World) =>
    VSet (IntKind.wrap .u64 (Int.tdiv u_0 128)) fun (u_0' : Int) =>
    ∃ k', k' < k1 ∧ I1 k' u_0' l12 w3
  ) (
    VNw none w1 (.cells #[.int .u8 (IntKind.wrap .u8 u_0)] 5) fun (b18 : Nat) (w4 : World) =>
    VApp none w4 5 1 1 #[.int .u8 0] out_3.base out_3.len out_3.cap 1 (fun news => Seg w4 (some ⟨b18, 0, none⟩) 1 1 news) fun (l19 : Sl) (w5 : World) =>
    R (.returned (.slice l19.base l19.len l19.cap)) w5
  )
theorem sh_butteryref01_Uint_ok (u_0 : Int) (w : World) (R : Ending → World → Prop) (h : sh_butteryref01_Uint u_0 w R) : Calls Try.prog 82 #[.int .u64 u_0] w R :=
  calls_of_sh (args := [.int .u64 u_0]) (.two .auto (.two .auto (.two (.one (.loop [(0, .int .u64 0), (3, .slice none 0 0)] (.two (.two .auto (.two .auto .auto)) (.one (.two .auto .auto))))) (.two .auto .auto)))) Try.func82 (by kernel_rfl) (by kernel_rfl) (by kernel_rfl) h

/-- 83: buttery/code.first -/
def sh_code_first (b_0 : Sl) (w : World) (R : Ending → World → Prop) : Prop :=
  ∃ I1 : Nat → Int → Int → World → Prop, (∃ k, I1 k 0 0 w) ∧ ∀ k1 (u_4 : Int) (x9 : Int) (w1 : World), I1 k1 u_4 x9 w1 →
  VIf (decide (x9 < ((b_0.len : Nat) : Int))) (
    VIx none b_0.base b_0.len x9 fun (a12 : Addr) =>
    VLd none w1 (Addr.add a12 ((Int.toNat x9) * 1)) [CT.int .u8] fun (v13 : Int) =>
    VSet x9 fun (i_5 : Int) =>
    VSet v13 fun (c_6 : Int) =>
    VIf ((i_5 == 10) || ((i_5 == 9) && (decide (c_6 > 1)))) (
      R (.returned (.tuple #[.int .u64 0, .int .i64 0])) w1
    ) (
      VCk none ((0 : Int) ≤ (IntKind.wrap .i64 (7 * i_5))) (
        VSet (bOr .u64 u_4 (IntKind.wrap .u64 ((IntKind.wrap .u64 (bAnd .u8 c_6 127)) * 2 ^ (min (Int.toNat (IntKind.wrap .i64 (7 * i_5))) (IntKind.bits .u64))))) fun (u_4' : Int) =>
        VIf (decide (c_6 < 128)) (
          VSet u_4' fun (v2 : Int) =>
          VSet (IntKind.wrap .i64 (i_5 + 1)) fun (v3 : Int) =>
          R (.returned (.tuple #[.int .u64 v2, .int .i64 v3])) w1
        ) (
          ∃ k', k' < k1 ∧ I1 k' u_4' (IntKind.wrap .i64 (x9 + 1)) w1
        )
      )
    )
  ) (
    R (.returned (.tuple #[.int .u64 0, .int .i64 0])) w1
  )
theorem sh_code_first_ok (b_0 : Sl) (w : World) (R : Ending → World → Prop) (h : sh_code_first b_0 w R) : Calls Try.prog 83 #[.slice b_0.base b_0.len b_0.cap] w R :=
  calls_of_sh (args := [.slice b_0.base b_0.len b_0.cap]) (.two .auto (.two .auto (.two (.two .auto (.one (.loop [(4, .int .u64 0), (9, .int .i64 0)] (.two .auto (.two (.two .auto .auto) (.two (.one (.two .auto (.two (.two .auto (.two (.two .auto .auto) .auto)) (.two .auto (.two .auto (.two (.two .auto .auto) .auto)))))) .auto)))))) (.two .auto .auto)))) Try.func83 (by kernel_rfl) (by kernel_rfl) (by kernel_rfl) h

/-- 84: (*buttery/code.rest).take -/
def sh_code_rest_take (r_0 : Option Addr) (n_1 : Int) (w : World) (R : Ending → World → Prop) : Prop :=
  VNN none r_0 fun (a7 : Addr) =>
  VLd none w a7 [CT.sl] fun (v9 : Sl) =>
  VCk none ((0 : Int) ≤ 0 ∧ (0 : Int) ≤ n_1 ∧ (n_1 : Int) ≤ ((v9.cap : Nat) : Int)) (
    VNN none r_0 fun (a14 : Addr) =>
    VLd none w a14 [CT.sl] fun (v16 : Sl) =>
    VCk none ((0 : Int) ≤ n_1 ∧ (n_1 : Int) ≤ ((v16.len : Nat) : Int) ∧ (((v16.len : Nat) : Int) : Int) ≤ ((v16.cap : Nat) : Int)) (
      VNN none r_0 fun (a19 : Addr) =>
      VSt none w a19 [.slice (cutB v16.base v16.cap 1 (Int.toNat n_1)) (v16.len - (Int.toNat n_1)) (v16.cap - (Int.toNat n_1))] fun (w1 : World) =>
      R (.returned (.slice (cutB v9.base v9.cap 1 0) ((Int.toNat n_1) - 0) (v9.cap - 0))) w1
    )
  )
theorem sh_code_rest_take_ok (r_0 : Option Addr) (n_1 : Int) (w : World) (R : Ending → World → Prop) (h : sh_code_rest_take r_0 n_1 w R) : Calls Try.prog 84 #[.pointer r_0, .int .i64 n_1] w R :=
  calls_of_sh (args := [.pointer r_0, .int .i64 n_1]) (.two .auto (.two .auto (.two .auto (.two .auto .auto)))) Try.func84 (by kernel_rfl) (by kernel_rfl) (by kernel_rfl) h

/-- 85: buttery/code.told of string -/
def sh_code_told' (r_0 : Option Addr) (v_1 : ByteArray) (ok_2 : Bool) (w : World) (R : Ending → World → Prop) : Prop :=
  ∃ Φ1 : World → Prop, (
    VIf (!ok_2) (
      VNN none r_0 fun (a11 : Addr) =>
      VLd none w a11 [CT.ptr] fun (v13 : Option Addr) =>
      VNN none v13 fun (a14 : Addr) =>
      VSt none w (Addr.add a14 1) [.bool true] fun (w1 : World) =>
      Φ1 w1
    ) (
      Φ1 w
    )
  ) ∧ ∀ (w2 : World), Φ1 w2 →
  VNN none r_0 fun (a17 : Addr) =>
  VLd none w2 a17 [CT.ptr] fun (v19 : Option Addr) =>
  VNN none v19 fun (a20 : Addr) =>
  VLd none w2 (Addr.add a20 1) [CT.bool] fun (v22 : Bool) =>
  VIf v22 (
    R (.returned (.string (ByteArray.mk #[]))) w2
  ) (
    R (.returned (.string v_1)) w2
  )
theorem sh_code_told'_ok (r_0 : Option Addr) (v_1 : ByteArray) (ok_2 : Bool) (w : World) (R : Ending → World → Prop) (h : sh_code_told' r_0 v_1 ok_2 w R) : Calls Try.prog 85 #[.pointer r_0, .string v_1, .bool ok_2] w R :=
  calls_of_sh (args := [.pointer r_0, .string v_1, .bool ok_2]) (.two .auto (.join [] (.two .auto (.two .auto .auto)) (.two (.two .auto (.two (.two .auto (.two .auto .auto)) .auto)) (.two .auto .auto)))) Try.func85 (by kernel_rfl) (by kernel_rfl) (by kernel_rfl) h

/-- 86: buttery/code.uvarint -/
def sh_code_uvarint (b_0 : Sl) (u_1 : Int) (w : World) (R : Ending → World → Prop) : Prop :=
  VCall none Try.prog 73 #[.slice b_0.base b_0.len b_0.cap] w (.slice none 0 0) fun (r7 : Sl) (w1 : World) =>
  ∃ I1 : Nat → Int → Sl → World → Prop, (∃ k, I1 k u_1 r7 w1) ∧ ∀ k1 (u_1 : Int) (out_5 : Sl) (w2 : World), I1 k1 u_1 out_5 w2 →
  VIf (decide (u_1 > 127)) (
    VNw none w2 (.cells #[.int .u8 (bOr .u8 (IntKind.wrap .u8 u_1) 128)] 5) fun (b16 : Nat) (w3 : World) =>
    VApp none w3 5 1 1 #[.int .u8 0] out_5.base out_5.len out_5.cap 1 (fun news => Seg w3 (some ⟨b16, 0, none⟩) 1 1 news) fun (l17 : Sl) (w4 : World) =>
    VSet (Int.fdiv u_1 (2 ^ 7)) fun (u_1' : Int) =>
    ∃ k', k' < k1 ∧ I1 k' u_1' l17 w4
  ) (
    VNw none w2 (.cells #[.int .u8 (IntKind.wrap .u8 u_1)] 5) fun (b21 : Nat) (w5 : World) =>
    VApp none w5 5 1 1 #[.int .u8 0] out_5.base out_5.len out_5.cap 1 (fun news => Seg w5 (some ⟨b21, 0, none⟩) 1 1 news) fun (l22 : Sl) (w6 : World) =>
    R (.returned (.slice l22.base l22.len l22.cap)) w6
  )
theorem sh_code_uvarint_ok (b_0 : Sl) (u_1 : Int) (w : World) (R : Ending → World → Prop) (h : sh_code_uvarint b_0 u_1 w R) : Calls Try.prog 86 #[.slice b_0.base b_0.len b_0.cap, .int .u64 u_1] w R :=
  calls_of_sh (args := [.slice b_0.base b_0.len b_0.cap, .int .u64 u_1]) (.two .auto (.two .auto (.two (.one (.loop [(1, .int .u64 0), (5, .slice none 0 0)] (.two (.two .auto (.two .auto .auto)) (.two (.one .auto) .auto)))) (.two .auto .auto)))) Try.func86 (by kernel_rfl) (by kernel_rfl) (by kernel_rfl) h

end Go.Proofs.Ytknohdgcigcmdaa
