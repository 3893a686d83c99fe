/-
  Package seal: a sum gone on; the document's sums.
-/
import Derived.Test.YthpbkkjggnejcaaSealA
namespace Go.Proofs.Ythpbkkjggnejcaa
open Go.RowKit
set_option maxRecDepth 100000

theorem byte_shr (c : UInt8) (k : Nat) (hk : k ≤ 8) : IntKind.wrap .u32 (Int.fdiv ((c.toNat : Nat) : Int) (2 ^ (min (Int.toNat (k : Int)) (IntKind.bits .u8)))) = (((BitVec.ofNat 32 c.toNat >>> k).toNat : Nat) : Int) := by
  have hb : IntKind.bits .u8 = 8 := rfl
  have hc := UInt8.toNat_lt c
  have hp : ((2 : Int) ^ k) = ((2 ^ k : Nat) : Int) := by rw [Int.natCast_pow]; rfl
  have hle : c.toNat / 2 ^ k ≤ c.toNat := Nat.div_le_self _ _
  rw [hb, Int.toNat_natCast, Nat.min_eq_left hk, Int.fdiv_eq_ediv_of_nonneg _ (by rw [hp]; exact Int.natCast_nonneg _), hp, BitVec.toNat_ushiftRight, Nat.shiftRight_eq_div_pow, BitVec.toNat_ofNat,
    Nat.mod_eq_of_lt (show c.toNat < 2 ^ 32 by omega), show ((c.toNat : Nat) : Int) / ((2 ^ k : Nat) : Int) = ((c.toNat / 2 ^ k : Nat) : Int) from (Int.natCast_ediv _ _).symm, w32u]
  generalize c.toNat / 2 ^ k = d at hle
  omega

theorem on_spec (r : BitVec 32) (s : Sl) (l : List UInt8) (w : World) (h : Seg w s.base s.len 1 (bc l)) (hl : l.length < 9223372036854775807) :
    Calls Try.prog 45 #[.int .u32 ((r.toNat : Nat) : Int), .slice s.base s.len s.cap] w fun e w' => e = .returned (.int .u32 (((crc r l).toNat : Nat) : Int)) ∧ w' = w := by
  refine sh_butteryref02_on_ok _ _ _ _ ?_
  unfold sh_butteryref02_on
  have hn : s.len = l.length := by have := h.1; rw [bc_len] at this; omega
  refine ⟨fun k x i W => ∃ j : Nat, i = (j : Int) ∧ x = (((crc r (l.take j)).toNat : Nat) : Int) ∧ j ≤ l.length ∧ k = l.length - j ∧ W = w, ⟨_, 0, rfl, rfl, by omega, rfl, rfl⟩, ?_⟩
  rintro k x i w1 ⟨j, rfl, rfl, hj, rfl, rfl⟩
  refine VIf.mk (fun hc => ?_) (fun hc => ?_)
  · have hjl : j < l.length := by simp at hc; omega
    obtain ⟨a, ha, hrd⟩ := seg_byte h hjl
    generalize hb : BitVec.ofNat 32 l[j].toNat = b
    generalize hr0 : crc r (l.take j) = r0
    refine ⟨fun k x i W => ∃ m : Nat, i = (m : Int) ∧ x = (((stn m (r0 ^^^ b) ^^^ (b >>> m)).toNat : Nat) : Int) ∧ m ≤ 8 ∧ k = 8 - m ∧ W = w1, ⟨_, 0, rfl, by simp [stn, BitVec.xor_assoc], by omega, rfl, rfl⟩, ?_⟩
    rintro k x i w2 ⟨m, rfl, rfl, hm, rfl, rfl⟩
    refine VIf.mk (fun hc2 => ?_) (fun hc2 => ?_)
    · have hm8 : m < 8 := by simp at hc2; omega
      generalize hc0 : stn m (r0 ^^^ b) = c
      have hst : stn (m + 1) (r0 ^^^ b) ^^^ (b >>> (m + 1)) = ((c ^^^ (b >>> m)) >>> 1) ^^^ (if c.getLsbD 0 then poly else 0#32) := by
        show st (stn m (r0 ^^^ b)) ^^^ _ = _
        rw [hc0]
        unfold st
        rw [BitVec.ushiftRight_xor_distrib, ← BitVec.shiftRight_add, BitVec.xor_assoc, BitVec.xor_assoc, BitVec.xor_comm (b >>> (m + 1))]
      refine ⟨fun y W => y = (((stn (m + 1) (r0 ^^^ b) ^^^ (b >>> (m + 1))).toNat : Nat) : Int) ∧ W = w2, ?_, ?_⟩
      · rw [ha]
        refine VIx.i (by omega) (by omega) (VLd.i1 _ hrd (VCk.i (by omega) ?_))
        rw [byte_shr _ _ hm, hb, bXor32, BitVec.xor_assoc, BitVec.xor_self, BitVec.xor_zero, bAnd32_1, shr32_1]
        refine VSet.i (VSet.i (VIf.mk (fun h1 => VSet.i ⟨?_, rfl⟩) (fun h1 => ⟨?_, rfl⟩)))
        · have hg : c.getLsbD 0 = true := by
            cases hg : c.getLsbD 0 with
            | true => rfl
            | false => rw [hg] at h1; exact absurd h1 (by decide)
          rw [hst, if_pos hg, show (3988292384 : Int) = ((poly.toNat : Nat) : Int) by decide, bXor32]
        · have hg : c.getLsbD 0 = false := by
            cases hg : c.getLsbD 0 with
            | false => rfl
            | true => rw [hg] at h1; exact absurd h1 (by decide)
          rw [hst, if_neg (by rw [hg]; simp), BitVec.xor_zero]
      · rintro y w3 ⟨rfl, rfl⟩
        rw [w64 (show -9223372036854775808 ≤ (m : Int) + 1 ∧ (m : Int) + 1 ≤ 9223372036854775807 by omega)]
        exact VSet.i ⟨_, by omega, m + 1, by omega, rfl, by omega, rfl, rfl⟩
    · have : m = 8 := by simp at hc2; omega
      subst this
      rw [w64 (show -9223372036854775808 ≤ (j : Int) + 1 ∧ (j : Int) + 1 ≤ 9223372036854775807 by omega)]
      refine VSet.i ⟨_, by omega, j + 1, by omega, ?_, by omega, rfl, rfl⟩
      have hz : b >>> 8 = 0#32 := by
        apply BitVec.eq_of_toNat_eq
        rw [BitVec.toNat_ushiftRight, Nat.shiftRight_eq_div_pow, ← hb, BitVec.toNat_ofNat]
        have := UInt8.toNat_lt l[j]
        rw [Nat.mod_eq_of_lt (by omega)]
        simp; omega
      rw [hz, BitVec.xor_zero, List.take_succ_eq_append_getElem hjl, crc_app, hr0]
      show _ = (((byte r0 l[j]).toNat : Nat) : Int)
      unfold byte
      rw [hb]
      rfl
  · have hjl : j = l.length := by simp at hc; omega
    subst hjl
    rw [List.take_length]
    exact VSet.i ⟨rfl, rfl⟩
end Go.Proofs.Ythpbkkjggnejcaa
