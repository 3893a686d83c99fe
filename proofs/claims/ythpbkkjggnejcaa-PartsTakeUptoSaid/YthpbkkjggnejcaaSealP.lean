/-
  The sum of bytes, bit by bit. Plain: no program in sight.
-/
import Derived.Test.YthpbkkjggnejcaaEngW
import Derived.Laws.BitsLemmas
namespace Go.Proofs.Ythpbkkjggnejcaa

def poly : BitVec 32 := 0xEDB88320#32
/-- one bit gone on -/
def st (r : BitVec 32) : BitVec 32 := (r >>> 1) ^^^ (if r.getLsbD 0 then poly else 0#32)
def st8 (r : BitVec 32) : BitVec 32 := st (st (st (st (st (st (st (st r)))))))
/-- a byte gone on -/
def byte (r : BitVec 32) (b : UInt8) : BitVec 32 := st8 (r ^^^ BitVec.ofNat 32 b.toNat)
def crc (r : BitVec 32) (l : List UInt8) : BitVec 32 := l.foldl byte r
theorem st_xor (a b : BitVec 32) : st (a ^^^ b) = st a ^^^ st b := by
  unfold st
  rw [BitVec.getLsbD_xor, BitVec.ushiftRight_xor_distrib]
  cases a.getLsbD 0 <;> cases b.getLsbD 0 <;> simp
  · rw [BitVec.xor_assoc]
  · rw [BitVec.xor_assoc, BitVec.xor_comm (b >>> 1), BitVec.xor_assoc]
  · rw [BitVec.xor_assoc, ← BitVec.xor_assoc poly, BitVec.xor_comm poly, BitVec.xor_assoc (b >>> 1), BitVec.xor_self, BitVec.xor_zero]
theorem st8_xor (a b : BitVec 32) : st8 (a ^^^ b) = st8 a ^^^ st8 b := by unfold st8; simp only [st_xor]
theorem crc_app (r : BitVec 32) (a b : List UInt8) : crc r (a ++ b) = crc (crc r a) b := by unfold crc; rw [List.foldl_append]
/-! the program's numbers -/
theorem w32u (n : Int) : IntKind.wrap .u32 n = n % 4294967296 := IntKind.wrap_u32 n
theorem bXor32 (a b : BitVec 32) : bXor .u32 ((a.toNat : Nat) : Int) ((b.toNat : Nat) : Int) = (((a ^^^ b).toNat : Nat) : Int) := by
  unfold bXor
  have h1 : (BitVec.ofInt (IntKind.bits .u32) ((a.toNat : Nat) : Int) ^^^ BitVec.ofInt (IntKind.bits .u32) ((b.toNat : Nat) : Int)).toNat = (a ^^^ b).toNat := by
    show (BitVec.ofInt 32 ((a.toNat : Nat) : Int) ^^^ BitVec.ofInt 32 ((b.toNat : Nat) : Int)).toNat = _
    rw [BitVec.ofInt_natCast, BitVec.ofInt_natCast, BitVec.ofNat_toNat, BitVec.ofNat_toNat]
    simp
  rw [h1, w32u]
  have := (a ^^^ b).isLt
  omega
theorem bAnd32_1 (a : BitVec 32) : bAnd .u32 ((a.toNat : Nat) : Int) 1 = if a.getLsbD 0 then 1 else 0 := by
  unfold bAnd
  have h1 : (BitVec.ofInt (IntKind.bits .u32) ((a.toNat : Nat) : Int) &&& BitVec.ofInt (IntKind.bits .u32) 1).toNat = a.toNat % 2 := by
    show (BitVec.ofInt 32 ((a.toNat : Nat) : Int) &&& BitVec.ofInt 32 1).toNat = _
    rw [BitVec.ofInt_natCast, BitVec.ofNat_toNat, BitVec.toNat_and]
    rw [show (BitVec.ofInt 32 1).toNat = 2 ^ 1 - 1 by decide, Nat.and_two_pow_sub_one_eq_mod]
    simp
  rw [h1, w32u]
  have h2 : a.getLsbD 0 = decide (a.toNat % 2 = 1) := by
    rw [← BitVec.testBit_toNat, Nat.testBit_zero]
  rw [h2]
  by_cases h : a.toNat % 2 = 1
  · rw [if_pos (by simpa using h), h]; rfl
  · rw [if_neg (by simpa using h), show a.toNat % 2 = 0 by omega]; rfl
theorem shr32_1 (a : BitVec 32) : Int.fdiv ((a.toNat : Nat) : Int) (2 ^ 1) = (((a >>> 1).toNat : Nat) : Int) := by
  rw [Int.fdiv_eq_ediv_of_nonneg _ (by omega), BitVec.toNat_ushiftRight, Nat.shiftRight_eq_div_pow]
  rfl
end Go.Proofs.Ythpbkkjggnejcaa
