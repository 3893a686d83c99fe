/-
  Bytes as cells; numbers in sevens of bits, written and read. Plain: no program in sight.
-/
import Derived.Test.YtknohdgcigcmdaaEngW
import Derived.Laws.BitsLemmas
namespace Go.Proofs.Ytknohdgcigcmdaa
open Go.RowKit

/-- bytes as cells -/
def bc (l : List UInt8) : List Value := l.map fun b => .int .u8 ((b.toNat : Nat) : Int)
theorem bc_len (l : List UInt8) : (bc l).length = l.length := by simp [bc]
theorem bc_app (a b : List UInt8) : bc (a ++ b) = bc a ++ bc b := by simp [bc]
theorem bc_one (l : List UInt8) : (bc l).all Value.oneCell' = true := by simp [bc, Value.oneCell']
theorem bc_str (s : ByteArray) : strCells s = bc s.data.toList := rfl
theorem bc_drop (l : List UInt8) (n : Nat) : (bc l).drop n = bc (l.drop n) := by simp [bc]
theorem bc_take (l : List UInt8) (n : Nat) : (bc l).take n = bc (l.take n) := by simp [bc]
theorem bc_inj : ∀ {a b : List UInt8}, bc a = bc b → a = b
  | [], [], _ => rfl
  | [], _ :: _, h => by simp [bc] at h
  | _ :: _, [], h => by simp [bc] at h
  | x :: a, y :: b, h => by
    simp only [bc, List.map_cons, List.cons.injEq, Value.int.injEq, true_and] at h
    rw [bc_inj (a := a) (b := b) h.2, UInt8.toNat_inj.1 (by omega : x.toNat = y.toNat)]

theorem ints_bc : ∀ (L : List Int), (∀ x ∈ L, 0 ≤ x ∧ x ≤ 255) → ∃ l : List UInt8, l.length = L.length ∧ L.map (Value.int .u8) = bc l
  | [], _ => ⟨[], rfl, rfl⟩
  | x :: L, h => by
    obtain ⟨l, h1, h2⟩ := ints_bc L (fun y hy => h y (by simp [hy]))
    have hx := h x (by simp)
    refine ⟨UInt8.ofNat x.toNat :: l, by simp [h1], ?_⟩
    have : (UInt8.ofNat x.toNat).toNat = x.toNat := by simp; omega
    simp only [bc, List.map_cons, this] at h2 ⊢
    rw [h2, Int.toNat_of_nonneg hx.1]

/-! bits -/
theorem wrap64 (n : Int) : IntKind.wrap .i64 n = (n + 9223372036854775808) % 18446744073709551616 - 9223372036854775808 := IntKind.wrap_i64 n
theorem wrap8 (n : Int) : IntKind.wrap .u8 n = n % 256 := IntKind.wrap_u8 n
theorem bXor_zero64 (x : Int) : bXor .u64 x 0 = x % 18446744073709551616 := by
  unfold bXor
  have h1 : (BitVec.ofInt (IntKind.bits .u64) x ^^^ BitVec.ofInt (IntKind.bits .u64) 0).toNat = (x % 18446744073709551616).toNat := by
    show (BitVec.ofInt 64 x ^^^ BitVec.ofInt 64 0).toNat = _
    rw [show BitVec.ofInt 64 0 = 0#64 by decide, BitVec.xor_zero, BitVec.toNat_ofInt]
    rfl
  rw [h1, w64u]
  omega
theorem bXor_ones64 (x : Int) : bXor .u64 x 18446744073709551615 = 18446744073709551615 - x % 18446744073709551616 := by
  unfold bXor
  have h1 : (BitVec.ofInt (IntKind.bits .u64) x ^^^ BitVec.ofInt (IntKind.bits .u64) 18446744073709551615).toNat = 18446744073709551615 - (x % 18446744073709551616).toNat := by
    show (BitVec.ofInt 64 x ^^^ BitVec.ofInt 64 18446744073709551615).toNat = _
    rw [show BitVec.ofInt 64 18446744073709551615 = BitVec.allOnes 64 by decide, BitVec.xor_allOnes, BitVec.toNat_not, BitVec.toNat_ofInt]
    rfl
  rw [h1, w64u]
  omega
theorem bXor_zero63 (x : Int) (h : 0 ≤ x ∧ x < 9223372036854775808) : bXor .i64 x 0 = x := by
  unfold bXor
  have h1 : (BitVec.ofInt (IntKind.bits .i64) x ^^^ BitVec.ofInt (IntKind.bits .i64) 0).toNat = (x % 18446744073709551616).toNat := by
    show (BitVec.ofInt 64 x ^^^ BitVec.ofInt 64 0).toNat = _
    rw [show BitVec.ofInt 64 0 = 0#64 by decide, BitVec.xor_zero, BitVec.toNat_ofInt]
    rfl
  rw [h1, wrap64]
  omega
theorem bXor_ones63 (x : Int) (h : 0 ≤ x ∧ x < 9223372036854775808) : bXor .i64 x (-1) = -1 - x := by
  unfold bXor
  have h1 : (BitVec.ofInt (IntKind.bits .i64) x ^^^ BitVec.ofInt (IntKind.bits .i64) (-1)).toNat = 18446744073709551615 - (x % 18446744073709551616).toNat := by
    show (BitVec.ofInt 64 x ^^^ BitVec.ofInt 64 (-1)).toNat = _
    rw [show BitVec.ofInt 64 (-1) = BitVec.allOnes 64 by decide, BitVec.xor_allOnes, BitVec.toNat_not, BitVec.toNat_ofInt]
    rfl
  rw [h1, wrap64]
  omega
theorem or128 : ∀ x : Fin 256, bOr .u8 ((x.val : Nat) : Int) 128 = (x.val % 128 + 128 : Nat) := by decide +kernel
theorem and127 : ∀ x : Fin 256, bAnd .u8 ((x.val : Nat) : Int) 127 = (x.val % 128 : Nat) := by decide +kernel
theorem and1u (x : Int) : bAnd .u64 x 1 = x % 2 := by
  unfold bAnd
  have h1 : (BitVec.ofInt (IntKind.bits .u64) x &&& BitVec.ofInt (IntKind.bits .u64) 1).toNat = (x % 18446744073709551616).toNat % 2 := by
    show (BitVec.ofInt 64 x &&& BitVec.ofInt 64 1).toNat = _
    rw [BitVec.toNat_and, BitVec.toNat_ofInt, BitVec.toNat_ofInt]
    rw [show ((1 : Int) % ((2 ^ 64 : Nat) : Int)).toNat = 2 ^ 1 - 1 by decide, Nat.and_two_pow_sub_one_eq_mod]
    rfl
  rw [h1, w64u]
  omega
theorem bOr_add (i a b : Nat) (hb : b < 2 ^ i) (h : 2 ^ i * a + b < 18446744073709551616) : bOr .u64 (b : Int) ((2 ^ i * a : Nat) : Int) = (2 ^ i * a + b : Nat) := by
  unfold bOr
  have h1 : (BitVec.ofInt (IntKind.bits .u64) (b : Int) ||| BitVec.ofInt (IntKind.bits .u64) ((2 ^ i * a : Nat) : Int)).toNat = 2 ^ i * a + b := by
    show (BitVec.ofInt 64 (b : Int) ||| BitVec.ofInt 64 ((2 ^ i * a : Nat) : Int)).toNat = _
    rw [BitVec.toNat_or, BitVec.toNat_ofInt, BitVec.toNat_ofInt, Nat.two_pow_add_eq_or_of_lt hb]
    rw [← Int.natCast_emod, ← Int.natCast_emod, Int.toNat_natCast, Int.toNat_natCast, Nat.mod_eq_of_lt (by omega), Nat.mod_eq_of_lt (by omega), Nat.or_comm]
  rw [h1, w64u]
  omega

/-! numbers in sevens of bits -/
def enc (u : Nat) : List UInt8 := if u < 128 then [UInt8.ofNat u] else UInt8.ofNat (u % 128 + 128) :: enc (u / 128)
decreasing_by omega
theorem enc_small {u : Nat} (h : u < 128) : enc u = [UInt8.ofNat u] := by rw [enc, if_pos h]
theorem enc_big {u : Nat} (h : ¬ u < 128) : enc u = UInt8.ofNat (u % 128 + 128) :: enc (u / 128) := by rw [enc, if_neg h]
theorem enc_len : ∀ (k : Nat) (u : Nat), u < 2 ^ (7 * (k + 1)) → (enc u).length ≤ k + 1
  | 0, u, h => by rw [enc_small (by simpa using h)]; simp
  | k + 1, u, h => by
    by_cases hu : u < 128
    · rw [enc_small hu]; simp
    · rw [enc_big hu]
      have := enc_len k (u / 128) (Nat.div_lt_of_lt_mul (by rw [show 7 * (k + 1 + 1) = 7 + 7 * (k + 1) by omega, Nat.pow_add] at h; simpa using h))
      simp only [List.length_cons]; omega
theorem enc_len10 {u : Nat} (h : u < 18446744073709551616) : (enc u).length ≤ 10 := enc_len 9 u (by omega)
theorem enc_pos (u : Nat) : 0 < (enc u).length := by
  by_cases hu : u < 128
  · rw [enc_small hu]; simp
  · rw [enc_big hu]; simp
theorem ofNat8 {n : Nat} (h : n < 256) : (UInt8.ofNat n).toNat = n := by simp; omega
theorem enc_last : ∀ (k u : Nat), u ≤ k → u ≠ 0 → (enc u).getD ((enc u).length - 1) 0 ≠ 0
  | 0, u, h, h0 => by omega
  | k + 1, u, h, h0 => by
    by_cases hu : u < 128
    · rw [enc_small hu]
      intro he
      have : (UInt8.ofNat u).toNat = 0 := by simpa using congrArg UInt8.toNat he
      rw [ofNat8 (by omega)] at this
      omega
    · rw [enc_big hu]
      have h1 := enc_last k (u / 128) (by omega) (by omega)
      have h2 := enc_pos (u / 128)
      obtain ⟨m, hm⟩ : ∃ m, (enc (u / 128)).length = m + 1 := ⟨(enc (u / 128)).length - 1, by omega⟩
      rw [hm] at h1
      simp only [List.length_cons, hm, Nat.add_sub_cancel] at h1 ⊢
      simpa using h1

/-- a number read: what it is, and of how many bytes; none: (0, 0) -/
def go : List UInt8 → Nat → Nat → Nat × Nat
  | [], _, _ => (0, 0)
  | c :: r, i, u => if i = 10 ∨ (i = 9 ∧ 1 < c.toNat) then (0, 0) else if c.toNat < 128 then (u + 2 ^ (7 * i) * c.toNat, i + 1) else go r (i + 1) (u + 2 ^ (7 * i) * (c.toNat % 128))
/-- it, and what is left; each number has one row of bytes -/
def rd (l : List UInt8) : Option (Nat × List UInt8) :=
  if (go l 0 0).2 = 0 ∨ (1 < (go l 0 0).2 ∧ l.getD ((go l 0 0).2 - 1) 0 = 0) then none else some ((go l 0 0).1, l.drop (go l 0 0).2)

theorem pow7 (i : Nat) : 2 ^ (7 * (i + 1)) = 2 ^ (7 * i) * 128 := by rw [show 7 * (i + 1) = 7 * i + 7 by omega, Nat.pow_add]
theorem pow64 (i : Nat) (h : i ≤ 9) : 2 ^ (7 * i) * 2 ^ (64 - 7 * i) = 18446744073709551616 := by
  rw [← Nat.pow_add, show 7 * i + (64 - 7 * i) = 64 by omega]
theorem pow57 (i : Nat) (h : i < 9) : 2 ^ (64 - 7 * i) = 128 * 2 ^ (64 - 7 * (i + 1)) := by
  rw [show 64 - 7 * i = 7 + (64 - 7 * (i + 1)) by omega, Nat.pow_add]

theorem go_enc (t : List UInt8) : ∀ (k v i u : Nat), v ≤ k → i ≤ 9 → v < 2 ^ (64 - 7 * i) → go (enc v ++ t) i u = (u + 2 ^ (7 * i) * v, i + (enc v).length)
  | k, v, i, u, hk, hi, hv => by
    have hp : i = 9 → v ≤ 1 := fun h => by subst h; have : 2 ^ (64 - 7 * 9) = 2 := rfl; omega
    by_cases hu : v < 128
    · rw [enc_small hu]
      simp only [List.cons_append, go, ofNat8 (show v < 256 by omega), List.length_singleton]
      rw [if_neg (by omega), if_pos hu]
    · have hi9 : i < 9 := by omega
      rw [enc_big hu]
      simp only [List.cons_append, go, ofNat8 (show v % 128 + 128 < 256 by omega), List.length_cons]
      rw [if_neg (by omega), if_neg (by omega)]
      cases k with
      | zero => omega
      | succ k =>
        rw [go_enc t k (v / 128) (i + 1) _ (by omega) (by omega) (Nat.div_lt_of_lt_mul (by rw [← pow57 i hi9]; exact hv))]
        rw [pow7, show (v % 128 + 128) % 128 = v % 128 by omega]
        have : 2 ^ (7 * i) * (v % 128) + 2 ^ (7 * i) * 128 * (v / 128) = 2 ^ (7 * i) * v := by
          rw [Nat.mul_assoc, ← Nat.mul_add, Nat.mod_add_div]
        rw [Prod.mk.injEq]
        exact ⟨by omega, by omega⟩

theorem rd_enc (v : Nat) (h : v < 18446744073709551616) (t : List UInt8) : rd (enc v ++ t) = some (v, t) := by
  have hg := go_enc t v v 0 0 (Nat.le_refl _) (by omega) (by simpa using h)
  simp only [Nat.mul_zero, Nat.pow_zero, Nat.one_mul, Nat.zero_add] at hg
  unfold rd
  rw [hg]
  have hp := enc_pos v
  rw [if_neg]
  · simp
  · rintro (h1 | ⟨h1, h2⟩)
    · simp only at h1; omega
    · simp only at h1 h2
      have hv : v ≠ 0 := by
        rintro rfl
        rw [enc_small (by omega)] at h1
        simp at h1
      apply enc_last v v (Nat.le_refl _) hv
      rw [List.getD_eq_getElem?_getD, List.getElem?_append_left (by omega)] at h2
      rwa [List.getD_eq_getElem?_getD]

theorem go_ok : ∀ (l : List UInt8) (i u x n : Nat), i ≤ 10 → go l i u = (x, n) → n ≠ 0 → i < n ∧ n ≤ 10 ∧ n - i ≤ l.length ∧ ∃ v, v < 2 ^ (64 - 7 * i) ∧ x = u + 2 ^ (7 * i) * v ∧ (l.getD (n - 1 - i) 0 ≠ 0 → l.take (n - i) = enc v ∧ v ≠ 0) ∧ (n = i + 1 → l.take 1 = enc v)
  | [], i, u, x, n, hi, h, hn => by
    simp only [go, Prod.mk.injEq] at h
    omega
  | c :: r, i, u, x, n, hi, h, hn => by
    simp only [go] at h
    have hc := UInt8.toNat_lt c
    split at h
    · simp only [Prod.mk.injEq] at h; omega
    · rename_i h10
      split at h
      · rename_i h128
        simp only [Prod.mk.injEq] at h
        obtain ⟨rfl, rfl⟩ := h
        have he : enc c.toNat = [c] := by rw [enc_small h128]; simp
        refine ⟨by omega, by omega, by simp, c.toNat, ?_, rfl, ?_, fun _ => by rw [he]; simp⟩
        · by_cases h9 : i = 9
          · subst h9; have : 2 ^ (64 - 7 * 9) = 2 := rfl; omega
          · have : 2 ^ 8 ≤ 2 ^ (64 - 7 * i) := Nat.pow_le_pow_right (by omega) (by omega)
            omega
        · intro h0
          rw [he]
          refine ⟨by simp [show i + 1 - i = 1 by omega], fun hz => h0 ?_⟩
          rw [show i + 1 - 1 - i = 0 by omega]
          exact UInt8.toNat_inj.1 (by simpa using hz)
      · rename_i h128
        obtain ⟨h1, h2, h3, v, hv, hx, hl, hone⟩ := go_ok r (i + 1) _ x n (by omega) h hn
        have hi9 : i < 9 := by
          rcases Nat.lt_or_ge i 9 with h | h
          · exact h
          · exfalso; omega
        refine ⟨by omega, h2, by simp only [List.length_cons]; omega, c.toNat % 128 + 128 * v, ?_, ?_, ?_, fun h => by omega⟩
        · rw [pow57 i hi9]; omega
        · rw [hx, pow7, Nat.mul_add, Nat.mul_assoc, Nat.add_assoc]
        · intro h0
          have hd : (c :: r).getD (n - 1 - i) 0 = r.getD (n - 1 - (i + 1)) 0 := by
            rw [show n - 1 - i = (n - 1 - (i + 1)) + 1 by omega]; rfl
          rw [hd] at h0
          obtain ⟨h4, h5⟩ := hl h0
          rw [enc_big (by omega), show (c.toNat % 128 + 128 * v) % 128 + 128 = c.toNat by omega, show (c.toNat % 128 + 128 * v) / 128 = v by omega, ← h4, show n - i = (n - (i + 1)) + 1 by omega, List.take_succ_cons]
          exact ⟨by simp, by omega⟩

theorem rd_ok {l : List UInt8} {v : Nat} {t : List UInt8} (h : rd l = some (v, t)) : v < 18446744073709551616 ∧ l = enc v ++ t := by
  unfold rd at h
  split at h
  · cases h
  · rename_i hn
    simp only [Option.some.injEq, Prod.mk.injEq] at h
    obtain ⟨rfl, rfl⟩ := h
    generalize hg : go l 0 0 = p at *
    obtain ⟨x, n⟩ := p
    simp only at hn ⊢
    obtain ⟨h1, h2, h3, v, hv, hx, hl, hone⟩ := go_ok l 0 0 x n (by omega) hg (by omega)
    simp only [Nat.mul_zero, Nat.pow_zero, Nat.one_mul, Nat.zero_add, Nat.sub_zero] at hx hv hl hone
    subst hx
    refine ⟨hv, ?_⟩
    have : l.take n = enc x := by
      by_cases h1n : n = 1
      · subst h1n; exact hone rfl
      · exact (hl (by intro h0; exact hn (.inr ⟨by omega, h0⟩))).1
    rw [← this, List.take_append_drop]

/-! numbers with a sign -/
def zz (n : Int) : Nat := if 0 ≤ n then (2 * n).toNat else (-2 * n - 1).toNat
def unzz (u : Nat) : Int := if u % 2 = 0 then (u / 2 : Nat) else -((u / 2 : Nat) : Int) - 1
theorem zz_lt {n : Int} (h : -9223372036854775808 ≤ n ∧ n ≤ 9223372036854775807) : zz n < 18446744073709551616 := by unfold zz; split <;> omega
theorem unzz_zz (n : Int) : unzz (zz n) = n := by unfold unzz zz; split <;> split <;> omega
theorem zz_unzz (u : Nat) : zz (unzz u) = u := by unfold unzz zz; split <;> split <;> omega
end Go.Proofs.Ytknohdgcigcmdaa
