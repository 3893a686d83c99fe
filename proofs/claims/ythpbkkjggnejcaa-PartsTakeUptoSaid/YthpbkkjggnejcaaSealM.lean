/-
  Frames, and what a burst of turned bits does to the sum. Plain: no program in sight.
-/
import Derived.Test.YthpbkkjggnejcaaSealC
namespace Go.Proofs.Ythpbkkjggnejcaa
open Go.RowKit
set_option maxRecDepth 100000

/-! bit by bit -/
theorem st_zero : st 0#32 = 0#32 := by decide
theorem st_ker {x : BitVec 32} (h : st x = 0#32) : x = 0#32 := by
  have h31 : x.getLsbD 0 = false := by
    have := congrArg (fun y => BitVec.getLsbD y 31) h
    unfold st at this
    simp only [BitVec.getLsbD_xor, BitVec.getLsbD_ushiftRight] at this
    cases hx : x.getLsbD 0 with
    | false => rfl
    | true =>
      rw [hx] at this
      have h1 : x.getLsbD (1 + 31) = false := BitVec.getLsbD_of_ge _ _ (by omega)
      rw [h1] at this
      exact absurd this (by decide)
  unfold st at h
  rw [h31] at h
  simp only [Bool.false_eq_true, if_false, BitVec.xor_zero] at h
  apply BitVec.eq_of_getLsbD_eq
  intro i hi
  by_cases h0 : i = 0
  · subst h0; rw [h31]; simp
  · have := congrArg (fun y => BitVec.getLsbD y (i - 1)) h
    simp only [BitVec.getLsbD_ushiftRight] at this
    rw [show 1 + (i - 1) = i by omega] at this
    simpa using this
theorem stn_st (n : Nat) (x : BitVec 32) : stn n (st x) = stn (n + 1) x := by
  induction n with
  | zero => rfl
  | succ n ih => show st (stn n (st x)) = _; rw [ih]; rfl
theorem stn_ker : ∀ {n : Nat} {x : BitVec 32}, stn n x = 0#32 → x = 0#32
  | 0, x, h => h
  | n + 1, x, h => stn_ker (n := n) (st_ker h)
theorem stn_add (n m : Nat) (x : BitVec 32) : stn (n + m) x = stn m (stn n x) := by
  induction m with
  | zero => rfl
  | succ m ih => rw [← Nat.add_assoc]; show st _ = st _; rw [ih]

def b1 (b : Bool) : BitVec 32 := if b then 1#32 else 0#32
def runB (r : BitVec 32) (l : List Bool) : BitVec 32 := l.foldl (fun r b => st (r ^^^ b1 b)) r
theorem runB_app (r : BitVec 32) (a b : List Bool) : runB r (a ++ b) = runB (runB r a) b := by unfold runB; rw [List.foldl_append]
theorem b1_xor (a b : Bool) : b1 (a ^^ b) = b1 a ^^^ b1 b := by cases a <;> cases b <;> rfl
theorem runB_xor : ∀ (l : List (Bool × Bool)) (a b : BitVec 32), runB (a ^^^ b) (l.map fun p => p.1 ^^ p.2) = runB a (l.map (·.1)) ^^^ runB b (l.map (·.2))
  | [], a, b => rfl
  | (x, y) :: l, a, b => by
    show runB (st ((a ^^^ b) ^^^ b1 (x ^^ y))) (l.map fun p => p.1 ^^ p.2) = runB (st (a ^^^ b1 x)) (l.map (·.1)) ^^^ runB (st (b ^^^ b1 y)) (l.map (·.2))
    rw [← runB_xor l, ← st_xor, b1_xor]
    congr 2
    rw [BitVec.xor_assoc, BitVec.xor_assoc, ← BitVec.xor_assoc b, BitVec.xor_comm b (b1 x), BitVec.xor_assoc (b1 x)]
theorem runB_zeros (n : Nat) (r : BitVec 32) : runB r (List.replicate n false) = stn n r := by
  induction n generalizing r with
  | zero => rfl
  | succ n ih =>
    show runB (st (r ^^^ b1 false)) (List.replicate n false) = _
    rw [ih, show r ^^^ b1 false = r from BitVec.xor_zero, stn_st]

def pack : List Bool → BitVec 32
  | [] => 0#32
  | b :: r => (pack r <<< 1) ^^^ b1 b
theorem b1_bit (b : Bool) (i : Nat) : (b1 b).getLsbD i = (b && decide (i = 0)) := by
  cases b
  · simp [b1]
  · simp only [b1, if_true, Bool.true_and]
    rw [BitVec.getLsbD_one]; simp
theorem pack_bit : ∀ (l : List Bool) (i : Nat), i < 32 → (pack l).getLsbD i = l.getD i false
  | [], i, h => by simp [pack]
  | b :: r, i, h => by
    simp only [pack, BitVec.getLsbD_xor, BitVec.getLsbD_shiftLeft, b1_bit]
    cases i with
    | zero => simp
    | succ i => simp [pack_bit r i (by omega), h]
theorem st_shift {x : BitVec 32} (h : x.getLsbD 31 = false) : st (x <<< 1) = x := by
  have h0 : (x <<< 1).getLsbD 0 = false := by simp
  unfold st
  rw [h0]
  simp only [Bool.false_eq_true, if_false, BitVec.xor_zero]
  apply BitVec.eq_of_getLsbD_eq
  intro i hi
  rw [BitVec.getLsbD_ushiftRight, BitVec.getLsbD_shiftLeft]
  by_cases h31 : i = 31
  · subst h31; rw [h]; simp
  · simp only [show 1 + i < 32 by omega, decide_true, Bool.true_and, show ¬ (1 + i < 1) by omega, decide_false, Bool.not_false]
    rw [show 1 + i - 1 = i by omega]
theorem runB_pack : ∀ (l : List Bool) (r : BitVec 32), l.length ≤ 32 → runB r l = stn l.length (r ^^^ pack l)
  | [], r, h => by show r = r ^^^ 0#32; rw [BitVec.xor_zero]
  | b :: l, r, h => by
    simp only [List.length_cons] at h
    show runB (st (r ^^^ b1 b)) l = _
    rw [runB_pack l _ (by omega)]
    have h31 : (pack l).getLsbD 31 = false := by
      rw [pack_bit _ _ (by omega), List.getD_eq_getElem?_getD, List.getElem?_eq_none (by omega)]; rfl
    have : st (r ^^^ b1 b) ^^^ pack l = st (r ^^^ pack (b :: l)) := by
      have h1 : pack l = st (pack l <<< 1) := (st_shift h31).symm
      have h2 : st (r ^^^ b1 b) ^^^ pack l = st (r ^^^ b1 b) ^^^ st (pack l <<< 1) := by rw [← h1]
      rw [h2, ← st_xor]
      simp only [pack]
      rw [BitVec.xor_assoc, BitVec.xor_comm (b1 b)]
    rw [this, stn_st]; rfl
theorem pack_ker {l : List Bool} (h : l.length ≤ 32) (hp : pack l = 0#32) : ∀ i, i < l.length → l.getD i false = false := by
  intro i hi
  rw [← pack_bit l i (by omega), hp]; simp
/-- a burst is not carried to nothing -/
theorem burst_ne (a c : Nat) (m : List Bool) (hm : m.length ≤ 32) (i : Nat) (hi : i < m.length) (ht : m.getD i false = true) :
    runB 0#32 (List.replicate a false ++ m ++ List.replicate c false) ≠ 0#32 := by
  intro h
  rw [runB_app, runB_app, runB_zeros, runB_zeros, runB_pack m _ hm] at h
  have h1 := stn_ker (stn_ker h)
  have h2 : stn a 0#32 = 0#32 := by
    clear h h1
    induction a with
    | zero => rfl
    | succ a ih => show st (stn a 0#32) = _; rw [ih, st_zero]
  rw [h2, BitVec.zero_xor] at h1
  rw [pack_ker hm h1 i hi] at ht
  cases ht

/-! bytes as bits -/
def bits8 (c : UInt8) : List Bool := (List.range 8).map fun i => c.toNat.testBit i
def bits (l : List UInt8) : List Bool := l.flatMap bits8
theorem pack8 : ∀ c : Fin 256, pack ((List.range 8).map fun i => c.val.testBit i) = BitVec.ofNat 32 c.val := by decide +kernel
theorem byte_run (r : BitVec 32) (c : UInt8) : byte r c = runB r (bits8 c) := by
  rw [runB_pack (bits8 c) r (by simp [bits8])]
  have := pack8 ⟨c.toNat, UInt8.toNat_lt c⟩
  simp only at this
  unfold bits8 byte
  rw [this]
  simp only [List.length_map, List.length_range]
  rfl
theorem crc_run : ∀ (l : List UInt8) (r : BitVec 32), crc r l = runB r (bits l)
  | [], r => rfl
  | c :: l, r => by
    show crc (byte r c) l = runB r (bits8 c ++ bits l)
    rw [runB_app, ← byte_run, crc_run l]
def bitAt (l : List UInt8) (p : Nat) : Bool := (l.getD (p / 8) 0).toNat.testBit (p % 8)
theorem bits_range : ∀ l : List UInt8, bits l = (List.range (8 * l.length)).map (bitAt l)
  | [] => rfl
  | c :: l => by
    show bits8 c ++ bits l = _
    rw [bits_range l, List.length_cons, show 8 * (l.length + 1) = 8 + 8 * l.length by omega, List.range_add, List.map_append, List.map_map]
    congr 1
    · refine List.map_congr_left fun i hi => ?_
      simp only [Function.comp_apply, bitAt]
      rw [show (8 + i) / 8 = i / 8 + 1 by omega, show (8 + i) % 8 = i % 8 by omega]; rfl
theorem bits_eq {a b : List UInt8} (hl : a.length = b.length) (h : ∀ p, bitAt a p = bitAt b p) : a = b := by
  refine List.ext_getElem hl fun i h1 h2 => ?_
  apply UInt8.toNat_inj.1
  apply Nat.eq_of_testBit_eq
  intro j
  by_cases hj : j < 8
  · have := h (8 * i + j)
    unfold bitAt at this
    rw [show (8 * i + j) / 8 = i by omega, show (8 * i + j) % 8 = j by omega] at this
    simpa [List.getD_eq_getElem?_getD, h1, h2] using this
  · have hp : (2 : Nat) ^ 8 ≤ 2 ^ j := Nat.pow_le_pow_right (by omega) (by omega)
    rw [Nat.testBit_lt_two_pow (Nat.lt_of_lt_of_le (UInt8.toNat_lt a[i]) hp), Nat.testBit_lt_two_pow (Nat.lt_of_lt_of_le (UInt8.toNat_lt b[i]) hp)]
theorem bitAt_set (l : List UInt8) (q : Nat) (v : UInt8) (hq : q < l.length) (p : Nat) : bitAt (l.set q v) p = if p / 8 = q then v.toNat.testBit (p % 8) else bitAt l p := by
  unfold bitAt
  rw [List.getD_eq_getElem?_getD, List.getElem?_set]
  by_cases h : p / 8 = q
  · rw [if_pos h.symm, if_pos h, if_pos (by omega)]; rfl
  · rw [if_neg (fun e => h e.symm), if_neg h, ← List.getD_eq_getElem?_getD]

theorem rep_map (n : Nat) : List.replicate n false = (List.range n).map fun _ => false := by
  apply List.ext_getElem <;> simp
/-- two texts of one length that differ in bits within 32 that follow one another have other sums -/
theorem crc_burst (r : BitVec 32) (l l' : List UInt8) (hl : l'.length = l.length) (at_ : Nat) (f : Nat → Bool) (k : Nat) (hk : k ≤ 32) (hat : at_ + k ≤ 8 * l.length)
    (h : ∀ p, bitAt l' p = (bitAt l p ^^ (decide (at_ ≤ p ∧ p < at_ + k) && f (p - at_)))) (i : Nat) (hi : i < k) (hf : f i = true) : crc r l' ≠ crc r l := by
  intro he
  have h1 := runB_xor ((List.range (8 * l.length)).map fun p => (bitAt l p, bitAt l' p)) r r
  simp only [List.map_map, Function.comp_def] at h1
  have hb : (List.range (8 * l.length)).map (fun p => bitAt l p) = bits l := (bits_range l).symm
  have hb' : (List.range (8 * l.length)).map (fun p => bitAt l' p) = bits l' := by rw [← hl]; exact (bits_range l').symm
  rw [hb, hb', ← crc_run, ← crc_run, he, BitVec.xor_self, BitVec.xor_self] at h1
  refine burst_ne at_ (8 * l.length - at_ - k) ((List.range k).map f) (by simpa using hk) i (by simpa using hi) ?_ ?_
  · simp [List.getD_eq_getElem?_getD, hi, hf]
  · rw [← h1]
    congr 1
    rw [show 8 * l.length = at_ + k + (8 * l.length - at_ - k) by omega, List.range_add, List.range_add]
    simp only [List.map_append, List.map_map]
    congr 1
    · congr 1
      · rw [rep_map]
        refine List.map_congr_left fun p hp => ?_
        have := List.mem_range.1 hp
        rw [h]; simp [show ¬ at_ ≤ p by omega]
      · refine List.map_congr_left fun p hp => ?_
        have := List.mem_range.1 hp
        simp only [Function.comp_apply]
        rw [h]; simp [show at_ + p - at_ = p by omega, this]
    · rw [show at_ + k + (8 * l.length - at_ - k) - at_ - k = 8 * l.length - at_ - k by omega]
      rw [rep_map]
      refine List.map_congr_left fun p hp => ?_
      simp only [Function.comp_apply]
      rw [h]; simp [show ¬ (at_ + k + p < at_ + k) by omega]

/-! four bytes as bits -/
theorem bits8_of (x : Nat) : bits8 (UInt8.ofNat (x % 256)) = (List.range 8).map fun i => x.testBit i := by
  unfold bits8
  refine List.map_congr_left fun i hi => ?_
  have := List.mem_range.1 hi
  rw [ofNat8' (by omega), show (256 : Nat) = 2 ^ 8 by rfl, Nat.testBit_mod_two_pow]
  simp [this]
theorem bits_le4 (r : BitVec 32) : bits (le4 r) = (List.range 32).map fun i => r.getLsbD i := by
  unfold bits le4
  simp only [List.flatMap_cons, List.flatMap_nil, bits8_of, List.append_nil]
  rw [show (256 : Nat) = 2 ^ 8 by rfl, show (65536 : Nat) = 2 ^ 16 by rfl, show (16777216 : Nat) = 2 ^ 24 by rfl]
  simp only [Nat.testBit_div_two_pow, BitVec.testBit_toNat]
  rfl
theorem pack_le4 (r : BitVec 32) : pack (bits (le4 r)) = r := by
  apply BitVec.eq_of_getLsbD_eq
  intro i hi
  rw [pack_bit _ _ hi, bits_le4]
  simp [List.getD_eq_getElem?_getD, hi]
theorem crc_le4 (r s : BitVec 32) : crc r (le4 s) = stn 32 (r ^^^ s) := by
  have hl : (bits (le4 s)).length = 32 := by rw [bits_le4]; simp
  rw [crc_run, runB_pack _ _ (by omega), hl, pack_le4]

/-! frames -/
def hd (k : UInt8) (body : List UInt8) : List UInt8 := k :: UInt8.ofNat (body.length % 256) :: UInt8.ofNat (body.length / 256 % 256) :: body
def frame (k : UInt8) (body : List UInt8) : List UInt8 := hd k body ++ le4 (sum32 0#32 (hd k body))
def whole (l : List UInt8) : Prop := l.drop (l.length - 4) = le4 (sum32 0#32 (l.take (l.length - 4)))
instance (l : List UInt8) : Decidable (whole l) := by unfold whole; infer_instance
def formed (l : List UInt8) : Prop := 7 ≤ l.length ∧ l.length ≤ 8199 ∧ l.length - 7 = (l.getD 1 0).toNat + 256 * (l.getD 2 0).toNat
instance (l : List UInt8) : Decidable (formed l) := by unfold formed; infer_instance
/-- what a row of bytes holds, or why not -/
def openF (l : List UInt8) : UInt8 × List UInt8 × Int :=
  if formed l then if whole l then (l.getD 0 0, (l.take (l.length - 4)).drop 3, 0) else (0, [], 30) else (0, [], 4)
theorem hd_len (k : UInt8) (body : List UInt8) : (hd k body).length = body.length + 3 := rfl
theorem frame_len (k : UInt8) (body : List UInt8) : (frame k body).length = body.length + 7 := by
  unfold frame; rw [List.length_append, hd_len, le4_len]
theorem frame_take (k : UInt8) (body : List UInt8) : (frame k body).take ((frame k body).length - 4) = hd k body := by
  rw [frame_len]; unfold frame
  rw [List.take_append_of_le_length (by rw [hd_len]; omega), show body.length + 7 - 4 = (hd k body).length by rw [hd_len]; omega, List.take_length]
theorem frame_drop (k : UInt8) (body : List UInt8) : (frame k body).drop ((frame k body).length - 4) = le4 (sum32 0#32 (hd k body)) := by
  rw [frame_len]; unfold frame
  rw [show body.length + 7 - 4 = (hd k body).length by rw [hd_len]; omega, List.drop_left]
theorem open_frame (k : UInt8) (body : List UInt8) (h : body.length ≤ 8192) : openF (frame k body) = (k, body, 0) := by
  have hf : formed (frame k body) := by
    refine ⟨by rw [frame_len]; omega, by rw [frame_len]; omega, ?_⟩
    rw [frame_len]
    show _ = (UInt8.ofNat (body.length % 256)).toNat + 256 * (UInt8.ofNat (body.length / 256 % 256)).toNat
    rw [ofNat8' (by omega), ofNat8' (by omega)]; omega
  have hw : whole (frame k body) := by unfold whole; rw [frame_drop, frame_take]
  unfold openF
  rw [if_pos hf, if_pos hw, frame_take]
  rfl
theorem frame_open {l : List UInt8} (hf : formed l) (hw : whole l) : l = frame (l.getD 0 0) ((l.take (l.length - 4)).drop 3) ∧ ((l.take (l.length - 4)).drop 3).length ≤ 8192 := by
  obtain ⟨h1, h2, h3⟩ := hf
  have hlen : ((l.take (l.length - 4)).drop 3).length = l.length - 7 := by simp; omega
  refine ⟨?_, by omega⟩
  have hh : l.take (l.length - 4) = hd (l.getD 0 0) ((l.take (l.length - 4)).drop 3) := by
    unfold hd
    rw [hlen]
    obtain ⟨a, b, c, r, rfl⟩ : ∃ a b c r, l = a :: b :: c :: r := by
      match l, h1 with
      | a :: b :: c :: r, _ => exact ⟨a, b, c, r, rfl⟩
    have h4 : (b.toNat + 256 * c.toNat) % 256 = b.toNat := by have := UInt8.toNat_lt b; omega
    have h5 : (b.toNat + 256 * c.toNat) / 256 % 256 = c.toNat := by have := UInt8.toNat_lt b; have := UInt8.toNat_lt c; omega
    have h3' : (a :: b :: c :: r).length - 7 = b.toNat + 256 * c.toNat := h3
    rw [h3', h4, h5]
    simp only [List.length_cons]
    rw [show r.length + 1 + 1 + 1 - 4 = (r.length - 4) + 3 by simp only [List.length_cons] at h1; omega]
    simp
  unfold frame
  rw [← hh, ← hw, List.take_append_drop]
theorem whole_crc {l : List UInt8} (h : whole l) : crc (~~~ 0#32) l = stn 32 (~~~ 0#32) := by
  have : l = l.take (l.length - 4) ++ l.drop (l.length - 4) := (List.take_append_drop _ _).symm
  rw [this, crc_app, h, crc_le4]
  unfold sum32
  generalize crc (~~~0#32) (List.take (l.length - 4) l) = x
  congr 1
  apply BitVec.eq_of_getLsbD_eq
  intro i hi
  simp only [BitVec.getLsbD_xor, BitVec.getLsbD_not, hi, decide_true, Bool.true_and, BitVec.getLsbD_zero]
  cases x.getLsbD i <;> rfl
theorem not_whole {l l' : List UInt8} (h : whole l) (hc : ∀ r, crc r l' ≠ crc r l) : ¬ whole l' := fun h' => hc _ ((whole_crc h').trans (whole_crc h).symm)

/-! from a cut; four texts -/
theorem sum_app (a b : List UInt8) (r : BitVec 32) : sum32 (sum32 r a) b = sum32 r (a ++ b) := by
  unfold sum32; rw [BitVec.not_not, crc_app]
theorem byte_xor3 (p q s : BitVec 32) (a b c : UInt8) : byte (p ^^^ q ^^^ s) (a ^^^ b ^^^ c) = byte p a ^^^ byte q b ^^^ byte s c := by
  unfold byte
  rw [← st8_xor, ← st8_xor]
  congr 1
  rw [UInt8.toNat_xor, UInt8.toNat_xor]
  apply BitVec.eq_of_getLsbD_eq
  intro i hi
  simp only [BitVec.getLsbD_xor, BitVec.getLsbD_ofNat, hi, decide_true, Bool.true_and, Nat.testBit_xor]
  cases p.getLsbD i <;> cases q.getLsbD i <;> cases s.getLsbD i <;> cases a.toNat.testBit i <;> cases b.toNat.testBit i <;> cases c.toNat.testBit i <;> rfl
theorem crc_xor3 : ∀ (l : List (UInt8 × UInt8 × UInt8)) (p q s : BitVec 32), crc (p ^^^ q ^^^ s) (l.map fun t => t.1 ^^^ t.2.1 ^^^ t.2.2) = crc p (l.map (·.1)) ^^^ crc q (l.map (·.2.1)) ^^^ crc s (l.map (·.2.2))
  | [], p, q, s => rfl
  | (a, b, c) :: l, p, q, s => by
    show crc (byte (p ^^^ q ^^^ s) (a ^^^ b ^^^ c)) (l.map fun t => t.1 ^^^ t.2.1 ^^^ t.2.2) = crc (byte p a) _ ^^^ crc (byte q b) _ ^^^ crc (byte s c) _
    rw [byte_xor3, crc_xor3 l]
theorem sum_xor4 (l : List (UInt8 × UInt8 × UInt8)) :
    sum32 0#32 (l.map (·.1)) ^^^ sum32 0#32 (l.map (·.2.1)) ^^^ sum32 0#32 (l.map (·.2.2)) ^^^ sum32 0#32 (l.map fun t => t.1 ^^^ t.2.1 ^^^ t.2.2) = 0#32 := by
  have h := crc_xor3 l (~~~ 0#32) (~~~ 0#32) (~~~ 0#32)
  rw [BitVec.xor_self, BitVec.zero_xor] at h
  unfold sum32
  rw [h]
  generalize crc (~~~0#32) (l.map (·.1)) = x
  generalize crc (~~~0#32) (l.map (·.2.1)) = y
  generalize crc (~~~0#32) (l.map (·.2.2)) = z
  apply BitVec.eq_of_getLsbD_eq
  intro i hi
  simp only [BitVec.getLsbD_xor, BitVec.getLsbD_not, hi, decide_true, Bool.true_and, BitVec.getLsbD_zero]
  cases x.getLsbD i <;> cases y.getLsbD i <;> cases z.getLsbD i <;> rfl
end Go.Proofs.Ythpbkkjggnejcaa
