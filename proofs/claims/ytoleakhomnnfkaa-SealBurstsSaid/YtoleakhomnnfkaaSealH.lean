/-
  Package seal: the law of bursts.
-/
import Derived.Test.YtoleakhomnnfkaaSealG
namespace Go.Proofs.Ytoleakhomnnfkaa
open Go.RowKit
set_option maxRecDepth 100000

theorem frame_whole (k : UInt8) (body : List UInt8) : whole (frame k body) := by unfold whole; rw [frame_drop, frame_take]
theorem mask_bit (m : BitVec 32) (j : Nat) (hj : j < 32) : bAnd .u32 (Int.fdiv ((m.toNat : Nat) : Int) (2 ^ (min (Int.toNat (j : Int)) (IntKind.bits .u32)))) 1 = if m.getLsbD j then 1 else 0 := by
  have hb : min (Int.toNat (j : Int)) (IntKind.bits .u32) = j := by
    have : IntKind.bits .u32 = 32 := rfl
    omega
  have hp : ((2 : Int) ^ j) = ((2 ^ j : Nat) : Int) := by rw [Int.natCast_pow]; rfl
  have h1 : Int.fdiv ((m.toNat : Nat) : Int) (2 ^ j) = (((m >>> j).toNat : Nat) : Int) := by
    rw [hp, Int.fdiv_eq_ediv_of_nonneg _ (Int.natCast_nonneg _), BitVec.toNat_ushiftRight, Nat.shiftRight_eq_div_pow, Int.natCast_ediv]
  rw [hb, h1, bAnd32_1]
  simp
theorem flip_bit (m : List UInt8) (n p : Nat) (h : n / 8 < m.length) : bitAt (m.set (n / 8) (m.getD (n / 8) 0 ^^^ UInt8.ofNat (2 ^ (n % 8)))) p = (bitAt m p ^^ decide (p = n)) := by
  rw [bitAt_set _ _ _ h]
  have hr : n % 8 < 8 := Nat.mod_lt _ (by omega)
  have hp : 2 ^ (n % 8) < 256 := Nat.lt_of_lt_of_le (Nat.pow_lt_pow_right (by omega) hr) (by decide)
  by_cases hq : p / 8 = n / 8
  · rw [if_pos hq, UInt8.toNat_xor, Nat.testBit_xor, ofNat8 hp, Nat.testBit_two_pow]
    unfold bitAt
    rw [hq]
    congr 1
    rw [decide_eq_decide]
    omega
  · rw [if_neg hq]
    have : ¬ p = n := fun e => hq (by rw [e])
    simp [this]
theorem SealBursts_law (k : UInt8) (s : Sl) (l : List UInt8) (at_ : Int) (mask : BitVec 32) (w : World) (h : In w s l) :
    Calls Try.prog 5 #[.int .u8 ((k.toNat : Nat) : Int), .slice s.base s.len s.cap, .int .i64 at_, .int .u32 ((mask.toNat : Nat) : Int)] w (good w) := by
  refine sh_butterylaw02_SealBursts_ok _ _ _ _ _ _ ?_
  unfold sh_butterylaw02_SealBursts
  have hn := h.len
  rcases Nat.lt_or_ge 5000 s.len with hbig | hbig
  · refine VCall.off (by simp; omega) (exW.i1 (t := .bool) false trivial (VIf.t (by simp) ?_))
    refine VCall.i (awake_spec w) ?_
    rintro e w1 ⟨rfl, e1⟩
    exact exW.i1 _ rfl ⟨rfl, e1⟩
  refine VCall.on (by simp; omega) (VCall.i (awake_spec w) ?_)
  rintro e w1 ⟨rfl, e1⟩
  refine exW.i1 (t := .bool) _ rfl (VIf.f (by simp; omega) ?_)
  refine VCall.i (Seal_spec k s l w1 (h.1.ext0 e1)) ?_
  rintro e w2 ⟨x, rfl, k1, e2⟩
  rw [show sealE l = 0 by unfold sealE; rw [if_neg (by omega)]]
  rw [show sealL k l = frame k l by unfold sealL; rw [if_neg (by omega)]] at k1
  have hop := open_frame k l (by omega)
  have hwh := frame_whole k l
  have hfl := frame_len k l
  generalize frame k l = F at k1 hop hwh hfl
  have hxl := k1.len
  have hxc := k1.cap
  refine exW.i2 (t := .sl) x _ rfl (VSet.i (VIf.f (by simp) ?_))
  rw [w64 (n := 8 * ((x.len : Nat) : Int)) (by omega), show IntKind.wrap .u64 (8 * ((x.len : Nat) : Int)) = ((8 * F.length : Nat) : Int) by rw [w64u]; omega]
  obtain ⟨a, ha, hae⟩ := modu at_ (8 * F.length) (by omega) (by omega)
  rw [hae]
  refine VCk.i (by omega) (VSet.i ?_)
  refine ⟨fun k' t i W => ∃ (j : Nat) (m : List UInt8), i = (j : Int) ∧ j ≤ 32 ∧ k' = 32 - j ∧ Own w1 W x m ∧ m.length = F.length ∧ Ext [] w1 W ∧ a + j ≤ 8 * F.length ∧
    (∀ p, bitAt m p = (bitAt F p ^^ (decide (a ≤ p ∧ p < a + j) && mask.getLsbD (p - a)))) ∧ (t = true → ∃ i, i < j ∧ mask.getLsbD i = true) ∧ (t = false → ∀ i, i < j → mask.getLsbD i = false),
    ⟨_, 0, F, rfl, by omega, rfl, k1, rfl, e2, by omega, fun p => (by rw [decide_eq_false (show ¬ (a ≤ p ∧ p < a + 0) by omega)]; simp), fun e => (by cases e), fun _ i hi => by omega⟩, ?_⟩
  clear k1 hae e2 w2
  rintro k' t i w3 ⟨j, m, rfl, hj, rfl, h3, hm, e3, haj, hbit, ht, hf⟩
  rw [w64 (n := (a : Int) + (j : Int)) (by omega)]
  refine VIf.mk (fun hc => ?_) (fun hc => ?_)
  · have hj32 : j < 32 := by simp at hc; omega
    have haj' : a + j < 8 * F.length := by simp at hc; omega
    refine ⟨fun t W => (t = true → ∃ i, i < j + 1 ∧ mask.getLsbD i = true) ∧ (t = false → ∀ i, i < j + 1 → mask.getLsbD i = false) ∧ ∃ m : List UInt8, Own w1 W x m ∧ m.length = F.length ∧ Ext [] w1 W ∧
      (∀ p, bitAt m p = (bitAt F p ^^ (decide (a ≤ p ∧ p < a + (j + 1)) && mask.getLsbD (p - a)))), ?_, ?_⟩
    · refine VCk.i (by omega) ?_
      rw [mask_bit mask j hj32]
      refine VIf.mk (fun hb => ?_) (fun hb => ?_)
      · have hbt : mask.getLsbD j = true := by
          cases hg : mask.getLsbD j with
          | true => rfl
          | false => rw [hg] at hb; exact absurd hb (by decide)
        intro w4 hw4
        have e34 := Ext.drew' hw4
        have e4 := e3.then0 e34
        have h4 := h3.ext0 e34
        have hq : IntKind.wrap .i64 (Int.tdiv ((a : Int) + (j : Int)) 8) = (((a + j) / 8 : Nat) : Int) := by
          rw [show (a : Int) + (j : Int) = ((a + j : Nat) : Int) by omega, show Int.tdiv ((a + j : Nat) : Int) 8 = (((a + j) / 8 : Nat) : Int) by rfl, w64 (by omega)]
        have hr : Int.tmod ((a : Int) + (j : Int)) 8 = (((a + j) % 8 : Nat) : Int) := by
          rw [show (a : Int) + (j : Int) = ((a + j : Nat) : Int) by omega]; rfl
        rw [hq, hr]
        have hqm : (a + j) / 8 < m.length := by omega
        refine VByte.n m ((a + j) / 8) h4.seg rfl (fun _ => rfl) hqm (VCk.i (by omega) ?_)
        have hr8 : (a + j) % 8 < 8 := Nat.mod_lt _ (by omega)
        have hp : 2 ^ ((a + j) % 8) < 256 := Nat.lt_of_lt_of_le (Nat.pow_lt_pow_right (by omega) hr8) (by decide)
        have hc8 : IntKind.wrap .u8 (1 * 2 ^ (min (Int.toNat (((a + j) % 8 : Nat) : Int)) (IntKind.bits .u8))) = (((UInt8.ofNat (2 ^ ((a + j) % 8))).toNat : Nat) : Int) := by
          have : IntKind.bits .u8 = 8 := rfl
          rw [this, Int.toNat_natCast, Nat.min_eq_left (by omega), Int.one_mul, ofNat8 hp, wrap8, show ((2 : Int) ^ ((a + j) % 8)) = ((2 ^ ((a + j) % 8) : Nat) : Int) by rw [Int.natCast_pow]; rfl]
          exact (show ∀ z : Nat, z < 256 → ((z : Nat) : Int) % 256 = ((z : Nat) : Int) from fun z hz => by omega) _ hp
        rw [hc8, xor8]
        refine Row.put h4.1 (by rw [h4.len]; exact hqm) fun w5 h5 e5 => ?_
        refine ⟨fun _ => ⟨j, by omega, hbt⟩, fun e => (by cases e), _, ⟨h5, h4.2⟩, by rw [List.length_set]; exact hm, e4.then e5 (fun i hi hlt => by have := h4.2 i hi; omega), fun p => ?_⟩
        rw [flip_bit m (a + j) p hqm, hbit]
        by_cases hpj : p = a + j
        · subst hpj
          rw [show decide (a ≤ a + j ∧ a + j < a + j) = false by simp, show decide (a ≤ a + j ∧ a + j < a + (j + 1)) = true by simp, show a + j - a = j by omega, hbt]
          simp
        · rw [show decide (a ≤ p ∧ p < a + (j + 1)) = decide (a ≤ p ∧ p < a + j) by rw [decide_eq_decide]; omega]
          simp [hpj]
      · have hbf : mask.getLsbD j = false := by
          cases hg : mask.getLsbD j with
          | false => rfl
          | true => rw [hg] at hb; exact absurd hb (by decide)
        refine ⟨fun e => ?_, fun e i hi => ?_, m, h3, hm, e3, fun p => ?_⟩
        · obtain ⟨i, hi, hg⟩ := ht e; exact ⟨i, by omega, hg⟩
        · by_cases hij : i = j
          · rw [hij]; exact hbf
          · exact hf e i (by omega)
        · rw [hbit]
          by_cases hpj : p = a + j
          · subst hpj
            rw [show a + j - a = j by omega, hbf]; simp
          · rw [show decide (a ≤ p ∧ p < a + (j + 1)) = decide (a ≤ p ∧ p < a + j) by rw [decide_eq_decide]; omega]
    · rintro t' w7 ⟨g1, g2, m', g3, g4, g5, g6⟩
      rw [w64 (n := (j : Int) + 1) (by omega)]
      exact VSet.i ⟨_, by omega, j + 1, m', by omega, by omega, rfl, g3, g4, g5, by omega, g6, g1, g2⟩
  · refine VCall.i (Open_spec x m w3 h3.in_) ?_
    rintro e w4 ⟨y, rfl, h4, e4⟩
    refine exW.i3 (u := .sl) _ y _ rfl (VSet.i (VSet.i ?_))
    have e4' := e3.then0 e4
    cases t with
    | false =>
      have hmF : m = F := bits_eq hm fun p => by
        rw [hbit]
        by_cases hp : a ≤ p ∧ p < a + j
        · rw [hf rfl (p - a) (by omega)]; simp
        · rw [show decide (a ≤ p ∧ p < a + j) = false by simpa using hp]; simp
      subst hmF
      rw [hop] at h4 ⊢
      refine VIf.t rfl (VCall.on (by simp) (VCall.i (XSame_spec y s l l w4 h4.seg (h.1.ext0 (e1.then0 e4')) (by omega)) ?_))
      rintro e w5 ⟨rfl, e5⟩
      exact exW.i1 (t := .bool) _ rfl ⟨by simp, (e1.then0 e4').then0 e5⟩
    | true =>
      obtain ⟨i, hi, hg⟩ := ht rfl
      have hnw : ¬ whole m := not_whole hwh fun r => crc_burst r F m hm a (fun i => mask.getLsbD i) j hj haj hbit i hi hg
      refine VIf.f rfl ⟨?_, e1.then0 e4'⟩
      unfold openF
      rw [if_neg hnw]
      split <;> rfl
end Go.Proofs.Ytoleakhomnnfkaa
