/-
  Package seal: the contracts of Seal, Open and Clone, and the document's Seal and Open.
-/
import Derived.Test.YthpbkkjggnejcaaSealM
import Derived.Test.YthpbkkjggnejcaaSealD
import Derived.Test.YthpbkkjggnejcaaCodeI
namespace Go.Proofs.Ythpbkkjggnejcaa
open Go.RowKit
set_option maxRecDepth 100000

theorem SClone_spec (s : Sl) (l : List UInt8) (w : World) (h : Seg w s.base s.len 1 (bc l)) (hl : l.length ≤ 140737488355328) :
    Calls Try.prog 53 #[.slice s.base s.len s.cap] w fun e w' => ∃ s' : Sl, e = .returned (.slice s'.base s'.len s'.cap) ∧ Own w w' s' l ∧ Ext [] w w' := by
  refine sh_slices_Clone_ok _ _ _ ?_
  unfold sh_slices_Clone
  have hn := h.blen
  refine VIf.mk (fun hc => ?_) (fun hc => ?_)
  · have hz : l = [] := by
      rcases h.2 with h0 | ⟨a, ha, _⟩
      · exact List.length_eq_zero_iff.1 (by omega)
      · rw [ha] at hc; simp at hc
    subst hz
    exact ⟨⟨none, 0, 0⟩, rfl, Own.nil _ _, Ext.refl _ _⟩
  · refine VNw.i fun b w1 hb hk e1 => ?_
    have ho : Own w w1 ⟨some ⟨b, 0, none⟩, 0, 0⟩ [] := ⟨Row.of_bk (size := 1) hk rfl (by omega), by simp [rowB]; omega⟩
    refine VApp.own (s := ⟨some ⟨b, 0, none⟩, 0, 0⟩) ho e1 (h.ext0 e1) hn.symm (by simp; omega) fun s' w' h' e' _ => ?_
    exact ⟨s', rfl, h', e'⟩

theorem hd_bc (k : UInt8) (body : List UInt8) : bc (hd k body) = bc [k, UInt8.ofNat (body.length % 256), UInt8.ofNat (body.length / 256 % 256)] ++ bc body := by rw [← bc_app]; rfl
/-- what is sealed -/
def sealE (body : List UInt8) : Int := if 8192 < body.length then 40 else 0
def sealL (k : UInt8) (body : List UInt8) : List UInt8 := if 8192 < body.length then [] else frame k body
theorem Seal_spec (k : UInt8) (s : Sl) (l : List UInt8) (w : World) (h : Seg w s.base s.len 1 (bc l)) :
    Calls Try.prog 22 #[.int .u8 ((k.toNat : Nat) : Int), .slice s.base s.len s.cap] w fun e w' => ∃ s' : Sl, e = .returned (.tuple #[.slice s'.base s'.len s'.cap, .int .i64 (sealE l)]) ∧ Own w w' s' (sealL k l) ∧ Ext [] w w' := by
  refine sh_seal_Seal_ok _ _ _ _ ?_
  unfold sh_seal_Seal sealE sealL
  have hn := h.blen
  refine VSet.i (VIf.mk (fun hc => ?_) (fun hc => ?_))
  · simp at hc
    rw [if_pos (by omega), if_pos (by omega)]
    exact ⟨⟨none, 0, 0⟩, rfl, Own.nil _ _, Ext.refl _ _⟩
  simp at hc
  rw [if_neg (by omega), if_neg (by omega)]
  refine VNw.i fun b w1 hb hk e1 => ?_
  have hk' : Bk w1 b (bc [k, UInt8.ofNat (l.length % 256), UInt8.ofNat (l.length / 256 % 256)]) 5 := by
    have h1 : IntKind.wrap .u8 ((s.len : Nat) : Int) = (((UInt8.ofNat (l.length % 256)).toNat : Nat) : Int) := by rw [wrap8_nat, hn]
    have h2 : IntKind.wrap .u8 (Int.fdiv ((s.len : Nat) : Int) (2 ^ 8)) = (((UInt8.ofNat (l.length / 256 % 256)).toNat : Nat) : Int) := by
      rw [Int.fdiv_eq_ediv_of_nonneg _ (by decide), show ((2 : Int) ^ 8) = ((256 : Nat) : Int) by rfl, ← Int.natCast_ediv, wrap8_nat, hn]
    rw [h1, h2] at hk
    exact hk
  have ho : Own w w1 ⟨some ⟨b, 0, none⟩, 3, 3⟩ _ := Own.built hk' (by omega) rfl (by omega)
  refine VApp.own (s := ⟨some ⟨b, 0, none⟩, 3, 3⟩) ho e1 (h.ext0 e1) hn.symm (by simp; omega) fun s2 w2 h2 e2 _ => ?_
  have h2 : Own w w2 s2 (hd k l) := h2
  refine VCall.i (Sum_spec s2 (hd k l) w2 h2.seg (by rw [hd_len]; omega)) ?_
  rintro e w3 ⟨rfl, e3⟩
  refine exW.i1 (t := .int .u32) _ rfl ?_
  refine VCall.i (four_spec (sum32 0#32 (hd k l)) w3) ?_
  rintro e w4 ⟨s4, rfl, h4, e4⟩
  refine exW.i1 (t := .sl) s4 rfl ?_
  refine VApp.own ((h2.ext0 e3).ext0 e4) ((e2.then0 e3).then0 e4) (news := le4 (sum32 0#32 (hd k l))) h4.seg (by rw [h4.len]) (by rw [hd_len, h4.len, le4_len]; omega) fun s5 w5 h5 e5 _ => ?_
  exact ⟨s5, rfl, h5, e5⟩

theorem le4_bc (r : BitVec 32) : [Value.int .u8 (IntKind.wrap .u8 ((r.toNat : Nat) : Int)), .int .u8 (IntKind.wrap .u8 (Int.fdiv ((r.toNat : Nat) : Int) (2 ^ 8))), .int .u8 (IntKind.wrap .u8 (Int.fdiv ((r.toNat : Nat) : Int) (2 ^ 16))), .int .u8 (IntKind.wrap .u8 (Int.fdiv ((r.toNat : Nat) : Int) (2 ^ 24)))] = bc (le4 r) := by
  have h0 := four_byte r 0 (by omega)
  have h1 := four_byte r 1 (by omega)
  have h2 := four_byte r 2 (by omega)
  have h3 := four_byte r 3 (by omega)
  rw [show (2 : Int) ^ (8 * 0) = 1 by rfl, Int.fdiv_one] at h0
  simp only [Nat.mul_one, show 8 * 2 = 16 by rfl, show 8 * 3 = 24 by rfl] at h1 h2 h3
  rw [h0, h1, h2, h3]; rfl
theorem XSeal_spec (k : UInt8) (s : Sl) (l : List UInt8) (w : World) (h : Seg w s.base s.len 1 (bc l)) :
    Calls Try.prog 15 #[.int .u8 ((k.toNat : Nat) : Int), .slice s.base s.len s.cap] w fun e w' => ∃ s' : Sl, e = .returned (.tuple #[.slice s'.base s'.len s'.cap, .int .i64 (sealE l)]) ∧ Own w w' s' (sealL k l) ∧ Ext [] w w' := by
  refine sh_butteryref02_Seal_ok _ _ _ _ ?_
  unfold sh_butteryref02_Seal sealE sealL
  have hn := h.blen
  refine VIf.mk (fun hc => ?_) (fun hc => ?_)
  · simp at hc
    rw [if_pos (by omega), if_pos (by omega)]
    exact ⟨⟨none, 0, 0⟩, rfl, Own.nil _ _, Ext.refl _ _⟩
  simp at hc
  rw [if_neg (by omega), if_neg (by omega)]
  refine VNw.i fun b w1 hb hk e1 => ?_
  have hk' : Bk w1 b (bc [k, UInt8.ofNat (l.length % 256), UInt8.ofNat (l.length / 256 % 256)]) 5 := by
    have h1 : IntKind.wrap .u8 (Int.tmod ((s.len : Nat) : Int) 256) = (((UInt8.ofNat (l.length % 256)).toNat : Nat) : Int) := by
      rw [show Int.tmod ((s.len : Nat) : Int) 256 = ((s.len % 256 : Nat) : Int) by rfl, wrap8_nat, hn, Nat.mod_mod]
    have h2 : IntKind.wrap .u8 (IntKind.wrap .i64 (Int.tdiv ((s.len : Nat) : Int) 256)) = (((UInt8.ofNat (l.length / 256 % 256)).toNat : Nat) : Int) := by
      rw [show Int.tdiv ((s.len : Nat) : Int) 256 = ((s.len / 256 : Nat) : Int) by rfl, w64 (by omega), wrap8_nat, hn]
    rw [h1, h2] at hk
    exact hk
  have ho : Own w w1 ⟨some ⟨b, 0, none⟩, 3, 3⟩ _ := Own.built hk' (by omega) rfl (by omega)
  refine VApp.own (s := ⟨some ⟨b, 0, none⟩, 3, 3⟩) ho e1 (h.ext0 e1) hn.symm (by simp; omega) fun s2 w2 h2 e2 _ => ?_
  have h2 : Own w w2 s2 (hd k l) := h2
  refine VCall.i (XSum_spec s2 (hd k l) w2 h2.seg (by rw [hd_len]; omega)) ?_
  rintro e w3 ⟨rfl, rfl⟩
  refine exW.i1 (t := .int .u32) _ rfl (VSet.i ?_)
  refine VNw.i fun b4 w4 hb4 hk4 e4 => ?_
  have hk4 : Bk w4 b4 (bc (le4 (sum32 0#32 (hd k l)))) 5 := by rw [← le4_bc]; exact hk4
  refine VApp.own (h2.ext0 e4) (e2.then0 e4) (news := le4 (sum32 0#32 (hd k l))) (Seg.of_bk hk4 (by simp) (by rw [bc_len, le4_len])) (le4_len _) (by rw [hd_len]; omega) fun s5 w5 h5 e5 _ => ?_
  exact ⟨s5, rfl, h5, e5⟩

theorem In.small {w : World} {s : Sl} {l : List UInt8} (h : In w s l) : l.length ≤ 9223372036854775807 := by have := h.len; have := h.2; omega
theorem formed_iff {l : List UInt8} : formed l ↔ (7 ≤ l.length ∧ l.length ≤ 8199 ∧ (l.getD 1 0).toNat + 256 * (l.getD 2 0).toNat = l.length - 7) := by unfold formed; omega

theorem Open_spec (s : Sl) (l : List UInt8) (w : World) (h : In w s l) :
    Calls Try.prog 36 #[.slice s.base s.len s.cap] w fun e w' => ∃ s' : Sl, e = .returned (.tuple #[.int .u8 (((openF l).1.toNat : Nat) : Int), .slice s'.base s'.len s'.cap, .int .i64 (openF l).2.2]) ∧ Own w w' s' (openF l).2.1 ∧ Ext [] w w' := by
  refine sh_seal_Open_ok _ _ _ ?_
  unfold sh_seal_Open
  have hn := h.len
  have hc := h.2
  refine VSet.i ?_
  intro w1 hw1
  have e1 := Ext.drew' hw1
  have h1 := h.ext0 e1
  rw [w64 (show -9223372036854775808 ≤ ((s.len : Nat) : Int) - 4 ∧ ((s.len : Nat) : Int) - 4 ≤ 9223372036854775807 by omega), w64 (show -9223372036854775808 ≤ ((s.len : Nat) : Int) - 4 - 3 ∧ ((s.len : Nat) : Int) - 4 - 3 ≤ 9223372036854775807 by omega)]
  refine VByte.g l 1 h1.1 rfl (fun _ => rfl) (fun hg => by simp at hg; omega) fun v1 hv1 => ?_
  refine VByte.g l 2 h1.1 rfl (fun _ => rfl) (fun hg => by simp at hg; omega) fun v2 hv2 => ?_
  have t1 := UInt8.toNat_lt (l.getD 1 0)
  have t2 := UInt8.toNat_lt (l.getD 2 0)
  have hf : (7 ≤ l.length ∧ l.length ≤ 8199) → bOr .i64 (IntKind.wrap .i64 v1) (IntKind.wrap .i64 ((IntKind.wrap .i64 v2) * 2 ^ 8)) = (((l.getD 1 0).toNat + 256 * (l.getD 2 0).toNat : Nat) : Int) := by
    intro hr
    rw [hv1 (by simp; omega), hv2 (by simp; omega), w64 (n := (((l.getD 1 0).toNat : Nat) : Int)) (by omega), w64 (n := (((l.getD 2 0).toNat : Nat) : Int)) (by omega), show (2 : Int) ^ 8 = 256 by rfl, w64 (n := (((l.getD 2 0).toNat : Nat) : Int) * 256) (by omega), bOr64 _ _ t1 t2]
  refine VIf.mk (fun hcd => ?_) (fun hcd => ?_)
  · have : ¬ formed l := by
      rw [formed_iff]
      rintro ⟨f1, f2, f3⟩
      rw [hf ⟨f1, f2⟩, f3] at hcd
      simp at hcd
      omega
    unfold openF
    rw [if_neg this]
    exact ⟨⟨none, 0, 0⟩, rfl, Own.nil _ _, e1⟩
  · have hr : 7 ≤ l.length ∧ l.length ≤ 8199 := by simp at hcd; omega
    have hfm : formed l := by
      rw [formed_iff]
      rw [hf hr] at hcd
      simp [-List.getD_eq_getElem?_getD] at hcd
      omega
    unfold openF
    rw [if_pos hfm]
    intro w2 hw2
    have e2 := e1.then0 (Ext.drew' hw2)
    have h2 := h.ext0 e2
    refine VCk.i (by omega) (VCk.i (by omega) ?_)
    have hi : Int.toNat (((s.len : Nat) : Int) - 4) = l.length - 4 := by omega
    rw [hi]
    have hcut := h2.cut 0 (l.length - 4) (by omega) (by omega)
    rw [List.drop_zero] at hcut
    refine VCall.i (Sum_spec ⟨cutB s.base s.cap 1 0, l.length - 4 - 0, s.cap - 0⟩ (l.take (l.length - 4)) w2 hcut.1 (by simp; omega)) ?_
    rintro e w3 ⟨rfl, e3⟩
    refine exW.i1 (t := .int .u32) _ rfl ?_
    refine VCall.i (four_spec (sum32 0#32 (l.take (l.length - 4))) w3) ?_
    rintro e w4 ⟨s4, rfl, h4, e4⟩
    refine exW.i1 (t := .sl) s4 rfl ?_
    have e24 := (e2.then0 e3).then0 e4
    have hcut2 := (h.ext0 e24).cut (l.length - 4) l.length (by omega) (by omega)
    rw [List.take_length] at hcut2
    rw [hn]
    refine VCall.i (Equal_spec ⟨cutB s.base s.cap 1 (l.length - 4), l.length - (l.length - 4), s.cap - (l.length - 4)⟩ s4 (l.drop (l.length - 4)) (le4 (sum32 0#32 (l.take (l.length - 4)))) w4 hcut2.1 h4.seg (by simp; omega)) ?_
    rintro e w5 ⟨rfl, e5⟩
    refine exW.i1 (t := .bool) _ rfl ?_
    have e25 := e24.then0 e5
    refine VIf.mk (fun hcw => ?_) (fun hcw => ?_)
    · have : ¬ whole l := by
        intro hw; unfold whole at hw; rw [hw] at hcw; simp at hcw
      rw [if_neg this]
      exact ⟨⟨none, 0, 0⟩, rfl, Own.nil _ _, e25⟩
    · have : whole l := by unfold whole; simpa using hcw
      rw [if_pos this]
      intro w6 hw6
      have e26 := e25.then0 (Ext.drew' hw6)
      have h6 := h.ext0 e26
      obtain ⟨a, ha, hrd⟩ := h6.1.at_ (i := 0) (by omega)
      rw [bc_getD l 0 (by omega), Nat.zero_mul, add_zero] at hrd
      rw [ha]
      refine VIx.i (by omega) (by omega) (VLd.i1 _ hrd (VCk.i (by omega) ?_))
      have hcut3 := h6.cut 3 (l.length - 4) (by omega) (by omega)
      rw [ha] at hcut3
      refine VCall.i (SClone_spec ⟨cutB (some a) s.cap 1 3, l.length - 4 - 3, s.cap - 3⟩ ((l.take (l.length - 4)).drop 3) w6 hcut3.1 (by simp; omega)) ?_
      rintro e w7 ⟨s7, rfl, h7, e7⟩
      refine exW.i1 (t := .sl) s7 rfl ⟨hrd.ext e7, VSet.i ?_⟩
      exact ⟨s7, rfl, h7.mono e26.size, e26.then0 e7⟩
theorem XOpen_spec (s : Sl) (l : List UInt8) (w : World) (h : In w s l) :
    Calls Try.prog 46 #[.slice s.base s.len s.cap] w fun e w' => ∃ s' : Sl, e = .returned (.tuple #[.int .u8 (((openF l).1.toNat : Nat) : Int), .slice s'.base s'.len s'.cap, .int .i64 (openF l).2.2]) ∧ Own w w' s' (openF l).2.1 ∧ Ext [] w w' := by
  refine sh_butteryref02_Open_ok _ _ _ ?_
  unfold sh_butteryref02_Open
  have hn := h.len
  have hc := h.2
  intro w1 hw1
  have e1 := Ext.drew' hw1
  have h1 := h.ext0 e1
  refine VByte.g l 1 h1.1 rfl (fun _ => rfl) (fun hg => by simp at hg; omega) fun v1 hv1 => ?_
  refine VByte.g l 2 h1.1 rfl (fun _ => rfl) (fun hg => by simp at hg; omega) fun v2 hv2 => ?_
  have t1 := UInt8.toNat_lt (l.getD 1 0)
  have t2 := UInt8.toNat_lt (l.getD 2 0)
  have hf : (7 ≤ l.length ∧ l.length ≤ 8199) → IntKind.wrap .i64 ((IntKind.wrap .i64 v1) + (IntKind.wrap .i64 (256 * (IntKind.wrap .i64 v2)))) = (((l.getD 1 0).toNat + 256 * (l.getD 2 0).toNat : Nat) : Int) := by
    intro hr
    rw [hv1 (by simp; omega), hv2 (by simp; omega), w64 (n := (((l.getD 1 0).toNat : Nat) : Int)) (by omega), w64 (n := (((l.getD 2 0).toNat : Nat) : Int)) (by omega), w64 (n := 256 * (((l.getD 2 0).toNat : Nat) : Int)) (by omega), w64 (by omega)]; omega
  rw [w64 (show -9223372036854775808 ≤ ((s.len : Nat) : Int) - 7 ∧ ((s.len : Nat) : Int) - 7 ≤ 9223372036854775807 by omega), w64 (show -9223372036854775808 ≤ ((s.len : Nat) : Int) - 4 ∧ ((s.len : Nat) : Int) - 4 ≤ 9223372036854775807 by omega)]
  refine VIf.mk (fun hcd => ?_) (fun hcd => ?_)
  · have : ¬ formed l := by
      rw [formed_iff]
      rintro ⟨f1, f2, f3⟩
      rw [hf ⟨f1, f2⟩, f3] at hcd
      simp at hcd
      omega
    unfold openF
    rw [if_neg this]
    exact ⟨⟨none, 0, 0⟩, rfl, Own.nil _ _, e1⟩
  have hr : 7 ≤ l.length ∧ l.length ≤ 8199 := by simp at hcd; omega
  have hfm : formed l := by
    rw [formed_iff]
    rw [hf hr] at hcd
    simp [-List.getD_eq_getElem?_getD] at hcd
    omega
  unfold openF
  rw [if_pos hfm]
  refine VSet.i (VCk.i (by omega) ?_)
  have hi : Int.toNat (((s.len : Nat) : Int) - 4) = l.length - 4 := by omega
  rw [hi]
  have hcut := h1.cut 0 (l.length - 4) (by omega) (by omega)
  rw [List.drop_zero] at hcut
  refine VCall.i (XSum_spec ⟨cutB s.base s.cap 1 0, l.length - 4 - 0, s.cap - 0⟩ (l.take (l.length - 4)) w1 hcut.1 (by simp; omega)) ?_
  rintro e w2 ⟨rfl, rfl⟩
  refine exW.i1 (t := .int .u32) _ rfl (VSet.i ?_)
  generalize hr4 : sum32 0#32 (l.take (l.length - 4)) = r4
  have hdl : (l.drop (l.length - 4)).length = 4 := by simp; omega
  refine ⟨fun k i W => ∃ j : Nat, i = (j : Int) ∧ j ≤ 4 ∧ k = 4 - j ∧ Ext [] w W ∧ (l.drop (l.length - 4)).take j = (le4 r4).take j, ⟨_, 0, rfl, by omega, rfl, e1, rfl⟩, ?_⟩
  rintro k i w3 ⟨j, rfl, hj, rfl, e3, htk⟩
  refine VIf.mk (fun hc4 => ?_) (fun hc4 => ?_)
  · have hj4 : j < 4 := by simp at hc4; omega
    intro w4 hw4
    have e4 := e3.then0 (Ext.drew' hw4)
    have h4 := h.ext0 e4
    rw [w64 (show -9223372036854775808 ≤ ((s.len : Nat) : Int) - 4 + (j : Int) ∧ ((s.len : Nat) : Int) - 4 + (j : Int) ≤ 9223372036854775807 by omega), w64 (show -9223372036854775808 ≤ 8 * (j : Int) ∧ 8 * (j : Int) ≤ 9223372036854775807 by omega),
      show Int.toNat (((s.len : Nat) : Int) - 4 + (j : Int)) = l.length - 4 + j by omega]
    refine VByte.n l (l.length - 4 + j) h4.1 (by omega) (fun _ => rfl) (by omega) (VCk.i (by omega) ?_)
    have hb : min (Int.toNat (8 * (j : Int))) (IntKind.bits .u32) = 8 * j := by
      have : IntKind.bits .u32 = 32 := rfl
      omega
    rw [hb, four_byte r4 j hj4]
    have hg : l.getD (l.length - 4 + j) 0 = (l.drop (l.length - 4))[j] := by
      rw [List.getElem_drop, List.getD_eq_getElem?_getD, List.getElem?_eq_getElem (by omega)]; rfl
    refine VIf.mk (fun hne => ?_) (fun heq => ?_)
    · have : ¬ whole l := by
        intro hw
        unfold whole at hw
        rw [hr4] at hw
        rw [hg] at hne
        simp only [hw] at hne
        simp at hne
      rw [if_neg this]
      exact ⟨⟨none, 0, 0⟩, rfl, Own.nil _ _, e4⟩
    · rw [w64 (show -9223372036854775808 ≤ (j : Int) + 1 ∧ (j : Int) + 1 ≤ 9223372036854775807 by omega)]
      refine VSet.i ⟨_, by omega, j + 1, by omega, by omega, rfl, e4, ?_⟩
      have : (l.drop (l.length - 4))[j]'(by omega) = (le4 r4)[j]'(by simpa [le4] using hj4) := by
        rw [← hg]
        exact UInt8.toNat_inj.1 (by simp only [bne_eq_false_iff_eq] at heq; omega)
      rw [List.take_succ_eq_append_getElem (by omega), List.take_succ_eq_append_getElem (show j < (le4 r4).length by simpa [le4] using hj4), htk, this]
  · have : j = 4 := by simp at hc4; omega
    subst this
    have hw : whole l := by
      unfold whole
      rw [hr4]
      exact bytes_eq (by rw [hdl, le4_len]) (by rw [hdl]; exact htk)
    rw [if_pos hw]
    intro w5 hw5
    have e5 := e3.then0 (Ext.drew' hw5)
    have h5 := h.ext0 e5
    obtain ⟨a, ha, hrd⟩ := h5.1.at_ (i := 0) (by omega)
    rw [bc_getD l 0 (by omega), Nat.zero_mul, add_zero] at hrd
    rw [ha]
    refine VIx.i (by omega) (by omega) (VLd.i1 _ hrd (VCk.i (by omega) ?_))
    refine VNw.i fun b6 w6 hb6 hk6 e6 => ⟨hrd.ext e6, ?_⟩
    have ho : Own w w6 ⟨some ⟨b6, 0, none⟩, 0, 0⟩ [] := ⟨Row.of_bk (size := 1) hk6 rfl (by omega), by simp [rowB]; have := e5.size; omega⟩
    have hcut3 := (h.ext0 (e5.then0 e6)).cut 3 (l.length - 4) (by omega) (by omega)
    rw [ha] at hcut3
    refine VApp.own (s := ⟨some ⟨b6, 0, none⟩, 0, 0⟩) ho (e5.then0 e6) hcut3.1 (by simp <;> omega) (by simp <;> omega) fun s7 w7 h7 e7 ee => ?_
    refine ⟨(hrd.ext e6).ext ee ?_, VSet.i ⟨s7, rfl, h7, e7⟩⟩
    simp [rowB]
    have := seg_old h.1 (by omega) a ha (by omega)
    have := e5.size
    omega
end Go.Proofs.Ythpbkkjggnejcaa
