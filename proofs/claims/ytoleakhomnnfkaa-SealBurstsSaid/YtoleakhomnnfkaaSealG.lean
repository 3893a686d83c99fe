/-
  Package seal: the laws of what is sealed and opened, of names, of cuts.
-/
import Derived.Test.YtoleakhomnnfkaaSealF
namespace Go.Proofs.Ytoleakhomnnfkaa
open Go.RowKit
set_option maxRecDepth 100000

theorem openF_cases (l : List UInt8) : ((openF l).2.2 = 0 ∧ l = frame (openF l).1 (openF l).2.1 ∧ (openF l).2.1.length ≤ 8192) ∨ ((openF l).2.2 = 30 ∨ (openF l).2.2 = 4) := by
  unfold openF
  split
  · rename_i hf
    split
    · rename_i hw
      exact .inl ⟨rfl, frame_open hf hw⟩
    · exact .inr (.inl rfl)
  · exact .inr (.inr rfl)

theorem SealBack_law (k : UInt8) (s t : Sl) (l m : List UInt8) (w : World) (h : In w s l) (h' : In w t m) :
    Calls Try.prog 4 #[.int .u8 ((k.toNat : Nat) : Int), .slice s.base s.len s.cap, .slice t.base t.len t.cap] w (good w) := by
  refine sh_butterylaw02_SealBack_ok _ _ _ _ _ ?_
  unfold sh_butterylaw02_SealBack
  have hn := h.len
  have hn' := h'.len
  have main : ∀ W, Ext [] w W → s.len ≤ 20000 → t.len ≤ 20000 →
    (VCall none Try.prog 11 #[.int .u8 ((k.toNat : Nat) : Int), .slice s.base s.len s.cap] W (.tuple #[.slice none 0 0, .int .i64 0]) fun (r32_0 : Sl) (r32_1 : Int) (w3 : World) =>
    VSet r32_1 fun (e_8 : Int) =>
    ∃ Φ1 : World → Prop, (
      VIf (e_8 == 0) (
        VCall none Try.prog 14 #[.slice r32_0.base r32_0.len r32_0.cap] w3 (.tuple #[.int .u8 0, .slice none 0 0, .int .i64 0]) fun (r39_0 : Int) (r39_1 : Sl) (r39_2 : Int) (w4 : World) =>
        VSet r39_0 fun (k_9 : Int) =>
        VSet r39_2 fun (f_11 : Int) =>
        VCall (some (!((f_11 != 0) || (k_9 != ((k.toNat : Nat) : Int))))) Try.prog 12 #[.slice r39_1.base r39_1.len r39_1.cap, .slice s.base s.len s.cap] w4 (.bool false) fun (r53 : Bool) (w5 : World) =>
        VIf (((f_11 != 0) || (k_9 != ((k.toNat : Nat) : Int))) || (!r53)) (
          good w (.returned (.bool false)) w5
        ) (
          Φ1 w5
        )
      ) (
        Φ1 w3
      )
    ) ∧ ∀ (w6 : World), Φ1 w6 →
    VCall none Try.prog 14 #[.slice t.base t.len t.cap] w6 (.tuple #[.int .u8 0, .slice none 0 0, .int .i64 0]) fun (r58_0 : Int) (r58_1 : Sl) (r58_2 : Int) (w7 : World) =>
    VSet r58_0 fun (k_12 : Int) =>
    VSet r58_2 fun (f_14 : Int) =>
    VIf (f_14 != 0) (
      good w (.returned (.bool true)) w7
    ) (
      VCall none Try.prog 11 #[.int .u8 k_12, .slice r58_1.base r58_1.len r58_1.cap] w7 (.tuple #[.slice none 0 0, .int .i64 0]) fun (r67_0 : Sl) (r67_1 : Int) (w8 : World) =>
      VSet r67_1 fun (e_8' : Int) =>
      VCall (some (e_8' == 0)) Try.prog 12 #[.slice r67_0.base r67_0.len r67_0.cap, .slice t.base t.len t.cap] w8 (.bool false) fun (r75 : Bool) (w9 : World) =>
      good w (.returned (.bool ((e_8' == 0) && r75))) w9
    )) := by
    intro W eW hs hb
    have hL := sealL_len k l
    refine VCall.i (Seal_spec k s l W (h.1.ext0 eW)) ?_
    rintro e w3 ⟨x1, rfl, k1, e3⟩
    have e3 := eW.then0 e3
    refine exW.i2 (t := .sl) x1 _ rfl (VSet.i ?_)
    refine ⟨fun W => Ext [] w W, VIf.mk (fun hc => ?_) (fun _ => e3), ?_⟩
    · have h8 : ¬ 8192 < l.length := by
        intro h8; unfold sealE at hc; rw [if_pos h8] at hc; simp at hc
      refine VCall.i (Open_spec x1 _ w3 k1.in_) ?_
      rintro e w4 ⟨x2, rfl, k2, e4⟩
      have ho : openF (sealL k l) = (k, l, 0) := by unfold sealL; rw [if_neg h8]; exact open_frame k l (by omega)
      rw [ho] at k2 ⊢
      refine exW.i3 (u := .sl) _ x2 _ rfl (VSet.i (VSet.i ?_))
      refine VCall.on (by simp) (VCall.i (XSame_spec x2 s l l w4 k2.seg (h.1.ext0 (e3.then0 e4)) (by omega)) ?_)
      rintro e w5 ⟨rfl, e5⟩
      exact exW.i1 (t := .bool) _ rfl (VIf.f (by simp) ((e3.then0 e4).then0 e5))
    · intro w6 e6
      refine VCall.i (Open_spec t m w6 (h'.ext0 e6)) ?_
      rintro e w7 ⟨x3, rfl, k3, e7⟩
      have e7 := e6.then0 e7
      refine exW.i3 (u := .sl) _ x3 _ rfl (VSet.i (VSet.i ?_))
      rcases openF_cases m with ⟨hz, hm, hlen⟩ | hz
      · refine VIf.f (by rw [hz]; simp) ?_
        have hE : sealE (openF m).2.1 = 0 := by unfold sealE; rw [if_neg (by omega)]
        have hF : sealL (openF m).1 (openF m).2.1 = m := by unfold sealL; rw [if_neg (by omega)]; exact hm.symm
        refine VCall.i (Seal_spec _ x3 _ w7 k3.seg) ?_
        rintro e w8 ⟨x4, rfl, k4, e8⟩
        rw [hF] at k4
        rw [hE]
        refine exW.i2 (t := .sl) x4 _ rfl (VSet.i ?_)
        refine VCall.on (by simp) (VCall.i (XSame_spec x4 t m m w8 k4.seg (h'.1.ext0 (e7.then0 e8)) (by omega)) ?_)
        rintro e w9 ⟨rfl, e9⟩
        exact exW.i1 (t := .bool) _ rfl ⟨by simp, (e7.then0 e8).then0 e9⟩
      · refine VIf.t (by rcases hz with hz | hz <;> rw [hz] <;> rfl) ⟨rfl, e7⟩
  by_cases hbig : s.len ≤ 20000 ∧ t.len ≤ 20000
  · refine VCall.on (by simp; omega) (VCall.i (awake_spec w) ?_)
    rintro e w1 ⟨rfl, e1⟩
    refine exW.i1 (t := .bool) _ rfl (VIf.f (by simp; omega) ?_)
    exact main w1 e1 hbig.1 hbig.2
  · refine VCall.off (by simp; omega) (exW.i1 (t := .bool) false trivial (VIf.t (by simp) ?_))
    refine VCall.i (awake_spec w) ?_
    rintro e w1 ⟨rfl, e1⟩
    exact exW.i1 _ rfl ⟨rfl, e1⟩

theorem sum_nine : ((sum32 0#32 [49, 50, 51, 52, 53, 54, 55, 56, 57]).toNat : Int) = 3421780262 := by decide +kernel
theorem SealNames_law (w : World) : Calls Try.prog 7 #[] w (good w) := by
  refine sh_butterylaw02_SealNames_ok _ _ ?_
  unfold sh_butterylaw02_SealNames
  refine VMk.i (by omega) (by omega) (by omega) (by omega) fun b w1 hb hk e1 => ?_
  rw [show Int.toNat 8193 = 8193 by rfl, made8] at hk
  generalize hl : List.replicate 8193 (0 : UInt8) = l at hk
  have hln : l.length = 8193 := by rw [← hl, List.length_replicate]
  clear hl
  have hin : In w1 ⟨some ⟨b, 0, none⟩, 8193, 8193⟩ l := ⟨Seg.of_bk hk (by simp) (by rw [bc_len, hln]; rfl), Nat.le_refl _, by simp⟩
  refine VCall.i (Seal_spec 1 ⟨some ⟨b, 0, none⟩, 8193, 8193⟩ l w1 hin.1) ?_
  rintro e w2 ⟨x1, rfl, k1, e2⟩
  have e2 := e1.then0 e2
  rw [show sealE l = 40 by unfold sealE; rw [if_pos (by omega)]]
  refine exW.i2 (t := .sl) x1 _ rfl (VSet.i (VCk.i (by omega) ?_))
  have hcut := (hin.ext0 (by assumption)).cut 0 8192 (by omega) (by omega)
  rw [List.drop_zero] at hcut
  have htl : (l.take 8192).length = 8192 := by simp [hln]
  refine VCall.i (Seal_spec 1 ⟨cutB (some ⟨b, 0, none⟩) 8193 1 0, 8192 - 0, 8193 - 0⟩ (l.take 8192) w2 hcut.1) ?_
  rintro e w3 ⟨x2, rfl, k2, e23⟩
  have e3 := e2.then0 e23
  rw [show sealE (l.take 8192) = 0 by unfold sealE; rw [if_neg (by omega)]]
  rw [show sealL 1 (l.take 8192) = frame 1 (l.take 8192) by unfold sealL; rw [if_neg (by omega)]] at k2
  refine exW.i2 (t := .sl) x2 _ rfl (VSet.i ?_)
  refine VCall.i (Open_spec x2 _ w3 k2.in_) ?_
  rintro e w4 ⟨x3, rfl, k3, e4⟩
  have e34 := e4
  have e4 := e3.then0 e4
  rw [open_frame _ _ (by omega)] at k3 ⊢
  have hx3 : x3.len = 8192 := by rw [k3.len]; exact htl
  refine exW.i3 (u := .sl) _ x3 _ rfl (VSet.i (VSet.i ?_))
  refine VNw.i fun b5 w5 hb5 hk5 e5 => ?_
  have hk5 : Bk w5 b5 (bc [0]) 5 := hk5
  refine VApp.own (k2.ext0 (e34.then0 e5)) (e23.then0 (e34.then0 e5)) (news := [0]) (Seg.of_bk hk5 rfl rfl) rfl (by rw [frame_len, htl]; omega) fun s6 w6 h6 e6 _ => ?_
  have e6 := e2.then0 e6
  refine VCall.i (Open_spec s6 _ w6 h6.in_) ?_
  rintro e w7 ⟨x7, rfl, k7, e7⟩
  have e7 := e6.then0 e7
  have ho : openF (frame 1 (l.take 8192) ++ [0]) = (0, [], 4) := by
    unfold openF
    rw [if_neg]
    rintro ⟨_, h2, _⟩
    rw [List.length_append, frame_len, htl] at h2
    simp at h2
  rw [ho]
  refine exW.i3 (u := .sl) _ x7 _ rfl (VSet.i (VSet.i ?_))
  refine VCall.i (Open_spec ⟨none, 0, 0⟩ [] w7 (In.nil _)) ?_
  rintro e w8 ⟨x8, rfl, k8, e8⟩
  have e8 := e7.then0 e8
  rw [show openF [] = (0, [], 4) by unfold openF; rw [if_neg]; rintro ⟨h, _⟩; simp at h]
  refine exW.i3 (u := .sl) _ x8 _ rfl (VSet.i (VSet.i ?_))
  refine VCall.i (Seal_spec 0 ⟨none, 0, 0⟩ [] w8 (In.nil _).1) ?_
  rintro e w9 ⟨x9, rfl, k9, e9⟩
  have e9 := e8.then0 e9
  have hx9 : x9.len = 7 := by rw [k9.len]; unfold sealL; rw [if_neg (by simp), frame_len]; rfl
  rw [show sealE [] = 0 by decide]
  refine exW.i2 (t := .sl) x9 _ rfl (VSet.i ?_)
  refine VCall.i (Sum_spec ⟨none, 0, 0⟩ [] w9 (In.nil _).1 (by simp)) ?_
  rintro e w10 ⟨rfl, e10⟩
  have e10 := e9.then0 e10
  rw [show (((sum32 0#32 []).toNat : Nat) : Int) = 0 by decide]
  refine exW.i1 (t := .int .u32) _ rfl ?_
  rw [hx3, hx9]
  refine VNw.on (by decide) (VNw.i fun b11 w11 hb11 hk11 e11 => ?_)
  have hk11 : Bk w11 b11 (bc [49, 50, 51, 52, 53, 54, 55, 56, 57]) 5 := hk11
  refine VMark.on (by decide) (VMark.bk hk11 fun w12 hk12 e12 => ?_)
  have e12 := (e10.then0 e11).then e12 (fun i hi hlt => by simp at hi; have := e10.size; omega)
  refine VCall.on (by decide) (VCall.i (Sum_spec ⟨some ⟨b11, 0, none⟩, 9, 9⟩ [49, 50, 51, 52, 53, 54, 55, 56, 57] w12 (Seg.of_bk hk12 rfl rfl) (by simp)) ?_)
  rintro e w13 ⟨rfl, e13⟩
  have e13 := e12.then0 e13
  rw [sum_nine]
  refine exW.i1 (t := .int .u32) _ rfl ?_
  refine VNw.on (by decide) (VNw.i fun b14 w14 hb14 hk14 e14 => ?_)
  have hk14 : Bk w14 b14 (bc [49, 50, 51, 52]) 5 := hk14
  refine VMark.on (by decide) (VMark.bk hk14 fun w15 hk15 e15 => ?_)
  have e15 := (e13.then0 e14).then e15 (fun i hi hlt => by simp at hi; have := e13.size; omega)
  refine VCall.on (by decide) (VCall.i (Sum_spec ⟨some ⟨b14, 0, none⟩, 4, 4⟩ [49, 50, 51, 52] w15 (Seg.of_bk hk15 rfl rfl) (by simp)) ?_)
  rintro e w16 ⟨rfl, e16⟩
  have e16 := e15.then0 e16
  refine exW.i1 (t := .int .u32) _ rfl ?_
  refine VNw.on (by decide) (VNw.i fun b17 w17 hb17 hk17 e17 => ?_)
  have hk17 : Bk w17 b17 (bc [53, 54, 55, 56, 57]) 5 := hk17
  refine VMark.on (by decide) (VMark.bk hk17 fun w18 hk18 e18 => ?_)
  have e18 := (e16.then0 e17).then e18 (fun i hi hlt => by simp at hi; have := e16.size; omega)
  refine VCall.on (by decide) (VCall.i (More_spec _ ⟨some ⟨b17, 0, none⟩, 5, 5⟩ [53, 54, 55, 56, 57] w18 (Seg.of_bk hk18 rfl rfl) (by simp)) ?_)
  rintro e w19 ⟨rfl, e19⟩
  have e19 := e18.then0 e19
  rw [sum_app]
  simp only [List.cons_append, List.nil_append]
  rw [sum_nine]
  refine exW.i1 (t := .int .u32) _ rfl ?_
  refine VCall.on (by decide) (VCall.i (awake_spec w19) ?_)
  rintro e w20 ⟨rfl, e20⟩
  exact exW.i1 (t := .bool) _ rfl ⟨by simp, e19.then0 e20⟩

/-! cuts -/
theorem modu (n : Int) (m : Nat) (hm : 0 < m) (h : m ≤ 1000000) : ∃ k : Nat, k < m ∧ IntKind.wrap .i64 (Int.tmod (IntKind.wrap .u64 n) ((m : Nat) : Int)) = (k : Int) := by
  rw [w64u]
  have h0 := Int.emod_nonneg n (show (18446744073709551616 : Int) ≠ 0 by omega)
  rw [Int.tmod_eq_emod_of_nonneg h0]
  have h1 := Int.emod_nonneg (n % 18446744073709551616) (show ((m : Nat) : Int) ≠ 0 by omega)
  have h2 := Int.emod_lt_of_pos (n % 18446744073709551616) (show 0 < ((m : Nat) : Int) by omega)
  refine ⟨(n % 18446744073709551616 % ((m : Nat) : Int)).toNat, by omega, ?_⟩
  rw [w64 (by omega)]; omega
theorem xor8 (a b : UInt8) : bXor .u8 ((a.toNat : Nat) : Int) ((b.toNat : Nat) : Int) = (((a ^^^ b).toNat : Nat) : Int) := by
  unfold bXor
  have h1 : (BitVec.ofInt (IntKind.bits .u8) ((a.toNat : Nat) : Int) ^^^ BitVec.ofInt (IntKind.bits .u8) ((b.toNat : Nat) : Int)).toNat = (a ^^^ b).toNat := by
    show (BitVec.ofInt 8 ((a.toNat : Nat) : Int) ^^^ BitVec.ofInt 8 ((b.toNat : Nat) : Int)).toNat = _
    have ha := UInt8.toNat_lt a
    have hb := UInt8.toNat_lt b
    rw [BitVec.ofInt_natCast, BitVec.ofInt_natCast, UInt8.toNat_xor, BitVec.toNat_xor, BitVec.toNat_ofNat, BitVec.toNat_ofNat, Nat.mod_eq_of_lt (by omega), Nat.mod_eq_of_lt (by omega)]
  rw [h1, wrap8]
  have := UInt8.toNat_lt (a ^^^ b)
  omega
def tri (a b c : List UInt8) (n : Nat) : List (UInt8 × UInt8 × UInt8) := (List.range n).map fun i => (a.getD i 0, b.getD i 0, c.getD i 0)
theorem range_getD (a : List UInt8) (n : Nat) (h : n ≤ a.length) : (List.range n).map (fun i => a.getD i 0) = a.take n := by
  apply List.ext_getElem
  · simp; omega
  · intro i h1 h2
    simp at h1
    simp [List.getD_eq_getElem?_getD, show i < a.length by omega]

theorem SealCuts_law (s t u : Sl) (cut : Int) (l a c : List UInt8) (w : World) (h : In w s l) (ha : In w t a) (hc0 : In w u c) :
    Calls Try.prog 8 #[.slice s.base s.len s.cap, .int .i64 cut, .slice t.base t.len t.cap, .slice u.base u.len u.cap] w (good w) := by
  refine sh_butterylaw02_SealCuts_ok _ _ _ _ _ _ ?_
  unfold sh_butterylaw02_SealCuts
  have hn := h.len
  have hna := ha.len
  have hnc := hc0.len
  have hcap := h.2
  have hcapa := ha.2
  have hcapc := hc0.2
  rcases Nat.lt_or_ge 5000 s.len with hbig | hbig
  · refine VCall.off (by simp; omega) (exW.i1 (t := .bool) false trivial (VIf.t (by simp) ?_))
    refine VCall.i (awake_spec w) ?_
    rintro e w1 ⟨rfl, e1⟩
    exact exW.i1 _ rfl ⟨rfl, e1⟩
  refine VCall.on (by simp; omega) (VCall.i (awake_spec w) ?_)
  rintro e w1 ⟨rfl, e1⟩
  refine exW.i1 (t := .bool) _ rfl (VIf.f (by simp; omega) ?_)
  rw [w64 (n := ((s.len : Nat) : Int) + 1) (by omega), show IntKind.wrap .u64 (((s.len : Nat) : Int) + 1) = ((s.len + 1 : Nat) : Int) by rw [w64u]; omega]
  obtain ⟨k, hk, hke⟩ := modu cut (s.len + 1) (by omega) (by omega)
  rw [hke]
  refine VCk.i (by omega) (VSet.i ?_)
  intro w2 hw2
  have e2 := e1.then0 (Ext.drew' hw2)
  refine VCk.i (by omega) (VCk.i (by omega) ?_)
  rw [Int.toNat_natCast]
  have c1 := (h.ext0 e2).cut 0 k (by omega) (by omega)
  rw [List.drop_zero] at c1
  refine VCall.i (Sum_spec ⟨cutB s.base s.cap 1 0, k - 0, s.cap - 0⟩ (l.take k) w2 c1.1 (by simp; omega)) ?_
  rintro e w3 ⟨rfl, e3⟩
  have e3 := e2.then0 e3
  refine exW.i1 (t := .int .u32) _ rfl ?_
  have c2 := (h.ext0 e3).cut k s.len (by omega) (by omega)
  rw [hn, List.take_length] at c2
  rw [hn]
  refine VCall.i (More_spec _ ⟨cutB s.base s.cap 1 k, l.length - k, s.cap - k⟩ (l.drop k) w3 c2.1 (by simp; omega)) ?_
  rintro e w4 ⟨rfl, e4⟩
  have e4 := e3.then0 e4
  refine exW.i1 (t := .int .u32) _ rfl ?_
  rw [sum_app, List.take_append_drop]
  rw [← hn]
  refine VCall.i (Sum_spec s l w4 (h.1.ext0 e4) (by omega)) ?_
  rintro e w5 ⟨rfl, e5⟩
  have e5 := e4.then0 e5
  refine exW.i1 (t := .int .u32) _ rfl (VIf.f (by simp) ?_)
  generalize hnn : (if ((u.len : Nat) : Int) < (if ((s.len : Nat) : Int) < ((t.len : Nat) : Int) then ((s.len : Nat) : Int) else ((t.len : Nat) : Int)) then ((u.len : Nat) : Int) else if ((s.len : Nat) : Int) < ((t.len : Nat) : Int) then ((s.len : Nat) : Int) else ((t.len : Nat) : Int)) = nn
  obtain ⟨n, rfl, hns, hnt, hnu⟩ : ∃ n : Nat, nn = (n : Int) ∧ n ≤ s.len ∧ n ≤ t.len ∧ n ≤ u.len := by
    refine ⟨nn.toNat, ?_⟩
    subst hnn
    split <;> split <;> omega
  clear hnn
  refine VSet.i ?_
  refine VMk.i (by omega) (by omega) (by omega) (by omega) fun b w6 hb hkb e6 => ?_
  rw [Int.toNat_natCast, made8] at hkb
  have e6 := e5.then0 e6
  have hbw : w.heap.size ≤ b := by have := e5.size; omega
  let d : List UInt8 := (tri a l c n).map fun q => q.1 ^^^ q.2.1 ^^^ q.2.2
  have hd : d.length = n := by simp [d, tri]
  refine ⟨fun k i W => ∃ j : Nat, i = (j : Int) ∧ j ≤ n ∧ k = n - j ∧ Ext [] w W ∧ Bk W b (bc (d.take j ++ List.replicate (n - j) 0)) 5, ⟨_, 0, rfl, by omega, rfl, e6, by simpa using hkb⟩, ?_⟩
  rintro k' i w7 ⟨j, rfl, hj, rfl, e7, hk7⟩
  refine VIf.mk (fun hc => ?_) (fun hc => ?_)
  · have hj' : j < n := by simpa using hc
    intro w8 hw8
    have e78 := Ext.drew' hw8
    have e8 := e7.then0 e78
    refine VByte.n a j (ha.1.ext0 e8) rfl (fun _ => rfl) (by omega) ?_
    refine VByte.n l j (h.1.ext0 e8) rfl (fun _ => rfl) (by omega) ?_
    refine VByte.n c j (hc0.1.ext0 e8) rfl (fun _ => rfl) (by omega) ?_
    rw [xor8, xor8]
    have hk8 := hk7.ext e78
    refine VIx.i (by omega) (by omega) ?_
    simp only [add_blk, Int.toNat_natCast, Nat.zero_add, Nat.mul_one]
    refine VSt.bk hk8 rfl (by simp [bc_len, hd]; omega) fun w9 hk9 e9 => ?_
    have hgj : d[j]'(by omega) = a.getD j 0 ^^^ l.getD j 0 ^^^ c.getD j 0 := by simp [d, tri]
    rw [w64 (show -9223372036854775808 ≤ (j : Int) + 1 ∧ (j : Int) + 1 ≤ 9223372036854775807 by omega)]
    refine VSet.i ⟨_, by omega, j + 1, by omega, by omega, rfl, e8.then e9 (fun i hi hlt => by simp at hi; omega), ?_⟩
    have : (bc (d.take j ++ List.replicate (n - j) 0)).take j ++ [Value.int .u8 (((a.getD j 0 ^^^ l.getD j 0 ^^^ c.getD j 0).toNat : Nat) : Int)] ++ (bc (d.take j ++ List.replicate (n - j) 0)).drop (j + [Value.int .u8 (((a.getD j 0 ^^^ l.getD j 0 ^^^ c.getD j 0).toNat : Nat) : Int)].length)
        = bc (d.take (j + 1) ++ List.replicate (n - (j + 1)) 0) := by
      have h1 : (d.take j).length = j := by simp; omega
      rw [bc_take, bc_drop, List.take_append_of_le_length (by omega), List.take_of_length_le (by omega), List.drop_append, List.drop_of_length_le (by simp; omega), List.nil_append, h1,
        List.take_succ_eq_append_getElem (by omega), hgj]
      simp only [List.length_singleton, Nat.add_sub_cancel_left, List.drop_replicate, bc_app]
      rw [show n - j - 1 = n - (j + 1) by omega]
      simp [bc]
    rw [this] at hk9
    exact hk9
  · have hj' : j = n := by simp at hc; omega
    subst hj'
    rw [Nat.sub_self, List.replicate_zero, List.append_nil, List.take_of_length_le (by omega)] at hk7
    intro w8 hw8
    have e78 := Ext.drew' hw8
    have e8 := e7.then0 e78
    have hk8 := hk7.ext e78
    refine VCk.i (by omega) (VCk.i (by omega) (VCk.i (by omega) ?_))
    rw [Int.toNat_natCast]
    have q1 := (ha.ext0 e8).cut 0 j (by omega) (by omega)
    rw [List.drop_zero] at q1
    refine VCall.i (Sum_spec ⟨cutB t.base t.cap 1 0, j - 0, t.cap - 0⟩ (a.take j) w8 q1.1 (by simp; omega)) ?_
    rintro e w9 ⟨rfl, e89⟩
    have e9 := e8.then0 e89
    refine exW.i1 (t := .int .u32) _ rfl ?_
    have q2 := (h.ext0 e9).cut 0 j (by omega) (by omega)
    rw [List.drop_zero] at q2
    refine VCall.i (Sum_spec ⟨cutB s.base s.cap 1 0, j - 0, s.cap - 0⟩ (l.take j) w9 q2.1 (by simp; omega)) ?_
    rintro e w10 ⟨rfl, e910⟩
    have e10 := e9.then0 e910
    refine exW.i1 (t := .int .u32) _ rfl ?_
    have q3 := (hc0.ext0 e10).cut 0 j (by omega) (by omega)
    rw [List.drop_zero] at q3
    refine VCall.i (Sum_spec ⟨cutB u.base u.cap 1 0, j - 0, u.cap - 0⟩ (c.take j) w10 q3.1 (by simp; omega)) ?_
    rintro e w11 ⟨rfl, e1011⟩
    have e11 := e10.then0 e1011
    refine exW.i1 (t := .int .u32) _ rfl ?_
    have hk11 := ((hk8.ext e89).ext e910).ext e1011
    refine VCall.i (Sum_spec ⟨some ⟨b, 0, none⟩, j, j⟩ d w11 (Seg.of_bk hk11 (by simp) (by rw [bc_len, hd]; simp)) (by omega)) ?_
    rintro e w12 ⟨rfl, e12⟩
    refine exW.i1 (t := .int .u32) _ rfl ⟨?_, e11.then0 e12⟩
    have hx := sum_xor4 (tri a l c j)
    rw [show (tri a l c j).map (·.1) = a.take j by unfold tri; rw [List.map_map]; exact range_getD a j (by omega), show (tri a l c j).map (·.2.1) = l.take j by unfold tri; rw [List.map_map]; exact range_getD l j (by omega),
      show (tri a l c j).map (·.2.2) = c.take j by unfold tri; rw [List.map_map]; exact range_getD c j (by omega)] at hx
    rw [bXor32, bXor32, bXor32, hx]
    rfl
end Go.Proofs.Ytoleakhomnnfkaa
