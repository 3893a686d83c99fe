/-
  Package node, the document's: cut in two (printed by walks/xcut.py).
-/
import Derived.Test.YtknohdgcigcmdaaNodeX
namespace Go.Proofs.Ytknohdgcigcmdaa
open Go.RowKit
set_option maxRecDepth 100000

theorem NewN.nil (w0 w : World) (b : Bool) : NewN w0 w ⟨none, 0, 0⟩ ⟨none, 0, 0⟩ ⟨b, [], []⟩ := ⟨⟨InR.nil _, InR.nil _⟩, none_new, none_new⟩
/-- the best place among the first j ones -/
def bestSt (n : Nd) (j : Nat) (best least : Int) : Prop := (j = 0 ∧ best = -1) ∨ (∃ t : Nat, j = t + 1 ∧ best = ((bestTo n (firstN n) t : Nat) : Int) ∧ least = diffN n (bestTo n (firstN n) t))
theorem bestSt_t {n : Nd} {j : Nat} {best least : Int} (h : bestSt n j best least) (hc : (decide (best < 0) || decide (diffN n (firstN n + j) < least)) = true) : bestSt n (j + 1) ((firstN n + j : Nat) : Int) (diffN n (firstN n + j)) := by
  rcases h with ⟨rfl, rfl⟩ | ⟨t, rfl, rfl, rfl⟩
  · exact .inr ⟨0, rfl, rfl, rfl⟩
  · simp only [Bool.or_eq_true, decide_eq_true_eq] at hc
    have hlt : diffN n (firstN n + 1 + t) < diffN n (bestTo n (firstN n) t) := by rw [show firstN n + 1 + t = firstN n + (t + 1) by omega]; omega
    refine .inr ⟨t + 1, rfl, ?_, ?_⟩
    · unfold bestTo; rw [if_pos hlt]; omega
    · unfold bestTo; rw [if_pos hlt, show firstN n + 1 + t = firstN n + (t + 1) by omega]
theorem bestSt_f {n : Nd} {j : Nat} {best least : Int} (h : bestSt n j best least) (hc : (decide (best < 0) || decide (diffN n (firstN n + j) < least)) = false) : bestSt n (j + 1) best least := by
  simp only [Bool.or_eq_false_iff, decide_eq_false_iff_not] at hc
  rcases h with ⟨rfl, rfl⟩ | ⟨t, rfl, rfl, rfl⟩
  · omega
  · have hlt : ¬ diffN n (firstN n + 1 + t) < diffN n (bestTo n (firstN n) t) := by rw [show firstN n + 1 + t = firstN n + (t + 1) by omega]; exact hc.2
    have hb : bestTo n (firstN n) (t + 1) = bestTo n (firstN n) t := by
      conv => lhs; unfold bestTo
      rw [if_neg hlt]
    exact .inr ⟨t + 1, rfl, by rw [hb], by rw [hb]⟩
set_option maxHeartbeats 1000000 in
theorem xCut_spec (c k : Sl) (n : Nd) (w : World) (h : NIn w c k n) (hs : Small n) : Calls Try.prog 14 #[.agg (nhC n.leaf c k).toArray] w fun e w' =>
      ∃ c1 k1 c2 k2 : Sl, e = .returned (.tuple #[.agg (nhC (cutN n).1.leaf c1 k1).toArray, .string (cutN n).2.1, .agg (nhC (cutN n).2.2.leaf c2 k2).toArray]) ∧ NewN w w' c1 k1 (cutN n).1 ∧ NewN w w' c2 k2 (cutN n).2.2 ∧ Ext [] w w' := by
  refine sh_butteryref06_Cut_ok _ _ _ _ _ ?_
  unfold sh_butteryref06_Cut
  have hl := h.ci.1.rlen
  have hsc := hs.c
  have hsk := hs.k
  have hf1 : firstN n ≤ 1 := by unfold firstN; split <;> omega
  refine VNw.i fun n_1 w1 hb1 hk1 e1 => ?_
  have hk1 : Bk w1 n_1 [.bool n.leaf, .slice c.base c.len c.cap, .slice k.base k.len k.cap] 25 := hk1
  have z1 := e1.size
  have l1 := hk1.lt
  refine VNw.i fun b2 w2 hb2 hk2 e2 => ?_
  have hk2 : Bk w2 b2 [.bool false, .slice none 0 0, .slice none 0 0] 25 := hk2
  have z2 := e2.size
  have l2 := hk2.lt
  refine VNw.i fun b4 w3 hb3 hk3 e3 => ?_
  have hk3 : Bk w3 b4 [.bool false, .slice none 0 0, .slice none 0 0] 25 := hk3
  have z3 := e3.size
  have l3 := hk3.lt
  refine ⟨fun first_5 W => first_5 = ((firstN n : Nat) : Int) ∧ Bk W n_1 [.bool n.leaf, .slice c.base c.len c.cap, .slice k.base k.len k.cap] 25 ∧ Bk W b2 [.bool false, .slice none 0 0, .slice none 0 0] 25 ∧ Bk W b4 [.bool false, .slice none 0 0, .slice none 0 0] 25 ∧ Ext [] w W, ?_, ?_⟩
  · have e1_3 := e2.then0 e3
    have hn_1_3 := hk1.ext e1_3
    refine VLd.i1 (t := CT.bool) n.leaf (Rd.of_bk hn_1_3 rfl) ?_
    refine VIf.mk (fun hc => ?_) (fun hc => ?_)
    · have hb2_3 := hk2.ext e3
      have e0_2 := e1.then0 e2
      have e0_3 := e0_2.then0 e3
      exact ⟨by unfold firstN; rw [if_pos hc]; rfl, hn_1_3, hb2_3, hk3, e0_3⟩
    · have hb2_3 := hk2.ext e3
      have e0_2 := e1.then0 e2
      have e0_3 := e0_2.then0 e3
      exact ⟨by unfold firstN; rw [if_neg (by simp [hc])]; rfl, hn_1_3, hb2_3, hk3, e0_3⟩
  rintro first_5 w4 ⟨rfl, gn_1_4, gb2_4, gb4_4, e0_4⟩
  have z4 := e0_4.size
  have lgn_1_4 := gn_1_4.lt
  have lgb2_4 := gb2_4.lt
  have lgb4_4 := gb4_4.lt
  refine VLd.s c (Rd.of_bk gn_1_4 rfl) ?_
  refine VIf.mk (fun hc => ?_) (fun hc => ?_)
  · have hd : n.cs.length ≤ firstN n := by rw [hl] at hc; simp at hc; omega
    have hcut : cutN n = (n, ByteArray.mk #[], ⟨false, [], []⟩) := by unfold cutN; rw [if_pos hd]
    rw [hcut]
    refine ⟨n.leaf, c, k, gd.i (Rd.of_bk gn_1_4 rfl), ?_⟩
    have h_4 := h.ext0 e0_4
    refine VCall.i (xTwin_spec c k n w4 h_4 ⟨hsc, hsk⟩) ?_
    rintro e w5 ⟨c', k', rfl, hT, e5⟩
    have z5 := e5.size
    refine ⟨n.leaf, c', k', rfl, ?_⟩
    have gT := hT.ge
    have lT := hT.lt
    have hb2_5 := gb2_4.ext e5
    refine VSt.bk hb2_5 rfl (by simp) fun w6 hk6 e6 => ?_
    have hk6 : Bk w6 b2 [.bool n.leaf, .slice c'.base c'.len c'.cap, .slice k'.base k'.len k'.cap] 25 := hk6
    have z6 := e6.size
    have e4_6 := e5.trans e6
    have hb4_6 := gb4_4.ext e4_6
    refine VSt.bk hb4_6 rfl (by simp) fun w7 hk7 e7 => ?_
    have hk7 : Bk w7 b4 [.bool false, .slice none 0 0, .slice none 0 0] 25 := hk7
    have z7 := e7.size
    have hb2_7 := hk6.ext e7
    refine ⟨n.leaf, c', k', gd.i (Rd.of_bk hb2_7 rfl), ?_⟩
    refine ⟨false, ⟨none, 0, 0⟩, ⟨none, 0, 0⟩, gd.i (Rd.of_bk hk7 rfl), ?_⟩
    have e5_7 := e6.trans e7
    have hT_7 := hT.ext e5_7 (fun b hb hm => by have := gT b hb; have := lT b hb; simp at hm; omega)
    have e0_5 := e0_4.then0 e5
    have e0_6 := e0_5.then e6 (fun i hi hlt => by simp at hi; omega)
    have e0_7 := e0_6.then e7 (fun i hi hlt => by simp at hi; omega)
    exact ⟨c', k', ⟨none, 0, 0⟩, ⟨none, 0, 0⟩, rfl, hT_7.new.mono (by omega), NewN.nil _ _ _, e0_7⟩
  · have hd : firstN n < n.cs.length := by rw [hl] at hc; simp at hc; omega
    refine VSet.i ?_
    refine ⟨fun kk best_6 least_7 i_8' W => ∃ j : Nat, kk = n.cs.length - j ∧ i_8' = ((firstN n + j : Nat) : Int) ∧ j ≤ n.cs.length - firstN n ∧ bestSt n j best_6 least_7 ∧ Bk W n_1 [.bool n.leaf, .slice c.base c.len c.cap, .slice k.base k.len k.cap] 25 ∧ Bk W b2 [.bool false, .slice none 0 0, .slice none 0 0] 25 ∧ Bk W b4 [.bool false, .slice none 0 0, .slice none 0 0] 25 ∧ Ext [] w W, ⟨_, 0, rfl, rfl, Nat.zero_le _, .inl ⟨rfl, rfl⟩, gn_1_4, gb2_4, gb4_4, e0_4⟩, ?_⟩
    rintro kk best_6 least_7 i_8' w8 ⟨j, rfl, rfl, hj, hB, gn_1_8, gb2_8, gb4_8, e0_8⟩
    have z8 := e0_8.size
    have lgn_1_8 := gn_1_8.lt
    have lgb2_8 := gb2_8.lt
    have lgb4_8 := gb4_8.lt
    refine VLd.s c (Rd.of_bk gn_1_8 rfl) ?_
    refine VIf.mk (fun hc => ?_) (fun hc => ?_)
    · have hd2 : firstN n + j < n.cs.length := by rw [hl] at hc; simp at hc; omega
      refine ⟨fun best_6' least_7' W => bestSt n (j + 1) best_6' least_7' ∧ Bk W n_1 [.bool n.leaf, .slice c.base c.len c.cap, .slice k.base k.len k.cap] 25 ∧ Bk W b2 [.bool false, .slice none 0 0, .slice none 0 0] 25 ∧ Bk W b4 [.bool false, .slice none 0 0, .slice none 0 0] 25 ∧ Ext [] w W, ?_, ?_⟩
      · refine ⟨n.leaf, c, k, gd.i (Rd.of_bk gn_1_8 rfl), ?_⟩
        have h_8 := h.ext0 e0_8
        refine VCall.i (xat_spec c k n w8 (firstN n + j) hd2 h_8 ⟨hsc, hsk⟩) ?_
        rintro e w9 ⟨c1, k1, c2, k2, rfl, h1, h2, e9⟩
        have z9 := e9.size
        refine ⟨n.leaf, c1, k1, _, n.leaf, c2, k2, rfl, ?_⟩
        obtain ⟨f1, f2⟩ := atN_leaf n (firstN n + j)
        obtain ⟨s1, s2⟩ := hs.at (firstN n + j)
        refine VNw.i fun a_9 w10 hb10 hk10 e10 => ?_
        have hk10 : Bk w10 a_9 [.bool false, .slice none 0 0, .slice none 0 0] 25 := hk10
        have z10 := e10.size
        have l10 := hk10.lt
        refine VNw.i fun b_11 w11 hb11 hk11 e11 => ?_
        have hk11 : Bk w11 b_11 [.bool false, .slice none 0 0, .slice none 0 0] 25 := hk11
        have z11 := e11.size
        have l11 := hk11.lt
        have ha_9_11 := hk10.ext e11
        refine VSt.bk ha_9_11 rfl (by simp) fun w12 hk12 e12 => ?_
        have hk12 : Bk w12 a_9 [.bool n.leaf, .slice c1.base c1.len c1.cap, .slice k1.base k1.len k1.cap] 25 := hk12
        have z12 := e12.size
        have hb_11_12 := hk11.ext e12
        refine VSt.bk hb_11_12 rfl (by simp) fun w13 hk13 e13 => ?_
        have hk13 : Bk w13 b_11 [.bool n.leaf, .slice c2.base c2.len c2.cap, .slice k2.base k2.len k2.cap] 25 := hk13
        have z13 := e13.size
        intro w14 hw14
        have e14 := Ext.drew' hw14
        have z14 := e14.size
        have e12_14 := e13.then0 e14
        have ha_9_14 := hk12.ext e12_14
        refine ⟨n.leaf, c1, k1, gd.i (Rd.of_bk ha_9_14 rfl), ?_⟩
        have hb_11_14 := hk13.ext e14
        refine ⟨n.leaf, c2, k2, gd.i (Rd.of_bk hb_11_14 rfl), ?_⟩
        have e9_11 := e10.then0 e11
        have e9_12 := e9_11.then e12 (fun i hi hlt => by simp at hi; omega)
        have e9_13 := e9_12.then e13 (fun i hi hlt => by simp at hi; omega)
        have e9_14 := e9_13.then0 e14
        have h1_14 := h1.ext0 e9_14
        have bs1 := xbytes_spec c1 k1 (atN n (firstN n + j)).1 w14 h1_14.nin s1
        rw [f1] at bs1
        refine VCall.i (bs1) ?_
        rintro e w15 ⟨x1, rfl, y1, e15⟩
        have z15 := e15.size
        refine ⟨x1, rfl, ?_⟩
        have q1 := y1.len
        have l1 := bytesN_len s1
        have hb_11_15 := hb_11_14.ext e15
        refine ⟨Rd.of_bk hb_11_15 rfl, ?_⟩
        have e9_15 := e9_14.then0 e15
        have h2_15 := h2.ext0 e9_15
        have bs2 := xbytes_spec c2 k2 (atN n (firstN n + j)).2 w15 h2_15.nin s2
        rw [f2] at bs2
        refine VCall.i (bs2) ?_
        rintro e w16 ⟨x2, rfl, y2, e16⟩
        have z16 := e16.size
        refine ⟨x2, rfl, ?_⟩
        have q2 := y2.len
        have l2 := bytesN_len s2
        refine VSet.eq (m := subN n (firstN n + j)) (by rw [q1, q2, w64 (by omega)]; rfl) ?_
        have hb : -300000000 ≤ subN n (firstN n + j) ∧ subN n (firstN n + j) ≤ 300000000 := by unfold subN; omega
        refine ⟨fun d_12' W => d_12' = diffN n (firstN n + j) ∧ Bk W n_1 [.bool n.leaf, .slice c.base c.len c.cap, .slice k.base k.len k.cap] 25 ∧ Bk W b2 [.bool false, .slice none 0 0, .slice none 0 0] 25 ∧ Bk W b4 [.bool false, .slice none 0 0, .slice none 0 0] 25 ∧ Ext [] w W, ?_, ?_⟩
        · refine VIf.mk (fun hc => ?_) (fun hc => ?_)
          · refine VSet.eq (m := 0 - (subN n (firstN n + j))) (w64 (by omega)) ?_
            have e8_10 := e9.then0 e10
            have e8_11 := e8_10.then0 e11
            have e8_12 := e8_11.then e12 (fun i hi hlt => by simp at hi; omega)
            have e8_13 := e8_12.then e13 (fun i hi hlt => by simp at hi; omega)
            have e8_14 := e8_13.then0 e14
            have e8_15 := e8_14.then0 e15
            have e8_16 := e8_15.then0 e16
            have hn_1_16 := gn_1_8.ext e8_16
            have hb2_16 := gb2_8.ext e8_16
            have hb4_16 := gb4_8.ext e8_16
            have e0_9 := e0_8.then0 e9
            have e0_10 := e0_9.then0 e10
            have e0_11 := e0_10.then0 e11
            have e0_12 := e0_11.then e12 (fun i hi hlt => by simp at hi; omega)
            have e0_13 := e0_12.then e13 (fun i hi hlt => by simp at hi; omega)
            have e0_14 := e0_13.then0 e14
            have e0_15 := e0_14.then0 e15
            have e0_16 := e0_15.then0 e16
            exact ⟨by have hc := of_decide_eq_true hc; unfold diffN; split <;> omega, hn_1_16, hb2_16, hb4_16, e0_16⟩
          · have e8_10 := e9.then0 e10
            have e8_11 := e8_10.then0 e11
            have e8_12 := e8_11.then e12 (fun i hi hlt => by simp at hi; omega)
            have e8_13 := e8_12.then e13 (fun i hi hlt => by simp at hi; omega)
            have e8_14 := e8_13.then0 e14
            have e8_15 := e8_14.then0 e15
            have e8_16 := e8_15.then0 e16
            have hn_1_16 := gn_1_8.ext e8_16
            have hb2_16 := gb2_8.ext e8_16
            have hb4_16 := gb4_8.ext e8_16
            have e0_9 := e0_8.then0 e9
            have e0_10 := e0_9.then0 e10
            have e0_11 := e0_10.then0 e11
            have e0_12 := e0_11.then e12 (fun i hi hlt => by simp at hi; omega)
            have e0_13 := e0_12.then e13 (fun i hi hlt => by simp at hi; omega)
            have e0_14 := e0_13.then0 e14
            have e0_15 := e0_14.then0 e15
            have e0_16 := e0_15.then0 e16
            exact ⟨by have hc := of_decide_eq_false hc; unfold diffN; split <;> omega, hn_1_16, hb2_16, hb4_16, e0_16⟩
        rintro d_12' w17 ⟨rfl, gn_1_17, gb2_17, gb4_17, e0_17⟩
        have z17 := e0_17.size
        have lgn_1_17 := gn_1_17.lt
        have lgb2_17 := gb2_17.lt
        have lgb4_17 := gb4_17.lt
        refine VIf.mk (fun hc => ?_) (fun hc => ?_)
        · refine VSet.i ?_
          refine VSet.i ?_
          exact ⟨bestSt_t hB hc, gn_1_17, gb2_17, gb4_17, e0_17⟩
        · exact ⟨bestSt_f hB hc, gn_1_17, gb2_17, gb4_17, e0_17⟩
      rintro best_6' least_7' w18 ⟨hB2, gn_1_18, gb2_18, gb4_18, e0_18⟩
      have z18 := e0_18.size
      have lgn_1_18 := gn_1_18.lt
      have lgb2_18 := gb2_18.lt
      have lgb4_18 := gb4_18.lt
      refine VSet.eq (m := ((firstN n + j : Nat) : Int) + 1) (w64 (by omega)) ?_
      exact ⟨_, (show n.cs.length - (j + 1) < n.cs.length - j by omega), j + 1, rfl, by omega, by omega, hB2, gn_1_18, gb2_18, gb4_18, e0_18⟩
    · have hjj : j = n.cs.length - firstN n := by rw [hl] at hc; simp at hc; omega
      rcases hB with ⟨h0, _⟩ | ⟨t, ht, rfl, _⟩
      · omega
      have htt : t = n.cs.length - firstN n - 1 := by omega
      have hbl := bestTo_le n (firstN n) t
      obtain ⟨b, hb⟩ : ∃ b, b = bestTo n (firstN n) t := ⟨_, rfl⟩
      have hbl2 : b < n.cs.length := by omega
      have hcut : cutN n = ((atN n b).1, (n.cs[b]).key, (atN n b).2) := by
        unfold cutN
        rw [if_neg (by omega), ← htt, ← hb, getD_at hbl2]
      rw [hcut, ← hb]
      obtain ⟨f1, f2⟩ := atN_leaf n b
      refine ⟨n.leaf, c, k, gd.i (Rd.of_bk gn_1_8 rfl), ?_⟩
      have h_8 := h.ext0 e0_8
      refine VCall.i (xat_spec c k n w8 b hbl2 h_8 ⟨hsc, hsk⟩) ?_
      rintro e w19 ⟨c1, k1, c2, k2, rfl, h1, h2, e19⟩
      have z19 := e19.size
      refine ⟨n.leaf, c1, k1, _, n.leaf, c2, k2, rfl, ?_⟩
      have hb2_19 := gb2_8.ext e19
      refine VSt.bk hb2_19 rfl (by simp) fun w20 hk20 e20 => ?_
      have hk20 : Bk w20 b2 [.bool n.leaf, .slice c1.base c1.len c1.cap, .slice k1.base k1.len k1.cap] 25 := hk20
      have z20 := e20.size
      have e8_20 := e19.trans e20
      have hb4_20 := gb4_8.ext e8_20
      refine VSt.bk hb4_20 rfl (by simp) fun w21 hk21 e21 => ?_
      have hk21 : Bk w21 b4 [.bool n.leaf, .slice c2.base c2.len c2.cap, .slice k2.base k2.len k2.cap] 25 := hk21
      have z21 := e21.size
      have hb2_21 := hk20.ext e21
      refine ⟨n.leaf, c1, k1, gd.i (Rd.of_bk hb2_21 rfl), ?_⟩
      refine ⟨n.leaf, c2, k2, gd.i (Rd.of_bk hk21 rfl), ?_⟩
      have e0_19 := e0_8.then0 e19
      have e0_20 := e0_19.then e20 (fun i hi hlt => by simp at hi; omega)
      have e0_21 := e0_20.then e21 (fun i hi hlt => by simp at hi; omega)
      have e19_21 := e20.trans e21
      have A1 := h1.ext e19_21 (by simp; omega)
      have A2 := h2.ext e19_21 (by simp; omega)
      exact ⟨c1, k1, c2, k2, by rw [f1, f2]; rfl, A1.mono (by omega), A2.mono (by omega), e0_21⟩
end Go.Proofs.Ytknohdgcigcmdaa
