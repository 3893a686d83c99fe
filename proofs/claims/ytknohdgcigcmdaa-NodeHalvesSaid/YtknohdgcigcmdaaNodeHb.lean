/-
  Package node: NodeHalves (printed by walks/halves.py).
-/
import Derived.Test.YtknohdgcigcmdaaNodeHa
namespace Go.Proofs.Ytknohdgcigcmdaa
open Go.RowKit
set_option maxRecDepth 100000

theorem take_drop_one {α : Type} (L : List α) (j : Nat) (h : j < L.length) : (L.take (j + 1)).drop j = [L[j]] := by
  rw [List.drop_take, show j + 1 - j = 1 by omega, List.drop_eq_getElem_cons h]; rfl
theorem one_at {x : Ce} (h : mayC true x = true) (j : Nat) (hj : j < [x].length) : mayC true [x][j] = true := by
  have : j = 0 := by simpa using hj
  subst this
  exact h
theorem one_size {x : Ce} (h : mayC true x = true) : sizeN ⟨true, [x], []⟩ = (cellB true x).length + 2 := by
  have hok : okN ⟨true, [x], []⟩ = true := okN_iff.2 ⟨okC_iff.2 ⟨fun j hj => one_at h j hj, fun j hj => by simp at hj⟩, rfl, rfl⟩
  unfold sizeN
  rw [if_pos hok]
  unfold bytesN
  simp only [if_true, List.append_nil, List.length_append]
  rw [headB_len2 (by simp)]
  simp; omega
set_option maxHeartbeats 1000000 in
theorem biggest_spec (c k : Sl) (n : Nd) (w : World) (h : NIn w c k n) (hs : Small n) (hl : n.leaf = true) (hok : okN n = true) : Calls Try.prog 22 #[.agg (nhC n.leaf c k).toArray] w fun e w' => ∃ r : Int, e = .returned (.int .i64 r) ∧ (∀ x ∈ n.cs, ((cellB true x).length : Int) ≤ r) ∧ Ext [] w w' := by
  refine sh_butterylaw06_biggest_ok _ _ _ _ _ ?_
  unfold sh_butterylaw06_biggest
  have hln := h.ci.1.rlen
  have hsc := hs.c
  have hcap := h.ci.2
  have hmay := (okC_iff.1 (okN_iff.1 hok).1).1
  rw [hl] at hmay
  refine VNw.i fun n_1 w1 hb1 hk1 e1 => ?_
  have hk1 : Bk w1 n_1 [.bool n.leaf, .slice c.base c.len c.cap, .slice k.base k.len k.cap] 25 := hk1
  have z1 := e1.size
  have l1 := hk1.lt
  refine ⟨fun kk most_3 i_4 W => ∃ j : Nat, kk = n.cs.length - j ∧ i_4 = (j : Int) ∧ j ≤ n.cs.length ∧ (0 ≤ most_3 ∧ most_3 ≤ 200040) ∧ (∀ t (ht : t < n.cs.length), t < j → ((cellB true n.cs[t]).length : Int) ≤ most_3) ∧ Bk W n_1 [.bool n.leaf, .slice c.base c.len c.cap, .slice k.base k.len k.cap] 25 ∧ Ext [] w W, ⟨_, 0, rfl, rfl, Nat.zero_le _, by omega, (fun t ht hlt => absurd hlt (by omega)), hk1, e1⟩, ?_⟩
  rintro kk most_3 i_4 w2 ⟨j, rfl, rfl, hj, hm0, hmx, gn_1_2, e0_2⟩
  have z2 := e0_2.size
  have lgn_1_2 := gn_1_2.lt
  refine VLd.s c (Rd.of_bk gn_1_2 rfl) ?_
  refine VIf.mk (fun hc => ?_) (fun hc => ?_)
  · have hj2 : j < n.cs.length := by rw [hln] at hc; simp at hc; omega
    have hcb := cellB_len (leaf := true) (hs.t _ (List.getElem_mem hj2))
    refine VLd.s c (Rd.of_bk gn_1_2 rfl) ?_
    rw [w64 (n := (j : Int) + 1) (by omega), show ((j : Int) + 1) = ((j + 1 : Nat) : Int) by omega]
    refine VCk.i (by omega) ?_
    have h_2 := h.ext0 e0_2
    have hcut := h_2.ci.cut j (j + 1) (by omega) (by omega)
    rw [take_drop_one _ _ hj2] at hcut
    simp only [Int.toNat_natCast]
    refine VCall.i (given_spec ⟨cutB c.base c.cap 4 j, (j + 1) - j, c.cap - j⟩ ⟨none, 0, 0⟩ ⟨true, [n.cs[j]], []⟩ w2 ⟨hcut, InR.nil _⟩ (by simp)) ?_
    rintro e w3 ⟨cI, kI, rfl, hI, e3⟩
    have z3 := e3.size
    refine ⟨true, cI, kI, rfl, ?_⟩
    refine VCall.i (Size_spec cI kI ⟨true, [n.cs[j]], []⟩ w3 hI.nin ⟨by simp, by simp, fun x hx => by simp at hx; subst hx; exact hs.t _ (List.getElem_mem hj2)⟩) ?_
    rintro e w4 ⟨rfl, e4⟩
    have z4 := e4.size
    refine ⟨_, rfl, ?_⟩
    rw [one_size (hmay j hj2)]
    refine VSet.i ?_
    refine VSet.eq (m := (if ((cellB true n.cs[j]).length : Int) > most_3 then ((cellB true n.cs[j]).length : Int) else most_3)) (by rw [show ((((cellB true n.cs[j]).length + 2 : Nat) : Int) - 2) = ((cellB true n.cs[j]).length : Int) by omega, w64 (by omega)]) ?_
    refine VSet.i ?_
    have e2_4 := e3.then0 e4
    have hn_1_4 := gn_1_2.ext e2_4
    have e0_3 := e0_2.then0 e3
    have e0_4 := e0_3.then0 e4
    exact ⟨_, (show n.cs.length - (j + 1) < n.cs.length - j by omega), j + 1, rfl, rfl, by omega, by split <;> omega, (fun t ht hlt => by by_cases htj : t = j; (subst htj; split <;> omega); (have := hmx t ht (by omega); split <;> omega)), hn_1_4, e0_4⟩
  · have hjj : j = n.cs.length := by rw [hln] at hc; simp at hc; omega
    refine VSet.i ?_
    exact ⟨most_3, rfl, fun x hx => by obtain ⟨t, ht, rfl⟩ := List.mem_iff_getElem.1 hx; exact hmx t ht (by omega), e0_2⟩
set_option maxHeartbeats 4000000 in
theorem NodeHalves_law (c k : Sl) (n : Nd) (w : World) (hn : NIn w c k n) (hbn : Bulk n) : Calls Try.prog 4 #[.agg (nhC n.leaf c k).toArray] w fun e w' => e = .returned (.bool true) ∧ Ext [] w w' := by
  refine sh_butterylaw06_NodeHalves_ok _ _ _ _ _ ?_
  unfold sh_butterylaw06_NodeHalves
  have hln := hn.ci.1.rlen
  refine VNw.i fun n_1 w1 hb1 hk1 e1 => ?_
  have hk1 : Bk w1 n_1 [.bool n.leaf, .slice c.base c.len c.cap, .slice k.base k.len k.cap] 25 := hk1
  have z1 := e1.size
  have l1 := hk1.lt
  refine ⟨n.leaf, c, k, gd.i (Rd.of_bk hk1 rfl), ?_⟩
  have hn_1 := hn.ext0 e1
  refine VCall.i (large_spec c k n w1 hn_1 hbn) ?_
  rintro e w2 ⟨r, rfl, hr, e2⟩
  have z2 := e2.size
  refine ⟨r, rfl, ?_⟩
  refine VCall.opt (awake_spec w2) fun w3 e3 => ?_
  have z3 := e3.size
  refine ⟨true, rfl, ?_⟩
  refine VIf.mk (fun hc => ?_) (fun hc => ?_)
  · refine VCall.i (awake_spec w3) ?_
    rintro e w4 ⟨rfl, e4⟩
    have z4 := e4.size
    refine ⟨true, rfl, ?_⟩
    have e0_2 := e1.then0 e2
    have e0_3 := e0_2.then0 e3
    have e0_4 := e0_3.then0 e4
    exact ⟨rfl, e0_4⟩
  · have hc2 : r = false := by simpa using hc
    obtain ⟨c100, k100, t8⟩ := hr hc2
    have hsm : Small n := ⟨by omega, by omega, fun x hx => by have := t8 x hx; omega⟩
    have e1_3 := e2.then0 e3
    have hn_1_3 := hk1.ext e1_3
    refine ⟨n.leaf, c, k, gd.i (Rd.of_bk hn_1_3 rfl), ?_⟩
    have hn_3 := hn_1.ext0 e1_3
    refine VCall.i (given_spec c k n w3 hn_3 ⟨by omega, by omega⟩) ?_
    rintro e w5 ⟨cI, kI, rfl, hI, e5⟩
    have z5 := e5.size
    refine ⟨n.leaf, cI, kI, rfl, ?_⟩
    have hI := hI.nin
    refine VNw.i fun in_3 w6 hb6 hk6 e6 => ?_
    have hk6 : Bk w6 in_3 [.bool false, .slice none 0 0, .slice none 0 0] 30 := hk6
    have z6 := e6.size
    have l6 := hk6.lt
    refine VSt.bk hk6 rfl (by simp) fun w7 hk7 e7 => ?_
    have hk7 : Bk w7 in_3 [.bool n.leaf, .slice cI.base cI.len cI.cap, .slice kI.base kI.len kI.cap] 30 := hk7
    have z7 := e7.size
    refine ⟨n.leaf, cI, kI, gd.i (Rd.of_bk hk7 rfl), ?_⟩
    have e5_7 := e6.then e7 (fun i hi hlt => by simp at hi; omega)
    have hI_7 := hI.ext0 e5_7
    refine VCall.i (Check_spec cI kI n w7 hI_7 (by omega)) ?_
    rintro e w8 ⟨rfl, e8⟩
    have z8 := e8.size
    refine ⟨(okN n), rfl, ?_⟩
    refine VIf.mk (fun hc => ?_) (fun hc => ?_)
    · have e0_2 := e1.then0 e2
      have e0_3 := e0_2.then0 e3
      have e0_5 := e0_3.then0 e5
      have e0_6 := e0_5.then0 e6
      have e0_7 := e0_6.then e7 (fun i hi hlt => by simp at hi; omega)
      have e0_8 := e0_7.then0 e8
      exact ⟨rfl, e0_8⟩
    · have hok : okN n = true := by simpa using hc
      have hI_8 := hI_7.ext0 e8
      have e3_6 := e5.then0 e6
      have e3_7 := e3_6.then e7 (fun i hi hlt => by simp at hi; omega)
      have e3_8 := e3_7.then0 e8
      have hn_1_8 := hn_1_3.ext e3_8
      have hin_3_8 := hk7.ext e8
      have e0_2 := e1.then0 e2
      have e0_3 := e0_2.then0 e3
      have e0_5 := e0_3.then0 e5
      have e0_6 := e0_5.then0 e6
      have e0_7 := e0_6.then e7 (fun i hi hlt => by simp at hi; omega)
      have e0_8 := e0_7.then0 e8
      refine ⟨fun kk i_4 W => ∃ j : Nat, kk = n.cs.length - j ∧ i_4 = (j : Int) ∧ j ≤ n.cs.length ∧ NIn W cI kI n ∧ Bk W n_1 [.bool n.leaf, .slice c.base c.len c.cap, .slice k.base k.len k.cap] 25 ∧ Bk W in_3 [.bool n.leaf, .slice cI.base cI.len cI.cap, .slice kI.base kI.len kI.cap] 30 ∧ Ext [] w W, ⟨_, 0, rfl, rfl, Nat.zero_le _, hI_8, hn_1_8, hin_3_8, e0_8⟩, ?_⟩
      rintro kk i_4 w9 ⟨j, rfl, rfl, hj, hI, gn_1_9, gin_3_9, e0_9⟩
      have z9 := e0_9.size
      have lgn_1_9 := gn_1_9.lt
      have lgin_3_9 := gin_3_9.lt
      refine VLd.s c (Rd.of_bk gn_1_9 rfl) ?_
      refine VIf.mk (fun hc => ?_) (fun hc => ?_)
      · have hj2 : j < n.cs.length := by rw [hln] at hc; simp at hc; omega
        obtain ⟨hfi, hfb⟩ := findI_at hok hj2
        intro w10 hw10
        have e10 := Ext.drew' hw10
        have z10 := e10.size
        have hin_3_10 := gin_3_9.ext e10
        refine ⟨n.leaf, cI, kI, gd.i (Rd.of_bk hin_3_10 rfl), ?_⟩
        have hn_1_10 := gn_1_9.ext e10
        refine VLd.s c (Rd.of_bk hn_1_10 rfl) ?_
        refine VIx.rd (r := ceR) hn.ci.1 (hj2) fun a37 hra => ?_
        have e0_10 := e0_9.then0 e10
        refine VLd.i1 (t := CT.str) ((n.cs[j]).key) ((hra.ext e0_10).fld0 rfl) ?_
        have hI_10 := hI.ext0 e10
        refine VCall.i (Find_spec cI kI n (n.cs[j]).key w10 hI_10) ?_
        rintro e w11 ⟨rfl, e11⟩
        have z11 := e11.size
        refine ⟨_, _, rfl, ?_⟩
        rw [hfi, hfb]
        refine VSet.i ?_
        refine VIf.f (by simp) ?_
        refine VSet.eq (m := (j : Int) + 1) (w64 (by omega)) ?_
        have hI_11 := hI_10.ext0 e11
        have hn_1_11 := hn_1_10.ext e11
        have hin_3_11 := hin_3_10.ext e11
        have e0_11 := e0_10.then0 e11
        exact ⟨_, (show n.cs.length - (j + 1) < n.cs.length - j by omega), j + 1, rfl, by omega, by omega, hI_11, hn_1_11, hin_3_11, e0_11⟩
      · refine ⟨n.leaf, cI, kI, gd.i (Rd.of_bk gin_3_9 rfl), ?_⟩
        refine VCall.i (Cut_spec cI kI n w9 hI hsm) ?_
        rintro e w12 ⟨c1, k1, c2, k2, rfl, hA, hB, hap, e12⟩
        have z12 := e12.size
        refine ⟨_, _, _, _, _, _, _, rfl, ?_⟩
        have nA := hA.nin
        have nB := hB.nin
        obtain ⟨A, S, B, hcut⟩ : ∃ A S B, cutN n = (A, S, B) := ⟨_, _, _, rfl⟩
        rw [hcut] at nA nB ⊢
        simp only at nA nB ⊢
        refine VNw.i fun a_7 w13 hb13 hk13 e13 => ?_
        have hk13 : Bk w13 a_7 [.bool false, .slice none 0 0, .slice none 0 0] 30 := hk13
        have z13 := e13.size
        have l13 := hk13.lt
        refine VNw.i fun b_9 w14 hb14 hk14 e14 => ?_
        have hk14 : Bk w14 b_9 [.bool false, .slice none 0 0, .slice none 0 0] 30 := hk14
        have z14 := e14.size
        have l14 := hk14.lt
        have ha_7_14 := hk13.ext e14
        refine VSt.bk ha_7_14 rfl (by simp) fun w15 hk15 e15 => ?_
        have hk15 : Bk w15 a_7 [.bool A.leaf, .slice c1.base c1.len c1.cap, .slice k1.base k1.len k1.cap] 30 := hk15
        have z15 := e15.size
        have hb_9_15 := hk14.ext e15
        refine VSt.bk hb_9_15 rfl (by simp) fun w16 hk16 e16 => ?_
        have hk16 : Bk w16 b_9 [.bool B.leaf, .slice c2.base c2.len c2.cap, .slice k2.base k2.len k2.cap] 30 := hk16
        have z16 := e16.size
        have e9_13 := e12.then0 e13
        have e9_14 := e9_13.then0 e14
        have e9_15 := e9_14.then e15 (fun i hi hlt => by simp at hi; omega)
        have e9_16 := e9_15.then e16 (fun i hi hlt => by simp at hi; omega)
        have hn_1_16 := gn_1_9.ext e9_16
        refine VLd.i1 (t := CT.bool) n.leaf (Rd.of_bk hn_1_16 rfl) ?_
        refine VLd.s c (Rd.of_bk hn_1_16 rfl) ?_
        refine VLd.s c (Rd.of_bk hn_1_16 rfl) ?_
        refine VIf.mk (fun hc => ?_) (fun hc => ?_)
        · have hd : n.cs.length ≤ firstN n := by
            unfold firstN
            rw [hln] at hc
            simp only [Bool.or_eq_true, Bool.and_eq_true, decide_eq_true_eq] at hc
            split
            · omega
            · rename_i hl; rcases hc with h1 | h1
              · exact absurd h1.1 hl
              · omega
          have e := hcut.symm.trans (cutN_no hd)
          simp only [Prod.mk.injEq] at e
          obtain ⟨e1, e2, e3⟩ := e
          have e1 := e1.symm
          subst e1 e2 e3
          have l2 := nB.ci.1.rlen
          have l3 := nB.ki.1.rlen
          simp only [List.length_nil] at l2 l3
          intro w17 hw17
          have e17 := Ext.drew' hw17
          have z17 := e17.size
          have e15_17 := e16.then0 e17
          have ha_7_17 := hk15.ext e15_17
          refine ⟨n.leaf, c1, k1, gd.i (Rd.of_bk ha_7_17 rfl), ?_⟩
          have hn_1_17 := hn_1_16.ext e17
          refine ⟨n.leaf, c, k, gd.i (Rd.of_bk hn_1_17 rfl), ?_⟩
          have e12_14 := e13.then0 e14
          have e12_15 := e12_14.then e15 (fun i hi hlt => by simp at hi; omega)
          have e12_16 := e12_15.then e16 (fun i hi hlt => by simp at hi; omega)
          have e12_17 := e12_16.then0 e17
          have nA_17 := nA.ext0 e12_17
          refine VCall.i (back_spec c1 k1 n w17 nA_17 ⟨by omega, by omega⟩) ?_
          rintro e w18 ⟨cP, kP, rfl, hP, e18⟩
          have z18 := e18.size
          refine ⟨n.leaf, cP, kP, rfl, ?_⟩
          have hn_1_18 := hn_1_17.ext e18
          refine ⟨Rd.of_bk hn_1_18 rfl, ?_⟩
          have e0_12 := e0_9.then0 e12
          have e0_13 := e0_12.then0 e13
          have e0_14 := e0_13.then0 e14
          have e0_15 := e0_14.then e15 (fun i hi hlt => by simp at hi; omega)
          have e0_16 := e0_15.then e16 (fun i hi hlt => by simp at hi; omega)
          have e0_17 := e0_16.then0 e17
          have e0_18 := e0_17.then0 e18
          have hn_18 := hn.ext0 e0_18
          refine VCall.i (Same_spec cP kP c k n w18 hP.nin hn_18 ⟨by omega, by omega⟩) ?_
          rintro e w19 ⟨rfl, e19⟩
          have z19 := e19.size
          refine ⟨true, rfl, ?_⟩
          have e16_18 := e17.then0 e18
          have e16_19 := e16_18.then0 e19
          have hb_9_19 := hk16.ext e16_19
          refine VLd.i1 (t := CT.bool) false (Rd.of_bk hb_9_19 rfl) ?_
          refine VLd.s c2 (Rd.of_bk hb_9_19 rfl) ?_
          refine VLd.s k2 (Rd.of_bk hb_9_19 rfl) ?_
          have e0_19 := e0_18.then0 e19
          exact ⟨by rw [l2, l3, w64 (by simp)]; simp, e0_19⟩
        · have hd : firstN n < n.cs.length := by
            unfold firstN
            rw [hln] at hc
            cases hl : n.leaf <;> rw [hl] at hc <;> simp at hc ⊢ <;> omega
          obtain ⟨b, hb, hcb, hbb⟩ := cutN_at hd
          have e := hcut.symm.trans hcb
          simp only [Prod.mk.injEq] at e
          obtain ⟨e1, e2, e3⟩ := e
          subst e1 e2 e3
          obtain ⟨ok1, ok2⟩ := okN_atN hok hb
          obtain ⟨s1, s2⟩ := hsm.at b
          have hjn := joinN_atN hok hb
          have hlow := atN_low hok hb
          have hhigh := atN_high hok hb
          have q1 := nA.ci.1.rlen
          have q2 := nB.ci.1.rlen
          have s1c := s1.c
          have s2c := s2.c
          have s1k := s1.k
          have s2k := s2.k
          intro w20 hw20
          have e20 := Ext.drew' hw20
          have z20 := e20.size
          have e15_20 := e16.then0 e20
          have ha_7_20 := hk15.ext e15_20
          refine ⟨(atN n b).1.leaf, c1, k1, gd.i (Rd.of_bk ha_7_20 rfl), ?_⟩
          have e12_14 := e13.then0 e14
          have e12_15 := e12_14.then e15 (fun i hi hlt => by simp at hi; omega)
          have e12_16 := e12_15.then e16 (fun i hi hlt => by simp at hi; omega)
          have e12_20 := e12_16.then0 e20
          have nA_20 := nA.ext0 e12_20
          refine VCall.i (Check_spec c1 k1 (atN n b).1 w20 nA_20 (by have := s1.c; omega)) ?_
          rintro e w21 ⟨rfl, e21⟩
          have z21 := e21.size
          refine ⟨_, rfl, ?_⟩
          rw [ok1]
          have e16_21 := e20.then0 e21
          have hb_9_21 := hk16.ext e16_21
          refine ⟨(atN n b).2.leaf, c2, k2, gd.i (Rd.of_bk hb_9_21 rfl), ?_⟩
          have e12_21 := e12_20.then0 e21
          have nB_21 := nB.ext0 e12_21
          refine VCall.on (by simp) ?_
          refine VCall.i (Check_spec c2 k2 (atN n b).2 w21 nB_21 (by have := s2.c; omega)) ?_
          rintro e w22 ⟨rfl, e22⟩
          have z22 := e22.size
          refine ⟨_, rfl, ?_⟩
          rw [ok2]
          have e20_22 := e21.then0 e22
          have ha_7_22 := ha_7_20.ext e20_22
          refine ⟨(atN n b).1.leaf, c1, k1, gd.i (Rd.of_bk ha_7_22 rfl), ?_⟩
          have hb_9_22 := hb_9_21.ext e22
          refine ⟨(atN n b).2.leaf, c2, k2, gd.i (Rd.of_bk hb_9_22 rfl), ?_⟩
          have e16_22 := e16_21.then0 e22
          have hn_1_22 := hn_1_16.ext e16_22
          refine ⟨n.leaf, c, k, gd.i (Rd.of_bk hn_1_22 rfl), ?_⟩
          have nA_22 := nA_20.ext0 e20_22
          have nB_22 := nB_21.ext0 e22
          refine VCall.on (by simp) ?_
          refine VCall.i (Join_spec c1 k1 c2 k2 (atN n b).1 (atN n b).2 (n.cs[b]).key w22 nA_22 nB_22 ⟨by omega, by omega⟩ ⟨by omega, by omega⟩) ?_
          rintro e w23 ⟨cX, kX, rfl, hX, e23⟩
          have z23 := e23.size
          refine ⟨_, cX, kX, rfl, ?_⟩
          rw [hjn] at hX ⊢
          have hn_1_23 := hn_1_22.ext e23
          refine ⟨fun _ => Rd.of_bk hn_1_23 rfl, ?_⟩
          refine VCall.on (by simp) ?_
          refine VCall.i (back_spec cX kX n w23 hX.nin ⟨by omega, by omega⟩) ?_
          rintro e w24 ⟨cP, kP, rfl, hP, e24⟩
          have z24 := e24.size
          refine ⟨n.leaf, cP, kP, rfl, ?_⟩
          have hn_1_24 := hn_1_23.ext e24
          refine ⟨fun _ => Rd.of_bk hn_1_24 rfl, ?_⟩
          have e0_12 := e0_9.then0 e12
          have e0_13 := e0_12.then0 e13
          have e0_14 := e0_13.then0 e14
          have e0_15 := e0_14.then e15 (fun i hi hlt => by simp at hi; omega)
          have e0_16 := e0_15.then e16 (fun i hi hlt => by simp at hi; omega)
          have e0_20 := e0_16.then0 e20
          have e0_21 := e0_20.then0 e21
          have e0_22 := e0_21.then0 e22
          have e0_23 := e0_22.then0 e23
          have e0_24 := e0_23.then0 e24
          have hn_24 := hn.ext0 e0_24
          refine VCall.on (by simp) ?_
          refine VCall.i (Same_spec cP kP c k n w24 hP.nin hn_24 ⟨by omega, by omega⟩) ?_
          rintro e w25 ⟨rfl, e25⟩
          have z25 := e25.size
          refine ⟨true, rfl, ?_⟩
          refine VIf.f (by simp) ?_
          have e22_24 := e23.then0 e24
          have e22_25 := e22_24.then0 e25
          have nA_25 := nA_22.ext0 e22_25
          have nB_25 := nB_22.ext0 e22_25
          have hn_1_25 := hn_1_24.ext e25
          have ha_7_25 := ha_7_22.ext e22_25
          have hb_9_25 := hb_9_22.ext e22_25
          have e0_25 := e0_24.then0 e25
          refine ⟨fun kk i_10 W => ∃ j1 : Nat, kk = (atN n b).1.cs.length - j1 ∧ i_10 = (j1 : Int) ∧ j1 ≤ (atN n b).1.cs.length ∧ NIn W c1 k1 (atN n b).1 ∧ NIn W c2 k2 (atN n b).2 ∧ Bk W n_1 [.bool n.leaf, .slice c.base c.len c.cap, .slice k.base k.len k.cap] 25 ∧ Bk W a_7 [.bool (atN n b).1.leaf, .slice c1.base c1.len c1.cap, .slice k1.base k1.len k1.cap] 30 ∧ Bk W b_9 [.bool (atN n b).2.leaf, .slice c2.base c2.len c2.cap, .slice k2.base k2.len k2.cap] 30 ∧ Ext [] w W, ⟨_, 0, rfl, rfl, Nat.zero_le _, nA_25, nB_25, hn_1_25, ha_7_25, hb_9_25, e0_25⟩, ?_⟩
          rintro kk i_10 w26 ⟨j1, rfl, rfl, hj1, nA, nB, gn_1_26, ga_7_26, gb_9_26, e0_26⟩
          have z26 := e0_26.size
          have lgn_1_26 := gn_1_26.lt
          have lga_7_26 := ga_7_26.lt
          have lgb_9_26 := gb_9_26.lt
          refine VLd.s c1 (Rd.of_bk ga_7_26 rfl) ?_
          refine VIf.mk (fun hc => ?_) (fun hc => ?_)
          · have hk1 : j1 < (atN n b).1.cs.length := by rw [q1] at hc; simp at hc; omega
            refine VLd.s c1 (Rd.of_bk ga_7_26 rfl) ?_
            refine VIx.rd (r := ceR) nA.ci.1 (hk1) fun a121 hra1 => ?_
            refine VLd.i1 (t := CT.str) (((atN n b).1.cs[j1]).key) (hra1.fld0 rfl) ?_
            refine VIf.f (by have := hlow j1 hk1; unfold ltB at this; rw [this]; rfl) ?_
            refine VSet.eq (m := (j1 : Int) + 1) (w64 (by omega)) ?_
            exact ⟨_, (show (atN n b).1.cs.length - (j1 + 1) < (atN n b).1.cs.length - j1 by omega), j1 + 1, rfl, by omega, by omega, nA, nB, gn_1_26, ga_7_26, gb_9_26, e0_26⟩
          · refine ⟨fun kk i_11 W => ∃ j2 : Nat, kk = (atN n b).2.cs.length - j2 ∧ i_11 = (j2 : Int) ∧ j2 ≤ (atN n b).2.cs.length ∧ NIn W c1 k1 (atN n b).1 ∧ NIn W c2 k2 (atN n b).2 ∧ Bk W n_1 [.bool n.leaf, .slice c.base c.len c.cap, .slice k.base k.len k.cap] 25 ∧ Bk W a_7 [.bool (atN n b).1.leaf, .slice c1.base c1.len c1.cap, .slice k1.base k1.len k1.cap] 30 ∧ Bk W b_9 [.bool (atN n b).2.leaf, .slice c2.base c2.len c2.cap, .slice k2.base k2.len k2.cap] 30 ∧ Ext [] w W, ⟨_, 0, rfl, rfl, Nat.zero_le _, nA, nB, gn_1_26, ga_7_26, gb_9_26, e0_26⟩, ?_⟩
            rintro kk i_11 w27 ⟨j2, rfl, rfl, hj2, nA, nB, gn_1_27, ga_7_27, gb_9_27, e0_27⟩
            have z27 := e0_27.size
            have lgn_1_27 := gn_1_27.lt
            have lga_7_27 := ga_7_27.lt
            have lgb_9_27 := gb_9_27.lt
            refine VLd.s c2 (Rd.of_bk gb_9_27 rfl) ?_
            refine VIf.mk (fun hc => ?_) (fun hc => ?_)
            · have hk2 : j2 < (atN n b).2.cs.length := by rw [q2] at hc; simp at hc; omega
              refine VLd.s c2 (Rd.of_bk gb_9_27 rfl) ?_
              refine VIx.rd (r := ceR) nB.ci.1 (hk2) fun a136 hra2 => ?_
              refine VLd.i1 (t := CT.str) (((atN n b).2.cs[j2]).key) (hra2.fld0 rfl) ?_
              refine VIf.f (by have := hhigh j2 hk2; unfold ltB at this; rw [this]) ?_
              refine VSet.eq (m := (j2 : Int) + 1) (w64 (by omega)) ?_
              exact ⟨_, (show (atN n b).2.cs.length - (j2 + 1) < (atN n b).2.cs.length - j2 by omega), j2 + 1, rfl, by omega, by omega, nA, nB, gn_1_27, ga_7_27, gb_9_27, e0_27⟩
            · intro w28 hw28
              have e28 := Ext.drew' hw28
              have z28 := e28.size
              have ha_7_28 := ga_7_27.ext e28
              refine ⟨(atN n b).1.leaf, c1, k1, gd.i (Rd.of_bk ha_7_28 rfl), ?_⟩
              have hb_9_28 := gb_9_27.ext e28
              refine ⟨(atN n b).2.leaf, c2, k2, gd.i (Rd.of_bk hb_9_28 rfl), ?_⟩
              have nA_28 := nA.ext0 e28
              refine VCall.i (Size_spec c1 k1 (atN n b).1 w28 nA_28 s1) ?_
              rintro e w29 ⟨rfl, e29⟩
              have z29 := e29.size
              refine ⟨((sizeN (atN n b).1 : Nat) : Int), rfl, ?_⟩
              have hb_9_29 := hb_9_28.ext e29
              refine ⟨Rd.of_bk hb_9_29 rfl, ?_⟩
              have e27_29 := e28.then0 e29
              have nB_29 := nB.ext0 e27_29
              refine VCall.i (Size_spec c2 k2 (atN n b).2 w29 nB_29 s2) ?_
              rintro e w30 ⟨rfl, e30⟩
              have z30 := e30.size
              refine ⟨((sizeN (atN n b).2 : Nat) : Int), rfl, ?_⟩
              have zA : sizeN (atN n b).1 = (bytesN (atN n b).1).length := by unfold sizeN; rw [if_pos ok1]
              have zB : sizeN (atN n b).2 = (bytesN (atN n b).2).length := by unfold sizeN; rw [if_pos ok2]
              have bA := bytesN_len s1
              have bB := bytesN_len s2
              refine VSet.eq (m := subN n b) (by rw [zA, zB, w64 (by omega)]; rfl) ?_
              have hsb : -300000000 ≤ subN n b ∧ subN n b ≤ 300000000 := by unfold subN; omega
              have e27_30 := e27_29.then0 e30
              have hn_1_30 := gn_1_27.ext e27_30
              refine VLd.i1 (t := CT.bool) n.leaf (Rd.of_bk hn_1_30 rfl) ?_
              refine ⟨n.leaf, c, k, gd.i (Rd.of_bk hn_1_30 rfl), ?_⟩
              by_cases hl : n.leaf = true
              · refine VCall.on (by simp [hl]) ?_
                have e0_28 := e0_27.then0 e28
                have e0_29 := e0_28.then0 e29
                have e0_30 := e0_29.then0 e30
                have hn_30 := hn.ext0 e0_30
                refine VCall.i (biggest_spec c k n w30 hn_30 hsm hl hok) ?_
                rintro e w31 ⟨r152, rfl, hr1, e31⟩
                have z31 := e31.size
                refine ⟨r152, rfl, ?_⟩
                have h2 : 2 ≤ n.cs.length := by unfold firstN at hd; rw [if_pos hl] at hd; omega
                have hh := halves hl c100 h2 hr1
                rw [← hbb] at hh
                have hn_1_31 := hn_1_30.ext e31
                refine ⟨n.leaf, c, k, gd.i (Rd.of_bk hn_1_31 rfl), ?_⟩
                refine VCall.on (by simp [hl]; exact hh.1) ?_
                have hn_31 := hn_30.ext0 e31
                refine VCall.i (biggest_spec c k n w31 hn_31 hsm hl hok) ?_
                rintro e w32 ⟨r158, rfl, hr2, e32⟩
                have z32 := e32.size
                refine ⟨r158, rfl, ?_⟩
                have hh2 := halves hl c100 h2 hr2
                rw [← hbb] at hh2
                have e0_31 := e0_30.then0 e31
                have e0_32 := e0_31.then0 e32
                have hw : IntKind.wrap .i64 (0 - subN n b) = - subN n b := by rw [w64 (by omega)]; omega
                exact ⟨by rw [hw]; simp [hl, hh.1, hh2.2], e0_32⟩
              · refine VCall.off (by simp [hl]) ⟨(0 : Int), trivial, ?_⟩
                refine ⟨n.leaf, c, k, gd.i (Rd.of_bk hn_1_30 rfl), ?_⟩
                refine VCall.off (by simp [hl]) ⟨(0 : Int), trivial, ?_⟩
                have e0_28 := e0_27.then0 e28
                have e0_29 := e0_28.then0 e29
                have e0_30 := e0_29.then0 e30
                exact ⟨by simp [hl], e0_30⟩
end Go.Proofs.Ytknohdgcigcmdaa
