/-
  Package node: NodeTurns (printed by walks/turns.py).
-/
import Derived.Test.YtknohdgcigcmdaaNodeZ
namespace Go.Proofs.Ytknohdgcigcmdaa
open Go.RowKit
set_option maxRecDepth 100000

theorem cutN_small {n : Nd} (h : Small n) : Small (cutN n).1 ∧ Small (cutN n).2.2 := by
  unfold cutN
  split
  · exact ⟨h, ⟨by simp, by simp, by simp⟩⟩
  · exact h.at _
theorem joinN_len {a b : Nd} {s : ByteArray} (ha : a.cs.length ≤ 100 ∧ a.ks.length ≤ 100) (hb : b.cs.length ≤ 100 ∧ b.ks.length ≤ 100) : (joinN a s b).cs.length ≤ 1000 ∧ (joinN a s b).ks.length ≤ 1000 := by
  unfold joinN
  split
  · simp; omega
  · simp; omega
theorem OwnN.notin {T : TypeId} {w0 W : World} {c k : Sl} {n : Nd} {b : Nat} {cs : List Value} {t : TypeId} (h : OwnN T w0 W c k n) (hk : Bk W b cs t) (h1 : T ≠ t) (h2 : 3 ≠ t) : b ∉ nodeB c k := fun hi => by
  rcases List.mem_append.1 hi with hi | hi
  · exact OwnR.notin h.co hk h1 hi
  · exact OwnR.notin h.ko hk h2 hi
set_option maxHeartbeats 4000000 in
theorem NodeTurns_law (c k cm km : Sl) (n m : Nd) (key : ByteArray) (w : World) (hn : NIn w c k n) (hm : NIn w cm km m) (hbn : Bulk n) (hbm : Bulk m) : Calls Try.prog 3 #[.agg (nhC n.leaf c k).toArray, .agg (nhC m.leaf cm km).toArray, .string key] w fun e w' => e = .returned (.bool true) ∧ Ext [] w w' := by
  refine sh_butterylaw06_NodeTurns_ok _ _ _ _ _ _ _ _ _ ?_
  unfold sh_butterylaw06_NodeTurns
  refine VNw.i fun n_3 w1 hb1 hk1 e1 => ?_
  have hk1 : Bk w1 n_3 [.bool n.leaf, .slice c.base c.len c.cap, .slice k.base k.len k.cap] 25 := hk1
  have z1 := e1.size
  have l1 := hk1.lt
  refine VNw.i fun m_4 w2 hb2 hk2 e2 => ?_
  have hk2 : Bk w2 m_4 [.bool m.leaf, .slice cm.base cm.len cm.cap, .slice km.base km.len km.cap] 25 := hk2
  have z2 := e2.size
  have l2 := hk2.lt
  have hn_3_2 := hk1.ext e2
  refine ⟨n.leaf, c, k, gd.i (Rd.of_bk hn_3_2 rfl), ?_⟩
  have e0_2 := e1.then0 e2
  have hn_2 := hn.ext0 e0_2
  refine VCall.i (large_spec c k n w2 hn_2 hbn) ?_
  rintro e w3 ⟨r, rfl, hr, e3⟩
  have z3 := e3.size
  refine ⟨r, rfl, ?_⟩
  have hm_4_3 := hk2.ext e3
  refine ⟨m.leaf, cm, km, gd.i (Rd.of_bk hm_4_3 rfl), ?_⟩
  cases r with
  | true =>
    refine VCall.off rfl ⟨false, trivial, ?_⟩
    refine VIf.t (by simp) ?_
    refine VCall.i (awake_spec w3) ?_
    rintro e w5 ⟨rfl, e5⟩
    have z5 := e5.size
    refine ⟨true, rfl, ?_⟩
    have e0_3 := e0_2.then0 e3
    have e0_5 := e0_3.then0 e5
    exact ⟨rfl, e0_5⟩
  | false =>
    obtain ⟨c100, k100, t8⟩ := hr rfl
    refine VCall.on rfl ?_
    have e0_3 := e0_2.then0 e3
    have hm_3 := hm.ext0 e0_3
    refine VCall.i (large_spec cm km m w3 hm_3 hbm) ?_
    rintro e w4 ⟨r2, rfl, hr2, e4⟩
    have z4 := e4.size
    refine ⟨r2, rfl, ?_⟩
    refine VIf.mk (fun hc => ?_) (fun hc => ?_)
    · refine VCall.i (awake_spec w4) ?_
      rintro e w5 ⟨rfl, e5⟩
      have z5 := e5.size
      refine ⟨true, rfl, ?_⟩
      have e0_4 := e0_3.then0 e4
      have e0_5 := e0_4.then0 e5
      exact ⟨rfl, e0_5⟩
    · have hc2 : r2 = false := by simp at hc; exact hc.1
      obtain ⟨cm100, km100, tm8⟩ := hr2 hc2
      have hsn : Small n := ⟨by omega, by omega, fun x hx => by have := t8 x hx; omega⟩
      have hsm : Small m := ⟨by omega, by omega, fun x hx => by have := tm8 x hx; omega⟩
      obtain ⟨s1, s2⟩ := cutN_small hsn
      have s1c := s1.c
      have s1k := s1.k
      have s2c := s2.c
      have s2k := s2.k
      have hj := joinN_len (s := key) (a := n) (b := m) ⟨c100, k100⟩ ⟨cm100, km100⟩
      refine ⟨fun in_7 other_8 W => ∃ (ib ob : Nat) (cI kI cO kO : Sl), in_7 = some ⟨ib, 0, none⟩ ∧ other_8 = some ⟨ob, 0, none⟩ ∧ Bk W ib [.bool n.leaf, .slice cI.base cI.len cI.cap, .slice kI.base kI.len kI.cap] 30 ∧ Bk W ob [.bool m.leaf, .slice cO.base cO.len cO.cap, .slice kO.base kO.len kO.cap] 30 ∧ OwnN 48 w W cI kI n ∧ OwnN 48 w W cO kO m ∧ Bk W n_3 [.bool n.leaf, .slice c.base c.len c.cap, .slice k.base k.len k.cap] 25 ∧ Bk W m_4 [.bool m.leaf, .slice cm.base cm.len cm.cap, .slice km.base km.len km.cap] 25 ∧ Ext [] w W, ?_, ?_⟩
      · intro w6 hw6
        have e6 := Ext.drew' hw6
        have z6 := e6.size
        have e2_4 := e3.then0 e4
        have e2_6 := e2_4.then0 e6
        have hn_3_6 := hn_3_2.ext e2_6
        refine ⟨n.leaf, c, k, gd.i (Rd.of_bk hn_3_6 rfl), ?_⟩
        have e3_6 := e4.then0 e6
        have hm_4_6 := hm_4_3.ext e3_6
        refine ⟨m.leaf, cm, km, gd.i (Rd.of_bk hm_4_6 rfl), ?_⟩
        refine ⟨?_, ?_⟩
        · have hn_6 := hn_2.ext0 e2_6
          refine VCall.i (given_spec c k n w6 hn_6 ⟨by omega, by omega⟩) ?_
          rintro e w7 ⟨cI, kI, rfl, hI, e7⟩
          have z7 := e7.size
          refine ⟨n.leaf, cI, kI, rfl, ?_⟩
          have gI := hI.ge
          have lI := hI.lt
          have hm_4_7 := hm_4_6.ext e7
          refine ⟨Rd.of_bk hm_4_7 rfl, ?_⟩
          refine ⟨?_, ?_⟩
          · have e3_7 := e3_6.then0 e7
            have hm_7 := hm_3.ext0 e3_7
            refine VCall.i (given_spec cm km m w7 hm_7 ⟨by omega, by omega⟩) ?_
            rintro e w8 ⟨cO, kO, rfl, hO, e8⟩
            have z8 := e8.size
            refine ⟨m.leaf, cO, kO, rfl, ?_⟩
            have gO := hO.ge
            have lO := hO.lt
            refine ⟨?_, ?_⟩
            · refine VNw.i fun in_7 w9 hb9 hk9 e9 => ?_
              have hk9 : Bk w9 in_7 [.bool false, .slice none 0 0, .slice none 0 0] 30 := hk9
              have z9 := e9.size
              have l9 := hk9.lt
              refine VNw.i fun other_8 w10 hb10 hk10 e10 => ?_
              have hk10 : Bk w10 other_8 [.bool false, .slice none 0 0, .slice none 0 0] 30 := hk10
              have z10 := e10.size
              have l10 := hk10.lt
              have hin_7_10 := hk9.ext e10
              refine VSt.bk hin_7_10 rfl (by simp) fun w11 hk11 e11 => ?_
              have hk11 : Bk w11 in_7 [.bool n.leaf, .slice cI.base cI.len cI.cap, .slice kI.base kI.len kI.cap] 30 := hk11
              have z11 := e11.size
              have hother_8_11 := hk10.ext e11
              refine VSt.bk hother_8_11 rfl (by simp) fun w12 hk12 e12 => ?_
              have hk12 : Bk w12 other_8 [.bool m.leaf, .slice cO.base cO.len cO.cap, .slice kO.base kO.len kO.cap] 30 := hk12
              have z12 := e12.size
              have hin_7_12 := hk11.ext e12
              have e7_9 := e8.then0 e9
              have e7_10 := e7_9.then0 e10
              have e7_11 := e7_10.then e11 (fun i hi hlt => by simp at hi; omega)
              have e7_12 := e7_11.then e12 (fun i hi hlt => by simp at hi; omega)
              have hI_12 := hI.ext0 e7_12
              have e8_10 := e9.then0 e10
              have e8_11 := e8_10.then e11 (fun i hi hlt => by simp at hi; omega)
              have e8_12 := e8_11.then e12 (fun i hi hlt => by simp at hi; omega)
              have hO_12 := hO.ext0 e8_12
              have e6_8 := e7.then0 e8
              have e6_9 := e6_8.then0 e9
              have e6_10 := e6_9.then0 e10
              have e6_11 := e6_10.then e11 (fun i hi hlt => by simp at hi; omega)
              have e6_12 := e6_11.then e12 (fun i hi hlt => by simp at hi; omega)
              have hn_3_12 := hn_3_6.ext e6_12
              have hm_4_12 := hm_4_7.ext e7_12
              have e0_4 := e0_3.then0 e4
              have e0_6 := e0_4.then0 e6
              have e0_7 := e0_6.then0 e7
              have e0_8 := e0_7.then0 e8
              have e0_9 := e0_8.then0 e9
              have e0_10 := e0_9.then0 e10
              have e0_11 := e0_10.then e11 (fun i hi hlt => by simp at hi; omega)
              have e0_12 := e0_11.then e12 (fun i hi hlt => by simp at hi; omega)
              exact ⟨in_7, other_8, cI, kI, cO, kO, rfl, rfl, hin_7_12, hk12, hI_12.mono (by omega), hO_12.mono (by omega), hn_3_12, hm_4_12, e0_12⟩
            · refine VNw.i fun other_8 w13 hb13 hk13 e13 => ?_
              have hk13 : Bk w13 other_8 [.bool false, .slice none 0 0, .slice none 0 0] 30 := hk13
              have z13 := e13.size
              have l13 := hk13.lt
              refine VNw.i fun in_7 w14 hb14 hk14 e14 => ?_
              have hk14 : Bk w14 in_7 [.bool false, .slice none 0 0, .slice none 0 0] 30 := hk14
              have z14 := e14.size
              have l14 := hk14.lt
              refine VSt.bk hk14 rfl (by simp) fun w15 hk15 e15 => ?_
              have hk15 : Bk w15 in_7 [.bool n.leaf, .slice cI.base cI.len cI.cap, .slice kI.base kI.len kI.cap] 30 := hk15
              have z15 := e15.size
              have e13_15 := e14.then e15 (fun i hi hlt => by simp at hi; omega)
              have hother_8_15 := hk13.ext e13_15
              refine VSt.bk hother_8_15 rfl (by simp) fun w16 hk16 e16 => ?_
              have hk16 : Bk w16 other_8 [.bool m.leaf, .slice cO.base cO.len cO.cap, .slice kO.base kO.len kO.cap] 30 := hk16
              have z16 := e16.size
              have hin_7_16 := hk15.ext e16
              have e7_13 := e8.then0 e13
              have e7_14 := e7_13.then0 e14
              have e7_15 := e7_14.then e15 (fun i hi hlt => by simp at hi; omega)
              have e7_16 := e7_15.then e16 (fun i hi hlt => by simp at hi; omega)
              have hI_16 := hI.ext0 e7_16
              have e8_14 := e13.then0 e14
              have e8_15 := e8_14.then e15 (fun i hi hlt => by simp at hi; omega)
              have e8_16 := e8_15.then e16 (fun i hi hlt => by simp at hi; omega)
              have hO_16 := hO.ext0 e8_16
              have e6_8 := e7.then0 e8
              have e6_13 := e6_8.then0 e13
              have e6_14 := e6_13.then0 e14
              have e6_15 := e6_14.then e15 (fun i hi hlt => by simp at hi; omega)
              have e6_16 := e6_15.then e16 (fun i hi hlt => by simp at hi; omega)
              have hn_3_16 := hn_3_6.ext e6_16
              have hm_4_16 := hm_4_7.ext e7_16
              have e0_4 := e0_3.then0 e4
              have e0_6 := e0_4.then0 e6
              have e0_7 := e0_6.then0 e7
              have e0_8 := e0_7.then0 e8
              have e0_13 := e0_8.then0 e13
              have e0_14 := e0_13.then0 e14
              have e0_15 := e0_14.then e15 (fun i hi hlt => by simp at hi; omega)
              have e0_16 := e0_15.then e16 (fun i hi hlt => by simp at hi; omega)
              exact ⟨in_7, other_8, cI, kI, cO, kO, rfl, rfl, hin_7_16, hk16, hI_16.mono (by omega), hO_16.mono (by omega), hn_3_16, hm_4_16, e0_16⟩
          · refine ⟨?_, ?_⟩
            · refine VNw.i fun in_7 w17 hb17 hk17 e17 => ?_
              have hk17 : Bk w17 in_7 [.bool false, .slice none 0 0, .slice none 0 0] 30 := hk17
              have z17 := e17.size
              have l17 := hk17.lt
              have hm_4_17 := hm_4_7.ext e17
              refine ⟨Rd.of_bk hm_4_17 rfl, ?_⟩
              refine ⟨?_, ?_⟩
              · have e3_7 := e3_6.then0 e7
                have e3_17 := e3_7.then0 e17
                have hm_17 := hm_3.ext0 e3_17
                refine VCall.i (given_spec cm km m w17 hm_17 ⟨by omega, by omega⟩) ?_
                rintro e w18 ⟨cO, kO, rfl, hO, e18⟩
                have z18 := e18.size
                refine ⟨m.leaf, cO, kO, rfl, ?_⟩
                have gO := hO.ge
                have lO := hO.lt
                refine VNw.i fun other_8 w19 hb19 hk19 e19 => ?_
                have hk19 : Bk w19 other_8 [.bool false, .slice none 0 0, .slice none 0 0] 30 := hk19
                have z19 := e19.size
                have l19 := hk19.lt
                have e17_19 := e18.then0 e19
                have hin_7_19 := hk17.ext e17_19
                refine VSt.bk hin_7_19 rfl (by simp) fun w20 hk20 e20 => ?_
                have hk20 : Bk w20 in_7 [.bool n.leaf, .slice cI.base cI.len cI.cap, .slice kI.base kI.len kI.cap] 30 := hk20
                have z20 := e20.size
                have hother_8_20 := hk19.ext e20
                refine VSt.bk hother_8_20 rfl (by simp) fun w21 hk21 e21 => ?_
                have hk21 : Bk w21 other_8 [.bool m.leaf, .slice cO.base cO.len cO.cap, .slice kO.base kO.len kO.cap] 30 := hk21
                have z21 := e21.size
                have hin_7_21 := hk20.ext e21
                have e7_18 := e17.then0 e18
                have e7_19 := e7_18.then0 e19
                have e7_20 := e7_19.then e20 (fun i hi hlt => by simp at hi; omega)
                have e7_21 := e7_20.then e21 (fun i hi hlt => by simp at hi; omega)
                have hI_21 := hI.ext0 e7_21
                have e18_20 := e19.trans e20
                have e18_21 := e18_20.trans e21
                have hO_21 := hO.ext e18_21 (fun b hb hm => by have := gO b hb; have := lO b hb; simp at hm; omega)
                have e6_17 := e7.then0 e17
                have e6_18 := e6_17.then0 e18
                have e6_19 := e6_18.then0 e19
                have e6_20 := e6_19.then e20 (fun i hi hlt => by simp at hi; omega)
                have e6_21 := e6_20.then e21 (fun i hi hlt => by simp at hi; omega)
                have hn_3_21 := hn_3_6.ext e6_21
                have e17_20 := e17_19.trans e20
                have e17_21 := e17_20.trans e21
                have hm_4_21 := hm_4_17.ext e17_21
                have e0_4 := e0_3.then0 e4
                have e0_6 := e0_4.then0 e6
                have e0_7 := e0_6.then0 e7
                have e0_17 := e0_7.then0 e17
                have e0_18 := e0_17.then0 e18
                have e0_19 := e0_18.then0 e19
                have e0_20 := e0_19.then e20 (fun i hi hlt => by simp at hi; omega)
                have e0_21 := e0_20.then e21 (fun i hi hlt => by simp at hi; omega)
                exact ⟨in_7, other_8, cI, kI, cO, kO, rfl, rfl, hin_7_21, hk21, hI_21.mono (by omega), hO_21.mono (by omega), hn_3_21, hm_4_21, e0_21⟩
              · refine VNw.i fun other_8 w22 hb22 hk22 e22 => ?_
                have hk22 : Bk w22 other_8 [.bool false, .slice none 0 0, .slice none 0 0] 30 := hk22
                have z22 := e22.size
                have l22 := hk22.lt
                have hm_4_22 := hm_4_17.ext e22
                refine ⟨Rd.of_bk hm_4_22 rfl, ?_⟩
                have e3_7 := e3_6.then0 e7
                have e3_17 := e3_7.then0 e17
                have e3_22 := e3_17.then0 e22
                have hm_22 := hm_3.ext0 e3_22
                refine VCall.i (given_spec cm km m w22 hm_22 ⟨by omega, by omega⟩) ?_
                rintro e w23 ⟨cO, kO, rfl, hO, e23⟩
                have z23 := e23.size
                refine ⟨m.leaf, cO, kO, rfl, ?_⟩
                have gO := hO.ge
                have lO := hO.lt
                have e17_23 := e22.then0 e23
                have hin_7_23 := hk17.ext e17_23
                refine VSt.bk hin_7_23 rfl (by simp) fun w24 hk24 e24 => ?_
                have hk24 : Bk w24 in_7 [.bool n.leaf, .slice cI.base cI.len cI.cap, .slice kI.base kI.len kI.cap] 30 := hk24
                have z24 := e24.size
                have e22_24 := e23.trans e24
                have hother_8_24 := hk22.ext e22_24
                refine VSt.bk hother_8_24 rfl (by simp) fun w25 hk25 e25 => ?_
                have hk25 : Bk w25 other_8 [.bool m.leaf, .slice cO.base cO.len cO.cap, .slice kO.base kO.len kO.cap] 30 := hk25
                have z25 := e25.size
                have hin_7_25 := hk24.ext e25
                have e7_22 := e17.then0 e22
                have e7_23 := e7_22.then0 e23
                have e7_24 := e7_23.then e24 (fun i hi hlt => by simp at hi; omega)
                have e7_25 := e7_24.then e25 (fun i hi hlt => by simp at hi; omega)
                have hI_25 := hI.ext0 e7_25
                have e23_25 := e24.trans e25
                have hO_25 := hO.ext e23_25 (fun b hb hm => by have := gO b hb; have := lO b hb; simp at hm; omega)
                have e6_17 := e7.then0 e17
                have e6_22 := e6_17.then0 e22
                have e6_23 := e6_22.then0 e23
                have e6_24 := e6_23.then e24 (fun i hi hlt => by simp at hi; omega)
                have e6_25 := e6_24.then e25 (fun i hi hlt => by simp at hi; omega)
                have hn_3_25 := hn_3_6.ext e6_25
                have e22_25 := e22_24.trans e25
                have hm_4_25 := hm_4_22.ext e22_25
                have e0_4 := e0_3.then0 e4
                have e0_6 := e0_4.then0 e6
                have e0_7 := e0_6.then0 e7
                have e0_17 := e0_7.then0 e17
                have e0_22 := e0_17.then0 e22
                have e0_23 := e0_22.then0 e23
                have e0_24 := e0_23.then e24 (fun i hi hlt => by simp at hi; omega)
                have e0_25 := e0_24.then e25 (fun i hi hlt => by simp at hi; omega)
                exact ⟨in_7, other_8, cI, kI, cO, kO, rfl, rfl, hin_7_25, hk25, hI_25.mono (by omega), hO_25.mono (by omega), hn_3_25, hm_4_25, e0_25⟩
            · refine VNw.i fun other_8 w26 hb26 hk26 e26 => ?_
              have hk26 : Bk w26 other_8 [.bool false, .slice none 0 0, .slice none 0 0] 30 := hk26
              have z26 := e26.size
              have l26 := hk26.lt
              have hm_4_26 := hm_4_7.ext e26
              refine ⟨Rd.of_bk hm_4_26 rfl, ?_⟩
              refine ⟨?_, ?_⟩
              · have e3_7 := e3_6.then0 e7
                have e3_26 := e3_7.then0 e26
                have hm_26 := hm_3.ext0 e3_26
                refine VCall.i (given_spec cm km m w26 hm_26 ⟨by omega, by omega⟩) ?_
                rintro e w27 ⟨cO, kO, rfl, hO, e27⟩
                have z27 := e27.size
                refine ⟨m.leaf, cO, kO, rfl, ?_⟩
                have gO := hO.ge
                have lO := hO.lt
                refine VNw.i fun in_7 w28 hb28 hk28 e28 => ?_
                have hk28 : Bk w28 in_7 [.bool false, .slice none 0 0, .slice none 0 0] 30 := hk28
                have z28 := e28.size
                have l28 := hk28.lt
                refine VSt.bk hk28 rfl (by simp) fun w29 hk29 e29 => ?_
                have hk29 : Bk w29 in_7 [.bool n.leaf, .slice cI.base cI.len cI.cap, .slice kI.base kI.len kI.cap] 30 := hk29
                have z29 := e29.size
                have e26_28 := e27.then0 e28
                have e26_29 := e26_28.then e29 (fun i hi hlt => by simp at hi; omega)
                have hother_8_29 := hk26.ext e26_29
                refine VSt.bk hother_8_29 rfl (by simp) fun w30 hk30 e30 => ?_
                have hk30 : Bk w30 other_8 [.bool m.leaf, .slice cO.base cO.len cO.cap, .slice kO.base kO.len kO.cap] 30 := hk30
                have z30 := e30.size
                have hin_7_30 := hk29.ext e30
                have e7_27 := e26.then0 e27
                have e7_28 := e7_27.then0 e28
                have e7_29 := e7_28.then e29 (fun i hi hlt => by simp at hi; omega)
                have e7_30 := e7_29.then e30 (fun i hi hlt => by simp at hi; omega)
                have hI_30 := hI.ext0 e7_30
                have e27_29 := e28.then e29 (fun i hi hlt => by simp at hi; omega)
                have e27_30 := e27_29.trans e30
                have hO_30 := hO.ext e27_30 (fun b hb hm => by have := gO b hb; have := lO b hb; simp at hm; omega)
                have e6_26 := e7.then0 e26
                have e6_27 := e6_26.then0 e27
                have e6_28 := e6_27.then0 e28
                have e6_29 := e6_28.then e29 (fun i hi hlt => by simp at hi; omega)
                have e6_30 := e6_29.then e30 (fun i hi hlt => by simp at hi; omega)
                have hn_3_30 := hn_3_6.ext e6_30
                have e26_30 := e26_29.trans e30
                have hm_4_30 := hm_4_26.ext e26_30
                have e0_4 := e0_3.then0 e4
                have e0_6 := e0_4.then0 e6
                have e0_7 := e0_6.then0 e7
                have e0_26 := e0_7.then0 e26
                have e0_27 := e0_26.then0 e27
                have e0_28 := e0_27.then0 e28
                have e0_29 := e0_28.then e29 (fun i hi hlt => by simp at hi; omega)
                have e0_30 := e0_29.then e30 (fun i hi hlt => by simp at hi; omega)
                exact ⟨in_7, other_8, cI, kI, cO, kO, rfl, rfl, hin_7_30, hk30, hI_30.mono (by omega), hO_30.mono (by omega), hn_3_30, hm_4_30, e0_30⟩
              · refine VNw.i fun in_7 w31 hb31 hk31 e31 => ?_
                have hk31 : Bk w31 in_7 [.bool false, .slice none 0 0, .slice none 0 0] 30 := hk31
                have z31 := e31.size
                have l31 := hk31.lt
                have hm_4_31 := hm_4_26.ext e31
                refine ⟨Rd.of_bk hm_4_31 rfl, ?_⟩
                have e3_7 := e3_6.then0 e7
                have e3_26 := e3_7.then0 e26
                have e3_31 := e3_26.then0 e31
                have hm_31 := hm_3.ext0 e3_31
                refine VCall.i (given_spec cm km m w31 hm_31 ⟨by omega, by omega⟩) ?_
                rintro e w32 ⟨cO, kO, rfl, hO, e32⟩
                have z32 := e32.size
                refine ⟨m.leaf, cO, kO, rfl, ?_⟩
                have gO := hO.ge
                have lO := hO.lt
                have hin_7_32 := hk31.ext e32
                refine VSt.bk hin_7_32 rfl (by simp) fun w33 hk33 e33 => ?_
                have hk33 : Bk w33 in_7 [.bool n.leaf, .slice cI.base cI.len cI.cap, .slice kI.base kI.len kI.cap] 30 := hk33
                have z33 := e33.size
                have e26_32 := e31.then0 e32
                have e26_33 := e26_32.then e33 (fun i hi hlt => by simp at hi; omega)
                have hother_8_33 := hk26.ext e26_33
                refine VSt.bk hother_8_33 rfl (by simp) fun w34 hk34 e34 => ?_
                have hk34 : Bk w34 other_8 [.bool m.leaf, .slice cO.base cO.len cO.cap, .slice kO.base kO.len kO.cap] 30 := hk34
                have z34 := e34.size
                have hin_7_34 := hk33.ext e34
                have e7_31 := e26.then0 e31
                have e7_32 := e7_31.then0 e32
                have e7_33 := e7_32.then e33 (fun i hi hlt => by simp at hi; omega)
                have e7_34 := e7_33.then e34 (fun i hi hlt => by simp at hi; omega)
                have hI_34 := hI.ext0 e7_34
                have e32_34 := e33.trans e34
                have hO_34 := hO.ext e32_34 (fun b hb hm => by have := gO b hb; have := lO b hb; simp at hm; omega)
                have e6_26 := e7.then0 e26
                have e6_31 := e6_26.then0 e31
                have e6_32 := e6_31.then0 e32
                have e6_33 := e6_32.then e33 (fun i hi hlt => by simp at hi; omega)
                have e6_34 := e6_33.then e34 (fun i hi hlt => by simp at hi; omega)
                have hn_3_34 := hn_3_6.ext e6_34
                have e31_33 := e32.trans e33
                have e31_34 := e31_33.trans e34
                have hm_4_34 := hm_4_31.ext e31_34
                have e0_4 := e0_3.then0 e4
                have e0_6 := e0_4.then0 e6
                have e0_7 := e0_6.then0 e7
                have e0_26 := e0_7.then0 e26
                have e0_31 := e0_26.then0 e31
                have e0_32 := e0_31.then0 e32
                have e0_33 := e0_32.then e33 (fun i hi hlt => by simp at hi; omega)
                have e0_34 := e0_33.then e34 (fun i hi hlt => by simp at hi; omega)
                exact ⟨in_7, other_8, cI, kI, cO, kO, rfl, rfl, hin_7_34, hk34, hI_34.mono (by omega), hO_34.mono (by omega), hn_3_34, hm_4_34, e0_34⟩
        · refine ⟨?_, ?_⟩
          · refine VNw.i fun in_7 w35 hb35 hk35 e35 => ?_
            have hk35 : Bk w35 in_7 [.bool false, .slice none 0 0, .slice none 0 0] 30 := hk35
            have z35 := e35.size
            have l35 := hk35.lt
            have hm_4_35 := hm_4_6.ext e35
            refine ⟨Rd.of_bk hm_4_35 rfl, ?_⟩
            have hn_3_35 := hn_3_6.ext e35
            refine ⟨Rd.of_bk hn_3_35 rfl, ?_⟩
            refine ⟨?_, ?_⟩
            · have e2_35 := e2_6.then0 e35
              have hn_35 := hn_2.ext0 e2_35
              refine VCall.i (given_spec c k n w35 hn_35 ⟨by omega, by omega⟩) ?_
              rintro e w36 ⟨cI, kI, rfl, hI, e36⟩
              have z36 := e36.size
              refine ⟨n.leaf, cI, kI, rfl, ?_⟩
              have gI := hI.ge
              have lI := hI.lt
              have hm_4_36 := hm_4_35.ext e36
              refine ⟨Rd.of_bk hm_4_36 rfl, ?_⟩
              refine ⟨?_, ?_⟩
              · have e3_35 := e3_6.then0 e35
                have e3_36 := e3_35.then0 e36
                have hm_36 := hm_3.ext0 e3_36
                refine VCall.i (given_spec cm km m w36 hm_36 ⟨by omega, by omega⟩) ?_
                rintro e w37 ⟨cO, kO, rfl, hO, e37⟩
                have z37 := e37.size
                refine ⟨m.leaf, cO, kO, rfl, ?_⟩
                have gO := hO.ge
                have lO := hO.lt
                refine VNw.i fun other_8 w38 hb38 hk38 e38 => ?_
                have hk38 : Bk w38 other_8 [.bool false, .slice none 0 0, .slice none 0 0] 30 := hk38
                have z38 := e38.size
                have l38 := hk38.lt
                have e35_37 := e36.then0 e37
                have e35_38 := e35_37.then0 e38
                have hin_7_38 := hk35.ext e35_38
                refine VSt.bk hin_7_38 rfl (by simp) fun w39 hk39 e39 => ?_
                have hk39 : Bk w39 in_7 [.bool n.leaf, .slice cI.base cI.len cI.cap, .slice kI.base kI.len kI.cap] 30 := hk39
                have z39 := e39.size
                have hother_8_39 := hk38.ext e39
                refine VSt.bk hother_8_39 rfl (by simp) fun w40 hk40 e40 => ?_
                have hk40 : Bk w40 other_8 [.bool m.leaf, .slice cO.base cO.len cO.cap, .slice kO.base kO.len kO.cap] 30 := hk40
                have z40 := e40.size
                have hin_7_40 := hk39.ext e40
                have e36_38 := e37.then0 e38
                have e36_39 := e36_38.trans e39
                have e36_40 := e36_39.trans e40
                have hI_40 := hI.ext e36_40 (fun b hb hm => by have := gI b hb; have := lI b hb; simp at hm; omega)
                have e37_39 := e38.trans e39
                have e37_40 := e37_39.trans e40
                have hO_40 := hO.ext e37_40 (fun b hb hm => by have := gO b hb; have := lO b hb; simp at hm; omega)
                have e35_39 := e35_38.trans e39
                have e35_40 := e35_39.trans e40
                have hn_3_40 := hn_3_35.ext e35_40
                have hm_4_40 := hm_4_36.ext e36_40
                have e0_4 := e0_3.then0 e4
                have e0_6 := e0_4.then0 e6
                have e0_35 := e0_6.then0 e35
                have e0_36 := e0_35.then0 e36
                have e0_37 := e0_36.then0 e37
                have e0_38 := e0_37.then0 e38
                have e0_39 := e0_38.then e39 (fun i hi hlt => by simp at hi; omega)
                have e0_40 := e0_39.then e40 (fun i hi hlt => by simp at hi; omega)
                exact ⟨in_7, other_8, cI, kI, cO, kO, rfl, rfl, hin_7_40, hk40, hI_40.mono (by omega), hO_40.mono (by omega), hn_3_40, hm_4_40, e0_40⟩
              · refine VNw.i fun other_8 w41 hb41 hk41 e41 => ?_
                have hk41 : Bk w41 other_8 [.bool false, .slice none 0 0, .slice none 0 0] 30 := hk41
                have z41 := e41.size
                have l41 := hk41.lt
                have hm_4_41 := hm_4_36.ext e41
                refine ⟨Rd.of_bk hm_4_41 rfl, ?_⟩
                have e3_35 := e3_6.then0 e35
                have e3_36 := e3_35.then0 e36
                have e3_41 := e3_36.then0 e41
                have hm_41 := hm_3.ext0 e3_41
                refine VCall.i (given_spec cm km m w41 hm_41 ⟨by omega, by omega⟩) ?_
                rintro e w42 ⟨cO, kO, rfl, hO, e42⟩
                have z42 := e42.size
                refine ⟨m.leaf, cO, kO, rfl, ?_⟩
                have gO := hO.ge
                have lO := hO.lt
                have e35_41 := e36.then0 e41
                have e35_42 := e35_41.then0 e42
                have hin_7_42 := hk35.ext e35_42
                refine VSt.bk hin_7_42 rfl (by simp) fun w43 hk43 e43 => ?_
                have hk43 : Bk w43 in_7 [.bool n.leaf, .slice cI.base cI.len cI.cap, .slice kI.base kI.len kI.cap] 30 := hk43
                have z43 := e43.size
                have e41_43 := e42.trans e43
                have hother_8_43 := hk41.ext e41_43
                refine VSt.bk hother_8_43 rfl (by simp) fun w44 hk44 e44 => ?_
                have hk44 : Bk w44 other_8 [.bool m.leaf, .slice cO.base cO.len cO.cap, .slice kO.base kO.len kO.cap] 30 := hk44
                have z44 := e44.size
                have hin_7_44 := hk43.ext e44
                have e36_42 := e41.then0 e42
                have e36_43 := e36_42.trans e43
                have e36_44 := e36_43.trans e44
                have hI_44 := hI.ext e36_44 (fun b hb hm => by have := gI b hb; have := lI b hb; simp at hm; omega)
                have e42_44 := e43.trans e44
                have hO_44 := hO.ext e42_44 (fun b hb hm => by have := gO b hb; have := lO b hb; simp at hm; omega)
                have e35_43 := e35_42.trans e43
                have e35_44 := e35_43.trans e44
                have hn_3_44 := hn_3_35.ext e35_44
                have e41_44 := e41_43.trans e44
                have hm_4_44 := hm_4_41.ext e41_44
                have e0_4 := e0_3.then0 e4
                have e0_6 := e0_4.then0 e6
                have e0_35 := e0_6.then0 e35
                have e0_36 := e0_35.then0 e36
                have e0_41 := e0_36.then0 e41
                have e0_42 := e0_41.then0 e42
                have e0_43 := e0_42.then e43 (fun i hi hlt => by simp at hi; omega)
                have e0_44 := e0_43.then e44 (fun i hi hlt => by simp at hi; omega)
                exact ⟨in_7, other_8, cI, kI, cO, kO, rfl, rfl, hin_7_44, hk44, hI_44.mono (by omega), hO_44.mono (by omega), hn_3_44, hm_4_44, e0_44⟩
            · refine VNw.i fun other_8 w45 hb45 hk45 e45 => ?_
              have hk45 : Bk w45 other_8 [.bool false, .slice none 0 0, .slice none 0 0] 30 := hk45
              have z45 := e45.size
              have l45 := hk45.lt
              have hm_4_45 := hm_4_35.ext e45
              refine ⟨Rd.of_bk hm_4_45 rfl, ?_⟩
              have hn_3_45 := hn_3_35.ext e45
              refine ⟨Rd.of_bk hn_3_45 rfl, ?_⟩
              have e2_35 := e2_6.then0 e35
              have e2_45 := e2_35.then0 e45
              have hn_45 := hn_2.ext0 e2_45
              refine VCall.i (given_spec c k n w45 hn_45 ⟨by omega, by omega⟩) ?_
              rintro e w46 ⟨cI, kI, rfl, hI, e46⟩
              have z46 := e46.size
              refine ⟨n.leaf, cI, kI, rfl, ?_⟩
              have gI := hI.ge
              have lI := hI.lt
              have hm_4_46 := hm_4_45.ext e46
              refine ⟨Rd.of_bk hm_4_46 rfl, ?_⟩
              have e3_35 := e3_6.then0 e35
              have e3_45 := e3_35.then0 e45
              have e3_46 := e3_45.then0 e46
              have hm_46 := hm_3.ext0 e3_46
              refine VCall.i (given_spec cm km m w46 hm_46 ⟨by omega, by omega⟩) ?_
              rintro e w47 ⟨cO, kO, rfl, hO, e47⟩
              have z47 := e47.size
              refine ⟨m.leaf, cO, kO, rfl, ?_⟩
              have gO := hO.ge
              have lO := hO.lt
              have e35_46 := e45.then0 e46
              have e35_47 := e35_46.then0 e47
              have hin_7_47 := hk35.ext e35_47
              refine VSt.bk hin_7_47 rfl (by simp) fun w48 hk48 e48 => ?_
              have hk48 : Bk w48 in_7 [.bool n.leaf, .slice cI.base cI.len cI.cap, .slice kI.base kI.len kI.cap] 30 := hk48
              have z48 := e48.size
              have e45_47 := e46.then0 e47
              have e45_48 := e45_47.trans e48
              have hother_8_48 := hk45.ext e45_48
              refine VSt.bk hother_8_48 rfl (by simp) fun w49 hk49 e49 => ?_
              have hk49 : Bk w49 other_8 [.bool m.leaf, .slice cO.base cO.len cO.cap, .slice kO.base kO.len kO.cap] 30 := hk49
              have z49 := e49.size
              have hin_7_49 := hk48.ext e49
              have e46_48 := e47.trans e48
              have e46_49 := e46_48.trans e49
              have hI_49 := hI.ext e46_49 (fun b hb hm => by have := gI b hb; have := lI b hb; simp at hm; omega)
              have e47_49 := e48.trans e49
              have hO_49 := hO.ext e47_49 (fun b hb hm => by have := gO b hb; have := lO b hb; simp at hm; omega)
              have e45_49 := e45_48.trans e49
              have hn_3_49 := hn_3_45.ext e45_49
              have hm_4_49 := hm_4_46.ext e46_49
              have e0_4 := e0_3.then0 e4
              have e0_6 := e0_4.then0 e6
              have e0_35 := e0_6.then0 e35
              have e0_45 := e0_35.then0 e45
              have e0_46 := e0_45.then0 e46
              have e0_47 := e0_46.then0 e47
              have e0_48 := e0_47.then e48 (fun i hi hlt => by simp at hi; omega)
              have e0_49 := e0_48.then e49 (fun i hi hlt => by simp at hi; omega)
              exact ⟨in_7, other_8, cI, kI, cO, kO, rfl, rfl, hin_7_49, hk49, hI_49.mono (by omega), hO_49.mono (by omega), hn_3_49, hm_4_49, e0_49⟩
          · refine VNw.i fun other_8 w50 hb50 hk50 e50 => ?_
            have hk50 : Bk w50 other_8 [.bool false, .slice none 0 0, .slice none 0 0] 30 := hk50
            have z50 := e50.size
            have l50 := hk50.lt
            have hm_4_50 := hm_4_6.ext e50
            refine ⟨Rd.of_bk hm_4_50 rfl, ?_⟩
            have hn_3_50 := hn_3_6.ext e50
            refine ⟨Rd.of_bk hn_3_50 rfl, ?_⟩
            refine ⟨?_, ?_⟩
            · have e2_50 := e2_6.then0 e50
              have hn_50 := hn_2.ext0 e2_50
              refine VCall.i (given_spec c k n w50 hn_50 ⟨by omega, by omega⟩) ?_
              rintro e w51 ⟨cI, kI, rfl, hI, e51⟩
              have z51 := e51.size
              refine ⟨n.leaf, cI, kI, rfl, ?_⟩
              have gI := hI.ge
              have lI := hI.lt
              have hm_4_51 := hm_4_50.ext e51
              refine ⟨Rd.of_bk hm_4_51 rfl, ?_⟩
              refine ⟨?_, ?_⟩
              · have e3_50 := e3_6.then0 e50
                have e3_51 := e3_50.then0 e51
                have hm_51 := hm_3.ext0 e3_51
                refine VCall.i (given_spec cm km m w51 hm_51 ⟨by omega, by omega⟩) ?_
                rintro e w52 ⟨cO, kO, rfl, hO, e52⟩
                have z52 := e52.size
                refine ⟨m.leaf, cO, kO, rfl, ?_⟩
                have gO := hO.ge
                have lO := hO.lt
                refine VNw.i fun in_7 w53 hb53 hk53 e53 => ?_
                have hk53 : Bk w53 in_7 [.bool false, .slice none 0 0, .slice none 0 0] 30 := hk53
                have z53 := e53.size
                have l53 := hk53.lt
                refine VSt.bk hk53 rfl (by simp) fun w54 hk54 e54 => ?_
                have hk54 : Bk w54 in_7 [.bool n.leaf, .slice cI.base cI.len cI.cap, .slice kI.base kI.len kI.cap] 30 := hk54
                have z54 := e54.size
                have e50_52 := e51.then0 e52
                have e50_53 := e50_52.then0 e53
                have e50_54 := e50_53.then e54 (fun i hi hlt => by simp at hi; omega)
                have hother_8_54 := hk50.ext e50_54
                refine VSt.bk hother_8_54 rfl (by simp) fun w55 hk55 e55 => ?_
                have hk55 : Bk w55 other_8 [.bool m.leaf, .slice cO.base cO.len cO.cap, .slice kO.base kO.len kO.cap] 30 := hk55
                have z55 := e55.size
                have hin_7_55 := hk54.ext e55
                have e51_53 := e52.then0 e53
                have e51_54 := e51_53.then e54 (fun i hi hlt => by simp at hi; omega)
                have e51_55 := e51_54.trans e55
                have hI_55 := hI.ext e51_55 (fun b hb hm => by have := gI b hb; have := lI b hb; simp at hm; omega)
                have e52_54 := e53.then e54 (fun i hi hlt => by simp at hi; omega)
                have e52_55 := e52_54.trans e55
                have hO_55 := hO.ext e52_55 (fun b hb hm => by have := gO b hb; have := lO b hb; simp at hm; omega)
                have e50_55 := e50_54.trans e55
                have hn_3_55 := hn_3_50.ext e50_55
                have hm_4_55 := hm_4_51.ext e51_55
                have e0_4 := e0_3.then0 e4
                have e0_6 := e0_4.then0 e6
                have e0_50 := e0_6.then0 e50
                have e0_51 := e0_50.then0 e51
                have e0_52 := e0_51.then0 e52
                have e0_53 := e0_52.then0 e53
                have e0_54 := e0_53.then e54 (fun i hi hlt => by simp at hi; omega)
                have e0_55 := e0_54.then e55 (fun i hi hlt => by simp at hi; omega)
                exact ⟨in_7, other_8, cI, kI, cO, kO, rfl, rfl, hin_7_55, hk55, hI_55.mono (by omega), hO_55.mono (by omega), hn_3_55, hm_4_55, e0_55⟩
              · refine VNw.i fun in_7 w56 hb56 hk56 e56 => ?_
                have hk56 : Bk w56 in_7 [.bool false, .slice none 0 0, .slice none 0 0] 30 := hk56
                have z56 := e56.size
                have l56 := hk56.lt
                have hm_4_56 := hm_4_51.ext e56
                refine ⟨Rd.of_bk hm_4_56 rfl, ?_⟩
                have e3_50 := e3_6.then0 e50
                have e3_51 := e3_50.then0 e51
                have e3_56 := e3_51.then0 e56
                have hm_56 := hm_3.ext0 e3_56
                refine VCall.i (given_spec cm km m w56 hm_56 ⟨by omega, by omega⟩) ?_
                rintro e w57 ⟨cO, kO, rfl, hO, e57⟩
                have z57 := e57.size
                refine ⟨m.leaf, cO, kO, rfl, ?_⟩
                have gO := hO.ge
                have lO := hO.lt
                have hin_7_57 := hk56.ext e57
                refine VSt.bk hin_7_57 rfl (by simp) fun w58 hk58 e58 => ?_
                have hk58 : Bk w58 in_7 [.bool n.leaf, .slice cI.base cI.len cI.cap, .slice kI.base kI.len kI.cap] 30 := hk58
                have z58 := e58.size
                have e50_56 := e51.then0 e56
                have e50_57 := e50_56.then0 e57
                have e50_58 := e50_57.then e58 (fun i hi hlt => by simp at hi; omega)
                have hother_8_58 := hk50.ext e50_58
                refine VSt.bk hother_8_58 rfl (by simp) fun w59 hk59 e59 => ?_
                have hk59 : Bk w59 other_8 [.bool m.leaf, .slice cO.base cO.len cO.cap, .slice kO.base kO.len kO.cap] 30 := hk59
                have z59 := e59.size
                have hin_7_59 := hk58.ext e59
                have e51_57 := e56.then0 e57
                have e51_58 := e51_57.then e58 (fun i hi hlt => by simp at hi; omega)
                have e51_59 := e51_58.trans e59
                have hI_59 := hI.ext e51_59 (fun b hb hm => by have := gI b hb; have := lI b hb; simp at hm; omega)
                have e57_59 := e58.trans e59
                have hO_59 := hO.ext e57_59 (fun b hb hm => by have := gO b hb; have := lO b hb; simp at hm; omega)
                have e50_59 := e50_58.trans e59
                have hn_3_59 := hn_3_50.ext e50_59
                have e56_58 := e57.trans e58
                have e56_59 := e56_58.trans e59
                have hm_4_59 := hm_4_56.ext e56_59
                have e0_4 := e0_3.then0 e4
                have e0_6 := e0_4.then0 e6
                have e0_50 := e0_6.then0 e50
                have e0_51 := e0_50.then0 e51
                have e0_56 := e0_51.then0 e56
                have e0_57 := e0_56.then0 e57
                have e0_58 := e0_57.then e58 (fun i hi hlt => by simp at hi; omega)
                have e0_59 := e0_58.then e59 (fun i hi hlt => by simp at hi; omega)
                exact ⟨in_7, other_8, cI, kI, cO, kO, rfl, rfl, hin_7_59, hk59, hI_59.mono (by omega), hO_59.mono (by omega), hn_3_59, hm_4_59, e0_59⟩
            · refine VNw.i fun in_7 w60 hb60 hk60 e60 => ?_
              have hk60 : Bk w60 in_7 [.bool false, .slice none 0 0, .slice none 0 0] 30 := hk60
              have z60 := e60.size
              have l60 := hk60.lt
              have hm_4_60 := hm_4_50.ext e60
              refine ⟨Rd.of_bk hm_4_60 rfl, ?_⟩
              have hn_3_60 := hn_3_50.ext e60
              refine ⟨Rd.of_bk hn_3_60 rfl, ?_⟩
              have e2_50 := e2_6.then0 e50
              have e2_60 := e2_50.then0 e60
              have hn_60 := hn_2.ext0 e2_60
              refine VCall.i (given_spec c k n w60 hn_60 ⟨by omega, by omega⟩) ?_
              rintro e w61 ⟨cI, kI, rfl, hI, e61⟩
              have z61 := e61.size
              refine ⟨n.leaf, cI, kI, rfl, ?_⟩
              have gI := hI.ge
              have lI := hI.lt
              have hm_4_61 := hm_4_60.ext e61
              refine ⟨Rd.of_bk hm_4_61 rfl, ?_⟩
              have e3_50 := e3_6.then0 e50
              have e3_60 := e3_50.then0 e60
              have e3_61 := e3_60.then0 e61
              have hm_61 := hm_3.ext0 e3_61
              refine VCall.i (given_spec cm km m w61 hm_61 ⟨by omega, by omega⟩) ?_
              rintro e w62 ⟨cO, kO, rfl, hO, e62⟩
              have z62 := e62.size
              refine ⟨m.leaf, cO, kO, rfl, ?_⟩
              have gO := hO.ge
              have lO := hO.lt
              have e60_62 := e61.then0 e62
              have hin_7_62 := hk60.ext e60_62
              refine VSt.bk hin_7_62 rfl (by simp) fun w63 hk63 e63 => ?_
              have hk63 : Bk w63 in_7 [.bool n.leaf, .slice cI.base cI.len cI.cap, .slice kI.base kI.len kI.cap] 30 := hk63
              have z63 := e63.size
              have e50_61 := e60.then0 e61
              have e50_62 := e50_61.then0 e62
              have e50_63 := e50_62.then e63 (fun i hi hlt => by simp at hi; omega)
              have hother_8_63 := hk50.ext e50_63
              refine VSt.bk hother_8_63 rfl (by simp) fun w64 hk64 e64 => ?_
              have hk64 : Bk w64 other_8 [.bool m.leaf, .slice cO.base cO.len cO.cap, .slice kO.base kO.len kO.cap] 30 := hk64
              have z64 := e64.size
              have hin_7_64 := hk63.ext e64
              have e61_63 := e62.trans e63
              have e61_64 := e61_63.trans e64
              have hI_64 := hI.ext e61_64 (fun b hb hm => by have := gI b hb; have := lI b hb; simp at hm; omega)
              have e62_64 := e63.trans e64
              have hO_64 := hO.ext e62_64 (fun b hb hm => by have := gO b hb; have := lO b hb; simp at hm; omega)
              have e60_63 := e60_62.trans e63
              have e60_64 := e60_63.trans e64
              have hn_3_64 := hn_3_60.ext e60_64
              have hm_4_64 := hm_4_61.ext e61_64
              have e0_4 := e0_3.then0 e4
              have e0_6 := e0_4.then0 e6
              have e0_50 := e0_6.then0 e50
              have e0_60 := e0_50.then0 e60
              have e0_61 := e0_60.then0 e61
              have e0_62 := e0_61.then0 e62
              have e0_63 := e0_62.then e63 (fun i hi hlt => by simp at hi; omega)
              have e0_64 := e0_63.then e64 (fun i hi hlt => by simp at hi; omega)
              exact ⟨in_7, other_8, cI, kI, cO, kO, rfl, rfl, hin_7_64, hk64, hI_64.mono (by omega), hO_64.mono (by omega), hn_3_64, hm_4_64, e0_64⟩
      rintro in_7 other_8 w65 ⟨ib, ob, cI, kI, cO, kO, rfl, rfl, bi, bo, hI, hO, gn_3_65, gm_4_65, e0_65⟩
      have z65 := e0_65.size
      have lgn_3_65 := gn_3_65.lt
      have lgm_4_65 := gm_4_65.lt
      have lI := hI.lt
      have lO := hO.lt
      have li := bi.lt
      have lo := bo.lt
      refine onPtr.i ?_
      refine ⟨n.leaf, cI, kI, gd.i (Rd.of_bk bi rfl), ?_⟩
      refine VCall.i (Find_spec cI kI n key w65 hI.nin) ?_
      rintro e w66 ⟨rfl, e66⟩
      have z66 := e66.size
      refine ⟨((findI n key : Nat) : Int), (findB n key), rfl, ?_⟩
      refine VSet.i ?_
      have hn_3_66 := gn_3_65.ext e66
      refine ⟨n.leaf, c, k, gd.i (Rd.of_bk hn_3_66 rfl), ?_⟩
      have e0_66 := e0_65.then0 e66
      have hn_66 := hn.ext0 e0_66
      refine VCall.i (xFind_spec c k n key w66 hn_66) ?_
      rintro e w67 ⟨rfl, e67⟩
      have z67 := e67.size
      refine ⟨((findI n key : Nat) : Int), (findB n key), rfl, ?_⟩
      refine VSet.i ?_
      refine VIf.f (by simp) ?_
      refine onPtr.i ?_
      have e65_67 := e66.then0 e67
      have hib_67 := bi.ext e65_67
      refine ⟨n.leaf, cI, kI, gd.i (Rd.of_bk hib_67 rfl), ?_⟩
      have hI_67 := hI.ext0 e65_67
      refine VCall.i (Cut_spec cI kI n w67 hI_67.nin hsn) ?_
      rintro e w68 ⟨c1, k1, c2, k2, rfl, hA, hB, hap, e68⟩
      have z68 := e68.size
      refine ⟨(cutN n).1.leaf, c1, k1, (cutN n).2.1, (cutN n).2.2.leaf, c2, k2, rfl, ?_⟩
      have gA := hA.ge
      have lA := hA.lt
      have gB := hB.ge
      have lB := hB.lt
      refine VNw.i fun a_13 w69 hb69 hk69 e69 => ?_
      have hk69 : Bk w69 a_13 [.bool false, .slice none 0 0, .slice none 0 0] 30 := hk69
      have z69 := e69.size
      have l69 := hk69.lt
      refine VNw.i fun b_15 w70 hb70 hk70 e70 => ?_
      have hk70 : Bk w70 b_15 [.bool false, .slice none 0 0, .slice none 0 0] 30 := hk70
      have z70 := e70.size
      have l70 := hk70.lt
      have ha_13_70 := hk69.ext e70
      refine VSt.bk ha_13_70 rfl (by simp) fun w71 hk71 e71 => ?_
      have hk71 : Bk w71 a_13 [.bool (cutN n).1.leaf, .slice c1.base c1.len c1.cap, .slice k1.base k1.len k1.cap] 30 := hk71
      have z71 := e71.size
      have hb_15_71 := hk70.ext e71
      refine VSt.bk hb_15_71 rfl (by simp) fun w72 hk72 e72 => ?_
      have hk72 : Bk w72 b_15 [.bool (cutN n).2.2.leaf, .slice c2.base c2.len c2.cap, .slice k2.base k2.len k2.cap] 30 := hk72
      have z72 := e72.size
      have e66_68 := e67.then0 e68
      have e66_69 := e66_68.then0 e69
      have e66_70 := e66_69.then0 e70
      have e66_71 := e66_70.then e71 (fun i hi hlt => by simp at hi; omega)
      have e66_72 := e66_71.then e72 (fun i hi hlt => by simp at hi; omega)
      have hn_3_72 := hn_3_66.ext e66_72
      refine ⟨n.leaf, c, k, gd.i (Rd.of_bk hn_3_72 rfl), ?_⟩
      have hn_72 := hn_66.ext0 e66_72
      refine VCall.i (xCut_spec c k n w72 hn_72 hsn) ?_
      rintro e w73 ⟨c3, k3, c4, k4, rfl, hC, hD, e73⟩
      have z73 := e73.size
      refine ⟨(cutN n).1.leaf, c3, k3, (cutN n).2.1, (cutN n).2.2.leaf, c4, k4, rfl, ?_⟩
      refine VNw.i fun c_16 w74 hb74 hk74 e74 => ?_
      have hk74 : Bk w74 c_16 [.bool false, .slice none 0 0, .slice none 0 0] 25 := hk74
      have z74 := e74.size
      have l74 := hk74.lt
      refine VNw.i fun d_18 w75 hb75 hk75 e75 => ?_
      have hk75 : Bk w75 d_18 [.bool false, .slice none 0 0, .slice none 0 0] 25 := hk75
      have z75 := e75.size
      have l75 := hk75.lt
      have hc_16_75 := hk74.ext e75
      refine VSt.bk hc_16_75 rfl (by simp) fun w76 hk76 e76 => ?_
      have hk76 : Bk w76 c_16 [.bool (cutN n).1.leaf, .slice c3.base c3.len c3.cap, .slice k3.base k3.len k3.cap] 25 := hk76
      have z76 := e76.size
      have hd_18_76 := hk75.ext e76
      refine VSt.bk hd_18_76 rfl (by simp) fun w77 hk77 e77 => ?_
      have hk77 : Bk w77 d_18 [.bool (cutN n).2.2.leaf, .slice c4.base c4.len c4.cap, .slice k4.base k4.len k4.cap] 25 := hk77
      have z77 := e77.size
      refine onPtr.i ?_
      have e67_69 := e68.then0 e69
      have e67_70 := e67_69.then0 e70
      have e67_71 := e67_70.then e71 (fun i hi hlt => by simp at hi; omega)
      have e67_72 := e67_71.then e72 (fun i hi hlt => by simp at hi; omega)
      have e67_73 := e67_72.then0 e73
      have e67_74 := e67_73.then0 e74
      have e67_75 := e67_74.then0 e75
      have e67_76 := e67_75.then e76 (fun i hi hlt => by simp at hi; omega)
      have e67_77 := e67_76.then e77 (fun i hi hlt => by simp at hi; omega)
      have hib_77 := hib_67.ext e67_77
      refine ⟨n.leaf, cI, kI, gd.i (Rd.of_bk hib_77 rfl), ?_⟩
      refine onPtr.i ?_
      have e65_68 := e65_67.then0 e68
      have e65_69 := e65_68.then0 e69
      have e65_70 := e65_69.then0 e70
      have e65_71 := e65_70.then e71 (fun i hi hlt => by simp at hi; omega)
      have e65_72 := e65_71.then e72 (fun i hi hlt => by simp at hi; omega)
      have e65_73 := e65_72.then0 e73
      have e65_74 := e65_73.then0 e74
      have e65_75 := e65_74.then0 e75
      have e65_76 := e65_75.then e76 (fun i hi hlt => by simp at hi; omega)
      have e65_77 := e65_76.then e77 (fun i hi hlt => by simp at hi; omega)
      have hob_77 := bo.ext e65_77
      refine ⟨m.leaf, cO, kO, gd.i (Rd.of_bk hob_77 rfl), ?_⟩
      have hI_77 := hI_67.ext0 e67_77
      have hO_77 := hO.ext0 e65_77
      refine VCall.i (Join_spec cI kI cO kO n m key w77 hI_77.nin hO_77.nin ⟨by omega, by omega⟩ ⟨by omega, by omega⟩) ?_
      rintro e w78 ⟨cX, kX, rfl, hX, e78⟩
      have z78 := e78.size
      refine ⟨(joinN n key m).leaf, cX, kX, rfl, ?_⟩
      have gX := hX.ge
      have lX := hX.lt
      refine VNw.i fun x_19 w79 hb79 hk79 e79 => ?_
      have hk79 : Bk w79 x_19 [.bool false, .slice none 0 0, .slice none 0 0] 30 := hk79
      have z79 := e79.size
      have l79 := hk79.lt
      refine VSt.bk hk79 rfl (by simp) fun w80 hk80 e80 => ?_
      have hk80 : Bk w80 x_19 [.bool (joinN n key m).leaf, .slice cX.base cX.len cX.cap, .slice kX.base kX.len kX.cap] 30 := hk80
      have z80 := e80.size
      intro w81 hw81
      have e81 := Ext.drew' hw81
      have z81 := e81.size
      have e71_73 := e72.then0 e73
      have e71_74 := e71_73.then0 e74
      have e71_75 := e71_74.then0 e75
      have e71_76 := e71_75.trans e76
      have e71_77 := e71_76.trans e77
      have e71_78 := e71_77.then0 e78
      have e71_79 := e71_78.then0 e79
      have e71_80 := e71_79.trans e80
      have e71_81 := e71_80.then0 e81
      have ha_13_81 := hk71.ext e71_81
      refine ⟨(cutN n).1.leaf, c1, k1, gd.i (Rd.of_bk ha_13_81 rfl), ?_⟩
      have e76_78 := e77.then0 e78
      have e76_79 := e76_78.then0 e79
      have e76_80 := e76_79.trans e80
      have e76_81 := e76_80.then0 e81
      have hc_16_81 := hk76.ext e76_81
      refine ⟨(cutN n).1.leaf, c3, k3, gd.i (Rd.of_bk hc_16_81 rfl), ?_⟩
      have e68_70 := e69.then0 e70
      have e68_71 := e68_70.then e71 (fun i hi hlt => by simp at hi; omega)
      have e68_72 := e68_71.then e72 (fun i hi hlt => by simp at hi; omega)
      have e68_73 := e68_72.then0 e73
      have e68_74 := e68_73.then0 e74
      have e68_75 := e68_74.then0 e75
      have e68_76 := e68_75.then e76 (fun i hi hlt => by simp at hi; omega)
      have e68_77 := e68_76.then e77 (fun i hi hlt => by simp at hi; omega)
      have e68_78 := e68_77.then0 e78
      have e68_79 := e68_78.then0 e79
      have e68_80 := e68_79.then e80 (fun i hi hlt => by simp at hi; omega)
      have e68_81 := e68_80.then0 e81
      have hA_81 := hA.ext0 e68_81
      refine VCall.on (by simp) ?_
      refine VCall.i (back_spec c1 k1 (cutN n).1 w81 hA_81.nin ⟨s1c, s1k⟩) ?_
      rintro e w82 ⟨cP1, kP1, rfl, hP1, e82⟩
      have z82 := e82.size
      refine ⟨(cutN n).1.leaf, cP1, kP1, rfl, ?_⟩
      have hc_16_82 := hc_16_81.ext e82
      refine ⟨fun _ => Rd.of_bk hc_16_82 rfl, ?_⟩
      have e73_75 := e74.then0 e75
      have e73_76 := e73_75.then e76 (fun i hi hlt => by simp at hi; omega)
      have e73_77 := e73_76.then e77 (fun i hi hlt => by simp at hi; omega)
      have e73_78 := e73_77.then0 e78
      have e73_79 := e73_78.then0 e79
      have e73_80 := e73_79.then e80 (fun i hi hlt => by simp at hi; omega)
      have e73_81 := e73_80.then0 e81
      have e73_82 := e73_81.then0 e82
      have hC_82 := hC.ext0 e73_82
      refine VCall.on (by simp) ?_
      refine VCall.i (Same_spec cP1 kP1 c3 k3 (cutN n).1 w82 hP1.nin hC_82.nin ⟨by omega, by omega⟩) ?_
      rintro e w83 ⟨rfl, e83⟩
      have z83 := e83.size
      refine ⟨true, rfl, ?_⟩
      have e72_74 := e73.then0 e74
      have e72_75 := e72_74.then0 e75
      have e72_76 := e72_75.then e76 (fun i hi hlt => by simp at hi; omega)
      have e72_77 := e72_76.then e77 (fun i hi hlt => by simp at hi; omega)
      have e72_78 := e72_77.then0 e78
      have e72_79 := e72_78.then0 e79
      have e72_80 := e72_79.then e80 (fun i hi hlt => by simp at hi; omega)
      have e72_81 := e72_80.then0 e81
      have e72_82 := e72_81.then0 e82
      have e72_83 := e72_82.then0 e83
      have hb_15_83 := hk72.ext e72_83
      refine ⟨(cutN n).2.2.leaf, c2, k2, gd.i (Rd.of_bk hb_15_83 rfl), ?_⟩
      have e77_79 := e78.then0 e79
      have e77_80 := e77_79.then e80 (fun i hi hlt => by simp at hi; omega)
      have e77_81 := e77_80.then0 e81
      have e77_82 := e77_81.then0 e82
      have e77_83 := e77_82.then0 e83
      have hd_18_83 := hk77.ext e77_83
      refine ⟨(cutN n).2.2.leaf, c4, k4, gd.i (Rd.of_bk hd_18_83 rfl), ?_⟩
      have e68_82 := e68_81.then0 e82
      have e68_83 := e68_82.then0 e83
      have hB_83 := hB.ext0 e68_83
      refine VCall.on (by simp) ?_
      refine VCall.i (back_spec c2 k2 (cutN n).2.2 w83 hB_83.nin ⟨s2c, s2k⟩) ?_
      rintro e w84 ⟨cP2, kP2, rfl, hP2, e84⟩
      have z84 := e84.size
      refine ⟨(cutN n).2.2.leaf, cP2, kP2, rfl, ?_⟩
      have hd_18_84 := hd_18_83.ext e84
      refine ⟨fun _ => Rd.of_bk hd_18_84 rfl, ?_⟩
      have e73_83 := e73_82.then0 e83
      have e73_84 := e73_83.then0 e84
      have hD_84 := hD.ext0 e73_84
      refine VCall.on (by simp) ?_
      refine VCall.i (Same_spec cP2 kP2 c4 k4 (cutN n).2.2 w84 hP2.nin hD_84.nin ⟨by omega, by omega⟩) ?_
      rintro e w85 ⟨rfl, e85⟩
      have z85 := e85.size
      refine ⟨true, rfl, ?_⟩
      have e80_82 := e81.then0 e82
      have e80_83 := e80_82.then0 e83
      have e80_84 := e80_83.then0 e84
      have e80_85 := e80_84.then0 e85
      have hx_19_85 := hk80.ext e80_85
      refine ⟨(joinN n key m).leaf, cX, kX, gd.i (Rd.of_bk hx_19_85 rfl), ?_⟩
      have e72_84 := e72_83.then0 e84
      have e72_85 := e72_84.then0 e85
      have hn_3_85 := hn_3_72.ext e72_85
      refine ⟨n.leaf, c, k, gd.i (Rd.of_bk hn_3_85 rfl), ?_⟩
      have e65_78 := e65_77.then0 e78
      have e65_79 := e65_78.then0 e79
      have e65_80 := e65_79.then e80 (fun i hi hlt => by simp at hi; omega)
      have e65_81 := e65_80.then0 e81
      have e65_82 := e65_81.then0 e82
      have e65_83 := e65_82.then0 e83
      have e65_84 := e65_83.then0 e84
      have e65_85 := e65_84.then0 e85
      have hm_4_85 := gm_4_65.ext e65_85
      refine ⟨m.leaf, cm, km, gd.i (Rd.of_bk hm_4_85 rfl), ?_⟩
      have e78_80 := e79.then e80 (fun i hi hlt => by simp at hi; omega)
      have e78_81 := e78_80.then0 e81
      have e78_82 := e78_81.then0 e82
      have e78_83 := e78_82.then0 e83
      have e78_84 := e78_83.then0 e84
      have e78_85 := e78_84.then0 e85
      have hX_85 := hX.ext0 e78_85
      refine VCall.on (by simp) ?_
      refine VCall.i (back_spec cX kX (joinN n key m) w85 hX_85.nin hj) ?_
      rintro e w86 ⟨cP3, kP3, rfl, hP3, e86⟩
      have z86 := e86.size
      refine ⟨(joinN n key m).leaf, cP3, kP3, rfl, ?_⟩
      have hm_4_86 := hm_4_85.ext e86
      refine ⟨fun _ => Rd.of_bk hm_4_86 rfl, ?_⟩
      have hn_3_86 := hn_3_85.ext e86
      refine ⟨fun _ => Rd.of_bk hn_3_86 rfl, ?_⟩
      have e72_86 := e72_85.then0 e86
      have hn_86 := hn_72.ext0 e72_86
      have e0_67 := e0_66.then0 e67
      have e0_68 := e0_67.then0 e68
      have e0_69 := e0_68.then0 e69
      have e0_70 := e0_69.then0 e70
      have e0_71 := e0_70.then e71 (fun i hi hlt => by simp at hi; omega)
      have e0_72 := e0_71.then e72 (fun i hi hlt => by simp at hi; omega)
      have e0_73 := e0_72.then0 e73
      have e0_74 := e0_73.then0 e74
      have e0_75 := e0_74.then0 e75
      have e0_76 := e0_75.then e76 (fun i hi hlt => by simp at hi; omega)
      have e0_77 := e0_76.then e77 (fun i hi hlt => by simp at hi; omega)
      have e0_78 := e0_77.then0 e78
      have e0_79 := e0_78.then0 e79
      have e0_80 := e0_79.then e80 (fun i hi hlt => by simp at hi; omega)
      have e0_81 := e0_80.then0 e81
      have e0_82 := e0_81.then0 e82
      have e0_83 := e0_82.then0 e83
      have e0_84 := e0_83.then0 e84
      have e0_85 := e0_84.then0 e85
      have e0_86 := e0_85.then0 e86
      have hm_86 := hm.ext0 e0_86
      refine VCall.on (by simp) ?_
      refine VCall.i (xJoin_spec c k cm km n m key w86 hn_86 hm_86 ⟨by omega, by omega⟩ ⟨by omega, by omega⟩) ?_
      rintro e w87 ⟨cJ, kJ, rfl, hJ, e87⟩
      have z87 := e87.size
      refine ⟨(joinN n key m).leaf, cJ, kJ, rfl, ?_⟩
      have hP3_87 := hP3.ext0 e87
      refine VCall.on (by simp) ?_
      refine VCall.i (Same_spec cP3 kP3 cJ kJ (joinN n key m) w87 hP3_87.nin hJ.nin ⟨by omega, by omega⟩) ?_
      rintro e w88 ⟨rfl, e88⟩
      have z88 := e88.size
      refine ⟨true, rfl, ?_⟩
      refine VIf.f (by simp) ?_
      intro w89 hw89
      have e89 := Ext.drew' hw89
      have z89 := e89.size
      have e81_83 := e82.then0 e83
      have e81_84 := e81_83.then0 e84
      have e81_85 := e81_84.then0 e85
      have e81_86 := e81_85.then0 e86
      have e81_87 := e81_86.then0 e87
      have e81_88 := e81_87.then0 e88
      have e81_89 := e81_88.then0 e89
      have ha_13_89 := ha_13_81.ext e81_89
      refine ⟨(cutN n).1.leaf, c1, k1, gd.i (Rd.of_bk ha_13_89 rfl), ?_⟩
      have hA_89 := hA_81.ext0 e81_89
      have e0_87 := e0_86.then0 e87
      have e0_88 := e0_87.then0 e88
      have e0_89 := e0_88.then0 e89
      have e67_78 := e67_77.then0 e78
      have e67_79 := e67_78.then0 e79
      have e67_80 := e67_79.then e80 (fun i hi hlt => by simp at hi; omega)
      have e67_81 := e67_80.then0 e81
      have e67_82 := e67_81.then0 e82
      have e67_83 := e67_82.then0 e83
      have e67_84 := e67_83.then0 e84
      have e67_85 := e67_84.then0 e85
      have e67_86 := e67_85.then0 e86
      have e67_87 := e67_86.then0 e87
      have e67_88 := e67_87.then0 e88
      have e67_89 := e67_88.then0 e89
      have e86_88 := e87.then0 e88
      have e86_89 := e86_88.then0 e89
      have hn_3_89 := hn_3_86.ext e86_89
      have hm_4_89 := hm_4_86.ext e86_89
      have e77_84 := e77_83.then0 e84
      have e77_85 := e77_84.then0 e85
      have e77_86 := e77_85.then0 e86
      have e77_87 := e77_86.then0 e87
      have e77_88 := e77_87.then0 e88
      have e77_89 := e77_88.then0 e89
      have hib_89 := hib_77.ext e77_89
      have hob_89 := hob_77.ext e77_89
      have e83_85 := e84.then0 e85
      have e83_86 := e83_85.then0 e86
      have e83_87 := e83_86.then0 e87
      have e83_88 := e83_87.then0 e88
      have e83_89 := e83_88.then0 e89
      have hb_15_89 := hb_15_83.ext e83_89
      have e82_84 := e83.then0 e84
      have e82_85 := e82_84.then0 e85
      have e82_86 := e82_85.then0 e86
      have e82_87 := e82_86.then0 e87
      have e82_88 := e82_87.then0 e88
      have e82_89 := e82_88.then0 e89
      have hc_16_89 := hc_16_82.ext e82_89
      have e84_86 := e85.then0 e86
      have e84_87 := e84_86.then0 e87
      have e84_88 := e84_87.then0 e88
      have e84_89 := e84_88.then0 e89
      have hd_18_89 := hd_18_84.ext e84_89
      have e85_87 := e86.then0 e87
      have e85_88 := e85_87.then0 e88
      have e85_89 := e85_88.then0 e89
      have hx_19_89 := hx_19_85.ext e85_89
      have hI_89 := hI_77.ext0 e77_89
      have hO_89 := hO_77.ext0 e77_89
      have hB_89 := hB_83.ext0 e83_89
      have hX_89 := hX_85.ext0 e85_89
      have hC_89 := hC_82.ext0 e82_89
      have hD_89 := hD_84.ext0 e84_89
      refine VCall.i (spoil_spec c1 k1 (cutN n).1 w67 w89 hA_89 e67_89 ⟨s1c, s1k⟩) ?_
      rintro e w90 ⟨vA, vAa, vAb, rfl, e90⟩
      have z90 := e90.size
      refine ⟨vA, rfl, ?_⟩
      have e0_90 := e0_89.then e90 (fun i hi hlt => by have := gA i hi; omega)
      have eA_90 := e67_89.then e90 (fun i hi hlt => by have := gA i hi; omega)
      have hn_3_90 := hn_3_89.ext e90 (OwnN.notin hA_89 hn_3_89 (by decide) (by decide))
      have hm_4_90 := hm_4_89.ext e90 (OwnN.notin hA_89 hm_4_89 (by decide) (by decide))
      have hib_90 := hib_89.ext e90 (OwnN.notin hA_89 hib_89 (by decide) (by decide))
      have hob_90 := hob_89.ext e90 (OwnN.notin hA_89 hob_89 (by decide) (by decide))
      have ha_13_90 := ha_13_89.ext e90 (OwnN.notin hA_89 ha_13_89 (by decide) (by decide))
      have hb_15_90 := hb_15_89.ext e90 (OwnN.notin hA_89 hb_15_89 (by decide) (by decide))
      have hc_16_90 := hc_16_89.ext e90 (OwnN.notin hA_89 hc_16_89 (by decide) (by decide))
      have hd_18_90 := hd_18_89.ext e90 (OwnN.notin hA_89 hd_18_89 (by decide) (by decide))
      have hx_19_90 := hx_19_89.ext e90 (OwnN.notin hA_89 hx_19_89 (by decide) (by decide))
      have hI_90 := hI_89.ext e90 (fun b hb hm => by have := lI b hb; have := gA b hm; omega)
      have hO_90 := hO_89.ext e90 (fun b hb hm => by have := lO b hb; have := gA b hm; omega)
      have hB_90 := hB_89.ext e90 (fun b hb hm => hap b hm hb)
      have hX_90 := hX_89.ext e90 (fun b hb hm => by have := gX b hb; have := lA b hm; omega)
      have hC_90 := hC_89.ext e90 (fun b hb => by have := lA b hb; omega)
      have hD_90 := hD_89.ext e90 (fun b hb => by have := lA b hb; omega)
      refine ⟨(cutN n).2.2.leaf, c2, k2, gd.i (Rd.of_bk hb_15_90 rfl), ?_⟩
      refine ⟨(cutN n).2.2.leaf, c4, k4, gd.i (Rd.of_bk hd_18_90 rfl), ?_⟩
      refine VCall.on (by simp; omega) ?_
      refine VCall.i (back_spec c2 k2 (cutN n).2.2 w90 hB_90.nin ⟨s2c, s2k⟩) ?_
      rintro e w91 ⟨cP4, kP4, rfl, hP4, e91⟩
      have z91 := e91.size
      refine ⟨(cutN n).2.2.leaf, cP4, kP4, rfl, ?_⟩
      have hd_18_91 := hd_18_90.ext e91
      refine ⟨fun _ => Rd.of_bk hd_18_91 rfl, ?_⟩
      have hD_91 := hD_90.ext0 e91
      refine VCall.on (by simp; omega) ?_
      refine VCall.i (Same_spec cP4 kP4 c4 k4 (cutN n).2.2 w91 hP4.nin hD_91.nin ⟨by omega, by omega⟩) ?_
      rintro e w92 ⟨rfl, e92⟩
      have z92 := e92.size
      refine ⟨true, rfl, ?_⟩
      have e90_92 := e91.then0 e92
      have hb_15_92 := hb_15_90.ext e90_92
      refine ⟨(cutN n).2.2.leaf, c2, k2, gd.i (Rd.of_bk hb_15_92 rfl), ?_⟩
      have hx_19_92 := hx_19_90.ext e90_92
      refine ⟨(joinN n key m).leaf, cX, kX, gd.i (Rd.of_bk hx_19_92 rfl), ?_⟩
      have hB_92 := hB_90.ext0 e90_92
      have e0_91 := e0_90.then0 e91
      have e0_92 := e0_91.then0 e92
      have hn_3_92 := hn_3_90.ext e90_92
      have hm_4_92 := hm_4_90.ext e90_92
      have hib_92 := hib_90.ext e90_92
      have hob_92 := hob_90.ext e90_92
      have ha_13_92 := ha_13_90.ext e90_92
      have hc_16_92 := hc_16_90.ext e90_92
      have hd_18_92 := hd_18_91.ext e92
      have hI_92 := hI_90.ext0 e90_92
      have hO_92 := hO_90.ext0 e90_92
      have hX_92 := hX_90.ext0 e90_92
      have hC_92 := hC_90.ext0 e90_92
      have hD_92 := hD_91.ext0 e92
      refine VCall.on (by simp; omega) ?_
      refine VCall.i (spoil_spec c2 k2 (cutN n).2.2 w67 w92 hB_92 (eA_90.then0 e90_92) ⟨s2c, s2k⟩) ?_
      rintro e w93 ⟨vB, vBa, vBb, rfl, e93⟩
      have z93 := e93.size
      refine ⟨vB, rfl, ?_⟩
      have e0_93 := e0_92.then e93 (fun i hi hlt => by have := gB i hi; omega)
      have eA_93 := (eA_90.then0 e90_92).then e93 (fun i hi hlt => by have := gB i hi; omega)
      have hn_3_93 := hn_3_92.ext e93 (OwnN.notin hB_92 hn_3_92 (by decide) (by decide))
      have hm_4_93 := hm_4_92.ext e93 (OwnN.notin hB_92 hm_4_92 (by decide) (by decide))
      have hib_93 := hib_92.ext e93 (OwnN.notin hB_92 hib_92 (by decide) (by decide))
      have hob_93 := hob_92.ext e93 (OwnN.notin hB_92 hob_92 (by decide) (by decide))
      have ha_13_93 := ha_13_92.ext e93 (OwnN.notin hB_92 ha_13_92 (by decide) (by decide))
      have hb_15_93 := hb_15_92.ext e93 (OwnN.notin hB_92 hb_15_92 (by decide) (by decide))
      have hc_16_93 := hc_16_92.ext e93 (OwnN.notin hB_92 hc_16_92 (by decide) (by decide))
      have hd_18_93 := hd_18_92.ext e93 (OwnN.notin hB_92 hd_18_92 (by decide) (by decide))
      have hx_19_93 := hx_19_92.ext e93 (OwnN.notin hB_92 hx_19_92 (by decide) (by decide))
      have hI_93 := hI_92.ext e93 (fun b hb hm => by have := lI b hb; have := gB b hm; omega)
      have hO_93 := hO_92.ext e93 (fun b hb hm => by have := lO b hb; have := gB b hm; omega)
      have hX_93 := hX_92.ext e93 (fun b hb hm => by have := gX b hb; have := lB b hm; omega)
      have hC_93 := hC_92.ext e93 (fun b hb => by have := lB b hb; omega)
      have hD_93 := hD_92.ext e93 (fun b hb => by have := lB b hb; omega)
      refine ⟨fun _ => Rd.of_bk hx_19_93 rfl, ?_⟩
      refine VCall.on (by simp; omega) ?_
      refine VCall.i (spoil_spec cX kX (joinN n key m) w67 w93 (hX_93.mono (by omega)) eA_93 hj) ?_
      rintro e w94 ⟨vX, vXa, vXb, rfl, e94⟩
      have z94 := e94.size
      refine ⟨vX, rfl, ?_⟩
      have e0_94 := e0_93.then e94 (fun i hi hlt => by have := gX i hi; omega)
      have eA_94 := eA_93.then e94 (fun i hi hlt => by have := gX i hi; omega)
      have hn_3_94 := hn_3_93.ext e94 (OwnN.notin hX_93 hn_3_93 (by decide) (by decide))
      have hm_4_94 := hm_4_93.ext e94 (OwnN.notin hX_93 hm_4_93 (by decide) (by decide))
      have hib_94 := hib_93.ext e94 (OwnN.notin hX_93 hib_93 (by decide) (by decide))
      have hob_94 := hob_93.ext e94 (OwnN.notin hX_93 hob_93 (by decide) (by decide))
      have ha_13_94 := ha_13_93.ext e94 (OwnN.notin hX_93 ha_13_93 (by decide) (by decide))
      have hb_15_94 := hb_15_93.ext e94 (OwnN.notin hX_93 hb_15_93 (by decide) (by decide))
      have hc_16_94 := hc_16_93.ext e94 (OwnN.notin hX_93 hc_16_93 (by decide) (by decide))
      have hd_18_94 := hd_18_93.ext e94 (OwnN.notin hX_93 hd_18_93 (by decide) (by decide))
      have hx_19_94 := hx_19_93.ext e94 (OwnN.notin hX_93 hx_19_93 (by decide) (by decide))
      have hI_94 := hI_93.ext e94 (fun b hb hm => by have := lI b hb; have := gX b hm; omega)
      have hO_94 := hO_93.ext e94 (fun b hb hm => by have := lO b hb; have := gX b hm; omega)
      refine VIf.f (by rw [w64 (by omega)]; simp; omega) ?_
      intro w95 hw95
      have e95 := Ext.drew' hw95
      have z95 := e95.size
      refine onPtr.i ?_
      have hib_95 := hib_94.ext e95
      refine ⟨n.leaf, cI, kI, gd.i (Rd.of_bk hib_95 rfl), ?_⟩
      have hn_3_95 := hn_3_94.ext e95
      refine ⟨n.leaf, c, k, gd.i (Rd.of_bk hn_3_95 rfl), ?_⟩
      have hI_95 := hI_94.ext0 e95
      refine VCall.i (back_spec cI kI n w95 hI_95.nin ⟨by omega, by omega⟩) ?_
      rintro e w96 ⟨cP5, kP5, rfl, hP5, e96⟩
      have z96 := e96.size
      refine ⟨n.leaf, cP5, kP5, rfl, ?_⟩
      have hn_3_96 := hn_3_95.ext e96
      refine ⟨Rd.of_bk hn_3_96 rfl, ?_⟩
      have e86_90 := e86_89.trans e90
      have e86_91 := e86_90.then0 e91
      have e86_92 := e86_91.then0 e92
      have e86_93 := e86_92.trans e93
      have e86_94 := e86_93.trans e94
      have e86_95 := e86_94.then0 e95
      have e86_96 := e86_95.then0 e96
      have e0_95 := e0_94.then0 e95
      have e0_96 := e0_95.then0 e96
      have hn_96 := hn.ext0 e0_96
      refine VCall.i (Same_spec cP5 kP5 c k n w96 hP5.nin hn_96 ⟨by omega, by omega⟩) ?_
      rintro e w97 ⟨rfl, e97⟩
      have z97 := e97.size
      refine ⟨true, rfl, ?_⟩
      refine onPtr.i ?_
      have e94_96 := e95.then0 e96
      have e94_97 := e94_96.then0 e97
      have hob_97 := hob_94.ext e94_97
      refine ⟨m.leaf, cO, kO, gd.i (Rd.of_bk hob_97 rfl), ?_⟩
      have hm_4_97 := hm_4_94.ext e94_97
      refine ⟨m.leaf, cm, km, gd.i (Rd.of_bk hm_4_97 rfl), ?_⟩
      have hO_97 := hO_94.ext0 e94_97
      refine VCall.on (by simp) ?_
      refine VCall.i (back_spec cO kO m w97 hO_97.nin ⟨by omega, by omega⟩) ?_
      rintro e w98 ⟨cP6, kP6, rfl, hP6, e98⟩
      have z98 := e98.size
      refine ⟨m.leaf, cP6, kP6, rfl, ?_⟩
      have hm_4_98 := hm_4_97.ext e98
      refine ⟨fun _ => Rd.of_bk hm_4_98 rfl, ?_⟩
      have e86_97 := e86_96.then0 e97
      have e86_98 := e86_97.then0 e98
      have e0_97 := e0_96.then0 e97
      have e0_98 := e0_97.then0 e98
      have hm_98 := hm.ext0 e0_98
      refine VCall.on (by simp) ?_
      refine VCall.i (Same_spec cP6 kP6 cm km m w98 hP6.nin hm_98 ⟨by omega, by omega⟩) ?_
      rintro e w99 ⟨rfl, e99⟩
      have z99 := e99.size
      refine ⟨true, rfl, ?_⟩
      refine VCall.on (by simp) ?_
      refine VCall.i (awake_spec w99) ?_
      rintro e w100 ⟨rfl, e100⟩
      have z100 := e100.size
      refine ⟨true, rfl, ?_⟩
      have e0_99 := e0_98.then0 e99
      have e0_100 := e0_99.then0 e100
      exact ⟨rfl, e0_100⟩
end Go.Proofs.Ytknohdgcigcmdaa
