/-
  Package node: NodeBack, for nodes of any size.
-/
import Derived.Test.YtknohdgcigcmdaaNodeVb
import Derived.Test.YtknohdgcigcmdaaNodeLa
namespace Go.Proofs.Ytknohdgcigcmdaa
open Go.RowKit
set_option maxRecDepth 100000

set_option maxHeartbeats 4000000 in
theorem NodeBack_any (c k s : Sl) (n : Nd) (noughts_ : Int) (l : List UInt8) (w : World) (hn : NIn w c k n) (hs : In w s l) : Calls Try.prog 7 #[.agg (nhC n.leaf c k).toArray, .int .i64 noughts_, .slice s.base s.len s.cap] w fun e w' => e = .returned (.bool true) ∧ Ext [] w w' := by
  refine sh_butterylaw06_NodeBack_ok _ _ _ _ _ _ _ ?_
  unfold sh_butterylaw06_NodeBack
  have hsl := hs.len
  have hcap := hs.2
  refine VNw.i fun n_3 w1 hb1 hk1 e1 => ?_
  have hk1 : Bk w1 n_3 [.bool n.leaf, .slice c.base c.len c.cap, .slice k.base k.len k.cap] 25 := hk1
  have z1 := e1.size
  have l1 := hk1.lt
  refine ⟨n.leaf, c, k, gd.i (Rd.of_bk hk1 rfl), ?_⟩
  have hn_1 := hn.ext0 e1
  refine VCall.i (large_any c k n w1 hn_1) ?_
  rintro e w2 ⟨r, rfl, hr, e2⟩
  have z2 := e2.size
  refine ⟨r, rfl, ?_⟩
  refine VCall.opt (awake_spec w2) fun w3 e3 => ?_
  have z3 := e3.size
  refine ⟨true, rfl, ?_⟩
  refine VIf.mk (fun hc => ?_) (fun hc => ?_)
  · refine VCall.i (awake_spec w3) ?_
    rintro e w4 ⟨rfl, e4⟩
    have z4 := e4.size
    refine ⟨true, rfl, ?_⟩
    have e0_2 := e1.then0 e2
    have e0_3 := e0_2.then0 e3
    have e0_4 := e0_3.then0 e4
    exact ⟨rfl, e0_4⟩
  · have hc2 : r = false ∧ l.length ≤ 2000 := by
      rw [hsl] at hc
      simp only [Bool.or_eq_false_iff, decide_eq_false_iff_not] at hc
      exact ⟨hc.1.1, by omega⟩
    obtain ⟨c100, k100⟩ := hr hc2.1
    have hll := hc2.2
    have e1_3 := e2.then0 e3
    have hn_3_3 := hk1.ext e1_3
    refine ⟨n.leaf, c, k, gd.i (Rd.of_bk hn_3_3 rfl), ?_⟩
    have hn_3 := hn_1.ext0 e1_3
    refine VCall.i (given_spec c k n w3 hn_3 ⟨by omega, by omega⟩) ?_
    rintro e w5 ⟨cI, kI, rfl, hI, e5⟩
    have z5 := e5.size
    refine ⟨n.leaf, cI, kI, rfl, ?_⟩
    refine VCall.i (Encode_any cI kI n w5 hI.nin (by omega) (by omega)) ?_
    rintro e w6 ⟨s1, rfl, h1, e6⟩
    have z6 := e6.size
    refine ⟨s1, (encN n).2, rfl, ?_⟩
    refine VSet.i ?_
    refine ⟨fun W => Bk W n_3 [.bool n.leaf, .slice c.base c.len c.cap, .slice k.base k.len k.cap] 25 ∧ Ext [] w W, ?_, ?_⟩
    · refine VIf.mk (fun hc => ?_) (fun hc => ?_)
      · have h0 : (encN n).2 = 0 := by simpa using hc
        obtain ⟨hok, hb512, hen⟩ := encN_ok h0
        rw [hen] at h1
        have q1 := h1.len
        obtain ⟨q, hq, hq5⟩ := noughts noughts_ s1.len (by omega)
        rw [hq]
        have hd := decN_enc hok (List.replicate q 0) (by simp) (by simp; omega)
        refine VCk.i (nought0 _ (by omega)) ?_
        have e0_2 := e1.then0 e2
        have e0_3 := e0_2.then0 e3
        have e0_5 := e0_3.then0 e5
        have e0_6 := e0_5.then0 e6
        have e3_6 := e5.then0 e6
        have hn_3_6 := hn_3_3.ext e3_6
        have z06 := e0_6.size
        rw [Int.toNat_natCast]
        refine VApp.own (news := List.replicate q 0) (h1.mono (by omega)) e0_6 ⟨by omega, by omega, (made8 q).symm⟩ (by simp) (by omega) fun l43 w7 hS e0_7 e7 => ?_
        have z7 := e7.size
        have z0_7 := e0_7.size
        have hn_3_7 := hn_3_6.ext e7 (Own.notin h1 hn_3_6 (by decide))
        refine VCall.i (Decode_spec l43 (bytesN n ++ List.replicate q 0) w7 hS.in_) ?_
        rintro e w8 ⟨cX, kX, rfl, hX, e8⟩
        have z8 := e8.size
        refine ⟨_, cX, kX, _, rfl, ?_⟩
        rw [hd] at hX ⊢
        refine VNw.i fun x_9 w9 hb9 hk9 e9 => ?_
        have hk9 : Bk w9 x_9 [.bool false, .slice none 0 0, .slice none 0 0] 30 := hk9
        have z9 := e9.size
        have l9 := hk9.lt
        refine VSt.bk hk9 rfl (by simp) fun w10 hk10 e10 => ?_
        have hk10 : Bk w10 x_9 [.bool n.leaf, .slice cX.base cX.len cX.cap, .slice kX.base kX.len kX.cap] 30 := hk10
        have z10 := e10.size
        refine VSet.i ?_
        intro w11 hw11
        have e11 := Ext.drew' hw11
        have z11 := e11.size
        have hx_9_11 := hk10.ext e11
        refine ⟨n.leaf, cX, kX, gd.i (Rd.of_bk hx_9_11 rfl), ?_⟩
        have e7_9 := e8.then0 e9
        have e7_10 := e7_9.then e10 (fun i hi hlt => by simp at hi; omega)
        have e7_11 := e7_10.then0 e11
        have hn_3_11 := hn_3_7.ext e7_11
        refine ⟨n.leaf, c, k, gd.i (Rd.of_bk hn_3_11 rfl), ?_⟩
        have e8_10 := e9.then e10 (fun i hi hlt => by simp at hi; omega)
        have e8_11 := e8_10.then0 e11
        have hX_11 := hX.ext0 e8_11
        refine VCall.on (rfl) ?_
        refine VCall.i (back_spec cX kX n w11 hX_11.nin ⟨by omega, by omega⟩) ?_
        rintro e w12 ⟨cP, kP, rfl, hP, e12⟩
        have z12 := e12.size
        refine ⟨n.leaf, cP, kP, rfl, ?_⟩
        have hn_3_12 := hn_3_11.ext e12
        refine ⟨fun _ => Rd.of_bk hn_3_12 rfl, ?_⟩
        have e3_7 := e3_6.trans e7
        have e3_8 := e3_7.then0 e8
        have e3_9 := e3_8.then0 e9
        have e3_10 := e3_9.trans e10
        have e3_11 := e3_10.then0 e11
        have e3_12 := e3_11.then0 e12
        have e0_8 := e0_7.then0 e8
        have e0_9 := e0_8.then0 e9
        have e0_10 := e0_9.then e10 (fun i hi hlt => by simp at hi; omega)
        have e0_11 := e0_10.then0 e11
        have e0_12 := e0_11.then0 e12
        have hn_12 := hn.ext0 e0_12
        refine VCall.on (rfl) ?_
        refine VCall.i (Same_spec cP kP c k n w12 hP.nin hn_12 ⟨by omega, by omega⟩) ?_
        rintro e w13 ⟨rfl, e13⟩
        have z13 := e13.size
        refine ⟨true, rfl, ?_⟩
        refine VIf.f (by simp) ?_
        have hn_3_13 := hn_3_12.ext e13
        have e0_13 := e0_12.then0 e13
        exact ⟨hn_3_13, e0_13⟩
      · have e3_6 := e5.then0 e6
        have hn_3_6 := hn_3_3.ext e3_6
        have e0_2 := e1.then0 e2
        have e0_3 := e0_2.then0 e3
        have e0_5 := e0_3.then0 e5
        have e0_6 := e0_5.then0 e6
        exact ⟨hn_3_6, e0_6⟩
    rintro w14 ⟨gn_3_14, e0_14⟩
    have z14 := e0_14.size
    have lgn_3_14 := gn_3_14.lt
    have hs_14 := hs.ext0 e0_14
    refine VCall.i (Decode_spec s l w14 hs_14) ?_
    rintro e w15 ⟨cY, kY, rfl, hY, e15⟩
    have z15 := e15.size
    refine ⟨(decN l).1.leaf, cY, kY, (decN l).2, rfl, ?_⟩
    refine VNw.i fun x_11 w16 hb16 hk16 e16 => ?_
    have hk16 : Bk w16 x_11 [.bool false, .slice none 0 0, .slice none 0 0] 30 := hk16
    have z16 := e16.size
    have l16 := hk16.lt
    refine VSt.bk hk16 rfl (by simp) fun w17 hk17 e17 => ?_
    have hk17 : Bk w17 x_11 [.bool (decN l).1.leaf, .slice cY.base cY.len cY.cap, .slice kY.base kY.len kY.cap] 30 := hk17
    have z17 := e17.size
    refine VSet.i ?_
    refine VIf.mk (fun hc => ?_) (fun hc => ?_)
    · have e0_15 := e0_14.then0 e15
      have e0_16 := e0_15.then0 e16
      have e0_17 := e0_16.then e17 (fun i hi hlt => by simp at hi; omega)
      exact ⟨rfl, e0_17⟩
    · have h0 : (decN l).2 = 0 := by simpa using hc
      obtain ⟨hoy, hl5, z, hz, hlz⟩ := decN_only h0
      obtain ⟨d1, d2⟩ := decN_len l
      have hsy := okN_small hoy d1 d2
      have hlen : (bytesN (decN l).1).length + z.length = l.length := by conv => rhs; rw [hlz, List.length_append]
      have henc := encN_of hoy (by omega)
      refine ⟨(decN l).1.leaf, cY, kY, gd.i (Rd.of_bk hk17 rfl), ?_⟩
      have e15_17 := e16.then e17 (fun i hi hlt => by simp at hi; omega)
      have hY_17 := hY.ext0 e15_17
      refine VCall.i (Encode_spec cY kY (decN l).1 w17 hY_17.nin hsy) ?_
      rintro e w18 ⟨s2, rfl, h2, e18⟩
      have z18 := e18.size
      refine ⟨s2, (encN (decN l).1).2, rfl, ?_⟩
      rw [henc] at h2 ⊢
      have q2 := h2.len
      simp only at q2
      refine VSet.i ?_
      intro w19 hw19
      have e19 := Ext.drew' hw19
      have z19 := e19.size
      refine VCk.i (by rw [q2]; omega) ?_
      have e14_16 := e15.then0 e16
      have e14_17 := e14_16.then e17 (fun i hi hlt => by simp at hi; omega)
      have e14_18 := e14_17.then0 e18
      have e14_19 := e14_18.then0 e19
      have hs_19 := hs_14.ext0 e14_19
      have hcut := hs_19.cut 0 (bytesN (decN l).1).length (by omega) (by omega)
      rw [List.drop_zero] at hcut
      rw [take_of _ z hlz] at hcut
      rw [q2]
      refine VStr.i _ hcut.1 fun s84 hs84 => ?_
      have h2_19 := h2.ext0 e19
      have hseg := h2_19.seg
      rw [q2] at hseg
      refine VStr.i _ hseg fun s86 hs86 => ?_
      have hee : (s84.toList == s86.toList) = true := by rw [strEq, hs84, hs86]; simp
      have e17_19 := e18.then0 e19
      have hx_11_19 := hk17.ext e17_19
      refine ⟨(decN l).1.leaf, cY, kY, gd.i (Rd.of_bk hx_11_19 rfl), ?_⟩
      have hY_19 := hY_17.ext0 e17_19
      refine VCall.on (by rw [hee]; simp; omega) ?_
      refine VCall.i (Size_spec cY kY (decN l).1 w19 hY_19.nin hsy) ?_
      rintro e w20 ⟨rfl, e20⟩
      have z20 := e20.size
      refine ⟨((sizeN (decN l).1 : Nat) : Int), rfl, ?_⟩
      have hsz : sizeN (decN l).1 = (bytesN (decN l).1).length := by unfold sizeN; rw [if_pos hoy]
      refine VIf.f (by rw [hee, hsz]; simp; omega) ?_
      refine VSet.eq (m := (((bytesN (decN l).1).length : Nat) : Int)) rfl ?_
      have e0_15 := e0_14.then0 e15
      have e0_16 := e0_15.then0 e16
      have e0_17 := e0_16.then e17 (fun i hi hlt => by simp at hi; omega)
      have e0_18 := e0_17.then0 e18
      have e0_19 := e0_18.then0 e19
      have e0_20 := e0_19.then0 e20
      refine ⟨fun kk i_13' W => ∃ j : Nat, kk = l.length - j ∧ i_13' = (j : Int) ∧ (bytesN (decN l).1).length ≤ j ∧ j ≤ l.length ∧ Ext [] w W, ⟨_, (bytesN (decN l).1).length, rfl, rfl, Nat.le_refl _, by omega, e0_20⟩, ?_⟩
      rintro kk i_13' w21 ⟨j, rfl, rfl, hj0, hj, e0_21⟩
      have z21 := e0_21.size
      refine VIf.mk (fun hc => ?_) (fun hc => ?_)
      · have hj2 : j < l.length := by rw [hsl] at hc; simp at hc; omega
        have hs_21 := hs.ext0 e0_21
        have hz0 : l.getD j 0 = 0 := getD_of _ z hlz hj0 hj2 hz
        refine VByte.n l j hs_21.1 rfl (fun _ => rfl) hj2 ?_
        rw [hz0]
        refine VIf.f (by simp) ?_
        refine VSet.eq (m := (j : Int) + 1) (w64 (by omega)) ?_
        exact ⟨_, (show l.length - (j + 1) < l.length - j by omega), j + 1, rfl, by omega, by omega, by omega, e0_21⟩
      · exact ⟨rfl, e0_21⟩
end Go.Proofs.Ytknohdgcigcmdaa
