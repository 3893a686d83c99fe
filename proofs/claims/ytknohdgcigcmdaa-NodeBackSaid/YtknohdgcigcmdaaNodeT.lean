/-
  Package node: NodeBytes.
-/
import Derived.Test.YtknohdgcigcmdaaNodeS
namespace Go.Proofs.Ytknohdgcigcmdaa
open Go.RowKit
set_option maxRecDepth 100000

theorem decN_len (l : List UInt8) : (decN l).1.cs.length ≤ 1000 ∧ (decN l).1.ks.length ≤ 1000 := by
  have h1 := csR_len l
  have h2 : (ksR l).1.length ≤ 513 := by
    unfold ksR
    split
    · simp
    · have := (rKs_lenO ((csR l).1.length + 1) (csR l).2).1
      omega
  unfold decN
  split
  · exact ⟨by simp [zNd], by simp [zNd]⟩
  · split
    · exact ⟨by show (csR l).1.length ≤ 1000; omega, by show (ksR l).1.length ≤ 1000; omega⟩
    · exact ⟨by simp [zNd], by simp [zNd]⟩
set_option maxHeartbeats 4000000 in
theorem NodeBytes_law (c k s : Sl) (n : Nd) (l : List UInt8) (w : World) (h : NIn w c k n) (hs : In w s l) (hb : Bulk n) : Calls Try.prog 5 #[.agg (nhC n.leaf c k).toArray, .slice s.base s.len s.cap] w fun e w' => e = .returned (.bool true) ∧ Ext [] w w' := by
  refine sh_butterylaw06_NodeBytes_ok _ _ _ _ _ _ ?_
  unfold sh_butterylaw06_NodeBytes
  have hsl := hs.len
  refine VNw.i fun nb w1 hnb hk1 e1 => ?_
  have hk1 : Bk w1 nb (nhC n.leaf c k) 25 := hk1
  refine VLd.nh n.leaf c k (Rd.of_bk hk1 rfl) (VCall.i (large_spec c k n w1 (h.ext0 e1) hb) ?_)
  rintro e w2 ⟨r, rfl, hr, e2⟩
  have e02 := e1.then0 e2
  have hk2 := hk1.ext e2
  refine exW.i1 (t := .bool) r rfl (VIf.mk (fun hc => ?_) (fun hc => ?_))
  · refine VCall.i (awake_spec w2) ?_
    rintro e w3 ⟨rfl, e3⟩
    exact exW.i1 (t := .bool) true rfl ⟨rfl, e02.then0 e3⟩
  have hc : r = false ∧ l.length ≤ 2000 := by
    rw [hsl] at hc
    simp only [Bool.or_eq_false_iff, decide_eq_false_iff_not] at hc
    exact ⟨hc.1, by omega⟩
  obtain ⟨c100, k100, t8⟩ := hr hc.1
  have hsm : Small n := ⟨by omega, by omega, fun x hx => by have := t8 x hx; omega⟩
  have hll := hc.2
  refine VLd.nh n.leaf c k (Rd.of_bk hk2 rfl) (VCall.i (given_spec c k n w2 (h.ext0 e02) ⟨by omega, by omega⟩) ?_)
  rintro e w4 ⟨c1, k1, rfl, G4, e4⟩
  refine exW.i3 (t := .bool) (u := .sl) (v := .sl) n.leaf c1 k1 rfl ?_
  have e04 := e02.then0 e4
  refine VNw.i fun b26 w5 hb26 hk26 e5 => VApp.clone hb26 hk26 e5 (hs.ext0 e04).1 (by omega) fun t w6 ht6 e46 => ?_
  have e06 := e04.then0 e46
  refine VNw.i fun ib w7 hib hk7 e7 => VSt.bk hk7 rfl (by simp) fun w8 hk8 e8 => ?_
  have hi8 : Bk w8 ib (nhC n.leaf c1 k1) 30 := hk8
  have e68 : Ext [] w6 w8 := e7.then e8 (fun i hi hlt => by simp at hi; omega)
  have e08 := e06.then0 e68
  have hn8 := (((hk2.ext e4).ext e46).ext e68)
  have G8 := (G4.ext0 e46).ext0 e68
  have ht8 := ht6.ext0 e68
  refine VLd.nh n.leaf c k (Rd.of_bk hn8 rfl) (VCall.i (xEncode_spec c k n w8 (h.ext0 e08) hsm) ?_)
  rintro e w9 ⟨s9, rfl, h9, e9⟩
  refine exW.i2 (t := .sl) (u := .int .i64) s9 _ rfl (VSet.i ?_)
  refine VLd.nh n.leaf c1 k1 (Rd.of_bk (hi8.ext e9) rfl) (VCall.i (Encode_spec c1 k1 n w9 (G8.ext0 e9).nin hsm) ?_)
  rintro e w10 ⟨s10, rfl, h10, e10⟩
  refine exW.i2 (t := .sl) (u := .int .i64) s10 _ rfl (VSet.i ?_)
  intro w11 hw11
  have ed11 := Ext.drew' hw11
  have e811 := (e9.then0 e10).then0 ed11
  have e011 := e08.then0 e811
  have h10b := h10.ext0 ed11
  have h9b := (h9.ext0 e10).ext0 ed11
  have hi11 := hi8.ext e811
  have hn11 := hn8.ext e811
  have G11 := G8.ext0 e811
  have ht11 := ht8.ext0 e811
  refine VStr.i _ h10b.seg fun y1 hy1 => VStr.i _ h9b.seg fun y2 hy2 => ?_
  have hyy : (y1.toList == y2.toList) = true := by rw [strEq, hy1, hy2]; simp
  have g1 : (!(((encN n).2 != (encN n).2) || (!(y1.toList == y2.toList)))) = true := by rw [hyy]; simp
  refine VLd.nh n.leaf c1 k1 (Rd.of_bk hi11 rfl) (VLd.nh n.leaf c k (Rd.of_bk hn11 rfl) (VCall.on g1 (VCall.i (Check_spec c1 k1 n w11 G11.nin (by omega)) ?_)))
  rintro e w12 ⟨rfl, e12⟩
  have hn12 := hn11.ext e12
  have e012 := e011.then0 e12
  refine exW.i1 (t := .bool) _ rfl ⟨fun _ => Rd.of_bk hn12 rfl, VCall.on g1 (VCall.i (xCheck_spec c k n w12 (h.ext0 e012) (by omega)) ?_)⟩
  rintro e w13 ⟨rfl, e13⟩
  refine exW.i1 (t := .bool) _ rfl ?_
  have e1113 := e12.then0 e13
  have e013 := e012.then0 e13
  have hi13 := hi11.ext e1113
  have hn13 := hn11.ext e1113
  have G13 := G11.ext0 e1113
  have g2 : (!((((encN n).2 != (encN n).2) || (!(y1.toList == y2.toList))) || (!(okN n == okN n)))) = true := by rw [hyy]; simp
  refine VLd.nh n.leaf c1 k1 (Rd.of_bk hi13 rfl) (VLd.nh n.leaf c k (Rd.of_bk hn13 rfl) (VCall.on g2 (VCall.i (Size_spec c1 k1 n w13 G13.nin hsm) ?_)))
  rintro e w14 ⟨rfl, e14⟩
  have hn14 := hn13.ext e14
  have e014 := e013.then0 e14
  refine exW.i1 (t := .int .i64) _ rfl ⟨fun _ => Rd.of_bk hn14 rfl, VCall.on g2 (VCall.i (xSize_spec c k n w14 (h.ext0 e014) hsm) ?_)⟩
  rintro e w15 ⟨rfl, e15⟩
  refine exW.i1 (t := .int .i64) _ rfl (VIf.f (by rw [hyy]; simp) ?_)
  have e1315 := e14.then0 e15
  have e015 := e013.then0 e1315
  have e1115 := e1113.then0 e1315
  have z9 := (e08.then0 e9).size
  have h15 := h10b.ext0 e1115
  refine Own.fill (w0 := w) (v := 85) rfl (h15.mono z9) (fun w16 l' _ _ e1516 e016 => ?_) e015
  -- what the first bytes were written over leaves
  have b10 : ∀ b ∈ rowB s10, w9.heap.size ≤ b := h15.2
  have ty10 : ∀ b ∈ rowB s10, ∃ cs, Bk w15 b cs 5 := fun b hb => h15.1.bk_of hb
  have z69 : w6.heap.size ≤ w9.heap.size := by have := e68.size; have := e9.size; omega
  have hi16 : Bk w16 ib (nhC n.leaf c1 k1) 30 := (hi11.ext e1115).ext e1516 (fun hi => by
    obtain ⟨cs, hz⟩ := ty10 _ hi
    exact hz.neT (hi11.ext e1115) (by decide) rfl)
  have hn16 : Bk w16 nb (nhC n.leaf c k) 25 := (hn11.ext e1115).ext e1516 (fun hi => by
    obtain ⟨cs, hz⟩ := ty10 _ hi
    exact hz.neT (hn11.ext e1115) (by decide) rfl)
  have z46 := e46.size
  have G16 : OwnN 48 w2 w16 c1 k1 n := (G11.ext0 e1115).ext e1516 (fun b hb hm => by
    have := G4.lt b hb
    have := b10 b hm
    omega)
  have ht16 : Own w4 w16 t l := ⟨(ht11.ext0 e1115).1.ext e1516 (fun b hb hm => by
    have := ht6.1.lt b hb
    have := b10 b hm
    omega), ht6.2⟩
  refine VCall.i (xDecode_spec s l w16 (hs.ext0 e016)) ?_
  rintro e w18 ⟨cx, kx, rfl, X18, e18⟩
  refine exW.i4 (t := .bool) (u := .sl) (v := .sl) (q := .int .i64) _ cx kx _ rfl ?_
  refine VNw.i fun xb w19 hxb hk19 e19 => VSt.bk hk19 rfl (by simp) fun w20 hk20 e20 => VSet.i ?_
  have hx20 : Bk w20 xb (nhC (decN l).1.leaf cx kx) 25 := hk20
  have e1820 : Ext [] w18 w20 := e19.then e20 (fun i hi hlt => by simp at hi; omega)
  have e1620 := e18.then0 e1820
  have e020 := e016.then0 e1620
  refine decGo (s := t) (ht16.ext0 e1620).in_ fun cy ky w21 Y21 e21 => ?_
  refine VNw.i fun yb w22 hyb hk22 e22 => VSt.bk hk22 rfl (by simp) fun w23 hk23 e23 => VSet.i ?_
  have hy23 : Bk w23 yb (nhC (decN l).1.leaf cy ky) 30 := hk23
  have e2123 : Ext [] w21 w23 := e22.then e23 (fun i hi hlt => by simp at hi; omega)
  have e2023 := e21.then0 e2123
  have e1623 := e1620.then0 e2023
  refine decGo (s := t) (ht16.ext0 e1623).in_ fun cz kz w24 Z24 e24 => ?_
  refine VNw.i fun zb w25 hzb hk25 e25 => VSt.bk hk25 rfl (by simp) fun w26 hk26 e26 => VSet.i ?_
  have hz26 : Bk w26 zb (nhC (decN l).1.leaf cz kz) 30 := hk26
  have e2426 : Ext [] w24 w26 := e25.then e26 (fun i hi hlt => by simp at hi; omega)
  intro w27 hw27
  have ed27 := Ext.drew' hw27
  have e2327 := (e24.then0 e2426).then0 ed27
  have e2027 := e2023.then0 e2327
  have e1627 := e1620.then0 e2027
  have e027 := e016.then0 e1627
  have hx27 := hx20.ext e2027
  have hy27 := hy23.ext e2327
  have hz27 := hz26.ext ed27
  have X27 := (X18.ext0 e1820).ext0 e2027
  have Y27 := (Y21.ext0 e2123).ext0 e2327
  have Z27 := (Z24.ext0 e2426).ext0 ed27
  obtain ⟨d1, d2⟩ := decN_len l
  have g3 : (!((decN l).2 != (decN l).2)) = true := by simp
  refine VLd.nh _ cy ky (Rd.of_bk hy27 rfl) (VLd.nh _ cx kx (Rd.of_bk hx27 rfl) (VCall.on g3 (VCall.i (back_spec cy ky (decN l).1 w27 Y27.nin ⟨d1, d2⟩) ?_)))
  rintro e w28 ⟨cp, kp, rfl, P28, e28⟩
  have hx28 := hx27.ext e28
  refine exW.i3 (t := .bool) (u := .sl) (v := .sl) _ cp kp rfl ⟨fun _ => Rd.of_bk hx28 rfl, VCall.on g3 (VCall.i (Same_spec cp kp cx kx (decN l).1 w28 P28.nin (X27.ext0 e28).nin ⟨by omega, by omega⟩) ?_)⟩
  rintro e w29 ⟨rfl, e29⟩
  refine exW.i1 (t := .bool) true rfl ?_
  have e2729 := e28.then0 e29
  have e029 := e027.then0 e2729
  have z20 := e020.size
  have Y29 := Y27.ext0 e2729
  have g4 : (!(((decN l).2 != (decN l).2) || (!true))) = true := by simp
  refine VLd.nh _ cy ky (Rd.of_bk (hy27.ext e2729) rfl) (VCall.on g4 (VCall.i (spoil_spec cy ky (decN l).1 w20 w29 Y29 (e2027.then0 e2729) ⟨d1, d2⟩) ?_))
  rintro e w30 ⟨v, v0, v1, rfl, e30⟩
  refine exW.i1 (t := .int .i64) v rfl (VIf.f (by simp; omega) ?_)
  have yg := Y29.ge
  have yl : ∀ b ∈ nodeB cy ky, b < w21.heap.size := Y21.lt
  intro w31 hw31
  have ed31 := Ext.drew' hw31
  have e2931 : Ext (nodeB cy ky) w29 w31 := e30.then0 ed31
  have e031 : Ext [] w w31 := e029.then e2931 (fun i hi hlt => by have := yg i hi; omega)
  have tyY : ∀ b ∈ nodeB cy ky, ∃ cs t, Bk w29 b cs t ∧ (t = 48 ∨ t = 3) := fun b hb => by
    rcases List.mem_append.1 hb with hb | hb
    · obtain ⟨cs, hz⟩ := Y29.co.1.bk_of hb
      exact ⟨cs, _, hz, .inl rfl⟩
    · obtain ⟨cs, hz⟩ := Y29.ko.1.bk_of hb
      exact ⟨cs, _, hz, .inr rfl⟩
  have keepB : ∀ {b : Nat} {cs : List Value} {t : TypeId}, Bk w29 b cs t → t ≠ 48 → t ≠ 3 → Bk w31 b cs t := fun hb h1 h2 => hb.ext e2931 (fun hi => by
    obtain ⟨cs2, t2, hz, ht⟩ := tyY _ hi
    rcases ht with rfl | rfl
    · exact hz.neT hb (fun e => h1 e.symm) rfl
    · exact hz.neT hb (fun e => h2 e.symm) rfl)
  have hx31 := keepB (hx27.ext e2729) (by decide) (by decide)
  have hz31 := keepB (hz27.ext e2729) (by decide) (by decide)
  have z2123 := e2123.size
  have z1820 := e1820.size
  have z1620 := e1620.size
  have Z31 : OwnN 48 w23 w31 cz kz (decN l).1 := (Z27.ext0 e2729).ext e2931 (fun b hb hm => by
    have := Z27.ge b hb
    have := yl b hm
    omega)
  have X31 : OwnN 47 w16 w31 cx kx (decN l).1 := (X27.ext0 e2729).ext e2931 (fun b hb hm => by
    have := X18.lt b hb
    have := yg b hm
    omega)
  refine VLd.nh _ cz kz (Rd.of_bk hz31 rfl) (VLd.nh _ cx kx (Rd.of_bk hx31 rfl) (VCall.i (back_spec cz kz (decN l).1 w31 Z31.nin ⟨d1, d2⟩) ?_))
  rintro e w32 ⟨cq, kq, rfl, Q32, e32⟩
  refine exW.i3 (t := .bool) (u := .sl) (v := .sl) _ cq kq rfl ⟨Rd.of_bk (hx31.ext e32) rfl, VCall.i (Same_spec cq kq cx kx (decN l).1 w32 Q32.nin (X31.ext0 e32).nin ⟨by omega, by omega⟩) ?_⟩
  rintro e w33 ⟨rfl, e33⟩
  refine exW.i1 (t := .bool) true rfl ?_
  have e3133 := e32.then0 e33
  have e033 := e031.then0 e3133
  have z16 : w16.heap.size ≤ w20.heap.size := z1620
  have t33 : Own w4 w33 t l := Own.ext0 ⟨((ht16.ext0 e1627).ext0 e2729).1.ext e2931 (fun b hb hm => by
    have := ht16.1.lt b hb
    have := yg b hm
    omega), ht6.2⟩ e3133
  have hi33 := (keepB ((hi16.ext e1627).ext e2729) (by decide) (by decide)).ext e3133
  have hn33 := (keepB ((hn16.ext e1627).ext e2729) (by decide) (by decide)).ext e3133
  have G33 : OwnN 48 w2 w33 c1 k1 n := (((G16.ext0 e1627).ext0 e2729).ext e2931 (fun b hb hm => by
    have := G16.lt b hb
    have := yg b hm
    omega)).ext0 e3133
  refine VStr.i _ t33.seg fun y3 hy3 => VStr.i _ (hs.ext0 e033).1 fun y4 hy4 => ?_
  have h34 : (y3.toList == y4.toList) = true := by rw [strEq, hy3, hy4]; simp
  rw [h34]
  refine VLd.nh n.leaf c1 k1 (Rd.of_bk hi33 rfl) (VLd.nh n.leaf c k (Rd.of_bk hn33 rfl) (VCall.on rfl (VCall.i (back_spec c1 k1 n w33 G33.nin ⟨by omega, by omega⟩) ?_)))
  rintro e w34 ⟨cr, kr, rfl, R34, e34⟩
  have e034 := e033.then0 e34
  refine exW.i3 (t := .bool) (u := .sl) (v := .sl) _ cr kr rfl ⟨fun _ => Rd.of_bk (hn33.ext e34) rfl, VCall.on rfl (VCall.i (Same_spec cr kr c k n w34 R34.nin (h.ext0 e034) ⟨by omega, by omega⟩) ?_)⟩
  rintro e w35 ⟨rfl, e35⟩
  refine exW.i1 (t := .bool) true rfl (VCall.on rfl (VCall.i (awake_spec w35) ?_))
  rintro e w36 ⟨rfl, e36⟩
  exact exW.i1 (t := .bool) true rfl ⟨rfl, (e034.then0 e35).then0 e36⟩
end Go.Proofs.Ytknohdgcigcmdaa
