/-
  Package msg, outright: MsgNames.
-/
import Derived.Test.YtodcdfelbphajaaMsgV
namespace Go.Proofs.Ytodcdfelbphajaa
open Go.RowKit
set_option maxRecDepth 100000

def scn (k sh : Int) (st : ByteArray) : SC := { sc0 with f0 := k, f1 := sh, f24 := st }
def pn (k sh : Int) (st : ByteArray) : MP := ⟨scn k sh st, [], [], [], []⟩
def vn (k sh : Int) (st : ByteArray) : MV := ⟨scn k sh st, ⟨none, 0, 0⟩, ⟨none, 0, 0⟩, ⟨none, 0, 0⟩, ⟨none, 0, 0⟩⟩
theorem vn_in (k sh : Int) (st : ByteArray) (w : World) : MIn w (vn k sh st) (pn k sh st) [] := ⟨rfl, ⟨InR.nil _, by simp⟩, rfl, InR.nil _, InR.nil _, InR.nil _⟩
theorem EO_pn {k sh : Int} (st : ByteArray) (hk : u8ok k) (hs : i64ok sh) : EO (pn k sh st) := by
  have z8 : u8ok 0 := by unfold u8ok; omega
  have z : i64ok 0 := by unfold i64ok; omega
  refine ⟨hk, z8, z8, z8, ?_, z, ?_, z, ?_, ?_, ?_, ?_⟩
  · intro n hn
    simp only [pn, scn, sc0, List.mem_cons, List.not_mem_nil, or_false] at hn
    rcases hn with rfl | rfl | rfl | rfl | rfl | rfl <;> assumption
  · intro n hn
    simp only [pn, scn, sc0, List.mem_cons, List.not_mem_nil, or_false] at hn
    rcases hn with rfl | rfl | rfl | rfl | rfl <;> assumption
  · intro n hn
    simp only [pn, scn, sc0, List.mem_cons, List.not_mem_nil, or_false] at hn
    rcases hn with rfl | rfl | rfl <;> assumption
  · intro n hn; simp [pn] at hn
  · intro n hn; simp [pn] at hn
  · intro n hn; simp [pn] at hn
theorem pn_len (k sh : Int) (st : ByteArray) : (encM (pn k sh st)).length = (encC k).length + (cNum sh).length + (encT st).length + 30 := by
  unfold encM pn scn sc0 cRes cInts
  simp only [List.flatMap_cons, List.flatMap_nil, List.length_nil, cNum_0, cFlag_f, encT_e, List.append_nil, List.nil_append]
  rw [show ((0 : Nat) : Int) = 0 from rfl, encC_0]
  simp only [List.length_append, List.length_cons, List.length_nil]
  omega
theorem encT_mid {st : ByteArray} {n : Nat} (h : st.size = n) (h1 : 128 ≤ n) (h2 : n < 16384) : (encT st).length = n + 2 := by
  have hl : st.data.toList.length = st.size := Array.length_toList
  rw [encT_eq (by omega)]
  unfold encS
  rw [if_pos (by omega), List.length_append, h, enc_big (by omega), enc_small (by omega)]
  simp only [List.length_cons, List.length_nil]
  omega
def bn : List UInt8 := [8, 4, 0, 0, 0, 0, 0, 0, 0, 0, 0, 0, 0, 0, 0, 0, 0, 0, 0, 0, 0, 0, 0, 0, 0, 0, 0, 0, 0, 0, 0, 0, 0]
theorem encM_pn : encM (pn 8 2 ByteArray.empty) = bn := by
  unfold encM pn scn sc0 cRes cInts
  simp only [List.flatMap_cons, List.flatMap_nil, List.length_nil, encC_8, cNum_0, cNum_2, cFlag_f, encT_e, List.append_nil, List.nil_append, List.cons_append]
  rw [show ((0 : Nat) : Int) = 0 from rfl, encC_0]
  rfl
theorem bn_ok : (decM bn).2 = 0 := by
  have h : EO (pn 8 2 ByteArray.empty) := EO_pn _ (by unfold u8ok; omega) (by unfold i64ok; omega)
  have hl : (encM (pn 8 2 ByteArray.empty)).length ≤ 8192 := by rw [encM_pn]; decide
  have := dec_enc (okM.of h hl) (by constructor <;> decide) hl
  rw [encM_pn] at this
  rw [this]
theorem dec_head {x : UInt8} {l : List UInt8} (hx : x = 0 ∨ 20 ≤ x.toNat ∧ x.toNat < 128) : (decM (x :: l)).2 ≠ 0 := by
  intro h
  obtain ⟨ho, hk, he, _⟩ := enc_dec h
  have hc : encC (decM (x :: l)).1.c.f0 = [UInt8.ofNat (decM (x :: l)).1.c.f0.toNat] := by
    have := encC_s (decM (x :: l)).1.c.f0.toNat (by omega)
    rw [Int.toNat_of_nonneg (by omega)] at this
    exact this
  rw [← cMT_enc] at he
  unfold cMP at he
  rw [hc] at he
  have h0 : UInt8.ofNat (decM (x :: l)).1.c.f0.toNat = x := by
    have := congrArg List.head? he
    simpa using this
  have h1 := congrArg UInt8.toNat h0
  rw [ofNat8 (by omega)] at h1
  rcases hx with rfl | hx
  · have : (0 : UInt8).toNat = 0 := rfl
    omega
  · omega
theorem dec_nil : (decM []).2 ≠ 0 := by
  intro h
  obtain ⟨ho, hk, he, _⟩ := enc_dec h
  have := encM_pos _ hk
  rw [he] at this
  simp at this
theorem dec_more : (decM (bn ++ [0])).2 ≠ 0 := by
  intro h
  have := dec_cut h (n := 33) (by decide)
  exact this bn_ok
/-- the byte at the beginning of an own row is written over -/
theorem Own.put0 {w0 w : World} {s : Sl} {x : UInt8} {l : List UInt8} (h : Own w0 w s (x :: l)) (y : UInt8) {v : Int} (hv : v = ((y.toNat : Nat) : Int)) {K : World → Prop} (k : ∀ w', Own w0 w' s (y :: l) → Ext (rowB s) w w' → K w') :
    VIx none s.base s.len 0 fun a => VSt none w a [.int .u8 v] K := by
  subst hv
  have hl := h.len
  have hp := Row.put (q := 0) (v := y) (g := none) (K := K) h.1 (by rw [hl]; simp) fun w' h1 e1 => k w' ⟨h1, h.2⟩ e1
  simpa [add_zero] using hp
theorem rep_seg {w : World} {b : Nat} {c : Int} (n : Nat) (hc : c.toNat = n) (h : Bk w b (madeCells #[.int .u8 0] (c.toNat * 1)).toList 5) : Seg w (some ⟨b, 0, none⟩) n 1 (bc (List.replicate n 0)) := by
  rw [hc, made8] at h
  exact Seg.of_bk h (by rw [List.drop_zero, List.take_of_length_le (Nat.le_refl _)]) (by rw [bc_len, List.length_replicate]; omega)
theorem rep_size {n : Nat} {s : ByteArray} (h : s.data.toList = List.replicate n 0) : s.size = n := by
  have h1 : s.data.toList.length = s.size := Array.length_toList
  rw [h, List.length_replicate] at h1
  exact h1.symm
def slR : Rec Sl := ⟨fun s => [.slice s.base s.len s.cap], 1, fun _ => rfl, fun _ => rfl, by omega⟩
set_option maxHeartbeats 1000000 in
theorem MsgNames_law (w : World) : Calls Try.prog 6 #[] w fun e w' => e = .returned (.bool true) ∧ Ext [] w w' := by
  refine sh_butterylaw13_MsgNames_ok _ _ ?_
  unfold sh_butterylaw13_MsgNames
  have z : i64ok 0 := by unfold i64ok; omega
  have z2 : i64ok 2 := by unfold i64ok; omega
  have k8 : u8ok 8 := by unfold u8ok; omega
  refine VCall.i (works_spec w) ?_
  rintro e w1 ⟨rfl, e1⟩
  refine exW.i1 (t := .bool) true rfl (VIf.f rfl ?_)
  refine VCall.i (Encode_spec (vn 8 2 ByteArray.empty) _ [] w1 (vn_in 8 2 _ _) (EO_pn _ k8 z2)) ?_
  rintro e w2 ⟨s, rfl, hs, e2⟩
  rw [encP_of (p := pn 8 2 ByteArray.empty) (by constructor <;> decide) (by rw [encM_pn]; decide), encM_pn] at hs ⊢
  have hs : Own w1 w2 s bn := hs
  refine exW.i2 (t := .sl) (u := .int .i64) s 0 rfl (VSet.i ?_)
  refine VCall.i (Encode_spec (vn 0 0 ByteArray.empty) _ [] w2 (vn_in 0 0 _ _) (EO_pn _ (by unfold u8ok; omega) z)) ?_
  rintro e w3 ⟨sf, rfl, _, e3⟩
  rw [show encP (pn 0 0 ByteArray.empty) = (1, []) from if_pos (.inl (by decide))]
  refine exW.i2 (t := .sl) (u := .int .i64) sf 1 rfl (VSet.i ?_)
  refine VCall.i (Encode_spec (vn 20 0 ByteArray.empty) _ [] w3 (vn_in 20 0 _ _) (EO_pn _ (by unfold u8ok; omega) z)) ?_
  rintro e w4 ⟨sg, rfl, _, e4⟩
  rw [show encP (pn 20 0 ByteArray.empty) = (1, []) from if_pos (.inr (by decide))]
  refine exW.i2 (t := .sl) (u := .int .i64) sg 1 rfl (VSet.i ?_)
  refine VMk.i (by omega) (by omega) (by omega) (by omega) fun b5 w5 hb5 hk5 e5 => ?_
  refine VStr.i (List.replicate 8192 0) (rep_seg 8192 rfl hk5) fun st hst => ?_
  have hz : st.size = 8192 := rep_size hst
  refine VCall.i (Encode_spec (vn 1 0 st) _ [] w5 (vn_in 1 0 _ _) (EO_pn _ (by unfold u8ok; omega) z)) ?_
  rintro e w6 ⟨sh, rfl, _, e6⟩
  have hbig : encP (pn 1 0 st) = (40, []) := by
    unfold encP
    rw [if_neg (by show ¬ ((1 : Int) < 1 ∨ (19 : Int) < 1); omega), if_pos]
    rw [pn_len]
    have := encT_len st
    omega
  rw [hbig]
  refine exW.i2 (t := .sl) (u := .int .i64) sh 40 rfl (VSet.i (VIf.f rfl ?_))
  have hl : s.len = 33 := hs.len
  rw [hl, show IntKind.wrap .i64 (IntKind.wrap .i64 (8192 - ((33 : Nat) : Int)) - 1) = 8158 from by rw [w64 (n := 8192 - ((33 : Nat) : Int)) (by omega), w64 (by omega)]; omega]
  refine VSet.i ?_
  refine VMk.i (by omega) (by omega) (by omega) (by omega) fun b7 w7 hb7 hk7 e7 => ?_
  refine VStr.i (List.replicate 8158 0) (rep_seg 8158 rfl hk7) fun su hsu => ?_
  have hzu : su.size = 8158 := rep_size hsu
  have c8 : (encC 8).length = 1 := by rw [encC_8]; rfl
  have n2 : (cNum 2).length = 1 := by rw [cNum_2]; rfl
  refine VCall.i (Encode_spec (vn 8 2 su) _ [] w7 (vn_in 8 2 _ _) (EO_pn _ k8 z2)) ?_
  rintro e w8 ⟨si, rfl, _, e8⟩
  rw [encP_of (p := pn 8 2 su) (show (1 : Int) ≤ 8 ∧ (8 : Int) ≤ 19 by omega) (by rw [pn_len, c8, n2, encT_mid hzu (by omega) (by omega)]; omega)]
  refine exW.i2 (t := .sl) (u := .int .i64) si 0 rfl (VSet.i ?_)
  rw [show IntKind.wrap .i64 (8158 + 1) = 8159 from w64 (by omega)]
  refine VMk.i (by omega) (by omega) (by omega) (by omega) fun b9 w9 hb9 hk9 e9 => ?_
  refine VStr.i (List.replicate 8159 0) (rep_seg 8159 rfl hk9) fun sv hsv => ?_
  have hzv : sv.size = 8159 := rep_size hsv
  refine VCall.i (Encode_spec (vn 8 2 sv) _ [] w9 (vn_in 8 2 _ _) (EO_pn _ k8 z2)) ?_
  rintro e w10 ⟨sj, rfl, _, e10⟩
  have hbig2 : encP (pn 8 2 sv) = (40, []) := by
    unfold encP
    rw [if_neg (by show ¬ ((8 : Int) < 1 ∨ (19 : Int) < 8); omega), if_pos]
    rw [pn_len, c8, n2, encT_mid hzv (by omega) (by omega)]
    omega
  rw [hbig2]
  refine exW.i2 (t := .sl) (u := .int .i64) sj 40 rfl (VSet.i (VIf.f rfl ?_))
  have e210 : Ext [] w2 w10 := (((((((e3.then0 e4).then0 e5).then0 e6).then0 e7).then0 e8).then0 e9).then0 e10)
  have e010 := (e1.then0 e2).then0 e210
  have hs10 := hs.ext0 e210
  rw [← hl]
  refine VNw.i fun b11 w11 hb11 hk11 e11 => ?_
  refine VApp.clone hb11 hk11 e11 hs10.seg (by decide) fun l1 w12 h12 e12 => ?_
  refine Own.put0 h12 0 rfl fun w13 h13 e13 => ?_
  have e1013 : Ext [] w10 w13 := e12.then e13 (fun i hi hlt => by have := h12.2 i hi; omega)
  have hs13 := hs10.ext0 e1013
  refine VNw.i fun b14 w14 hb14 hk14 e14 => ?_
  refine VApp.clone hb14 hk14 e14 hs13.seg (by decide) fun l2 w15 h15 e15 => ?_
  refine Own.put0 h15 20 rfl fun w16 h16 e16 => ?_
  have e1316 : Ext [] w13 w16 := e15.then e16 (fun i hi hlt => by have := h15.2 i hi; omega)
  have hs16 := hs13.ext0 e1316
  have h13' := h13.ext0 e1316
  have e016 := (e010.then0 e1013).then0 e1316
  have hcp := hs16.cap
  refine ⟨fun x n i W => ∃ (bb : Nat) (l5 : Sl), x = ⟨some ⟨bb, 0, none⟩, 5, 5⟩ ∧ n = 5 ∧ i = 0 ∧ Bk W bb (slR.cells [⟨none, 0, 0⟩, l1, l2, ⟨cutB s.base s.cap 1 0, 32 - 0, s.cap - 0⟩, l5]) 38 ∧ Seg W l5.base l5.len 1 (bc (bn ++ [0])) ∧ Ext [] w16 W, ?_, ?_⟩
  · intro w17 hw17
    have ed := Ext.drew' hw17
    have hs17 := (hs16.ext0 ed).seg
    rw [hl] at hcp ⊢
    rw [hl] at hs17
    rw [show IntKind.wrap .i64 (((33 : Nat) : Int) - 1) = 32 from by rw [w64 (by omega)]; omega]
    refine VCk.i (by omega) ⟨?_, ?_⟩
    · refine VNw.i fun b18 w18 hb18 hk18 e18 => ⟨?_, ?_⟩
      · refine VApp.clone hb18 hk18 e18 hs17 (by decide) fun l4 w19 h19 e19 => ?_
        refine VNw.i fun b20 w20 hb20 hk20 e20 => ?_
        refine VApp.own (h19.ext0 e20) (e19.then0 e20) (news := [0]) (Seg.of_bk hk20 rfl rfl) rfl (by decide) fun l5 w21 h21 e21 _ => ?_
        refine VNw.i fun b22 w22 hb22 hk22 e22 => ?_
        exact ⟨b22, l5, rfl, rfl, rfl, hk22, (h21.ext0 e22).seg, (ed.then0 e21).then0 e22⟩
      · refine VNw.i fun b20 w23 hb20 hk20 e23 => ?_
        have lb := hk18.lt
        have ho : Own w17 w23 ⟨some ⟨b18, 0, none⟩, 0, 0⟩ [] := ⟨Row.of_bk (size := 1) (hk18.ext e23) rfl (by omega), by simp [rowB]; omega⟩
        refine VApp.own (s := ⟨some ⟨b18, 0, none⟩, 0, 0⟩) ho (e18.then0 e23) (news := bn) (hs17.ext0 (e18.then0 e23)) rfl (by decide) fun l4 w24 h24 e24 e2324 => ?_
        have hne : b20 ∉ rowB ⟨some ⟨b18, 0, none⟩, 0, 0⟩ := by simp [rowB]; omega
        refine VApp.own h24 e24 (news := [0]) (Seg.of_bk (hk20.ext e2324 hne) rfl rfl) rfl (by decide) fun l5 w25 h25 e25 _ => ?_
        refine VNw.i fun b26 w26 hb26 hk26 e26 => ?_
        exact ⟨b26, l5, rfl, rfl, rfl, hk26, (h25.ext0 e26).seg, (ed.then0 e25).then0 e26⟩
    · refine VNw.i fun b20 w27 hb20 hk20 e27 => VNw.i fun b18 w28 hb18 hk18 e28 => ?_
      refine VApp.clone hb18 hk18 e28 (hs17.ext0 e27) (by decide) fun l4 w29 h29 e29 => ?_
      refine VApp.own h29 e29 (news := [0]) (Seg.of_bk (hk20.ext e29) rfl rfl) rfl (by decide) fun l5 w30 h30 e30 _ => ?_
      refine VNw.i fun b31 w31 hb31 hk31 e31 => ?_
      exact ⟨b31, l5, rfl, rfl, rfl, hk31, (h30.ext0 e31).seg, ((ed.then0 e27).then0 e30).then0 e31⟩
  · rintro x n i w32 ⟨bb, l5, rfl, rfl, rfl, hkb, h5, e32⟩
    have hcut := ((hs16.in_).ext0 e32).cut 0 32 (by omega) (by decide)
    refine ⟨fun k i W => ∃ m : Nat, i = (m : Int) ∧ m ≤ 5 ∧ k = 5 - m ∧ Ext [] w32 W, ⟨_, 0, rfl, by omega, rfl, Ext.refl _ _⟩, ?_⟩
    rintro k2 i w33 ⟨m, rfl, hm, rfl, e33⟩
    refine VIf.mk (fun hd => ?_) (fun hd => ⟨rfl, (e016.then0 e32).then0 e33⟩)
    have hm' : m < 5 := by simp at hd; omega
    have hkb3 := hkb.ext e33
    have hseg : Seg w33 (some ⟨bb, 0, none⟩) 5 slR.k (slR.cells [⟨none, 0, 0⟩, l1, l2, ⟨cutB s.base s.cap 1 0, 32 - 0, s.cap - 0⟩, l5]) := Seg.of_bk hkb3 rfl rfl
    refine VIx.rec (r := slR) hseg (show m < _ from hm') rfl fun a1 hr1 => ?_
    have hgo : ∃ (t : Sl) (l : List UInt8), [⟨none, 0, 0⟩, l1, l2, ⟨cutB s.base s.cap 1 0, 32 - 0, s.cap - 0⟩, l5][m]'hm' = t ∧ Seg w33 t.base t.len 1 (bc l) ∧ l.length ≤ 100 ∧ (decM l).2 ≠ 0 := by
      match m, hm' with
      | 0, _ => exact ⟨_, [], rfl, Seg.nil _ _ _, by decide, dec_nil⟩
      | 1, _ => exact ⟨_, _, rfl, ((h13'.ext0 e32).ext0 e33).seg, by decide, dec_head (.inl rfl)⟩
      | 2, _ => exact ⟨_, _, rfl, ((h16.ext0 e32).ext0 e33).seg, by decide, dec_head (.inr (by decide))⟩
      | 3, _ => exact ⟨_, _, rfl, (hcut.ext0 e33).1, by decide, dec_cut bn_ok (n := 32) (by decide)⟩
      | 4, _ => exact ⟨_, _, rfl, h5.ext0 e33, by decide, dec_more⟩
    obtain ⟨t, l, ht, hsg, hll, hbad⟩ := hgo
    rw [ht] at hr1
    refine VLd.s t hr1 ?_
    refine VCall.i (Decode_spec t l w33 hsg (by omega)) ?_
    rintro e w34 ⟨y, V, rfl, hy, e34⟩
    rw [dec_bad hbad]
    refine exW.mvc y 4 rfl ?_
    refine VNw.i fun yb w35 hyb hk35 e35 => VSt.bk hk35 rfl (by simp) fun w36 hk36 e36 => VSet.i (VIf.f rfl ?_)
    have e3436 : Ext [] w34 w36 := e35.then e36 (fun i hi hlt => by simp at hi; omega)
    rw [w64 (n := (m : Int) + 1) (by omega)]
    exact ⟨_, (show 5 - (m + 1) < 5 - m by omega), m + 1, rfl, by omega, rfl, (e33.then0 e34).then0 e3436⟩
end Go.Proofs.Ytodcdfelbphajaa
