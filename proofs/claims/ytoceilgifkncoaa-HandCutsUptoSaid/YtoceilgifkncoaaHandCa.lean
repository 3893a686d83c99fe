/-
  Package hand: the law of the cuts.
-/
import Derived.Test.YtoceilgifkncoaaHandZ
namespace Go.Proofs.Ytoceilgifkncoaa
open Go.RowKit
set_option maxRecDepth 100000

theorem HandCuts_law (a b : Sl) (P : List Pr) (Q : List Ls) (w : World) (hP : InR prR w a P) (hQ : InR lsR w b Q) (hPl : P.length ≤ 1048576) (hQl : Q.length ≤ 1048576) :
    Calls Try.prog 3 #[.slice a.base a.len a.cap, .slice b.base b.len b.cap] w (good w) := by
  refine sh_butterylaw23_HandCuts_ok _ _ _ _ ?_
  unfold sh_butterylaw23_HandCuts
  refine VCall.i (long_spec a b P Q w hP hQ hPl hQl) ?_
  rintro e w1 ⟨lg, rfl, hlg, e1⟩
  refine exW.i1 (t := .bool) lg rfl (VIf.mk (fun hc => ⟨rfl, e1⟩) (fun hc => ?_))
  have hl : P.length + Q.length ≤ 300 := hlg hc
  have hnl := hP.len
  have hml := hQ.len
  refine VNw.i fun b18 w2 hb18 hk2 e2 => ?_
  refine VApp.rclone (r := prR) (L := P) hb18 hk2 e2 (hP.ext0 e1).1 rfl (by omega) (by omega) fun lp w3 hlp e3 => ?_
  refine VNw.i fun b21 w4 hb21 hk4 e4 => ?_
  refine VApp.rclone (r := lsR) (L := Q) hb21 hk4 e4 ((hQ.ext0 e1).ext0 e3).1 rfl (by omega) (by omega) fun lq w5 hlq e5 => ?_
  have e05 := (e1.then0 e3).then0 e5
  refine VCall.i (refCut_spec a b P Q w5 (hP.ext0 e05) (hQ.ext0 e05) hl) ?_
  rintro e w6 ⟨sr, XR, rfl, hro, hra, hpR, e6'⟩
  have e06 := e05.then0 e6'
  have hp6 : InR prR w6 lp P := (hlp.in_.ext0 e5).ext0 e6'
  have hq6 : InR lsR w6 lq Q := hlq.in_.ext0 e6'
  have hR6 : PtsIn w6 sr XR := ⟨hro.in_, fun x hx => (hra x hx).in_⟩
  have hall := cutI_all P Q
  refine exW.i1 (t := .sl) sr rfl ?_
  refine ⟨fun k i W => ∃ m : Nat, i = (m : Int) ∧ m ≤ 2 ∧ k = 2 - m ∧ Ext [] w6 W, ⟨_, 0, rfl, by omega, rfl, Ext.refl _ _⟩, ?_⟩
  rintro k i w7 ⟨rd, rfl, hrd2, rfl, e7⟩
  have hp7 := hp6.ext0 e7
  have hq7 := hq6.ext0 e7
  refine VIf.mk (fun hc1 => ?_) (fun hc1 => ?_)
  · have hrd : rd < 2 := by simp at hc1; omega
    refine VCall.i (Cut_spec lp lq P Q w7 hp7 hq7 (by omega)) ?_
    rintro e w8 ⟨s, X, rfl, hX, hpX, hok, e8⟩
    refine exW.i1 (t := .sl) s rfl ?_
    have hsm := cutI_small hok (by omega)
    have hXl : X.length = (cutI P Q).length := by rw [← hpX]; simp [pts]
    have hXRl : XR.length = (cutI P Q).length := by rw [← hpR]; simp [pts]
    have hLe := hok.len
    have hLl := cutI_len P Q
    have hsl := hX.len
    have hsrl := hR6.len
    have heq : ∀ i (h1 : i < X.length) (h2 : i < XR.length), (X[i]).2 = (XR[i]).2 := by
      intro i h1 h2
      have z1 : (X[i]).2 = (pts X)[i]'(by simpa [pts] using h1) := by simp [pts]
      have z2 : (XR[i]).2 = (pts XR)[i]'(by simpa [pts] using h2) := by simp [pts]
      rw [z1, z2]
      simp only [hpX, hpR]
    refine VIf.f (by simp; omega) ?_
    refine ⟨fun k i W => ∃ m : Nat, i = (m : Int) ∧ m ≤ X.length ∧ k = X.length - m ∧ Ext [] w8 W, ⟨_, 0, rfl, by omega, rfl, Ext.refl _ _⟩, ?_⟩
    rintro k i w9 ⟨m, rfl, hm, rfl, e9⟩
    have hX9 := hX.ext0 e9
    have hR9 := ((hR6.ext0 e7).ext0 e8).ext0 e9
    refine VIf.mk (fun hc2 => ?_) (fun hc2 => ?_)
    · have hm' : m < X.length := by simp at hc2; omega
      have hmR : m < XR.length := by omega
      intro w10 hw10
      have ed := Ext.drew' hw10
      have hX10 := hX9.ext0 ed
      have hR10 := hR9.ext0 ed
      refine VIx.pt hX10.in_ hm' rfl fun a1 hr1 => ⟨((X[m]).1.1 : Sl), ((X[m]).1.2.1 : Sl), ((X[m]).1.2.2 : Bool), gd.i hr1, ?_⟩
      refine VIx.pt hR10 hmR rfl fun a2 hr2 => ⟨((XR[m]).1.1 : Sl), ((XR[m]).1.2.1 : Sl), ((XR[m]).1.2.2 : Bool), gd.i hr2, ?_⟩
      refine VCall.i (of_spec (X[m]).1 w10) ?_
      rintro e w11 ⟨rfl, e11⟩
      refine ⟨((X[m]).1.1 : Sl), ((X[m]).1.2.1 : Sl), ((X[m]).1.2.2 : Bool), rfl, hr2.ext e11 (by simp), ?_⟩
      refine VCall.i (Same_spec (X[m]).1 (XR[m]).1 (X[m]).2 (XR[m]).2 w11 ((hX10.in_.all _ (List.getElem_mem hm')).ext0 e11) ((hR10.all _ (List.getElem_mem hmR)).ext0 e11)) ?_
      rintro e w12 ⟨rfl, e12⟩
      rw [decide_eq_true (heq m hm' hmR)]
      refine exW.i1 (t := .bool) true rfl (VIf.f rfl ?_)
      rw [w64 (n := (m : Int) + 1) (by omega)]
      exact VSet.i ⟨_, by omega, m + 1, rfl, by omega, rfl, ((e9.then0 ed).then0 e11).then0 e12⟩
    · refine VCall.i (Join_spec s X w9 hX9.in_ (by omega) (by rw [hpX, hall.1]; omega) (by rw [hpX, hall.2]; omega)) ?_
      rintro e w13 ⟨ja, jb, rfl, hja, hjb, e13⟩
      rw [hpX, hall.1] at hja
      rw [hpX, hall.2] at hjb
      refine exW.i2 (t := .sl) (u := .sl) ja jb rfl ?_
      have e0_13 := (((e06.then0 e7).then0 e8).then0 e9).then0 e13
      refine VCall.i (Same_spec (ja, jb, false) (a, b, false) ⟨P, Q, false⟩ ⟨P, Q, false⟩ w13 ⟨hja.in_, hjb.in_, rfl⟩ ⟨hP.ext0 e0_13, hQ.ext0 e0_13, rfl⟩) ?_
      rintro e w14 ⟨rfl, e14⟩
      rw [decide_eq_true (rfl : (⟨P, Q, false⟩ : Pt) = ⟨P, Q, false⟩)]
      refine exW.i1 (t := .bool) true rfl (VIf.f rfl ?_)
      have hja14 := hja.ext0 e14
      have hjl := hja.len
      refine ⟨fun k i W => ∃ (m : Nat) (L : List Pr), i = (m : Int) ∧ m ≤ P.length ∧ k = P.length - m ∧ L.length = P.length ∧ OwnR prR 37 w9 W ja L ∧ Ext [] w9 W, ⟨_, 0, P, rfl, by omega, rfl, rfl, hja14, e13.then0 e14⟩, ?_⟩
      rintro k i w15 ⟨m3, L, rfl, hm3, rfl, hLl3, hL15, e15⟩
      refine VIf.mk (fun hc3 => ?_) (fun hc3 => ?_)
      · have hm' : m3 < L.length := by simp at hc3; omega
        refine Row.putR (r := prR) (j := 0) (vs := [.string (ByteArray.mk #[33])]) (x := (ByteArray.mk #[33], (L[m3]).2)) hL15.1 hm' (by show 0 + 1 ≤ 2; omega) rfl rfl (fun a => (add_zero _).symm) fun w16 h16 e16 => ?_
        rw [w64 (n := (m3 : Int) + 1) (by omega)]
        exact VSet.i ⟨_, by omega, m3 + 1, _, rfl, by omega, rfl, by rw [List.length_set]; exact hLl3, ⟨h16, hL15.2⟩, e15.then e16 (fun i hi hlt => by have := hL15.2 i hi; omega)⟩
      · have hX15 := hX9.ext0 e15
        have hs79 : w7.heap.size ≤ w9.heap.size := Nat.le_trans e8.size e9.size
        refine ⟨fun k i W => ∃ m : Nat, i = (m : Int) ∧ m ≤ X.length ∧ k = X.length - m ∧ (∀ j (hj : j < X.length), m ≤ j → PtO w7 W (X[j]).1 (X[j]).2) ∧ OwnR ptR 33 w7 W s (X.map (·.1)) ∧ Ext [] w7 W,
          ⟨_, 0, rfl, by omega, rfl, fun j hj _ => hX15.all _ (List.getElem_mem hj), hX15.row, (e8.then0 e9).then0 e15⟩, ?_⟩
        rintro k i w17 ⟨m4, rfl, hm4, rfl, hall4, hrow4, e17⟩
        refine VIf.mk (fun hc4 => ?_) (fun hc4 => ?_)
        · have hm' : m4 < X.length := by simp at hc4; omega
          have hmR : m4 < XR.length := by omega
          intro w18 hw18
          have ed := Ext.drew' hw18
          have hR18 := ((hR6.ext0 e7).ext0 e17).ext0 ed
          have hrow18 := hrow4.ext0 ed
          have hx18 := (hall4 m4 hm' (Nat.le_refl _)).ext0 ed
          refine VIx.rec (r := ptR) hrow18.in_.1 (show m4 < (X.map (·.1)).length by simpa using hm') rfl fun a1 hr1 => ?_
          rw [List.getElem_map] at hr1
          refine ⟨((X[m4]).1.1 : Sl), ((X[m4]).1.2.1 : Sl), ((X[m4]).1.2.2 : Bool), gd.i hr1, ?_⟩
          refine VIx.pt hR18 hmR rfl fun a2 hr2 => ⟨((XR[m4]).1.1 : Sl), ((XR[m4]).1.2.1 : Sl), ((XR[m4]).1.2.2 : Bool), gd.i hr2, ?_⟩
          refine VCall.i (of_spec (X[m4]).1 w18) ?_
          rintro e w19 ⟨rfl, e19⟩
          refine ⟨((X[m4]).1.1 : Sl), ((X[m4]).1.2.1 : Sl), ((X[m4]).1.2.2 : Bool), rfl, hr2.ext e19 (by simp), ?_⟩
          refine VCall.i (Same_spec (X[m4]).1 (XR[m4]).1 (X[m4]).2 (XR[m4]).2 w19 (hx18.in_.ext0 e19) ((hR18.all _ (List.getElem_mem hmR)).ext0 e19)) ?_
          rintro e w20 ⟨rfl, e20⟩
          rw [decide_eq_true (heq m4 hm' hmR)]
          refine exW.i1 (t := .bool) true rfl (VIf.f rfl ?_)
          have e1820 := e19.then0 e20
          have hrow20 := hrow18.ext0 e1820
          have hx20 := hx18.ext0 e1820
          refine VIx.rec (r := ptR) hrow20.in_.1 (show m4 < (X.map (·.1)).length by simpa using hm') rfl fun a1 hr1 => ?_
          rw [List.getElem_map] at hr1
          refine ⟨((X[m4]).1.1 : Sl), ((X[m4]).1.2.1 : Sl), ((X[m4]).1.2.2 : Bool), gd.i hr1, ?_⟩
          have hsz := hsm.2 (X[m4]).2 (by rw [← hpX]; unfold pts; exact List.mem_map_of_mem (List.getElem_mem hm'))
          refine VCall.i (spoil_spec (X[m4]).1 (X[m4]).2 w7 w20 hx20 hsz.1 hsz.2) ?_
          rintro e w21 ⟨rfl, e21⟩
          refine exW.i0 rfl ?_
          rw [w64 (n := (m4 : Int) + 1) (by omega)]
          have e1720 := ed.then0 e1820
          refine VSet.i ⟨_, by omega, m4 + 1, rfl, by omega, rfl, ?_, hrow20.ext e21 (fun b hb hq => hx20.noT hrow20 b hq hb), (e17.then0 e1720).then e21 (fun i hi hlt => by have := hx20.ges i hi; omega)⟩
          intro j hj hmj
          refine ((hall4 j hj (by omega)).ext0 e1720).ext e21 (fun b hb hq => ?_)
          exact (List.pairwise_iff_getElem.1 hX.sep m4 j hm' hj (by omega)) b hq hb
        · rw [w64 (n := (rd : Int) + 1) (by omega)]
          exact VSet.i ⟨_, by omega, rd + 1, rfl, by omega, rfl, e7.then0 e17⟩
  · have e07 := e06.then0 e7
    refine VCall.i (Same_spec (lp, lq, false) (a, b, false) ⟨P, Q, false⟩ ⟨P, Q, false⟩ w7 ⟨hp7, hq7, rfl⟩ ⟨hP.ext0 e07, hQ.ext0 e07, rfl⟩) ?_
    rintro e w22 ⟨rfl, e22⟩
    refine exW.i1 (t := .bool) _ rfl ⟨?_, e07.then0 e22⟩
    rw [decide_eq_true rfl]
end Go.Proofs.Ytoceilgifkncoaa
