/-
  Package hand: the law of what is sent.
-/
import Derived.Test.YtoceilgifkncoaaHandSa
namespace Go.Proofs.Ytoceilgifkncoaa
open Go.RowKit
set_option maxRecDepth 100000

theorem VVarR {w : World} {v : PtV} {n : Int} {K : Nat → Int → World → Prop} (k : ∀ b w', w.heap.size ≤ b → Bk w' b (ptR.f v) 31 → Ext [] w w' → K b n w') :
    VNw none w (.cells #[.slice none 0 0, .slice none 0 0, .bool false] 31) fun (b : Nat) (w4 : World) => VSet n fun (a : Int) => VSt none w4 ⟨b, 0, none⟩ [.slice v.1.base v.1.len v.1.cap, .slice v.2.1.base v.2.1.len v.2.1.cap, .bool v.2.2] fun (w5 : World) => K b a w5 :=
  VNw.i fun b w4 hb hk e4 => VSet.i (VSt.bk hk rfl (by simp) fun w5 hk5 e5 => k b w5 (by omega) hk5 (e4.then e5 (fun i hi hlt => by simp at hi; omega)))
/-- what is due on both sides is held against one another, and spoilt -/
theorem Sends_tail {w8 w14 : World} {a : Int} {ok : Bool} {v' vq : PtV} {p : Pt} {bp bq : Nat} (kp : Bk w14 bp (ptR.f v') 33) (kq : Bk w14 bq (ptR.f vq) 31) (hv : PtO w8 w14 v' p) (hq : PtIn w14 vq p) (s1 : p.P.length ≤ 1000000) (s2 : p.Q.length ≤ 1000000)
    {F K : World → Prop} (k : ∀ w18, Ext (fpt v') w14 w18 → K w18) :
    ∀ (w15 : World), w15 = World.drew w14 →
      VLd (some (!((a != a) || (!(ok == ok))))) w15 ⟨bp, 0, none⟩ [CT.sl, CT.sl, CT.bool] fun (v112_0 : Sl) (v112_1 : Sl) (v112_2 : Bool) =>
      VLd (some (!((a != a) || (!(ok == ok))))) w15 ⟨bq, 0, none⟩ [CT.sl, CT.sl, CT.bool] fun (v114_0 : Sl) (v114_1 : Sl) (v114_2 : Bool) =>
      VCall (some (!((a != a) || (!(ok == ok))))) Try.prog 13 #[.agg #[.slice v112_0.base v112_0.len v112_0.cap, .slice v112_1.base v112_1.len v112_1.cap, .bool v112_2]] w15 (.agg #[.slice none 0 0, .slice none 0 0, .bool false]) fun (r113_0 : Sl) (r113_1 : Sl) (r113_2 : Bool) (w16 : World) =>
      ((!((a != a) || (!(ok == ok)))) = true → Rd w16 ⟨bq, 0, none⟩ [.slice v114_0.base v114_0.len v114_0.cap, .slice v114_1.base v114_1.len v114_1.cap, .bool v114_2]) ∧
      VCall (some (!((a != a) || (!(ok == ok))))) Try.prog 12 #[.agg #[.slice r113_0.base r113_0.len r113_0.cap, .slice r113_1.base r113_1.len r113_1.cap, .bool r113_2], .agg #[.slice v114_0.base v114_0.len v114_0.cap, .slice v114_1.base v114_1.len v114_1.cap, .bool v114_2]] w16 (.bool false) fun (r115 : Bool) (w17 : World) =>
      VIf (((a != a) || (!(ok == ok))) || (!r115)) (
        F w17
      ) (
        VLd none w17 ⟨bp, 0, none⟩ [CT.sl, CT.sl, CT.bool] fun (v118_0 : Sl) (v118_1 : Sl) (v118_2 : Bool) =>
        VCall none Try.prog 15 #[.agg #[.slice v118_0.base v118_0.len v118_0.cap, .slice v118_1.base v118_1.len v118_1.cap, .bool v118_2]] w17 (.tuple #[]) fun (w18 : World) =>
        K w18
      ) := by
  intro w15 hw15
  have ed := Ext.drew' hw15
  have gg : ((a != a) || (!(ok == ok))) = false := by simp
  rw [gg]
  have kp15 := kp.ext ed
  have kq15 := kq.ext ed
  refine ⟨(v'.1 : Sl), (v'.2.1 : Sl), (v'.2.2 : Bool), gd.i (Rd.of_bk kp15 rfl), ?_⟩
  refine ⟨(vq.1 : Sl), (vq.2.1 : Sl), (vq.2.2 : Bool), gd.i (Rd.of_bk kq15 rfl), ?_⟩
  refine VCall.on rfl (VCall.i (of_spec v' w15) ?_)
  rintro e w16 ⟨rfl, e16⟩
  refine ⟨(v'.1 : Sl), (v'.2.1 : Sl), (v'.2.2 : Bool), rfl, fun _ => Rd.of_bk (kq15.ext e16) rfl, ?_⟩
  have e1416 := ed.then0 e16
  refine VCall.on rfl (VCall.i (Same_spec v' vq p p w16 (hv.ext0 e1416).in_ (hq.ext0 e1416)) ?_)
  rintro e w17 ⟨rfl, e17⟩
  have e1417 := e1416.then0 e17
  rw [decide_eq_true (rfl : p = p)]
  refine exW.i1 (t := .bool) true rfl (VIf.f rfl ?_)
  have kp17 := kp.ext e1417
  refine ⟨(v'.1 : Sl), (v'.2.1 : Sl), (v'.2.2 : Bool), gd.i (Rd.of_bk kp17 rfl), ?_⟩
  refine VCall.i (spoil_spec v' p w8 w17 (hv.ext0 e1417) s1 s2) ?_
  rintro e w18 ⟨rfl, e18⟩
  exact exW.i0 rfl (k w18 ((e1417.mono (N := fpt v') (by simp)).then e18 (fun i hi _ => hi)))
theorem told_keep (x : Sd) (n : Int) : (x.told n).L = x.L ∧ (x.told n).every = x.every ∧ (x.told n).at_ = x.at_ := by
  unfold Sd.told; split <;> exact ⟨rfl, rfl, rfl⟩
theorem bit_if (c : Prop) [Decidable c] : (((if c then (0 : Int) else 1) == 0) == decide c) = true := by by_cases h : c <;> simp [h]
theorem HandSends_law (a b t : Sl) (P : List Pr) (Q : List Ls) (T : List (Int × Int)) (every : Int) (w : World) (hP : InR prR w a P) (hQ : InR lsR w b Q) (hT : InR tuR w t T) (hR : ∀ x ∈ T, -9223372036854775808 ≤ x.2 ∧ x.2 ≤ 9223372036854775807) (hPl : P.length ≤ 1048576) (hQl : Q.length ≤ 1048576) :
    Calls Try.prog 4 #[.slice a.base a.len a.cap, .slice b.base b.len b.cap, .int .i64 every, .slice t.base t.len t.cap] w (good w) := by
  refine sh_butterylaw23_HandSends_ok _ _ _ _ _ _ ?_
  unfold sh_butterylaw23_HandSends
  refine VCall.i (long_spec a b P Q w hP hQ hPl hQl) ?_
  rintro e w1 ⟨lg, rfl, hlg, e1⟩
  refine exW.i1 (t := .bool) lg rfl (VIf.mk (fun hc => ⟨rfl, e1⟩) (fun hc => ?_))
  simp only [Bool.or_eq_false_iff, decide_eq_false_iff_not] at hc
  have hl : P.length + Q.length ≤ 300 := hlg hc.1
  have htl := hT.len
  have hT3 : T.length ≤ 300 := by omega
  refine VCall.i (Cut_spec a b P Q w1 (hP.ext0 e1) (hQ.ext0 e1) (by omega)) ?_
  rintro e w2 ⟨s, X, rfl, hX, hpX, hok, e2'⟩
  have e2 := e1.then0 e2'
  refine exW.i1 (t := .sl) s rfl ?_
  have hsm := cutI_small hok (by omega)
  have hXl : X.length = (cutI P Q).length := by rw [← hpX]; simp [pts]
  have hLl := cutI_len P Q
  have hLe := hok.len
  have hne := hok.ne
  have hsl := hX.len
  by_cases hev : every < 1 ∨ 1000 < every
  · refine VCall.i (New_no s every w2 (.inr hev)) ?_
    rintro e w3 ⟨rfl, rfl⟩
    refine exW.i2 (t := .ptr) (u := .int .i64) none 1 rfl (VSet.i (VIf.t ?_ ⟨rfl, e2⟩))
    rcases hev with h | h
    · rw [decide_eq_true h]; rfl
    · rw [decide_eq_true (show every > 1000 from h), Bool.or_true]
  have hev1 : 1 ≤ every ∧ every ≤ 1000 := by omega
  refine VCall.i (New_spec s X every w2 hX.in_ (by rw [hpX]; exact hsm) (by omega) hev1) ?_
  rintro e w3 ⟨q, s', Y, rfl, h3, e3'⟩
  have e3 := e2.then0 e3'
  refine exW.i2 (t := .ptr) (u := .int .i64) (some ⟨q, 0, none⟩) 0 rfl (VSet.i (VIf.f ?_ (VIf.f rfl ?_)))
  · rw [decide_eq_false (show ¬ every < 1 by omega), decide_eq_false (show ¬ every > 1000 by omega)]; rfl
  refine VCall.i (refCut_spec a b P Q w3 (hP.ext0 e3) (hQ.ext0 e3) hl) ?_
  rintro e w4 ⟨sr, XR, rfl, hro, hra, hpR, e4'⟩
  have e4 := e3.then0 e4'
  refine exW.i1 (t := .sl) sr rfl ?_
  refine VNw.i fun rb w5 hrb hk5 e5' => ?_
  have e5 := e4.then0 e5'
  have e35 := e4'.then0 e5'
  rw [hpX] at h3
  have r5 : RfO w3 w5 rb sr XR ⟨cutI P Q, every, 0, false, 0⟩ := ⟨hk5, hro.ext0 e5', fun y hy => (hra y hy).ext0 e5', hpR, by have := e4'.size; omega, Nat.zero_le _⟩
  have h5 := h3.ext0 e35
  have hX5 : PtsO w1 w5 s X := (hX.ext0 e3').ext0 e35
  have hs12 := e2'.size
  have hs23 := e3'.size
  have hs01 := e1.size
  generalize cutI P Q = LL at *
  refine ⟨fun k i W => ∃ m : Nat, i = (m : Int) ∧ m ≤ X.length ∧ k = X.length - m ∧ (∀ j (hj : j < X.length), m ≤ j → PtO w1 W (X[j]).1 (X[j]).2) ∧ OwnR ptR 33 w1 W s (X.map (·.1)) ∧ SdO w2 W q s' Y ⟨LL, every, 0, false, 0⟩ ∧ RfO w3 W rb sr XR ⟨LL, every, 0, false, 0⟩ ∧ Ext [] w W,
    ⟨_, 0, rfl, by omega, rfl, fun j hj _ => hX5.all _ (List.getElem_mem hj), hX5.row, h5, r5, e5⟩, ?_⟩
  rintro k i w6 ⟨m, rfl, hm, rfl, hall, hrow, h6, r6, e6⟩
  refine VIf.mk (fun hc1 => ?_) (fun hc1 => ?_)
  · have hm' : m < X.length := by simp at hc1; omega
    refine VIx.rec (r := ptR) hrow.in_.1 (show m < (X.map (·.1)).length by simpa using hm') rfl fun a1 hr1 => ?_
    rw [List.getElem_map] at hr1
    refine ⟨((X[m]).1.1 : Sl), ((X[m]).1.2.1 : Sl), ((X[m]).1.2.2 : Bool), gd.i hr1, ?_⟩
    have hx := hall m hm' (Nat.le_refl _)
    have hsz := hsm.2 (X[m]).2 (by rw [← hpX]; unfold pts; exact List.mem_map_of_mem (List.getElem_mem hm'))
    refine VCall.i (spoil_spec (X[m]).1 (X[m]).2 w1 w6 hx hsz.1 hsz.2) ?_
    rintro e w7 ⟨rfl, e7⟩
    refine exW.i0 rfl ?_
    rw [w64 (n := (m : Int) + 1) (by omega)]
    have hlt2 : ∀ b ∈ fpt (X[m]).1, b < w2.heap.size := (hX.all _ (List.getElem_mem hm')).lt
    refine VSet.i ⟨_, by omega, m + 1, rfl, by omega, rfl, ?_, hrow.ext e7 (fun b hb hq => hx.noT hrow b hq hb), h6.extA e7 hlt2, r6.extA e7 (fun b hb => by have := hlt2 b hb; omega), e6.then e7 (fun i hi hlt => by have := hx.ges i hi; omega)⟩
    intro j hj hmj
    refine (hall j hj (by omega)).ext e7 (fun b hb hq => ?_)
    exact (List.pairwise_iff_getElem.1 hX.sep m j hm' hj (by omega)) b hq hb
  refine ⟨fun k i W => ∃ (m : Nat) (x : Sd), i = (m : Int) ∧ m ≤ T.length ∧ k = T.length - m ∧ SdO w2 W q s' Y x ∧ RfO w3 W rb sr XR x ∧ x.L = LL ∧ x.every = every ∧ (-2305843009213693952 ≤ x.at_ ∧ x.at_ ≤ 2305843009213693952) ∧ Ext [] w W,
    ⟨_, 0, _, rfl, by omega, rfl, h6, r6, rfl, rfl, by simp, e6⟩, ?_⟩
  clear hall hrow h6 r6 e6 h5 r5 hX5 e5 hk5 hro hra
  rintro k i w8 ⟨m, x, rfl, hm, rfl, h8, r8, hxL, hxe, hxa, e8⟩
  have hqw := h8.ge
  have hrw := r8.ge
  refine VIf.mk (fun hc2 => ?_) (fun hc2 => ?_)
  · have hm' : m < T.length := by simp at hc2; omega
    have hT8 := hT.ext0 e8
    refine ⟨fun W => ∃ x : Sd, SdO w2 W q s' Y x ∧ RfO w3 W rb sr XR x ∧ x.L = LL ∧ x.every = every ∧ (-2305843009213693952 ≤ x.at_ ∧ x.at_ ≤ 2305843009213693952) ∧ Ext [] w W, ?_, ?_⟩
    rotate_left
    · rintro w23 ⟨x', g1, g2, g3, g4, g5, g6⟩
      rw [w64 (n := (m : Int) + 1) (by omega)]
      exact VSet.i ⟨_, by omega, m + 1, x', rfl, by omega, rfl, g1, g2, g3, g4, g5, g6⟩
    refine VIx.rec (r := tuR) hT8.1 hm' rfl fun a0 hr0 => VLd.i1 (t := .int .i64) (T[m]).2 (hr0.fld 1 rfl) (VSet.i ?_)
    refine VIx.rec (r := tuR) hT8.1 hm' rfl fun a0 hr0 => VLd.i1 (t := .int .i64) (T[m]).1 (hr0.fld0 rfl) ?_
    have hn := hR _ (List.getElem_mem hm')
    have hs28 : w2.heap.size ≤ w8.heap.size := by have := h8.bk.lt; have := h8.ge; omega
    refine VIf.mk (fun hk0 => ?_) (fun hk0 => ?_)
    · have hnn : -2305843009213693952 ≤ Int.fdiv (T[m]).2 (2 ^ 2) ∧ Int.fdiv (T[m]).2 (2 ^ 2) ≤ 2305843009213693952 := by
        rw [show ((2 : Int) ^ 2) = 4 from rfl, Int.fdiv_eq_ediv_of_nonneg _ (by omega)]
        omega
      generalize Int.fdiv (T[m]).2 (2 ^ 2) = nn at *
      have hsame := idle_same (x := x) hnn hxa (by rw [hxe]; exact hev1) h8.nx
      refine VCall.i (Due_spec w2 w8 q s' Y x nn h8) ?_
      rintro e w9 (⟨hi, rfl, e9⟩ | ⟨hi, hnx, v', rfl, hv, h9, e9⟩)
      · refine ⟨(0 : Int), (⟨none, 0, 0⟩ : Sl), (⟨none, 0, 0⟩ : Sl), (false : Bool), (false : Bool), rfl, ?_⟩
        refine VVar (v := (⟨none, 0, 0⟩, ⟨none, 0, 0⟩, false)) fun bp w11 hbp kp e11 => ?_
        have e811 := e9.then0 e11
        refine VCall.i (rDue_spec w3 w11 rb sr XR x nn (r8.ext0 e811)) ?_
        rintro e w12 (⟨hi', rfl, e12⟩ | ⟨hi', _⟩)
        · refine ⟨(0 : Int), (⟨none, 0, 0⟩ : Sl), (⟨none, 0, 0⟩ : Sl), (false : Bool), (false : Bool), rfl, ?_⟩
          refine VVarR (v := (⟨none, 0, 0⟩, ⟨none, 0, 0⟩, false)) fun bq w14 hbq kq e14 => ?_
          have e1114 := e12.then0 e14
          refine Sends_tail (w8 := w8) (v' := (⟨none, 0, 0⟩, ⟨none, 0, 0⟩, false)) (vq := (⟨none, 0, 0⟩, ⟨none, 0, 0⟩, false)) (p := ptE) (kp.ext e1114) kq ⟨OwnR.nil _ _ _ _, OwnR.nil _ _ _ _, rfl⟩ ⟨InR.nil _, InR.nil _, rfl⟩ (by simp [ptE]) (by simp [ptE]) fun w18 e18 => ?_
          have e818 : Ext [] w8 w18 := (e811.then0 e1114).then0 e18
          exact ⟨x, h8.ext0 e818, r8.ext0 e818, hxL, hxe, hxa, e8.then0 e818⟩
        · exact absurd (hsame.1 hi) hi'
      · refine ⟨((x.next : Nat) : Int), (v'.1 : Sl), (v'.2.1 : Sl), (v'.2.2 : Bool), (true : Bool), rfl, ?_⟩
        refine VVar (v := v') fun bp w11 hbp kp e11 => ?_
        have r9 := r8.extq h8.bk e9 (by decide) (by decide) (by decide) (by decide)
        have r11 := r9.ext0 e11
        have h11 := h9.ext0 e11
        refine VCall.i (rDue_spec w3 w11 rb sr XR x nn r11) ?_
        rintro e w12 (⟨hi', _⟩ | ⟨hi', hn', vq, rfl, hq, r12, e12⟩)
        · exact absurd (hsame.2 hi') hi
        · refine ⟨((x.next : Nat) : Int), (vq.1 : Sl), (vq.2.1 : Sl), (vq.2.2 : Bool), (true : Bool), rfl, ?_⟩
          refine VVarR (v := vq) fun bq w14 hbq kq e14 => ?_
          have h12 := h11.extq r11.bk e12 (by decide) (by decide) (by decide) (by decide)
          have kd : Kd w11 [rb] := fun c hc => by rw [List.mem_singleton.1 hc]; exact ⟨_, _, r11.bk, by decide, by decide⟩
          have hv12 := (hv.ext0 e11).extK kd e12
          have kp12 := kp.ext e12 (by simpa using kp.neT r11.bk (by decide))
          have hsp := hsm.2 (x.L[x.next]) (by rw [← hxL]; exact List.getElem_mem hn')
          refine Sends_tail (w8 := w8) (kp12.ext e14) kq (hv12.ext0 e14) (hq.ext0 e14) hsp.1 hsp.2 fun w18 e18 => ?_
          have hges := hv.ges
          have e8_9 : Ext [] w w9 := e8.then e9 (fun i hi hlt => by simp at hi; omega)
          have e8_12 : Ext [] w w12 := (e8_9.then0 e11).then e12 (fun i hi hlt => by simp at hi; omega)
          exact ⟨{ x with sent := true, at_ := nn }, h8.extB (h12.ext0 e14) e18 hges, r8.extB (r12.ext0 e14) e18 hges, hxL, hxe, hnn, (e8_12.then0 e14).then e18 (fun i hi hlt => by have := hges i hi; have := e8.size; omega)⟩
    · intro w19 hw19
      have e19' := Ext.drew' hw19
      have e19 := e8.then0 e19'
      have h19 := h8.ext0 e19'
      have r19 := r8.ext0 e19'
      generalize (T[m]).2 = n at *
      obtain ⟨k1, k2, k3⟩ := told_keep x n
      refine VCall.i (Told_spec w2 w19 q s' Y x n h19) ?_
      rintro e w20 ⟨rfl, h20, e20⟩
      refine exW.i1 (t := .int .i64) _ rfl ?_
      have r20 := r19.extq h19.bk e20 (by decide) (by decide) (by decide) (by decide)
      refine VCall.i (rTold_spec w3 w20 rb sr XR x n r20) ?_
      rintro e w21 ⟨rfl, r21, e21⟩
      refine exW.i1 (t := .bool) _ rfl ?_
      have h21 := h20.extq r20.bk e21 (by decide) (by decide) (by decide) (by decide)
      have hrd := Rd.of_bk (i := 0) (vs := [.slice sr.base sr.len sr.cap, .int .i64 (x.told n).every, .int .i64 ((x.told n).next : Int), .bool (x.told n).sent, .int .i64 (x.told n).at_]) r21.bk rfl
      rw [bit_if]
      refine VNN.i (VLd.i1 (t := .int .i64) (((x.told n).next : Nat) : Int) (hrd.fld 2 rfl) (VNN.i (VLd.s sr (hrd.fld0 rfl) ?_)))
      refine VCall.on rfl (VCall.i (SDone_spec w2 w21 q s' Y (x.told n) h21) ?_)
      rintro e w22 ⟨rfl, e22⟩
      refine exW.i1 (t := .bool) _ rfl ⟨fun _ => (hrd.fld0 rfl).ext e22 (by simp), fun _ => (hrd.fld 2 rfl).ext e22 (by simp), ?_⟩
      obtain ⟨z1, z2⟩ := r21.len
      have hb : (decide ((x.told n).next = (x.told n).L.length) == ((((x.told n).next : Nat) : Int) == ((sr.len : Nat) : Int))) = true := by
        rw [z1, z2]
        by_cases hd : (x.told n).next = (x.told n).L.length
        · simp [hd]
        · have : ¬ (((x.told n).next : Nat) : Int) = (((x.told n).L.length : Nat) : Int) := by omega
          rw [decide_eq_false hd, beq_eq_false_iff_ne.2 this]; rfl
      rw [hb]
      refine VIf.f rfl ?_
      have e20w : Ext [] w w20 := e19.then e20 (fun i hi hlt => by simp at hi; omega)
      have e21w : Ext [] w w21 := e20w.then e21 (fun i hi hlt => by simp at hi; omega)
      exact ⟨x.told n, h21.ext0 e22, r21.ext0 e22, k1.trans hxL, k2.trans hxe, by rw [k3]; exact hxa, e21w.then0 e22⟩
  · intro w24 hw24
    have e24' := Ext.drew' hw24
    have e24 := e8.then0 e24'
    have h24 := h8.ext0 e24'
    have r24 := r8.ext0 e24'
    have hrd := Rd.of_bk (i := 0) (vs := [.slice sr.base sr.len sr.cap, .int .i64 x.every, .int .i64 (x.next : Int), .bool x.sent, .int .i64 x.at_]) r24.bk rfl
    refine VNN.i (VLd.i1 (t := .int .i64) ((x.next : Nat) : Int) (hrd.fld 2 rfl) (VNN.i (VLd.s sr (hrd.fld0 rfl) ?_)))
    refine VCall.i (SDone_spec w2 w24 q s' Y x h24) ?_
    rintro e w25 ⟨rfl, e25⟩
    refine exW.i1 (t := .bool) _ rfl ⟨(hrd.fld0 rfl).ext e25 (by simp), (hrd.fld 2 rfl).ext e25 (by simp), ?_, e24.then0 e25⟩
    obtain ⟨z1, z2⟩ := r24.len
    rw [z1, z2]
    by_cases hd : x.next = x.L.length
    · simp [hd]
    · have : ¬ ((x.next : Nat) : Int) = ((x.L.length : Nat) : Int) := by omega
      rw [decide_eq_false hd, beq_eq_false_iff_ne.2 this]; rfl
end Go.Proofs.Ytoceilgifkncoaa
