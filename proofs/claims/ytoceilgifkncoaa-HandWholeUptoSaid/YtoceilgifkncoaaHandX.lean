/-
  Package hand: the law of the whole.
-/
import Derived.Test.YtoceilgifkncoaaHandV
namespace Go.Proofs.Ytoceilgifkncoaa
open Go.RowKit
set_option maxRecDepth 100000

structure WI (w w6 : World) (q r : Nat) (s' s : Sl) (Y X : List PX) (LL : List Pt) (m n : Nat) (W : World) (x : Sd) (s8 : Sl) (X8 : List PX) (pl tl wy : Sl) (PL TL : List Int) (WX : List PX) : Prop where
  wh : Wh w w6 q r s' s Y X W x s8 X8 (LL.take n) pl tl wy PL TL WX
  nle : n ≤ LL.length
  xL : x.L = LL
  nx : x.next ≤ n
  len : PL.length = WX.length
  lp : PL.length ≤ m
  lt : TL.length ≤ m
  pw : ∀ i (h1 : i < PL.length) (h2 : i < WX.length), ∃ (j : Nat) (hj : j < LL.length), PL[i] = (j : Int) ∧ (WX[i]).2 = LL[j]
  tw : ∀ t ∈ TL, ∃ j : Nat, t = (j : Int) ∧ j ≤ n
section
variable {w w6 : World} {q r : Nat} {s' s : Sl} {Y X : List PX} {LL : List Pt} {m n : Nat} {W W' : World} {x : Sd} {s8 : Sl} {X8 : List PX} {pl tl wy : Sl} {PL TL : List Int} {WX : List PX}
theorem WI.ext0 (h : WI w w6 q r s' s Y X LL m n W x s8 X8 pl tl wy PL TL WX) (e : Ext [] W W') : WI w w6 q r s' s Y X LL m n W' x s8 X8 pl tl wy PL TL WX :=
  ⟨h.wh.ext0 e, h.nle, h.xL, h.nx, h.len, h.lp, h.lt, h.pw, h.tw⟩
theorem WI.up (h : WI w w6 q r s' s Y X LL m n W x s8 X8 pl tl wy PL TL WX) : WI w w6 q r s' s Y X LL (m + 1) n W x s8 X8 pl tl wy PL TL WX :=
  ⟨h.wh, h.nle, h.xL, h.nx, h.len, by have := h.lp; omega, by have := h.lt; omega, h.pw, h.tw⟩
/-- a part under way comes -/
theorem Take_wi (h : WI w w6 q r s' s Y X LL m n W x s8 X8 pl tl wy PL TL WX) (hs : small LL) {v : PtV} {j : Nat} (hj : j < LL.length) (hv : PtIn W v LL[j]) :
    Calls Try.prog 25 #[.pointer (some ⟨r, 0, none⟩), .int .i64 (j : Int), ptv v] W fun e W' => ∃ (n' : Nat) (took : Bool) (s9 : Sl) (X9 : List PX), e = .returned (.tuple #[.int .i64 (n' : Int), .bool took, .int .i64 0]) ∧ n ≤ n' ∧ WI w w6 q r s' s Y X LL m n' W' x s9 X9 pl tl wy PL TL WX := by
  have hsp := hs.2 _ (List.getElem_mem hj)
  have hlt : (LL.take n).length = n := by rw [List.length_take]; have := h.nle; omega
  have hs1 := hs.1
  have hnle := h.nle
  refine (Take_spec w W r s8 X8 (LL.take n) (j : Int) v LL[j] h.wh.rc h.wh.e (by omega) hv (by omega) hsp.1 hsp.2).mono ?_
  rintro e W' (⟨_, rfl, e'⟩ | ⟨ht, rfl, ⟨s9, X9, hr, hn⟩, e'⟩)
  · exact ⟨n, false, s8, X8, by rw [hlt], Nat.le_refl _, h.ext0 e'⟩
  · have hjn : j = n := by
      unfold takes at ht
      rw [Bool.and_eq_true, hlt] at ht
      have := of_decide_eq_true ht.1
      omega
    subst hjn
    rw [← List.take_succ_eq_append_getElem hj] at hr
    exact ⟨j + 1, true, s9, X9, by rw [hlt]; rfl, by omega, h.wh.rcq hr hn e', by omega, h.xL, by have := h.nx; omega, h.len, h.lp, h.lt, h.pw, fun t ht => by obtain ⟨i, h1, h2⟩ := h.tw t ht; exact ⟨i, h1, by omega⟩⟩
/-- the sender is told -/
theorem Told_wi (h : WI w w6 q r s' s Y X LL m n W x s8 X8 pl tl wy PL TL WX) {j : Nat} (hj : j ≤ n) :
    Calls Try.prog 19 #[.pointer (some ⟨q, 0, none⟩), .int .i64 (j : Int)] W fun e W' => ∃ x', e = .returned (.int .i64 0) ∧ WI w w6 q r s' s Y X LL m n W' x' s8 X8 pl tl wy PL TL WX := by
  have hnle := h.nle
  refine (Told_spec w W q s' Y x (j : Int) h.wh.sd).mono ?_
  rintro e W' ⟨rfl, hx, e'⟩
  refine ⟨x.told (j : Int), by rw [if_pos (by rw [h.xL]; omega)], h.wh.sdq hx e', h.nle, ?_, ?_, h.len, h.lp, h.lt, h.pw, h.tw⟩
  · unfold Sd.told; split
    · exact h.xL
    · exact h.xL
  · unfold Sd.told; split
    · simp only; omega
    · exact h.nx
end
theorem HandWhole_law (a b t : Sl) (P : List Pr) (Q : List Ls) (T : List (Int × Int)) (every : Int) (w : World) (hP : InR prR w a P) (hQ : InR lsR w b Q) (hT : InR tuR w t T) (hPl : P.length ≤ 1048576) (hQl : Q.length ≤ 1048576) :
    Calls Try.prog 8 #[.slice a.base a.len a.cap, .slice b.base b.len b.cap, .int .i64 every, .slice t.base t.len t.cap] w (good w) := by
  refine sh_butterylaw23_HandWhole_ok _ _ _ _ _ _ ?_
  unfold sh_butterylaw23_HandWhole
  refine VCall.i (works_spec w) ?_
  rintro e w1 ⟨rfl, e1⟩
  refine exW.i1 (t := .bool) true rfl (VCall.on rfl (VCall.i (long_spec a b P Q w1 (hP.ext0 e1) (hQ.ext0 e1) hPl hQl) ?_))
  rintro e w2 ⟨lg, rfl, hlg, e2'⟩
  have e2 := e1.then0 e2'
  refine exW.i1 (t := .bool) lg rfl (VIf.mk (fun hc => ?_) (fun hc => ?_))
  · refine VCall.i (works_spec w2) ?_
    rintro e w3 ⟨rfl, e3⟩
    exact exW.i1 (t := .bool) true rfl ⟨rfl, e2.then0 e3⟩
  simp only [Bool.not_true, Bool.false_or, Bool.or_eq_false_iff, decide_eq_false_iff_not] at hc
  have hl : P.length + Q.length ≤ 300 := hlg hc.1
  have htl := hT.len
  have hT3 : T.length ≤ 300 := by omega
  refine VCall.i (Cut_spec a b P Q w2 (hP.ext0 e2) (hQ.ext0 e2) (by omega)) ?_
  rintro e w4 ⟨s, X, rfl, hX', hpX, hok, e4'⟩
  have e4 := e2.then0 e4'
  have hX := hX'.mono (w0 := w) e2.size
  refine exW.i1 (t := .sl) s rfl ?_
  obtain ⟨kp, hkp, hpause⟩ := modu every 1000 (by omega) (by omega)
  rw [show ((1000 : Nat) : Int) = 1000 from rfl] at hpause
  rw [hpause, w64 (n := 1 + (kp : Int)) (by omega)]
  have hsm := cutI_small hok (by omega)
  have hne := hok.ne
  have hXl : X.length = (cutI P Q).length := by rw [← hpX]; simp [pts]
  have hLl := cutI_len P Q
  have hLe := hok.len
  have hsl := hX.len
  refine VCall.i (New_spec s X (1 + (kp : Int)) w4 hX.in_ (by rw [hpX]; exact hsm) (by omega) (by omega)) ?_
  rintro e w5 ⟨q, s', Y, rfl, h5', e5'⟩
  have h5 := h5'.mono (w0 := w) e4.size
  have e5 := e4.then0 e5'
  rw [hpX] at h5
  have htake := cutI_take P Q
  have hend := cutI_end P Q hne
  have hall := cutI_all P Q
  have hX5 := hX.ext0 e5'
  generalize cutI P Q = LL at *
  refine exW.i2 (t := .ptr) (u := .int .i64) (some ⟨q, 0, none⟩) 0 rfl (VSet.i (VIf.f rfl ?_))
  refine VCall.i (NewReceiver_spec w5) ?_
  rintro e w6 ⟨r, rfl, hr', e6'⟩
  have hr6 := hr'.mono (w0 := w) e5.size
  refine exW.i1 (t := .ptr) (some ⟨r, 0, none⟩) rfl ?_
  have hisE : ∀ n, n ≤ LL.length → isEnd (LL.take n) = decide (n = LL.length) := by
    intro n hn
    by_cases h : n = LL.length
    · rw [decide_eq_true h, h, List.take_length, hend]
    · rw [decide_eq_false h, htake n (by omega)]
  have hL0 : 1 ≤ LL.length := by omega
  refine ⟨fun k pl tl wy now i W => ∃ (m n : Nat) (x : Sd) (s8 : Sl) (X8 : List PX) (PL TL : List Int) (WX : List PX), i = (m : Int) ∧ m ≤ T.length ∧ k = T.length - m ∧ WI w w5 q r s' s Y X LL m n W x s8 X8 pl tl wy PL TL WX,
    ⟨_, 0, 0, (⟨LL, 1 + (kp : Int), 0, false, 0⟩ : Sd), (⟨none, 0, 0⟩ : Sl), ([] : List PX), ([] : List Int), ([] : List Int), ([] : List PX), rfl, by omega, rfl, ?_⟩, ?_⟩
  · refine ⟨⟨h5.ext0 e6', hr6, hX5.ext0 e6', OwnR.nil _ _ _ _, OwnR.nil _ _ _ _, OwnR.nil _ _ _ _, by simp, h5.pt.row.1.lt, hX5.row.1.lt, by simp [rowB], by simp [rowB], by simp [rowB], by simp [rowB], e6'.size, e5.then0 e6'⟩, by omega, rfl, Nat.zero_le _, rfl, by simp, by simp, ?_, by simp⟩
    intro i h1; simp at h1
  rintro k pl tl wy now i w7 ⟨m, n, x, s8, X8, PL, TL, WX, rfl, hm, rfl, h7⟩
  have hpar : ∀ {n W x s8 X8 pl tl wy PL TL WX}, WI w w5 q r s' s Y X LL m n W x s8 X8 pl tl wy PL TL WX → small (LL.take n) := fun h => ⟨by rw [List.length_take]; have := hsm.1; omega, fun p hp => hsm.2 p (List.mem_of_mem_take hp)⟩
  refine VIf.mk (fun hc2 => ?_) (fun hc2 => ?_)
  · have hm' : m < T.length := by simp at hc2; omega
    refine ⟨fun pl tl wy now W => ∃ (n : Nat) (x : Sd) (s8 : Sl) (X8 : List PX) (PL TL : List Int) (WX : List PX), WI w w5 q r s' s Y X LL (m + 1) n W x s8 X8 pl tl wy PL TL WX, ?_, ?_⟩
    rotate_left
    · rintro pl' tl' wy' now' w30 ⟨n', x', s8', X8', PL', TL', WX', h30⟩
      rw [w64 (n := (m : Int) + 1) (by omega)]
      exact VSet.i ⟨_, by omega, m + 1, n', x', s8', X8', PL', TL', WX', rfl, by omega, rfl, h30⟩
    have hT7 := hT.ext0 h7.wh.e
    refine VIx.rec (r := tuR) hT7.1 hm' rfl fun a0 hr0 => VLd.i1 (t := .int .i64) (T[m]).1 (hr0.fld0 rfl) ?_
    refine ⟨fun pl tl wy now W => ∃ (n : Nat) (x : Sd) (s8 : Sl) (X8 : List PX) (PL TL : List Int) (WX : List PX), WI w w5 q r s' s Y X LL (m + 1) n W x s8 X8 pl tl wy PL TL WX, ?_, ?_⟩
    · refine VIf.mk (fun hk0 => ?_) (fun hk0 => VIf.mk (fun hk1 => ?_) (fun hk1 => ?_))
      · -- the sender is asked
        refine VSet.i (VCall.i (Due_spec w w7 q s' Y x _ h7.wh.sd) ?_)
        rintro e w8 (⟨_, rfl, e8⟩ | ⟨_, hn, v', rfl, hv, h8, e8⟩)
        · refine ⟨(0 : Int), (⟨none, 0, 0⟩ : Sl), (⟨none, 0, 0⟩ : Sl), (false : Bool), (false : Bool), rfl, ?_⟩
          refine VVar (v := (⟨none, 0, 0⟩, ⟨none, 0, 0⟩, false)) fun bp w10 _ _ e10 => VIf.f rfl ?_
          exact ⟨n, x, s8, X8, PL, TL, WX, (h7.ext0 (e8.then0 e10)).up⟩
        · refine ⟨((x.next : Nat) : Int), (v'.1 : Sl), (v'.2.1 : Sl), (v'.2.2 : Bool), (true : Bool), rfl, ?_⟩
          refine VVar (v := v') fun bp w10 hbp kp10 e10 => VIf.t rfl ?_
          have hw8 := h7.wh.sdq h8 e8
          refine VNw.i fun b11 w11 hb11 hk11 e11 => ?_
          have e811 := e10.then0 e11
          have hw11 := hw8.ext0 e811
          have l1 := h7.len
          have l2 := h7.lp
          refine VApp.rec (r := intR) hw11.pO hw11.e (news := [((x.next : Nat) : Int)]) (Seg.of_bk hk11 rfl rfl) rfl rfl (by omega) (by omega) fun l12 w12 hr12 _ e12 hbl12 => ?_
          have kp11 := kp10.ext e11
          have kp12 := kp11.ext e12 (hw11.pO.noB kp11 (by decide))
          have hw12 := hw11.plq hr12 hbl12 e12
          have hvK := (((hv.mono (w0 := w) h7.wh.e.size).ext0 e811).extK (hw11.pO.kd (by decide) (by decide)) e12)
          refine ⟨(v'.1 : Sl), (v'.2.1 : Sl), (v'.2.2 : Bool), gd.i (Rd.of_bk kp12 rfl), ?_⟩
          refine VNw.i fun b13 w13 hb13 hk13 e13 => ?_
          have hw13 := hw12.ext0 e13
          refine VApp.rec (r := ptR) hw13.wO hw13.e (news := [v']) (Seg.of_bk hk13 rfl rfl) rfl rfl (by simp; omega) (by simp; omega) fun l14 w14 hr14 _ e14 hbl14 => ?_
          have hw14 := hw13.wyq (y := (v', x.L[x.next])) (hvK.ext0 e13) hr14 hbl14 e14
          refine ⟨n, _, s8, X8, _, TL, _, hw14, h7.nle, h7.xL, h7.nx, by simp; omega, by simp; omega, by have := h7.lt; omega, ?_, h7.tw⟩
          intro i h1 h2
          by_cases hi : i < PL.length
          · obtain ⟨j, hj, g1, g2⟩ := h7.pw i hi (by omega)
            exact ⟨j, hj, by rw [List.getElem_append_left hi]; exact g1, by rw [List.getElem_append_left (by omega)]; exact g2⟩
          · have hi : i = PL.length := by simp at h1; omega
            refine ⟨x.next, by rw [← h7.xL]; exact hn, ?_, ?_⟩
            · subst hi; simp
            · have : i = WX.length := by omega
              subst this; simp [h7.xL]
      · -- a part comes
        have hwl := h7.wh.wO.len
        rw [List.length_map] at hwl
        refine VIf.mk (fun hz => ?_) (fun hz => ?_)
        · exact ⟨n, x, s8, X8, PL, TL, WX, h7.up⟩
        have hz : 0 < WX.length := by simp at hz; omega
        refine VIx.rec (r := tuR) hT7.1 hm' rfl fun a0 hr0 => VLd.i1 (t := .int .i64) (T[m]).2 (hr0.fld 1 rfl) ?_
        have l1 := h7.len
        have l2 := h7.lp
        have l3 := h7.lt
        have hu : IntKind.wrap .u64 ((wy.len : Nat) : Int) = ((WX.length : Nat) : Int) := by rw [w64u, hwl]; omega
        obtain ⟨c, hcl, hcm⟩ := modu (T[m]).2 WX.length hz (by omega)
        rw [hu, hcm]
        refine VCk.i (by omega) (VSet.i ?_)
        intro w15 hw15
        have e15 := Ext.drew' hw15
        have h15 := h7.ext0 e15
        obtain ⟨j, hj, g1, g2⟩ := h15.pw c (by omega) hcl
        refine VIx.rec (r := intR) h15.wh.pO.in_.1 (show c < PL.length by omega) rfl fun a1 hr1 => VLd.i1 (t := .int .i64) _ hr1 ?_
        refine VIx.rec (r := ptR) h15.wh.wO.in_.1 (show c < (WX.map (·.1)).length by simpa using hcl) rfl fun a2 hr2 => ?_
        rw [List.getElem_map] at hr2
        refine ⟨((WX[c]).1.1 : Sl), ((WX[c]).1.2.1 : Sl), ((WX[c]).1.2.2 : Bool), gd.i hr2, ?_⟩
        rw [g1]
        have hv := (h15.wh.wp _ (List.getElem_mem hcl)).in_
        rw [g2] at hv
        refine VCall.i (Take_wi h15 hsm hj hv) ?_
        rintro e w16 ⟨n', took, s9, X9, rfl, hnn, h16⟩
        refine ⟨((n' : Nat) : Int), (took : Bool), (0 : Int), rfl, VSet.i (VSet.i (VIf.f rfl ?_))⟩
        refine VNw.i fun b17 w17 hb17 hk17 e17 => ?_
        have h17 := h16.ext0 e17
        refine VApp.rec (r := intR) h17.wh.tO h17.wh.e (news := [((n' : Nat) : Int)]) (Seg.of_bk hk17 rfl rfl) rfl rfl (by omega) (by omega) fun l18 w18 hr18 _ e18 hbl18 => ?_
        refine ⟨n', x, s9, X9, PL, _, WX, h17.wh.tlq hr18 hbl18 e18, h16.nle, h16.xL, h16.nx, h16.len, by omega, by simp; omega, h16.pw, ?_⟩
        intro u hu
        rcases List.mem_append.1 hu with hu | hu
        · exact h16.tw u hu
        · exact ⟨n', by simpa using hu, Nat.le_refl _⟩
      · -- what is told comes
        have htl' := h7.wh.tO.len
        have l3 := h7.lt
        refine VIx.rec (r := tuR) hT7.1 hm' rfl fun a0 hr0 => VLd.i1 (t := .int .i64) (T[m]).2 (hr0.fld 1 rfl) ?_
        by_cases hz : 0 < TL.length
        · rw [decide_eq_true (show ((tl.len : Nat) : Int) > 0 by omega)]
          have hu : IntKind.wrap .u64 ((tl.len : Nat) : Int) = ((TL.length : Nat) : Int) := by rw [w64u, htl']; omega
          obtain ⟨c, hcl, hcm⟩ := modu (T[m]).2 TL.length hz (by omega)
          rw [hu, hcm]
          refine VCk.i (by omega) ?_
          obtain ⟨j, g1, g2⟩ := h7.tw _ (List.getElem_mem hcl)
          refine VIx.rec (r := intR) h7.wh.tO.in_.1 hcl rfl fun a1 hr1 => VLd.i1 (t := .int .i64) _ hr1 ?_
          rw [g1]
          refine VCall.on rfl (VCall.i (Told_wi h7 g2) ?_)
          rintro e w19 ⟨x', rfl, h19⟩
          exact exW.i1 (t := .int .i64) 0 rfl (VIf.f rfl ⟨n, x', s8, X8, PL, TL, WX, h19.up⟩)
        · rw [decide_eq_false (show ¬ ((tl.len : Nat) : Int) > 0 by omega)]
          refine ⟨fun h => (by cases h), ⟨0, 0, none⟩, fun h => (by cases h), (0 : Int), fun h => (by cases h), ?_⟩
          exact VCall.off rfl (exW.i1 (t := .int .i64) 0 trivial (VIf.f rfl ⟨n, x, s8, X8, PL, TL, WX, h7.up⟩))
    · rintro pl' tl' wy' now' w20 ⟨n', x', s8', X8', PL', TL', WX', h20⟩
      clear h7 hT7
      have hnle := h20.nle
      have hpm : small (LL.take n') := ⟨by rw [List.length_take]; have := hsm.1; omega, fun p hp => hsm.2 p (List.mem_of_mem_take hp)⟩
      refine VCall.i (Parts_spec w w20 r s8' X8' _ h20.wh.rc hpm) ?_
      rintro e w21 ⟨sp, Z, rfl, hZ', hZp, e21⟩
      refine exW.i1 (t := .sl) sp rfl ?_
      have hZl : Z.length = n' := by have := congrArg List.length hZp; simp [pts] at this; omega
      have hspl := hZ'.len
      have h21 := h20.ext0 e21
      have dg : decide (((sp.len : Nat) : Int) > ((s.len : Nat) : Int)) = false := decide_eq_false (by omega)
      have deq : (((sp.len : Nat) : Int) == ((s.len : Nat) : Int)) = decide (n' = LL.length) := by
        rw [Bool.eq_iff_iff]; simp only [beq_iff_eq, decide_eq_true_eq]; omega
      rw [dg, deq]
      have hlen1 := hsm.1
      refine VCall.on rfl (VCall.i (RDone_spec w w21 r s8' X8' _ h21.wh.rc (by rw [List.length_take]; omega)) ?_)
      rintro e w22 ⟨rfl, e22⟩
      rw [hisE n' hnle]
      refine exW.i1 (t := .bool) _ rfl ?_
      have h22 := h21.ext0 e22
      have bb : (decide (n' = LL.length) == decide (n' = LL.length)) = true := by simp
      rw [bb]
      refine VCall.on rfl (VCall.i (SDone_spec w w22 q s' Y x' h22.wh.sd) ?_)
      rintro e w23 ⟨rfl, e23⟩
      refine exW.i1 (t := .bool) _ rfl ?_
      have h23 := h22.ext0 e23
      have hZ23 := (hZ'.in_.ext0 e22).ext0 e23
      have e2123 := e22.then0 e23
      have loop : ∀ w24, Ext [] w23 w24 → ∃ I4 : Nat → Int → World → Prop, (∃ k, I4 k 0 w24) ∧ ∀ k4 (k_26 : Int) (w25 : World), I4 k4 k_26 w25 →
            VIf (decide (k_26 < ((sp.len : Nat) : Int))) (
              ∀ (w26 : World), w26 = World.drew w25 →
              VIx none sp.base sp.len k_26 fun (a181 : Addr) =>
              VLd none w26 (Addr.add a181 ((Int.toNat k_26) * 3)) [CT.sl, CT.sl, CT.bool] fun (v182_0 : Sl) (v182_1 : Sl) (v182_2 : Bool) =>
              VIx none s.base s.len k_26 fun (a186 : Addr) =>
              VLd none w26 (Addr.add a186 ((Int.toNat k_26) * 3)) [CT.sl, CT.sl, CT.bool] fun (v187_0 : Sl) (v187_1 : Sl) (v187_2 : Bool) =>
              VCall none Try.prog 13 #[.agg #[.slice v182_0.base v182_0.len v182_0.cap, .slice v182_1.base v182_1.len v182_1.cap, .bool v182_2]] w26 (.agg #[.slice none 0 0, .slice none 0 0, .bool false]) fun (r183_0 : Sl) (r183_1 : Sl) (r183_2 : Bool) (w27 : World) =>
              Rd w27 (Addr.add a186 ((Int.toNat k_26) * 3)) [.slice v187_0.base v187_0.len v187_0.cap, .slice v187_1.base v187_1.len v187_1.cap, .bool v187_2] ∧
              VCall none Try.prog 13 #[.agg #[.slice v187_0.base v187_0.len v187_0.cap, .slice v187_1.base v187_1.len v187_1.cap, .bool v187_2]] w27 (.agg #[.slice none 0 0, .slice none 0 0, .bool false]) fun (r188_0 : Sl) (r188_1 : Sl) (r188_2 : Bool) (w28 : World) =>
              VCall none Try.prog 12 #[.agg #[.slice r183_0.base r183_0.len r183_0.cap, .slice r183_1.base r183_1.len r183_1.cap, .bool r183_2], .agg #[.slice r188_0.base r188_0.len r188_0.cap, .slice r188_1.base r188_1.len r188_1.cap, .bool r188_2]] w28 (.bool false) fun (r189 : Bool) (w29 : World) =>
              VIf (!r189) (
                good w (.returned (.bool false)) w29
              ) (
                VSet (IntKind.wrap .i64 (k_26 + 1)) fun (k_26' : Int) =>
                ∃ k', k' < k4 ∧ I4 k' k_26' w29
              )
            ) (∃ (n : Nat) (x : Sd) (s8 : Sl) (X8 : List PX) (PL TL : List Int) (WX : List PX), WI w w5 q r s' s Y X LL (m + 1) n w25 x s8 X8 pl' tl' wy' PL TL WX) := by
        intro w24 e24
        refine ⟨fun k i W => ∃ c : Nat, i = (c : Int) ∧ c ≤ Z.length ∧ k = Z.length - c ∧ Ext [] w23 W, ⟨_, 0, rfl, by omega, rfl, e24⟩, ?_⟩
        rintro k i w25 ⟨c, rfl, hcl, rfl, e25⟩
        have h25 := h23.ext0 e25
        refine VIf.mk (fun hc4 => ?_) (fun hc4 => ⟨n', x', s8', X8', PL', TL', WX', h25⟩)
        have hc' : c < Z.length := by simp at hc4; omega
        intro w26 hw26
        have e26 := e25.then0 (Ext.drew' hw26)
        have hZ26 := hZ23.ext0 e26
        have hX26 := (h23.ext0 e26).wh.xp.in_
        have hcX : c < X.length := by omega
        refine VIx.pt hZ26 hc' rfl fun a1 hr1 => ⟨((Z[c]).1.1 : Sl), ((Z[c]).1.2.1 : Sl), ((Z[c]).1.2.2 : Bool), gd.i hr1, ?_⟩
        refine VIx.pt hX26 hcX rfl fun a2 hr2 => ⟨((X[c]).1.1 : Sl), ((X[c]).1.2.1 : Sl), ((X[c]).1.2.2 : Bool), gd.i hr2, ?_⟩
        refine VCall.i (of_spec (Z[c]).1 w26) ?_
        rintro e w27 ⟨rfl, e27⟩
        refine ⟨((Z[c]).1.1 : Sl), ((Z[c]).1.2.1 : Sl), ((Z[c]).1.2.2 : Bool), rfl, hr2.ext e27 (by simp), ?_⟩
        refine VCall.i (of_spec (X[c]).1 w27) ?_
        rintro e w28 ⟨rfl, e28⟩
        refine ⟨((X[c]).1.1 : Sl), ((X[c]).1.2.1 : Sl), ((X[c]).1.2.2 : Bool), rfl, ?_⟩
        have e2628 := e27.then0 e28
        refine VCall.i (Same_spec (Z[c]).1 (X[c]).1 (Z[c]).2 (X[c]).2 w28 ((hZ26.all _ (List.getElem_mem hc')).ext0 e2628) ((hX26.all _ (List.getElem_mem hcX)).ext0 e2628)) ?_
        rintro e w29 ⟨rfl, e29⟩
        have heq : (Z[c]).2 = (X[c]).2 := by
          have z1 : (Z[c]).2 = (pts Z)[c]'(by simpa [pts] using hc') := by simp [pts]
          have z2 : (X[c]).2 = (pts X)[c]'(by simpa [pts] using hcX) := by simp [pts]
          rw [z1, z2]
          simp only [hZp, hpX, List.getElem_take]
        rw [decide_eq_true heq]
        refine exW.i1 (t := .bool) true rfl (VIf.f rfl ?_)
        rw [w64 (n := (c : Int) + 1) (by omega)]
        exact VSet.i ⟨_, by omega, c + 1, rfl, by omega, rfl, (e26.then0 e2628).then0 e29⟩
      have hxn := h20.nx
      have hxL := h20.xL
      by_cases hd : x'.next = x'.L.length
      · rw [decide_eq_true hd]
        refine VCall.on rfl (VCall.i (RDone_spec w w23 r s8' X8' _ h23.wh.rc (by rw [List.length_take]; omega)) ?_)
        rintro e w24 ⟨rfl, e24⟩
        rw [hisE n' hnle, decide_eq_true (show n' = LL.length by rw [hxL] at hd; omega)]
        exact exW.i1 (t := .bool) true rfl (VIf.f rfl (loop _ e24))
      · rw [decide_eq_false hd]
        refine VCall.off rfl (exW.i1 (t := .bool) false trivial (VIf.f rfl (loop _ (Ext.refl _ _))))
  · -- the end
    have hlen1 := hsm.1
    have hnle := h7.nle
    refine VCall.i (RDone_spec w w7 r s8 X8 _ h7.wh.rc (by rw [List.length_take]; omega)) ?_
    rintro e w31 ⟨rfl, e31⟩
    rw [hisE n hnle]
    refine exW.i1 (t := .bool) _ rfl (VIf.mk (fun hd => ?_) (fun hd => ?_))
    · exact ⟨rfl, h7.wh.e.then0 e31⟩
    have hn : n = LL.length := by simpa using hd
    subst hn
    have h31 := h7.ext0 e31
    refine VCall.i (Parts_spec w w31 r s8 X8 _ h31.wh.rc (hpar h7)) ?_
    rintro e w32 ⟨sp, Z, rfl, hZ, hZp, e32⟩
    rw [List.take_length] at hZp
    have hZl : Z.length = LL.length := by have := congrArg List.length hZp; simpa [pts] using this
    refine exW.i1 (t := .sl) sp rfl ?_
    refine VCall.i (Join_spec sp Z w32 hZ.in_ (by omega) (by rw [hZp, hall.1]; omega) (by rw [hZp, hall.2]; omega)) ?_
    rintro e w33 ⟨ja, jb, rfl, ha, hb, e33⟩
    rw [hZp, hall.1] at ha
    rw [hZp, hall.2] at hb
    refine exW.i2 (t := .sl) (u := .sl) ja jb rfl ?_
    have e3 := (h31.wh.e.then0 e32).then0 e33
    refine VCall.i (Same_spec (ja, jb, false) (a, b, false) ⟨P, Q, false⟩ ⟨P, Q, false⟩ w33 ⟨ha.in_, hb.in_, rfl⟩ ⟨hP.ext0 e3, hQ.ext0 e3, rfl⟩) ?_
    rintro e w34 ⟨rfl, e34⟩
    refine exW.i1 (t := .bool) _ rfl ⟨?_, e3.then0 e34⟩
    rw [decide_eq_true rfl]
end Go.Proofs.Ytoceilgifkncoaa
