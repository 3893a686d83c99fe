/-
  Package hand: the law of names.
-/
import Derived.Test.YtoceilgifkncoaaHandO
namespace Go.Proofs.Ytoceilgifkncoaa
open Go.RowKit
set_option maxRecDepth 100000

theorem HandNames_law (w : World) : Calls Try.prog 7 #[] w (good w) := by
  refine sh_butterylaw23_HandNames_ok _ _ ?_
  unfold sh_butterylaw23_HandNames
  refine VCall.i (works_spec w) ?_
  rintro e w1 ⟨rfl, e1⟩
  refine exW.i1 (t := .bool) true rfl (VIf.f rfl ?_)
  refine VMk.s (n := 1969) rfl rfl (by omega) fun b48 w2 Z1 _ hZ1 k1 e2 => VStr.s k1 hZ1 fun y hy zy => ?_
  refine VNw.i fun hv w3 hhv kh e3 => VSt.bk kh rfl (by simp) fun w4 kh e4 => ?_
  have e24 : Ext [] w2 w4 := e3.then e4 (fun i hi hlt => by simp at hi; omega)
  have kh : Bk w4 hv (lsR.f (lsV y)) 68 := kh
  refine VMk.s (n := 1968) rfl rfl (by omega) fun b52 w5 Z2 _ hZ2 k2 e5 => VStr.s k2 hZ2 fun z hz zz => ?_
  refine VNw.i fun lt w6 hlt kl e6 => VSt.bk kl rfl (by simp) fun w7 kl e7 => ?_
  have e57 : Ext [] w5 w7 := e6.then e7 (fun i hi hlt => by simp at hi; omega)
  have kl : Bk w7 lt (lsR.f (lsV z)) 68 := kl
  have kh := (kh.ext e5).ext e57
  have ew7 := (((e1.then0 e2).then0 e24).then0 e5).then0 e57
  refine ⟨(0 : Int), (0 : Int), (0 : Int), (false : Bool), (y : ByteArray), gd.i (Rd.of_bk kh rfl), ?_⟩
  refine ⟨(0 : Int), (0 : Int), (0 : Int), (false : Bool), (z : ByteArray), gd.i (Rd.of_bk kl rfl), ?_⟩
  refine VNw.i fun b58 w8 _ k58 e8 => ?_
  refine Cut_len (n := 2) (Q := [lsV y, lsV z]) (w0 := w) k58 rfl (by omega) (cut_heavy zy zz) fun s1 w9 l1 e9 => ?_
  have kl9 := (kl.ext e8).ext e9
  have ew9 := (ew7.then0 e8).then0 e9
  rw [l1]
  refine ⟨(0 : Int), (0 : Int), (0 : Int), (false : Bool), (z : ByteArray), gd.i (Rd.of_bk kl9 rfl), ?_⟩
  refine ⟨(0 : Int), (0 : Int), (0 : Int), (false : Bool), (z : ByteArray), gd.i (Rd.of_bk kl9 rfl), ?_⟩
  refine VNw.on rfl (VNw.i fun b65 w10 _ k65 e10 => ?_)
  refine VCall.on rfl (Cut_len (n := 2) (Q := [lsV z, lsV z]) (w0 := w) k65 rfl (by omega) (cut_light zz zz) fun s2 w11 l2 e11 => ?_)
  have ew11 := (ew9.then0 e10).then0 e11
  rw [l2]
  refine VMk.on rfl (VMk.i (by omega) (by omega) (by omega) (by omega) fun b71 w12 _ k71 e12 => ?_)
  have k71 := Bk.made lsR lsZ (n := 4) rfl (k := 5) rfl k71
  refine VCall.on rfl (Cut_len (n := 4) (Q := List.replicate 4 lsZ) (w0 := w) k71 rfl (by omega) cut_4 fun s3 w13 l3 e13 => ?_)
  have ew13 := (ew11.then0 e12).then0 e13
  rw [l3]
  refine VMk.on rfl (VMk.i (by omega) (by omega) (by omega) (by omega) fun b77 w14 _ k77 e14 => ?_)
  have k77 := Bk.made lsR lsZ (n := 5) rfl (k := 5) rfl k77
  refine VCall.on rfl (Cut_len (n := 5) (Q := List.replicate 5 lsZ) (w0 := w) k77 rfl (by omega) cut_5 fun s4 w15 l4 e15 => ?_)
  have ew15 := (ew13.then0 e14).then0 e15
  rw [l4]
  refine VIf.f rfl ?_
  refine VCall.i (Cut_spec ⟨none, 0, 0⟩ ⟨none, 0, 0⟩ [] [] w15 (InR.nil w15) (InR.nil w15) (by simp)) ?_
  rintro e w16 ⟨se, X, rfl, hX, hp, _, e16⟩
  have ew16 := ew15.then0 e16
  rw [cut_0] at hp
  refine exW.i1 (t := .sl) se rfl ?_
  have hXl : X.length = 1 := by have := congrArg List.length hp; simpa [pts] using this
  have hsl : se.len = 1 := by rw [hX.len, hXl]
  have p0 : (X[0]'(by omega)).2 = ⟨[], [], true⟩ := by
    have : (pts X)[0]'(by simp [pts]; omega) = ([⟨[], [], true⟩] : List Pt)[0]'(by simp) := by simp only [hp]
    simpa [pts] using this
  refine VCall.i (New_no ⟨none, 0, 0⟩ 4 w16 (.inl rfl)) ?_
  rintro e w17 ⟨rfl, hw⟩
  subst hw
  refine exW.i2 (t := .ptr) (u := .int .i64) none 1 rfl (VSet.i ?_)
  refine VCall.i (New_no se 0 w17 (.inr (.inl (by omega)))) ?_
  rintro e w18 ⟨rfl, hw⟩
  subst hw
  refine exW.i2 (t := .ptr) (u := .int .i64) none 1 rfl (VSet.i ?_)
  refine VCall.i (New_no se 1001 w18 (.inr (.inr (by omega)))) ?_
  rintro e w19 ⟨rfl, hw⟩
  subst hw
  refine exW.i2 (t := .ptr) (u := .int .i64) none 1 rfl (VSet.i ?_)
  refine VCall.i (two_spec w19) ?_
  rintro e w20 ⟨s2p, X2, y2, z2, rfl, hX2, hp2, e20⟩
  refine exW.i1 (t := .sl) s2p rfl ?_
  have ew20 := ew16.then0 e20
  have hX2l : X2.length = 2 := by have := congrArg List.length hp2; simpa [pts, twoL] using this
  refine VCall.i (New_spec s2p X2 1000 w20 hX2.in_ (by rw [hp2]; exact twoL_small _ _) (by omega) (by omega)) ?_
  rintro e w21 ⟨q, s', Y, rfl, h21', e21⟩
  have h21 := h21'.mono (w0 := w) ew20.size
  rw [hp2] at h21
  have ew21 := ew20.then0 e21
  refine exW.i2 (t := .ptr) (u := .int .i64) (some ⟨q, 0, none⟩) 0 rfl (VSet.i ?_)
  have hXI : ∀ {W : World}, Ext [] w19 W → PtsIn W se X := fun e => hX.in_.ext0 e
  have a0 : ∀ {W : World} {a : Addr}, Rd W (a.add (0 * 3)) (ptR.f (X[0]'(by omega)).1) → Rd W a (ptR.f (X[0]'(by omega)).1) := fun h => by rw [Nat.zero_mul, add_zero] at h; exact h
  have b0 : (X[0]'(by omega)).1.2.2 = true := by rw [(hX.in_.all _ (List.getElem_mem (show 0 < X.length by omega))).last, p0]
  have e1621 := e20.then0 e21
  refine VIx.pt (hXI e1621) (m := 0) (by omega) rfl fun a hr => VLd.i1 (t := .bool) (X[0]'(by omega)).1.2.2 ((a0 hr).fld 2 rfl) ?_
  have hse : (⟨se.base, 1, se.cap⟩ : Sl) = se := by rw [← hsl]
  have hXJ : ∀ {W : World}, Ext [] w19 W → PtsIn W ⟨se.base, 1, se.cap⟩ X := fun e => by rw [hse]; exact hXI e
  rw [b0, hsl]
  refine VCall.on rfl (VCall.i (Told_spec w w21 q s' Y _ 3 h21) ?_)
  rintro e w22 ⟨rfl, h22, e22⟩
  rw [if_neg (by simp [twoL])]
  have t3 : Sd.told ⟨twoL y2 z2, 1000, 0, false, 0⟩ 3 = ⟨twoL y2 z2, 1000, 0, false, 0⟩ := by unfold Sd.told; rw [if_neg (by simp [twoL])]
  rw [show (Sd.told _ 3 : Sd) = _ from t3] at h22
  refine exW.i1 (t := .int .i64) 1 rfl (VCall.on rfl (VCall.i (Told_spec w w22 q s' Y _ (-1) h22) ?_))
  rintro e w23 ⟨rfl, h23, e23⟩
  rw [if_neg (by simp)]
  have t4 : Sd.told ⟨twoL y2 z2, 1000, 0, false, 0⟩ (-1) = ⟨twoL y2 z2, 1000, 0, false, 0⟩ := by unfold Sd.told; rw [if_neg (by simp)]
  rw [show (Sd.told _ (-1) : Sd) = _ from t4] at h23
  refine exW.i1 (t := .int .i64) 1 rfl (VCall.on rfl (VCall.i (Told_spec w w23 q s' Y _ 1 h23) ?_))
  rintro e w24 ⟨rfl, h24, e24⟩
  rw [if_pos (by simp [twoL])]
  have t5 : Sd.told ⟨twoL y2 z2, 1000, 0, false, 0⟩ 1 = ⟨twoL y2 z2, 1000, 1, false, 0⟩ := by unfold Sd.told; rw [if_pos (by simp [twoL])]; rfl
  rw [show (Sd.told _ 1 : Sd) = _ from t5] at h24
  refine exW.i1 (t := .int .i64) 0 rfl (VCall.on rfl (VCall.i (Told_spec w w24 q s' Y _ 0 h24) ?_))
  rintro e w25 ⟨rfl, h25, e25⟩
  rw [if_pos (by simp)]
  have t6 : Sd.told ⟨twoL y2 z2, 1000, 1, false, 0⟩ 0 = ⟨twoL y2 z2, 1000, 1, false, 0⟩ := by unfold Sd.told; rw [if_neg (by simp)]
  rw [show (Sd.told _ 0 : Sd) = _ from t6] at h25
  refine exW.i1 (t := .int .i64) 0 rfl (VIf.f rfl ?_)
  have hqge : w20.heap.size ≤ q := h21'.ge
  have kq : ∀ {W W' : World}, Ext [] w20 W → Ext [q] W W' → Ext [] w20 W' := fun a b => a.then b (fun i hi hlt => by simp at hi; omega)
  have e2025 := kq (kq (kq (kq e21 e22) e23) e24) e25
  refine Due_i (p := ⟨[pB z2, pC], [lA], true⟩) h25 (by unfold Sd.idle; simp [twoL]) (fun _ => rfl) fun v w26 _ h26 e26 => ?_
  have e2026 := kq e2025 e26
  refine VVar (v := v) fun b13 w28 _ _ e28 => ?_
  have e2028 := e2026.then0 e28
  have e1928 := e20.then0 e2028
  refine VCall.i (NewReceiver_spec w28) ?_
  rintro e w29 ⟨r, rfl, hr29, e29⟩
  have e1929 := e1928.then0 e29
  refine exW.i1 (t := .ptr) (some ⟨r, 0, none⟩) rfl ?_
  have vI : ∀ {W : World}, Ext [] w19 W → PtIn W (X[0]'(by omega)).1 ⟨[], [], true⟩ := fun e => by
    have := (hXI e).all _ (List.getElem_mem (show 0 < X.length by omega))
    rw [p0] at this; exact this
  have z28 := e1928.size
  have kr : ∀ {W W' : World}, Ext [] w19 W → Ext [r] W W' → Ext [] w19 W' := fun a b => a.then b (fun i hi hlt => by simp at hi; have := hr29.ge; omega)
  refine VIx.pt (hXJ e1929) (m := 0) (by omega) rfl fun a hr => ?_
  refine ⟨((X[0]'(by omega)).1.1 : Sl), ((X[0]'(by omega)).1.2.1 : Sl), ((X[0]'(by omega)).1.2.2 : Bool), gd.i (a0 hr), ?_⟩
  refine VCall.i (Take_spec w28 w29 r ⟨none, 0, 0⟩ [] [] 1 (X[0]'(by omega)).1 ⟨[], [], true⟩ hr29 e29 (by simp) (vI e1929) (by omega) (by simp) (by simp)) ?_
  rintro e w30 (⟨_, rfl, e30⟩ | ⟨hf, _⟩)
  rotate_left
  · cases hf
  refine ⟨((([] : List Pt).length : Nat) : Int), (false : Bool), (0 : Int), rfl, VSet.i (VSet.i ?_)⟩
  have e1930 := e1929.then0 e30
  refine VIx.pt (hXJ e1930) (m := 0) (by omega) rfl fun a hr => ?_
  refine ⟨((X[0]'(by omega)).1.1 : Sl), ((X[0]'(by omega)).1.2.1 : Sl), ((X[0]'(by omega)).1.2.2 : Bool), gd.i (a0 hr), ?_⟩
  refine VCall.i (Take_spec w28 w30 r ⟨none, 0, 0⟩ [] [] 0 (X[0]'(by omega)).1 ⟨[], [], true⟩ (hr29.ext0 e30) (e29.then0 e30) (by simp) (vI e1930) (by omega) (by simp) (by simp)) ?_
  rintro e w31 (⟨hf, _⟩ | ⟨_, rfl, ⟨s8, X8, h31, _⟩, e31⟩)
  · cases hf
  have e31 : Ext [r] w30 w31 := e31.mono fun b hb _ => by simpa [rowB] using hb
  have e1931 := kr e1930 e31
  have e2831 : Ext [] w28 w31 := (e29.then0 e30).then e31 (fun i hi hlt => by simp at hi; have := hr29.ge; omega)
  refine ⟨((([] : List Pt).length : Nat) : Int) + 1, (true : Bool), (0 : Int), rfl, VSet.i (VSet.i ?_)⟩
  refine VIx.pt (hXJ e1931) (m := 0) (by omega) rfl fun a hr => ?_
  refine ⟨((X[0]'(by omega)).1.1 : Sl), ((X[0]'(by omega)).1.2.1 : Sl), ((X[0]'(by omega)).1.2.2 : Bool), gd.i (a0 hr), ?_⟩
  refine VCall.i (Take_spec w28 w31 r s8 X8 _ 1 (X[0]'(by omega)).1 ⟨[], [], true⟩ h31 e2831 (by simp) (vI e1931) (by omega) (by simp) (by simp)) ?_
  rintro e w32 (⟨_, rfl, e32⟩ | ⟨hf, _⟩)
  rotate_left
  · cases hf
  refine ⟨(((([] : List Pt) ++ [(⟨[], [], true⟩ : Pt)]).length : Nat) : Int), (false : Bool), (0 : Int), rfl, VSet.i (VSet.i ?_)⟩
  have e1932 := e1931.then0 e32
  refine VIx.pt (hXJ e1932) (m := 0) (by omega) rfl fun a hr => ?_
  refine ⟨((X[0]'(by omega)).1.1 : Sl), ((X[0]'(by omega)).1.2.1 : Sl), ((X[0]'(by omega)).1.2.2 : Bool), gd.i (a0 hr), ?_⟩
  refine VCall.i (Take_neg r (-1) (by omega) (X[0]'(by omega)).1 w32) ?_
  rintro e w33 ⟨rfl, e33⟩
  refine ⟨(0 : Int), (false : Bool), (1 : Int), rfl, VSet.i (VSet.i ?_)⟩
  refine VCall.i (Due_nil 0 w33) ?_
  rintro e w34 ⟨rfl, e34⟩
  refine ⟨(0 : Int), (⟨none, 0, 0⟩ : Sl), (⟨none, 0, 0⟩ : Sl), (false : Bool), (false : Bool), rfl, ?_⟩
  refine VVar (v := (⟨none, 0, 0⟩, ⟨none, 0, 0⟩, false)) fun b31 w36 _ _ e36 => ?_
  have e3236 := (e33.then0 e34).then0 e36
  have e1936 := e1932.then0 e3236
  refine VIx.pt (hXJ e1936) (m := 0) (by omega) rfl fun a hr => ?_
  refine ⟨((X[0]'(by omega)).1.1 : Sl), ((X[0]'(by omega)).1.2.1 : Sl), ((X[0]'(by omega)).1.2.2 : Bool), gd.i (a0 hr), ?_⟩
  refine VCall.i (Take_nil 0 (X[0]'(by omega)).1 w36) ?_
  rintro e w37 ⟨rfl, e37⟩
  refine ⟨(0 : Int), (false : Bool), (2 : Int), rfl, VSet.i (VSet.i ?_)⟩
  have h37 := ((h31.ext0 e32).ext0 e3236).ext0 e37
  refine VCall.on rfl (VCall.i (RDone_spec w28 w37 r s8 X8 _ h37 (by simp)) ?_)
  rintro e w38 ⟨rfl, e38⟩
  refine exW.i1 (t := .bool) true rfl ?_
  refine VCall.on rfl (VCall.i (Parts_spec w28 w38 r s8 X8 _ (h37.ext0 e38) (by simp [small])) ?_)
  rintro e w39 ⟨sp, Yp, rfl, hYp, hYq, e39⟩
  have hspl : sp.len = 1 := by rw [hYp.len]; have := congrArg List.length hYq; simpa [pts] using this
  refine exW.i1 (t := .sl) sp rfl ?_
  rw [hspl]
  refine VCall.on rfl (VCall.i (Told_nil 0 w39) ?_)
  rintro e w40 ⟨rfl, hw⟩
  subst hw
  refine exW.i1 (t := .int .i64) 2 rfl (VCall.on rfl (VCall.i (SDone_nil _) ?_))
  rintro e w41 ⟨rfl, e41⟩
  refine exW.i1 (t := .bool) false rfl (VCall.on rfl (VCall.i (RDone_nil _) ?_))
  rintro e w42 ⟨rfl, hw⟩
  subst hw
  refine exW.i1 (t := .bool) false rfl (VCall.on rfl (VCall.i (Parts_nil _) ?_))
  rintro e w43 ⟨rfl, hw⟩
  subst hw
  exact exW.i1 (t := .sl) ⟨none, 0, 0⟩ rfl ⟨rfl, ((((ew16.then0 e1936).then0 e37).then0 e38).then0 e39).then0 e41⟩
end Go.Proofs.Ytoceilgifkncoaa
