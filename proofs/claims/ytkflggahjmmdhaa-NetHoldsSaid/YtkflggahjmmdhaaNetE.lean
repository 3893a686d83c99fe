/-
  Package net: the law of plays.
-/
import Derived.Test.YtkflggahjmmdhaaNetD
namespace Go.Proofs.Ytkflggahjmmdhaa
open Go.RowKit
set_option maxRecDepth 100000

/-- the net and the document's, alike -/
structure IP (w W : World) (q q' : Nat) (s s' : Sl) (N : NM) : Prop where
  n : NetO 58 35 w W q s N
  x : NetO 54 48 w W q' s' N
  e : Ext [] w W
theorem IP.ap {w W : World} {q q' : Nat} {s s' : Sl} {N N' : NM} (h : NetO 58 35 w W q s N) (k : NetO 54 48 w W q' s' N') : ∀ b ∈ fp q s, b ∉ fp q' s' := h.sep k (by decide) (by decide) (by decide) (by decide)
theorem IP.ext0 {w W W' : World} {q q' : Nat} {s s' : Sl} {N : NM} (h : IP w W q q' s s' N) (e : Ext [] W W') : IP w W' q q' s s' N := ⟨h.n.ext0 e, h.x.ext0 e, h.e.then0 e⟩
/-- new blocks are written over -/
theorem IP.extF {w W W' : World} {q q' : Nat} {s s' : Sl} {N : NM} {M : List Nat} (h : IP w W q q' s s' N) (e : Ext M W W') (hm : ∀ b ∈ M, b ∉ fp q s ∧ b ∉ fp q' s' ∧ w.heap.size ≤ b) : IP w W' q q' s s' N :=
  ⟨h.n.ext e (fun b hb hb' => (hm b hb').1 hb), h.x.ext e (fun b hb hb' => (hm b hb').2.1 hb), h.e.then e (fun i hi hlt => by have := (hm i hi).2.2; omega)⟩
theorem IP.new {w W W' : World} {q q' : Nat} {s s' : Sl} {N : NM} {M : List Nat} (h : IP w W q q' s s' N) (e : Ext M W W') (hm : ∀ b ∈ M, W.heap.size ≤ b) : IP w W' q q' s s' N :=
  h.extF e fun b hb => ⟨fun hx => by have := h.n.lt b hx; have := hm b hb; omega, fun hx => by have := h.x.lt b hx; have := hm b hb; omega, by have := hm b hb; have := h.e.size; omega⟩
/-- a call that changes both -/
theorem IP.both {w W W1 W2 : World} {q q' : Nat} {s s' : Sl} {N N' : NM} (h : IP w W q q' s s' N) (a : After 58 35 w W W1 q s N') :
    (NetO 54 48 w W1 q' s' N ∧ Ext [] w W1) := by
  obtain ⟨s1, h1, e1, a1, n1⟩ := a.all h.n h.e
  exact ⟨h.x.ext a1 (fun b hb hb' => IP.ap h.n h.x b hb' hb), e1⟩
theorem IP.both2 {w W W1 W2 : World} {q q' : Nat} {s s' : Sl} {N N' : NM} (h : IP w W q q' s s' N) (a : After 58 35 w W W1 q s N') (W1' : World) (e11 : Ext [] W1 W1') (b : After 54 48 w W1' W2 q' s' N') :
    ∃ s1 s2, IP w W2 q q' s1 s2 N' ∧ ∀ x, x ∉ fp q s → x ∉ fp q' s' → x < W.heap.size → x ∉ fp q s1 ∧ x ∉ fp q' s2 := by
  obtain ⟨s1, h1, e1, a1, n1⟩ := a.all h.n h.e
  obtain ⟨k, _⟩ := h.both (W2 := W2) a
  obtain ⟨s2, h2, e2, a2, n2⟩ := b.all (k.ext0 e11) (e1.then0 e11)
  refine ⟨s1, s2, ⟨(h1.ext0 e11).ext a2 (fun b hb hb' => IP.ap h1 k b hb hb'), h2, e2⟩, fun x hx hx' hlt => ⟨n1 x hx hlt, n2 x hx' ?_⟩⟩
  have := a1.size; have := e11.size; omega
theorem fresh_not {w W : World} {q q' : Nat} {s s' : Sl} {N : NM} (h : IP w W q q' s s' N) {b : Nat} (hb : W.heap.size ≤ b) : b ∉ fp q s ∧ b ∉ fp q' s' :=
  ⟨fun hx => by have := h.n.lt b hx; omega, fun hx => by have := h.x.lt b hx; omega⟩
theorem addN {x : Addr} : Addr.add x 0 = x := add_zero x
theorem has_dec (N : NM) (i : Int) : N.has i = (decide (i ≥ 0) && decide (i < ((N.L.length : Nat) : Int))) := by
  unfold NM.has; rw [Bool.eq_iff_iff]; simp
theorem look_no {N : NM} {i : Int} (h : N.has i = false) : N.look i = pk0 := by unfold NM.look; rw [h]; rfl
def spk : ByteArray := ByteArray.mk #[115, 112, 111, 105, 108, 116]

theorem NetPlays_law (most : Int) (s : Sl) (L : List Stp) (w : World) (h : InR stR w s L) (hL : ∀ x ∈ L, x.data.size ≤ 9223372036854775807) :
    Calls Try.prog 5 #[.int .i64 most, .slice s.base s.len s.cap] w (good w) := by
  refine sh_butterylaw10_NetPlays_ok _ _ _ _ ?_
  unfold sh_butterylaw10_NetPlays
  have hn := h.len
  have hcap := h.2
  by_cases hm : 0 ≤ most ∧ most ≤ 1000
  case neg =>
    refine VCall.i (New_no hm w) ?_
    rintro e w1 ⟨rfl, e1⟩
    refine exW.i2 (t := .ptr) (u := .int .i64) none 1 rfl (VSet.i ?_)
    refine VCall.i (XNew_spec most w1) ?_
    intro e w2 he
    rw [if_pos (by omega)] at he
    obtain ⟨rfl, e2⟩ := he
    refine exW.i2 (t := .ptr) (u := .int .i64) none 1 rfl (VSet.i (VIf.f rfl ?_))
    refine ⟨fun k n i W => W = w2, ⟨0, rfl⟩, ?_⟩
    rintro k n i w3 rfl
    refine VIf.f (by simp) ?_
    refine VCall.i (awake_spec w3) ?_
    rintro e w4 ⟨rfl, e4⟩
    exact exW.i1 (t := .bool) true rfl ⟨rfl, (e1.then0 e2).then0 e4⟩
  refine VCall.i (New_ok hm w) ?_
  rintro e w1 ⟨q, rfl, h1, e1⟩
  refine exW.i2 (t := .ptr) (u := .int .i64) (some ⟨q, 0, none⟩) 0 rfl (VSet.i ?_)
  refine VCall.i (XNew_spec most w1) ?_
  intro e w2 he
  rw [if_neg (by omega)] at he
  obtain ⟨q', rfl, h2, e2⟩ := he
  have I2 : IP w w2 q q' ⟨none, 0, 0⟩ ⟨none, 0, 0⟩ ⟨most, 0, []⟩ := ⟨h1.ext0 e2, ⟨h2.bk, h2.row.mono e1.size, Nat.le_trans e1.size h2.ge, h2.m0, h2.m1, h2.len, h2.te⟩, e1.then0 e2⟩
  clear h1 h2 e1 e2
  refine exW.i2 (t := .ptr) (u := .int .i64) (some ⟨q', 0, none⟩) 0 rfl (VSet.i (VIf.f rfl ?_))
  refine ⟨fun k n i W => ∃ (j q : Nat) (s1 s2 : Sl) (N : NM), n = some ⟨q, 0, none⟩ ∧ i = (j : Int) ∧ j ≤ L.length ∧ k = L.length - j ∧ IP w W q q' s1 s2 N, ⟨_, 0, q, _, _, _, rfl, rfl, by omega, rfl, I2⟩, ?_⟩
  clear I2 q
  rintro k n i w3 ⟨j, q, s1, s2, N, rfl, rfl, hj, rfl, I3⟩
  refine VIf.mk (fun hc => ?_) (fun hc => ?_)
  case refine_2 =>
    refine VCall.i (awake_spec w3) ?_
    rintro e w4 ⟨rfl, e4⟩
    exact exW.i1 (t := .bool) true rfl ⟨rfl, I3.e.then0 e4⟩
  have hj' : j < L.length := by simp at hc; omega
  obtain ⟨ad, had, hrd⟩ := (h.1.ext0 I3.e).rec_at hj'
  rw [had]
  refine VIx.i (by omega) (by omega) ?_
  have hSd := hL _ (List.getElem_mem hj')
  generalize L[j] = S at hrd hSd
  refine ⟨(S.kind : Int), (S.from_ : Int), (S.to : Int), S.data, (S.n : Int), hrd, ?_⟩
  refine VNw.i fun b4 w4 hb4 hk4 e4 => ?_
  refine VSt.bk hk4 rfl (by simp) fun w5 hk5 e5 => ?_
  have e35 : Ext [] w3 w5 := e4.then e5 (fun i hi hlt => by simp at hi; omega)
  have I5 := I3.ext0 e35
  have f5 := fresh_not I3 (b := b4) (by omega)
  have hk5 : Bk w5 b4 [.int .u8 S.kind, .int .i64 S.from_, .int .i64 S.to, .string S.data, .int .i64 S.n] 31 := hk5
  have hb5 := hk5.lt
  clear e4 hk4 hrd had ad
  refine VLd.i1 _ (Rd.of_bk hk5 rfl) ?_
  refine ⟨fun n ok W => ok = true ∧ ∃ (q : Nat) (s1 s2 : Sl) (N : NM), n = some ⟨q, 0, none⟩ ∧ IP w W q q' s1 s2 N, ?_, ?_⟩
  · refine VIf.mk (fun hk0 => ?_) (fun hk0 => ?_)
    · -- send
      refine VLd.i1 _ (Rd.of_bk hk5 rfl) ?_
      refine VBytes.i fun b c w6 hb6 hk6 e6 hc6 => ?_
      intro w7 hw7
      have e67 := Ext.drew' hw7
      have e57 := e6.then0 e67
      have I7 := I5.ext0 e57
      have hk7 := hk5.ext e57
      have hkb7 := hk6.ext e67
      refine VLd.i1 _ (Rd.of_bk hk7 rfl) (VLd.i1 _ (Rd.of_bk hk7 rfl) (VLd.i1 _ (Rd.of_bk hk7 rfl) (VLd.i1 _ (Rd.of_bk hk7 rfl) (VLd.i1 _ (Rd.of_bk hk7 rfl) ?_))))
      have hsz : S.data.size = S.data.data.toList.length := by
        show S.data.data.size = _; simp
      rw [bc_str] at hkb7
      have hseg : Seg w7 (some ⟨b, 0, none⟩) S.data.size 1 (bc S.data.data.toList) := Seg.of_bk hkb7 (by simp) (by rw [bc_len, hsz]; simp)
      refine VCall.i (Send_spec w w7 q s1 ⟨some ⟨b, 0, none⟩, S.data.size, c⟩ N S.from_ S.to S.data.data.toList I7.e I7.n hseg) ?_
      rintro e w8 ⟨rfl, ha⟩
      rw [ba_eta] at ha ⊢
      obtain ⟨s1', h8, e8, ea8, na8⟩ := ha.all I7.n I7.e
      have hk8 : Bk w8 b4 _ _ := hk7.ext ea8 f5.1
      have fb : b ∉ fp q s1 ∧ b ∉ fp q' s2 := fresh_not I5 (by omega)
      have hkb8 := hkb7.ext ea8 fb.1
      refine exW.i1 (t := .int .i64) _ rfl ⟨Rd.of_bk hk8 rfl, Rd.of_bk hk8 rfl, Rd.of_bk hk8 rfl, ?_⟩
      obtain ⟨kx8, ex8⟩ := I7.both (W2 := w8) ha
      refine VCall.i (XSend_spec w w8 q' s2 N S.from_ S.to S.data ex8 kx8) ?_
      rintro e w9 ⟨rfl, hb⟩
      have hb' := hb
      obtain ⟨s2', _, _, ea9, na9⟩ := hb.all kx8 ex8
      obtain ⟨t1, t2, I9, nn9⟩ := I7.both2 ha w8 (Ext.refl _ _) hb'
      have hkb9 := hkb8.ext ea9 fb.2
      have fb9 := nn9 b fb.1 fb.2 hkb7.lt
      refine exW.i1 (t := .int .i64) _ rfl ?_
      have hbw : w.heap.size ≤ b := by have := I5.e.size; omega
      refine ⟨fun k i W => ∃ (m : Nat) (cs : List UInt8), i = (m : Int) ∧ m ≤ S.data.size ∧ k = S.data.size - m ∧ cs.length = S.data.data.toList.length ∧ Bk W b (bc cs ++ List.replicate (c - S.data.size) (Value.int .u8 0)) 5 ∧ Ext [b] w9 W,
        ⟨_, 0, _, rfl, by omega, rfl, rfl, hkb9, Ext.refl _ _⟩, ?_⟩
      rintro k i w10 ⟨m, cs, rfl, hm10, rfl, hcl, hk10, e10⟩
      refine VIf.mk (fun hc => ?_) (fun hc => ?_)
      · have hms : m < S.data.size := by simpa using hc
        refine VIx.i (by omega) (by omega) ?_
        simp only [add_blk, Int.toNat_natCast, Nat.zero_add, Nat.mul_one]
        refine VSt.bk hk10 rfl (by simp [bc_len]; omega) fun w11 hk11 e11 => ?_
        have hstr : S.data.data.size = S.data.size := rfl
        rw [w64 (n := (m : Int) + 1) (by omega)]
        refine VSet.i ⟨_, by omega, m + 1, cs.set m 0x55, by omega, by omega, rfl, by rw [List.length_set]; exact hcl, ?_, e10.then e11 (fun i hi _ => hi)⟩
        have hset : (bc cs ++ List.replicate (c - S.data.size) (Value.int .u8 0)).take m ++ [Value.int .u8 85] ++ (bc cs ++ List.replicate (c - S.data.size) (Value.int .u8 0)).drop (m + [Value.int .u8 85].length) = bc (cs.set m 0x55) ++ List.replicate (c - S.data.size) (Value.int .u8 0) := by
          rw [List.take_append_of_le_length (by rw [bc_len]; omega), List.drop_append_of_le_length (by rw [bc_len]; simp; omega), bc_take, bc_drop]
          rw [List.set_eq_take_append_cons_drop, if_pos (by omega)]
          simp [bc]
        rw [hset] at hk11
        exact hk11
      · exact ⟨by simp, q, t1, t2, _, rfl, I9.extF e10 (fun x hx => by simp at hx; subst hx; exact ⟨fb9.1, fb9.2, hbw⟩)⟩
    refine VIf.mk (fun hk1 => ?_) (fun hk1 => ?_)
    · -- take
      refine VLd.i1 _ (Rd.of_bk hk5 rfl) ?_
      refine VCall.i (Take_spec w w5 q s1 N S.n I5.e I5.n) ?_
      rintro e w6 ⟨rfl, ha⟩
      obtain ⟨s1', h6, e6, ea6, na6⟩ := ha.all I5.n I5.e
      have hk6 : Bk w6 b4 _ _ := hk5.ext ea6 f5.1
      refine exW.i4 (t := .int .i64) (u := .int .i64) (v := .str) (q := .bool) _ _ _ _ rfl ?_
      refine VNw.i fun b7 w7 hb7 hk7 e7 => ?_
      refine VSt.bk hk7 rfl (by simp) fun w8 hk8 e8 => ?_
      have e68 : Ext [] w6 w8 := e7.then e8 (fun i hi hlt => by simp at hi; omega)
      refine VLd.i1 _ (Rd.of_bk (hk6.ext e68) rfl) ?_
      obtain ⟨kx6, ex6⟩ := I5.both (W2 := w6) ha
      refine VCall.i (XTake_spec w w8 q' s2 N S.n (ex6.then0 e68) (kx6.ext0 e68)) ?_
      rintro e w9 ⟨rfl, hb⟩
      have hb' := hb
      obtain ⟨s2', _, _, ea9, na9⟩ := hb.all (kx6.ext0 e68) (ex6.then0 e68)
      obtain ⟨t1, t2, I9, nn9⟩ := I5.both2 ha w8 e68 hb'
      have hk9 := hk8.ext ea9 (fun hx => by have := kx6.lt b7 hx; omega)
      refine exW.i4 (t := .int .i64) (u := .int .i64) (v := .str) (q := .bool) _ _ _ _ rfl ?_
      refine VNw.i fun b10 w10 hb10 hk10 e10 => ?_
      refine VSt.bk hk10 rfl (by simp) fun w11 hk11 e11 => ?_
      have e911 : Ext [] w9 w11 := e10.then e11 (fun i hi hlt => by simp at hi; omega)
      have I11 := I9.ext0 e911
      refine VLd.i3 _ _ _ (Rd.of_bk (hk9.ext e911) rfl) ?_
      refine VNw.on (by simp) (VNw.i fun b12 w12 hb12 hk12 e12 => ?_)
      refine VLd.i3 _ _ _ (Rd.of_bk (hk11.ext e12) rfl) ?_
      refine VNw.on (by simp) (VNw.i fun b13 w13 hb13 hk13 e13 => ?_)
      refine VCall.on (by simp) (VCall.i (told_spec ⟨some ⟨b12, 0, none⟩, 1, 1⟩ ⟨some ⟨b13, 0, none⟩, 1, 1⟩ [N.look S.n] [N.look S.n] w13 (Seg.of_bk (hk12.ext e13) rfl rfl) (Seg.of_bk hk13 rfl rfl) (by simp)) ?_)
      rintro e w14 ⟨r, rfl, hr, e14⟩
      refine exW.i1 (t := .bool) r rfl ⟨?_, q, t1, t2, _, rfl, I11.ext0 ((e12.then0 e13).then0 e14)⟩
      rw [hr.2 rfl]; simp
    refine VIf.mk (fun hk2 => ?_) (fun hk2 => ?_)
    · -- double
      intro w6 hw6
      have e56 := Ext.drew' hw6
      have I6 := I5.ext0 e56
      have hk6 := hk5.ext e56
      refine VLd.i1 _ (Rd.of_bk hk6 rfl) (VLd.i1 _ (Rd.of_bk hk6 rfl) ?_)
      refine VCall.i (Double_spec w w6 q s1 N S.n I6.e I6.n) ?_
      rintro e w7 ⟨rfl, ha⟩
      obtain ⟨s1', h7, e7, ea7, na7⟩ := ha.all I6.n I6.e
      have hk7 : Bk w7 b4 _ _ := hk6.ext ea7 f5.1
      refine exW.i1 (t := .int .i64) _ rfl ⟨Rd.of_bk hk7 rfl, ?_⟩
      obtain ⟨kx7, ex7⟩ := I6.both (W2 := w7) ha
      refine VCall.i (XDouble_spec w w7 q' s2 N S.n ex7 kx7) ?_
      rintro e w8 ⟨rfl, hb⟩
      obtain ⟨t1, t2, I8, nn8⟩ := I6.both2 ha w7 (Ext.refl _ _) hb
      exact exW.i1 (t := .int .i64) _ rfl ⟨by simp, q, t1, t2, _, rfl, I8⟩
    refine VIf.mk (fun hk3 => ?_) (fun hk3 => ?_)
    · -- look
      refine VLd.i1 _ (Rd.of_bk hk5 rfl) ?_
      refine VCall.i (Look_spec w w5 q s1 N S.n I5.n) ?_
      rintro e w6 ⟨rfl, e6⟩
      refine exW.i4 (t := .int .i64) (u := .int .i64) (v := .str) (q := .bool) _ _ _ _ rfl ?_
      refine VNw.i fun b7 w7 hb7 hk7 e7 => ?_
      refine VSt.bk hk7 rfl (by simp) fun w8 hk8 e8 => ?_
      have e68 : Ext [] w6 w8 := e7.then e8 (fun i hi hlt => by simp at hi; omega)
      intro w9 hw9
      have e89 := Ext.drew' hw9
      have e59 := (e6.then0 e68).then0 e89
      have I9 := I5.ext0 e59
      have hk9 := hk5.ext e59
      have hkp9 := hk8.ext e89
      refine VLd.i1 _ (Rd.of_bk hk9 rfl) (VLd.i1 _ (Rd.of_bk hk9 rfl) (VNN.i (VLd.s s2 I9.x.rd2 ?_)))
      rw [I9.x.slen, ← has_dec N S.n]
      refine VLd.i3 _ _ _ (Rd.of_bk hkp9 rfl) (VLd.i3 _ _ _ (Rd.of_bk hkp9 rfl) (VNN.i (VLd.s s2 I9.x.rd2 (VLd.i1 _ (Rd.of_bk hk9 rfl) (VLd.i1 _ (Rd.of_bk hk9 rfl) ?_)))))
      cases hi : N.has S.n with
      | false =>
        rw [look_no hi]
        refine ⟨fun e => (by simp at e), VNw.off (by simp) ⟨fun e => (by simp at e), fun e => (by simp at e), fun e => (by simp at e), VCall.off (by simp) (exW.i1 (t := .bool) true trivial ⟨?_, q, s1, s2, N, rfl, I9⟩)⟩⟩
        simp [pk0]
      | true =>
        obtain ⟨hil, hlook⟩ := look_has hi
        obtain ⟨h0, hl⟩ := has_iff.1 hi
        have hm1 := I9.n.m1
        have hml := I9.n.len
        have hxc := I9.x.row.cap
        have hxl := I9.x.slen
        rw [w64 (n := S.n + 1) (by omega)]
        refine VCk.i (by omega) (VNw.on (by simp) (VNw.i fun b10 w10 hb10 hk10 e10 => ?_))
        have I10 := I9.ext0 e10
        refine ⟨fun _ => Rd.of_bk (hk9.ext e10) rfl, fun _ => Rd.of_bk (hk9.ext e10) rfl, fun _ => I10.x.rd2, ?_⟩
        rw [show Int.toNat (S.n + 1) = S.n.toNat + 1 by omega]
        have hcut := I10.x.row.in_.cut S.n.toNat (S.n.toNat + 1) (by omega) (by omega)
        refine VCall.on (by simp) (VCall.i (told_spec ⟨some ⟨b10, 0, none⟩, 1, 1⟩ ⟨cutB s2.base s2.cap 3 S.n.toNat, S.n.toNat + 1 - S.n.toNat, s2.cap - S.n.toNat⟩ [N.look S.n] _ w10 (Seg.of_bk hk10 rfl rfl) hcut.1 (by simp)) ?_)
        rintro e w11 ⟨r, rfl, hr, e11⟩
        refine exW.i1 (t := .bool) r rfl ⟨?_, q, s1, s2, N, rfl, I10.ext0 e11⟩
        have : r = true := hr.2 (by
          rw [hlook, List.drop_take, List.drop_eq_getElem_cons hil, show S.n.toNat + 1 - S.n.toNat = 1 by omega]; rfl)
        rw [this]; simp
    · -- copy
      refine VCall.i (Copy_spec w w5 q s1 N I5.n) ?_
      rintro e w6 ⟨q6, s6, rfl, h6, e6⟩
      refine exW.i1 (t := .ptr) (some ⟨q6, 0, none⟩) rfl ?_
      refine VNw.i fun b7 w7 hb7 hk7 e7 => ?_
      have hk7 : Bk w7 b7 (bc [98, 101, 104, 105, 110, 100, 32, 116, 104, 101, 32, 99, 111, 112, 121]) 5 := hk7
      refine VMark.bk hk7 fun w8 hk8 e8 => ?_
      have e68 : Ext [] w6 w8 := e7.then e8 (fun i hi hlt => by simp at hi; omega)
      have e58 := e6.then0 e68
      have I8 := I5.ext0 e58
      have h8 := h6.ext0 e68
      have ap : ∀ b ∈ fp q6 s6, b ∉ fp q s1 := fun b hb hb' => by have := h6.ges b hb; have := I5.n.lt b hb'; omega
      refine VCall.i (Send_lit (w := w) (w' := w) 9 9 _ I8.e I8.n hk8 rfl) ?_
      rintro e w9 ⟨rfl, ha⟩
      obtain ⟨s9, k9, e9, ea9, na9⟩ := ha.all I8.n I8.e
      have h9 := h8.ext ea9 ap
      obtain ⟨kx9, ex9⟩ := I8.both (W2 := w9) ha
      have ap9 : ∀ b ∈ fp q6 s6, b ∉ fp q s9 := fun b hb => na9 b (ap b hb) (by have := h8.lt b hb; exact this)
      refine exW.i1 (t := .int .i64) _ rfl ?_
      refine VCall.i (Take_spec w w9 q s9 _ 0 e9 k9) ?_
      rintro e w10 ⟨rfl, ha⟩
      obtain ⟨s10, k10, e10, ea10, na10⟩ := ha.all k9 e9
      have h10 := h9.ext ea10 ap9
      have kx10 := kx9.ext ea10 (fun b hb hb' => IP.ap k9 kx9 b hb' hb)
      refine exW.i4 (t := .int .i64) (u := .int .i64) (v := .str) (q := .bool) _ _ _ _ rfl ?_
      exact ⟨rfl, q6, s6, s2, N, rfl, h10.mono I5.e.size, kx10, e10⟩
  · clear I3 I5 f5 e35 hc N s1 s2 q
    rintro n ok w6 ⟨rfl, q, s1, s2, N, rfl, I6⟩
    refine VCall.i (All_spec w w6 q s1 N I6.n) ?_
    rintro e w7 ⟨a, rfl, a7, e7⟩
    refine exW.i1 (t := .sl) a rfl ?_
    refine VCall.i (All_spec w w7 q s1 N (I6.n.ext0 e7)) ?_
    rintro e w8 ⟨b, rfl, b8, e8⟩
    refine exW.i1 (t := .sl) b rfl ?_
    intro w9 hw9
    have e89 := Ext.drew' hw9
    have I9 := I6.ext0 ((e7.then0 e8).then0 e89)
    refine VNN.i (VLd.s s2 I9.x.rd2 (VCall.on rfl (VCall.i (Len_spec w w9 q s1 N I9.n) ?_)))
    rintro e w10 ⟨rfl, hw⟩
    subst hw
    refine exW.i1 (t := .int .i64) _ rfl ⟨fun _ => I9.x.rd2, ?_⟩
    rw [I9.x.slen]
    refine VNN.i (VLd.i1 _ I9.x.rd1 (VCall.on (by simp) (VCall.i (Lost_spec w w10 q s1 N I9.n) ?_)))
    rintro e w11 ⟨rfl, hw⟩
    subst hw
    refine exW.i1 (t := .int .i64) _ rfl ⟨fun _ => I9.x.rd1, ?_⟩
    have hm1 := I9.n.m1
    have hml := I9.n.len
    have a9 := (a7.ext0 e8).ext0 e89
    have b9 := b8.ext0 e89
    refine VNN.i (VLd.s s2 I9.x.rd2 (VCall.on (by simp) (VCall.i (told_spec a s2 N.L N.L w11 a9.seg I9.x.row.seg (by omega)) ?_)))
    rintro e w12 ⟨r, rfl, hr, e12⟩
    have hr : r = true := hr.2 rfl
    subst hr
    refine exW.i1 (t := .bool) true rfl (VIf.f (by simp) ?_)
    have hal := a9.len
    have I12 := I9.ext0 e12
    have a12 := a9.ext0 e12
    have b12 := b9.ext0 e12
    have ab : ∀ x ∈ rowB b, x ∉ rowB a := OwnR.apart' a7 (Nat.le_refl _) b8
    have fa : ∀ x ∈ rowB a, x ∉ fp q s1 ∧ x ∉ fp q' s2 ∧ w.heap.size ≤ x := fun x hx => by
      have hge := a7.2 x hx
      have := fresh_not I6 hge
      exact ⟨this.1, this.2, by have := I6.e.size; omega⟩
    refine ⟨fun k i W => ∃ (m : Nat) (M : List Pk), i = (m : Int) ∧ m ≤ a.len ∧ k = a.len - m ∧ OwnR pkR 35 w6 W a M ∧ M.length = N.L.length ∧ Ext (rowB a) w12 W, ⟨_, 0, N.L, rfl, by omega, rfl, a12, rfl, Ext.refl _ _⟩, ?_⟩
    rintro k i w13 ⟨m, M, rfl, hm13, rfl, a13, hM, e13⟩
    refine VIf.mk (fun hc => ?_) (fun hc => ?_)
    · have hma : m < a.len := by simpa using hc
      refine Row.putR (r := pkR) (j := 2) (vs := [.string spk]) (x := (M[m].1, M[m].2.1, spk)) a13.1 (by omega) (by show 2 + 1 ≤ 3; omega) rfl rfl (fun _ => rfl) fun w14 a14 e14 => ?_
      rw [w64 (n := (m : Int) + 1) (by omega)]
      exact VSet.i ⟨_, by omega, m + 1, _, by omega, by omega, rfl, ⟨a14, a13.2⟩, by rw [List.length_set]; exact hM, e13.then e14 (fun i hi _ => hi)⟩
    · have I13 := I12.extF e13 fa
      have b13 := b12.ext e13 ab
      refine VNw.i fun b14 w14 hb14 hk14 e14 => ?_
      have hk14 : Bk w14 b14 (pkR.cells [pk0, pk0]) 35 := hk14
      refine VApp.rec (r := pkR) (a13.ext0 e14) ((((((e7.then0 e8).then0 e89).then0 e12).then e13 (fun i hi hlt => by have := a13.2 i hi; omega)).then0 e14)) (news := [pk0, pk0]) (Seg.of_bk hk14 rfl rfl) rfl rfl (by omega) (by omega) fun s15 w15 a15 e15 ea15 _ => ?_
      have I15 := (I13.ext0 e14).extF ea15 fa
      have b15 := (b13.ext0 e14).ext ea15 ab
      intro w16 hw16
      have e1516 := Ext.drew' hw16
      have I16 := I15.ext0 e1516
      have b16 := b15.ext0 e1516
      have hl15 := a15.len
      rw [List.length_append, hM] at hl15
      refine VNN.i (VLd.s s2 I16.x.rd2 ?_)
      rw [I16.x.slen]
      have hg : (((s15.len : Nat) : Int) != (IntKind.wrap .i64 (((N.L.length : Nat) : Int) + 2))) = false := by
        rw [hl15, w64 (by omega)]; simp
      rw [hg]
      refine VNN.i (VLd.s s2 I16.x.rd2 (VCall.on rfl (VCall.i (told_spec b s2 N.L N.L w16 b16.seg I16.x.row.seg (by omega)) ?_)))
      rintro e w17 ⟨r, rfl, hr, e17⟩
      have hr : r = true := hr.2 rfl
      subst hr
      have I17 := I16.ext0 e17
      refine exW.i1 (t := .bool) true rfl (VNN.i (VLd.s s2 I17.x.rd2 (VCall.on rfl (VCall.i (All_spec w w17 q s1 N I17.n) ?_))))
      rintro e w18 ⟨c, rfl, c18, e18⟩
      have I18 := I17.ext0 e18
      refine exW.i1 (t := .sl) c rfl ⟨fun _ => I18.x.rd2, ?_⟩
      refine VCall.on rfl (VCall.i (told_spec c s2 N.L N.L w18 c18.seg I18.x.row.seg (by omega)) ?_)
      rintro e w19 ⟨r, rfl, hr, e19⟩
      have hr : r = true := hr.2 rfl
      subst hr
      refine exW.i1 (t := .bool) true rfl (VIf.f rfl ?_)
      rw [w64 (n := (j : Int) + 1) (by omega)]
      exact VSet.i ⟨_, by omega, j + 1, q, s1, s2, N, rfl, rfl, by omega, rfl, I18.ext0 e19⟩
end Go.Proofs.Ytkflggahjmmdhaa
