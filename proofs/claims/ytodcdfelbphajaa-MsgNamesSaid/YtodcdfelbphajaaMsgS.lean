/-
  Package msg: the document's reading of a message.
-/
import Derived.Test.YtodcdfelbphajaaMsgR
import Derived.Test.YtodcdfelbphajaaCodeR
import Derived.Test.YtodcdfelbphajaaCodeI
namespace Go.Proofs.Ytodcdfelbphajaa
open Go.RowKit
set_option maxRecDepth 100000

theorem XReader_spec (s : Sl) (l : List UInt8) (w : World) (h : Seg w s.base s.len 1 (bc l)) (hl : l.length ≤ 140737488355328) :
    Calls Try.prog 63 #[.slice s.base s.len s.cap] w fun e w' => ∃ x d : Nat, e = .returned (.pointer (some ⟨x, 0, none⟩)) ∧ RepX w' x d (some l) ∧ Ext [] w w' ∧ w.heap.size ≤ x ∧ w.heap.size ≤ d := by
  refine sh_butteryref01_NewReader_ok _ _ _ ?_
  unfold sh_butteryref01_NewReader
  refine VNw.i fun b w1 hb hk e1 => ?_
  refine VApp.clone hb hk e1 h hl fun s2 w2 h2 e2 => ?_
  refine VNw.i fun x w3 hx hk3 e3 => ?_
  have z2 := e2.size
  obtain ⟨d, hd, hb⟩ := (h2.ext0 e3).bsl x (by omega)
  exact ⟨x, d, rfl, ⟨s2, false, l, hk3, hb, rfl, by simp⟩, e2.then0 e3, by omega, hd⟩
theorem xOK_spec (x d : Nat) (st : Option (List UInt8)) (w : World) (h : RepX w x d st) : Calls Try.prog 70 #[.pointer (some ⟨x, 0, none⟩)] w fun e w' => e = .returned (.bool st.isSome) ∧ w' = w := by
  refine sh_butteryref01_Reader_OK_ok _ _ _ ?_
  unfold sh_butteryref01_Reader_OK
  obtain ⟨s, f, l, hx, hs, hst, hf⟩ := h
  refine VNN.i (VLd.i1 (t := .bool) f (Rd.of_bk hx rfl) ⟨?_, rfl⟩)
  subst hst
  cases f <;> rfl
theorem xDone_spec (x d : Nat) (st : Option (List UInt8)) (w : World) (h : RepX w x d st) : Calls Try.prog 72 #[.pointer (some ⟨x, 0, none⟩)] w fun e w' => e = .returned (.bool (rDone st)) ∧ w' = w := by
  refine sh_butteryref01_Reader_Done_ok _ _ _ ?_
  unfold sh_butteryref01_Reader_Done
  obtain ⟨s, f, l, hx, hs, hst, hf⟩ := h
  have hl := hs.1
  refine VNN.i (VLd.i1 (t := .bool) f (Rd.of_bk hx rfl) ?_)
  refine ⟨⟨x, 0, none⟩, fun _ => rfl, ?_⟩
  refine VLd.s s (Rd.of_bk hx rfl) ⟨?_, rfl⟩
  subst hst
  cases f with
  | true => rfl
  | false => cases l <;> simp at hl <;> simp [rDone, hl] <;> omega

/-- a reader that was there before a time -/
structure RX (n0 : Nat) (w : World) (x d : Nat) (st : Option (List UInt8)) : Prop where
  rep : RepX w x d st
  lx : x < n0
  ld : d < n0
theorem RX.ext0 {n0 : Nat} {w w' : World} {x d : Nat} {st : Option (List UInt8)} (h : RX n0 w x d st) (e : Ext [] w w') : RX n0 w' x d st := ⟨h.rep.ext0 e, h.lx, h.ld⟩
theorem RX.new {n0 : Nat} {w w' : World} {x d : Nat} {st : Option (List UInt8)} {M : List Nat} (h : RX n0 w x d st) (e : Ext M w w') (hm : ∀ i ∈ M, n0 ≤ i) : RX n0 w' x d st :=
  ⟨h.rep.ext e (fun hi => by have := hm _ hi; have := h.lx; omega) (fun hi => by have := hm _ hi; have := h.ld; omega), h.lx, h.ld⟩
theorem RepX.fix {w : World} {x d : Nat} {st : Option (List UInt8)} (h : RepX w x d st) : ∃ d', RX w.heap.size w x d' st := by
  obtain ⟨s, f, l, hx, hs, hst⟩ := h
  have h1 := hx.lt
  obtain ⟨b1, b2, b3, b4⟩ := hs
  rcases b4 with b4 | ⟨off, cells, hb, hk, hc⟩
  · exact ⟨x, ⟨⟨s, f, l, hx, ⟨b1, b2, b3, .inl b4⟩, hst⟩, h1, h1⟩⟩
  · exact ⟨d, ⟨⟨s, f, l, hx, ⟨b1, b2, b3, .inr ⟨off, cells, hb, hk, hc⟩⟩, hst⟩, h1, hk.lt⟩⟩
section
variable {n0 : Nat} {w : World} {x d : Nat} {st : Option (List UInt8)}
theorem RX.num (h : RX n0 w x d st) {K : Int → World → Prop} (k : ∀ v st' w', rNum st = (v, st') → RX n0 w' x d st' → Ext [x] w w' → K v w') : VCall none Try.prog 65 #[.pointer (some ⟨x, 0, none⟩)] w (.int .i64 0) fun (v : Int) (w' : World) => K v w' := by
  refine VCall.i (xNum_spec x d st w h.rep) ?_
  rintro e w' ⟨rfl, h', e'⟩
  exact exW.i1 (t := .int .i64) _ rfl (k _ _ w' rfl ⟨h', h.lx, h.ld⟩ e')
theorem RX.text (h : RX n0 w x d st) {K : ByteArray → World → Prop} (k : ∀ v st' w', rS st = (v, st') → RX n0 w' x d st' → Ext [x] w w' → K v w') : VCall none Try.prog 66 #[.pointer (some ⟨x, 0, none⟩), .int .i64 8192] w (.string ByteArray.empty) fun (v : ByteArray) (w' : World) => K v w' := by
  refine VCall.i (xStr_spec x d 8192 st w h.rep) ?_
  rintro e w' ⟨rfl, h', e'⟩
  exact exW.i1 (t := .str) _ rfl (k _ _ w' rfl ⟨h', h.lx, h.ld⟩ e')
theorem RX.flag (h : RX n0 w x d st) {K : Bool → World → Prop} (k : ∀ v st' w', rF st = (v, st') → RX n0 w' x d st' → Ext [x] w w' → K v w') : VCall none Try.prog 67 #[.pointer (some ⟨x, 0, none⟩)] w (.bool false) fun (v : Bool) (w' : World) => K v w' := by
  refine VCall.i (xFlag_spec x d st w h.rep) ?_
  rintro e w' ⟨rfl, h', e'⟩
  exact exW.i1 (t := .bool) _ rfl (k _ _ w' rfl ⟨h', h.lx, h.ld⟩ e')
theorem RX.cnt (h : RX n0 w x d st) {K : Int → World → Prop} (k : ∀ (N : Nat) st' w', N ≤ 8192 → rCount 8192 st = ((N : Int), st') → RX n0 w' x d st' → Ext [x] w w' → K (N : Int) w') : VCall none Try.prog 69 #[.pointer (some ⟨x, 0, none⟩), .int .i64 8192] w (.int .i64 0) fun (v : Int) (w' : World) => K v w' := by
  have c0 := (rCount_pos 8192 st).1
  have c1 := rCount_le 8192 (by omega) st
  obtain ⟨N, hN⟩ : ∃ N : Nat, (rCount 8192 st).1 = (N : Int) := ⟨_, (Int.toNat_of_nonneg c0).symm⟩
  refine VCall.i (xCount_spec x d 8192 st w h.rep) ?_
  rintro e w' ⟨rfl, h', e'⟩
  refine exW.i1 (t := .int .i64) _ rfl ?_
  rw [hN]
  exact k N _ w' (by omega) (Prod.ext hN rfl) ⟨h', h.lx, h.ld⟩ e'
theorem RX.kind (h : RX n0 w x d st) {K : Int → World → Prop} (k : ∀ v st' w', rK st = (v, st') → RX n0 w' x d st' → Ext [x] w w' → K v w') : VCall none Try.prog 64 #[.pointer (some ⟨x, 0, none⟩)] w (.int .u8 0) fun (v : Int) (w' : World) => K v w' := by
  refine VCall.i (R0 := fun e w' => e = .returned (.int .u8 (rK st).1) ∧ RepX w' x d (rK st).2 ∧ Ext [x] w w') ?_ ?_
  · refine sh_butteryref13_small_ok _ _ _ ?_
    unfold sh_butteryref13_small
    refine VCall.i (xCount_spec x d 255 st w h.rep) ?_
    rintro e w' ⟨rfl, h', e'⟩
    refine exW.i1 (t := .int .i64) _ rfl (VSet.i ⟨?_, h', e'⟩)
    have h1 := rCount_pos 255 st
    have h3 := rCount_le 255 (by omega) st
    rw [wrap8, Int.emod_eq_of_lt h1.1 (by omega)]
    rfl
  · rintro e w' ⟨rfl, h', e'⟩
    exact exW.i1 (t := .int .u8) _ rfl (k _ _ w' rfl ⟨h', h.lx, h.ld⟩ e')
theorem RX.ok (h : RX n0 w x d st) {c : Bool} {K : Bool → World → Prop} (k : ∀ rb, (c = true → rb = st.isSome) → K rb w) : VCall (some c) Try.prog 70 #[.pointer (some ⟨x, 0, none⟩)] w (.bool false) fun (rb : Bool) (w' : World) => K rb w' := by
  cases hc : c with
  | true =>
    refine VCall.on rfl (VCall.i (xOK_spec x d st w h.rep) ?_)
    rintro e w4 ⟨rfl, rfl⟩
    exact exW.i1 (t := .bool) _ rfl (k _ fun _ => rfl)
  | false => exact VCall.off rfl (exW.i1 (t := .bool) false trivial (k false fun h => absurd (hc.symm.trans h) (by simp)))
end
theorem RX.res {n0 : Nat} {w : World} {x d : Nat} {st : Option (List UInt8)} (h : RX n0 w x d st) (hn : n0 ≤ w.heap.size) {K : Int → Bool → ByteArray → World → Prop} (k : ∀ v1 v2 v3 st' w', rRes st = ((v1, v2, v3), st') → RX n0 w' x d st' → Ext [x] w w' → K v1 v2 v3 w') :
    VCall none Try.prog 68 #[.pointer (some ⟨x, 0, none⟩)] w (.agg #[.int .u8 0, .bool false, .string ByteArray.empty]) fun (v1 : Int) (v2 : Bool) (v3 : ByteArray) (w' : World) => K v1 v2 v3 w' := by
  refine VCall.i (R0 := fun e w' => ∃ v1 v2 v3 st', e = .returned (.agg #[.int .u8 v1, .bool v2, .string v3]) ∧ rRes st = ((v1, v2, v3), st') ∧ RX n0 w' x d st' ∧ Ext [x] w w') ?_ ?_
  · refine sh_butteryref13_told_ok _ _ _ ?_
    unfold sh_butteryref13_told
    have lx := h.lx
    refine VNw.i fun b2 w1 hb2 hk1 e1 => ?_
    refine (h.ext0 e1).kind fun v1 s1 w2 g1 h2 e2 => ?_
    have bq : b2 ∉ [x] := by simp; omega
    have e02 := q1 (q0 (q := x) e1) e2
    have z2 := e02.size
    refine VNw.i fun xb w3 hxb hk3 e3 => VSt.bk hk3 rfl (by simp) fun w4 hk4 e4 => ?_
    have hk4 : Bk w4 xb [.int .u8 v1, .bool false, .string ByteArray.empty] 26 := hk4
    have e24 : Ext [] w2 w4 := e3.then e4 (fun i hi hlt => by simp at hi; omega)
    refine (h2.ext0 e24).flag fun v2 s2 w5 g2 h5 e5 => ?_
    have xq : xb ∉ [x] := by simp; omega
    refine VSt.bk (hk4.ext e5 xq) rfl (by simp) fun w6 hk6 e6 => ?_
    have hk6 : Bk w6 xb [.int .u8 v1, .bool v2, .string ByteArray.empty] 26 := hk6
    refine (h5.new e6 (fun i hi => by simp at hi; omega)).text fun v3 s3 w7 g3 h7 e7 => ?_
    refine VSt.bk (hk6.ext e7 xq) rfl (by simp) fun w8 hk8 e8 => ?_
    have hk8 : Bk w8 xb [.int .u8 v1, .bool v2, .string v3] 26 := hk8
    have lb2 := (hk1.ext e2 bq).lt
    have hne : b2 ∉ [xb] := by simp; omega
    have hkb := ((((hk1.ext e2 bq).ext e24).ext e5 bq).ext e6 hne).ext e7 bq |>.ext e8 hne
    refine VLd.i3 (t := .int .u8) (u := .bool) (v := .str) v1 v2 v3 (Rd.of_bk hk8 rfl) (VSt.bk hkb rfl (by simp) fun w9 hk9 e9 => ?_)
    have hk9 : Bk w9 b2 [.int .u8 v1, .bool v2, .string v3] 26 := hk9
    have E : Ext [x] w w9 := (((((e02.then0 e24).then e5 (fun i hi _ => hi)).then e6 (fun i hi hlt => by simp at hi; omega)).then e7 (fun i hi _ => hi)).then e8 (fun i hi hlt => by simp at hi; omega)).then e9 (fun i hi hlt => by simp at hi; omega)
    exact VLd.i3 (t := .int .u8) (u := .bool) (v := .str) v1 v2 v3 (Rd.of_bk hk9 rfl) ⟨v1, v2, v3, s3, rfl, rPair_eq g1 (rPair_eq g2 g3), (h7.new e8 (fun i hi => by simp at hi; omega)).new e9 (fun i hi => by simp at hi; omega), E⟩
  · rintro e w' ⟨v1, v2, v3, st', rfl, g, h', e'⟩
    exact exW.i3 (t := .int .u8) (u := .bool) (v := .str) v1 v2 v3 rfl (k v1 v2 v3 st' w' g h' e')
theorem RX.list {n0 : Nat} {w : World} {x d : Nat} {st : Option (List UInt8)} (h : RX n0 w x d st) (hn : n0 ≤ w.heap.size) {K : Sl → World → Prop} (k : ∀ s L st' w', rL rNum st = (L, st') → OwnR intR 3 w w' s L → RX n0 w' x d st' → Ext [x] w w' → K s w') :
    VCall none Try.prog 71 #[.pointer (some ⟨x, 0, none⟩)] w (.slice none 0 0) fun (s : Sl) (w' : World) => K s w' := by
  refine VCall.i (R0 := fun e w' => ∃ (s : Sl) (L : List Int) (st' : Option (List UInt8)), e = .returned (.slice s.base s.len s.cap) ∧ rL rNum st = (L, st') ∧ OwnR intR 3 w w' s L ∧ RX n0 w' x d st' ∧ Ext [x] w w') ?_ ?_
  · refine sh_butteryref13_list_ok _ _ _ ?_
    unfold sh_butteryref13_list
    have lx := h.lx
    refine h.cnt fun N s1 w1 hN gN h1 e1 => VSet.i ?_
    refine ⟨fun k (out : Sl) i W => ∃ (m : Nat) (L : List Int) (s : Option (List UInt8)), i = (m : Int) ∧ m ≤ N ∧ k = N - m ∧ L.length = m ∧ rIts rNum N s1 = (L ++ (rIts rNum (N - m) s).1, (rIts rNum (N - m) s).2) ∧ OwnR intR 3 w W out L ∧ RX n0 W x d s ∧ Ext [x] w W,
      ⟨_, 0, [], s1, rfl, by omega, rfl, rfl, by simp, OwnR.nil _ _ _ _, h1, e1⟩, ?_⟩
    rintro k out i w2 ⟨m, L, s, rfl, hm, rfl, hL, hI, ho, h2, e2⟩
    refine h2.ok fun rb hrb => VIf.mk (fun hc => ?_) (fun hc => ?_)
    · simp only [Bool.and_eq_true, decide_eq_true_eq] at hc
      obtain ⟨hc1, hc2⟩ := hc
      have hm0 : m < N := by omega
      rw [hrb (by simpa using hc1)] at hc2
      cases s with
      | none => cases hc2
      | some l =>
      refine h2.num fun v s' w5 hv h5 e5 => ?_
      refine VNw.i fun b6 w6 hb6 hk6 e6 => ?_
      have ho6 : OwnR intR 3 w w6 out L := (ho.extA e5 (by omega)).ext0 e6
      have e06 : Ext [x] w w6 := q1 e2 (e5.then0 e6)
      refine VApp.rec2 (r := intR) (news := [v]) ho6 e06.size (Seg.of_bk hk6 rfl rfl) rfl rfl (by omega) (by omega) fun s7 w7 ho7 e7 => ?_
      have hrow : ∀ i ∈ rowB out, w.heap.size ≤ i := ho.2
      rw [w64 (n := (m : Int) + 1) (by omega)]
      refine VSet.i ⟨_, (show N - (m + 1) < N - m by omega), m + 1, L ++ [v], s', rfl, by omega, rfl, by simp; omega, ?_, ho7, (h5.ext0 e6).new e7 (fun i hi => by have := hrow i hi; omega), e06.then e7 (fun i hi hlt => by have := hrow i hi; omega)⟩
      rw [hI]
      have hst : rIts rNum (N - m) (some l) = (v :: (rIts rNum (N - (m + 1)) s').1, (rIts rNum (N - (m + 1)) s').2) := by
        rw [show N - m = (N - (m + 1)) + 1 by omega, rIts, hv]
      rw [hst]
      simp
    · have hfin : rIts rNum (N - m) s = ([], s) := by
        by_cases h0 : m < N
        · have := hrb (by simpa using h0)
          rw [this] at hc
          cases s with
          | none => exact rIts_none _ _
          | some l => simp at hc; omega
        · rw [show N - m = 0 by omega]; rfl
      refine ⟨out, L, s, rfl, ?_, ho, h2, e2⟩
      unfold rL
      rw [gN]
      simp only [Int.toNat_natCast]
      rw [hI, hfin, List.append_nil]
  · rintro e w' ⟨s, L, st', rfl, g, ho, h', e'⟩
    exact exW.i1 (t := .sl) s rfl (k s L st' w' g ho h' e')
theorem EOwn.push {w0 wp W : World} {out : Sl} {X : List EX} {x : EX} {b6 : Nat} {K : Sl → World → Prop} (ho : EOwn w0 W out X) (hl : OwnR intR 3 wp W x.1.2.2.2 x.2) (hold : ∀ k (hk : k < X.length), ∀ b ∈ rowB (X[k]).1.2.2.2, b < wp.heap.size) (hz : w0.heap.size ≤ wp.heap.size) (hzz : w0.heap.size ≤ W.heap.size)
    (hk6 : Bk W b6 (enR.f x.1) 58) (hL : X.length ≤ 8192) (k : ∀ s' W', EOwn w0 W' s' (X ++ [x]) → Ext (rowB out) W W' → K s' W') :
    VApp none W 58 4 56 #[.int .i64 0, .int .u8 0, .string ByteArray.empty, .slice none 0 0] out.base out.len out.cap 1 (fun news => Seg W (some ⟨b6, 0, none⟩) 1 4 news) K := by
  have hl6 := hl.mono (w0 := w0) hz
  refine VApp.rec2 (r := enR) (news := [x.1]) ho.er hzz (Seg.of_bk hk6 rfl rfl) rfl rfl (by rw [List.length_map]; omega) (by rw [List.length_map]; omega) fun s7 w7 ho7 e7 => ?_
  refine k s7 w7 ⟨by rw [List.map_append]; exact ho7, ?_, ?_⟩ e7
  · intro j hj
    rw [List.length_append] at hj
    by_cases hjm : j < X.length
    · rw [List.getElem_append_left hjm]
      have := ho.ea j hjm
      exact this.ext e7 (this.sepT ho.er (by decide))
    · have : j = X.length := by simp at hj; omega
      subst this
      rw [List.getElem_append_right (Nat.le_refl _)]
      simp only [Nat.sub_self, List.getElem_cons_zero]
      exact hl6.ext e7 (hl6.sepT ho.er (by decide))
  · intro i j hi hj hne b hb hb'
    rw [List.length_append] at hi hj
    have hnew : ∀ b ∈ rowB x.1.2.2.2, wp.heap.size ≤ b := hl.2
    by_cases him : i < X.length
    · rw [List.getElem_append_left him] at hb
      by_cases hjm : j < X.length
      · rw [List.getElem_append_left hjm] at hb'
        exact ho.es i j him hjm hne b hb hb'
      · have : j = X.length := by simp at hj; omega
        subst this
        rw [List.getElem_append_right (Nat.le_refl _)] at hb'
        simp only [Nat.sub_self, List.getElem_cons_zero] at hb'
        have := hold i him b hb
        have := hnew b hb'
        omega
    · have : i = X.length := by simp at hi; omega
      subst this
      rw [List.getElem_append_right (Nat.le_refl _)] at hb
      simp only [Nat.sub_self, List.getElem_cons_zero] at hb
      by_cases hjm : j < X.length
      · rw [List.getElem_append_left hjm] at hb'
        have := hold j hjm b hb'
        have := hnew b hb
        omega
      · simp at hj; omega

/-- what the document's reading stands at -/
structure Dr (w0 wA W : World) (mb b2 x d : Nat) (v : MV) (X : List EX) (L : List Int) (P : List Pr) (Q : List Ls) (st : Option (List UInt8)) : Prop where
  rc : RX wA.heap.size W x d st
  m : Bk W mb (mvF v) 34
  b : ∃ cs, cs.length = 33 ∧ Bk W b2 cs 34
  e : Ext [] w0 W
  n : wA.heap.size ≤ W.heap.size
  f1 : wA.heap.size ≤ mb
  f3 : b2 < wA.heap.size
  f4 : w0.heap.size ≤ b2
  f5 : w0.heap.size ≤ x
  f7 : b2 ≠ x
  f8 : w0.heap.size ≤ wA.heap.size
  le : EOwn wA W v.e X
  ll : OwnR intR 3 wA W v.l L
  lp : OwnR prR 52 wA W v.p P
  lq : OwnR lsR 55 wA W v.q Q
section
variable {w0 wA W W' : World} {mb b2 x d : Nat} {v v' : MV} {X X' : List EX} {L L' : List Int} {P P' : List Pr} {Q Q' : List Ls} {st : Option (List UInt8)}
theorem Dr.ext0 (h : Dr w0 wA W mb b2 x d v X L P Q st) (e : Ext [] W W') : Dr w0 wA W' mb b2 x d v X L P Q st := by
  obtain ⟨cs, hc, hb⟩ := h.b
  exact ⟨h.rc.ext0 e, h.m.ext e, ⟨cs, hc, hb.ext e⟩, h.e.then0 e, Nat.le_trans h.n e.size, h.f1, h.f3, h.f4, h.f5, h.f7, h.f8, h.le.ext0 e, h.ll.ext0 e, h.lp.ext0 e, h.lq.ext0 e⟩
theorem Dr.rd {st' : Option (List UInt8)} (h : Dr w0 wA W mb b2 x d v X L P Q st) (h' : RX wA.heap.size W' x d st') (e : Ext [x] W W') : Dr w0 wA W' mb b2 x d v X L P Q st' := by
  obtain ⟨cs, hc, hb⟩ := h.b
  have lx := h.rc.lx
  have f1 := h.f1
  have f5 := h.f5
  have f7 := h.f7
  exact ⟨h', h.m.ext e (by simp; omega), ⟨cs, hc, hb.ext e (by simpa using f7)⟩, h.e.then e (fun i hi hlt => by simp at hi; omega), Nat.le_trans h.n e.size, f1, h.f3, h.f4, f5, f7, h.f8, h.le.extq e lx, h.ll.extA e lx, h.lp.extA e lx, h.lq.extA e lx⟩
/-- behind a writing into the message; lists may have been put in -/
theorem Dr.wr (h : Dr w0 wA W mb b2 x d v X L P Q st) (hk : Bk W' mb (mvF v') 34) (e : Ext [mb] W W') (he : EOwn wA W v'.e X') (hl : OwnR intR 3 wA W v'.l L') (hp : OwnR prR 52 wA W v'.p P') (hq : OwnR lsR 55 wA W v'.q Q') : Dr w0 wA W' mb b2 x d v' X' L' P' Q' st := by
  obtain ⟨cs, hc, hb⟩ := h.b
  have f1 := h.f1
  have f3 := h.f3
  have f8 := h.f8
  exact ⟨h.rc.new e (fun i hi => by simp at hi; omega), hk, ⟨cs, hc, hb.ext e (by simp; omega)⟩, h.e.then e (fun i hi hlt => by simp at hi; omega), Nat.le_trans h.n e.size, f1, f3, h.f4, h.f5, h.f7, f8, he.nb h.m (by decide) (by decide) e, hl.ext e (hl.nb h.m (by decide)), hp.ext e (hp.nb h.m (by decide)), hq.ext e (hq.nb h.m (by decide))⟩
theorem Dr.num (h : Dr w0 wA W mb b2 x d v X L P Q st) {K : Int → World → Prop} (k : ∀ a st' W', rNum st = (a, st') → Dr w0 wA W' mb b2 x d v X L P Q st' → Ext [x] W W' → K a W') : VCall none Try.prog 65 #[.pointer (some ⟨x, 0, none⟩)] W (.int .i64 0) fun (v : Int) (w' : World) => K v w' :=
  h.rc.num fun a s' W' h1 h2 h3 => k a s' W' h1 (h.rd h2 h3) h3
theorem Dr.kind (h : Dr w0 wA W mb b2 x d v X L P Q st) {K : Int → World → Prop} (k : ∀ a st' W', rK st = (a, st') → Dr w0 wA W' mb b2 x d v X L P Q st' → Ext [x] W W' → K a W') : VCall none Try.prog 64 #[.pointer (some ⟨x, 0, none⟩)] W (.int .u8 0) fun (v : Int) (w' : World) => K v w' :=
  h.rc.kind fun a s' W' h1 h2 h3 => k a s' W' h1 (h.rd h2 h3) h3
theorem Dr.text (h : Dr w0 wA W mb b2 x d v X L P Q st) {K : ByteArray → World → Prop} (k : ∀ a st' W', rS st = (a, st') → Dr w0 wA W' mb b2 x d v X L P Q st' → Ext [x] W W' → K a W') : VCall none Try.prog 66 #[.pointer (some ⟨x, 0, none⟩), .int .i64 8192] W (.string ByteArray.empty) fun (v : ByteArray) (w' : World) => K v w' :=
  h.rc.text fun a s' W' h1 h2 h3 => k a s' W' h1 (h.rd h2 h3) h3
theorem Dr.flag (h : Dr w0 wA W mb b2 x d v X L P Q st) {K : Bool → World → Prop} (k : ∀ a st' W', rF st = (a, st') → Dr w0 wA W' mb b2 x d v X L P Q st' → Ext [x] W W' → K a W') : VCall none Try.prog 67 #[.pointer (some ⟨x, 0, none⟩)] W (.bool false) fun (v : Bool) (w' : World) => K v w' :=
  h.rc.flag fun a s' W' h1 h2 h3 => k a s' W' h1 (h.rd h2 h3) h3
theorem Dr.cnt (h : Dr w0 wA W mb b2 x d v X L P Q st) {K : Int → World → Prop} (k : ∀ (N : Nat) st' W', N ≤ 8192 → rCount 8192 st = ((N : Int), st') → Dr w0 wA W' mb b2 x d v X L P Q st' → Ext [x] W W' → K (N : Int) W') : VCall none Try.prog 69 #[.pointer (some ⟨x, 0, none⟩), .int .i64 8192] W (.int .i64 0) fun (v : Int) (w' : World) => K v w' :=
  h.rc.cnt fun a s' W' h0 h1 h2 h3 => k a s' W' h0 h1 (h.rd h2 h3) h3
theorem Dr.res (h : Dr w0 wA W mb b2 x d v X L P Q st) {K : Int → Bool → ByteArray → World → Prop} (k : ∀ v1 v2 v3 st' W', rRes st = ((v1, v2, v3), st') → Dr w0 wA W' mb b2 x d v X L P Q st' → Ext [x] W W' → K v1 v2 v3 W') :
    VCall none Try.prog 68 #[.pointer (some ⟨x, 0, none⟩)] W (.agg #[.int .u8 0, .bool false, .string ByteArray.empty]) fun (v1 : Int) (v2 : Bool) (v3 : ByteArray) (w' : World) => K v1 v2 v3 w' :=
  h.rc.res h.n fun v1 v2 v3 s' W' h1 h2 h3 => k v1 v2 v3 s' W' h1 (h.rd h2 h3) h3
theorem Dr.lst (h : Dr w0 wA W mb b2 x d v X L P Q st) {K : Sl → World → Prop} (k : ∀ s M st' W', rL rNum st = (M, st') → OwnR intR 3 W W' s M → Dr w0 wA W' mb b2 x d v X L P Q st' → Ext [x] W W' → K s W') :
    VCall none Try.prog 71 #[.pointer (some ⟨x, 0, none⟩)] W (.slice none 0 0) fun (s : Sl) (w' : World) => K s w' :=
  h.rc.list h.n fun s M s' W' h1 h0 h2 h3 => k s M s' W' h1 h0 (h.rd h2 h3) h3
end
/-! numbers that are read to where pointers show -/
def rNs : Nat → Option (List UInt8) → List Int × Option (List UInt8)
  | 0, st => ([], st)
  | n + 1, st => ((rNum st).1 :: (rNs n (rNum st).2).1, (rNs n (rNum st).2).2)
def ptrR : Rec (Option Addr) := ⟨fun a => [.pointer a], 1, fun _ => rfl, fun _ => rfl, by omega⟩
theorem Dr.nums {w0 wA W : World} {mb b2 x d pb base n : Nat} {vf : List Int → MV} {st : Option (List UInt8)} {ps : List (Option Addr)} {t : TypeId} {rest : World → Prop} (h : Dr w0 wA W mb b2 x d (vf []) [] [] [] [] st) (hp : Bk W pb (ptrR.cells ps) t) (hpb : wA.heap.size ≤ pb) (hne : pb ≠ mb) (hn : ps.length = n) (hn2 : n ≤ 100)
    (hps : ∀ m (hm : m < ps.length), ps[m] = some ⟨mb, base + m, none⟩) (hb : base + n ≤ 33)
    (hvf : ∀ (vs : List Int), vs.length < n → ∀ z, List.take (base + vs.length) (mvF (vf vs)) ++ [.int .i64 z] ++ List.drop (base + vs.length + 1) (mvF (vf vs)) = mvF (vf (vs ++ [z])))
    (hnil : ∀ vs, (vf vs).e = ⟨none, 0, 0⟩ ∧ (vf vs).l = ⟨none, 0, 0⟩ ∧ (vf vs).p = ⟨none, 0, 0⟩ ∧ (vf vs).q = ⟨none, 0, 0⟩)
    (k : ∀ vs st' W', vs.length = n → rNs n st = (vs, st') → Dr w0 wA W' mb b2 x d (vf vs) [] [] [] [] st' → rest W') :
    ∃ I1 : Nat → Int → World → Prop, (∃ k, I1 k 0 W) ∧ ∀ k1 (i_7 : Int) (w8 : World), I1 k1 i_7 w8 →
    VIf (decide (i_7 < ((n : Nat) : Int))) (
      ∀ (w9 : World), w9 = World.drew w8 →
      VIx none (some ⟨pb, 0, none⟩) n i_7 fun (a41 : Addr) =>
      VLd none w9 (Addr.add a41 ((Int.toNat i_7) * 1)) [CT.ptr] fun (v42 : Option Addr) =>
      VCall none Try.prog 65 #[.pointer (some ⟨x, 0, none⟩)] w9 (.int .i64 0) fun (r44 : Int) (w10 : World) =>
      Rd w10 (Addr.add a41 ((Int.toNat i_7) * 1)) [.pointer v42] ∧
      VNN none v42 fun (a45 : Addr) =>
      VSt none w10 a45 [.int .i64 r44] fun (w11 : World) =>
      VSet (IntKind.wrap .i64 (i_7 + 1)) fun (i_7' : Int) =>
      ∃ k', k' < k1 ∧ I1 k' i_7' w11) (rest w8) := by
  subst hn
  refine ⟨fun k i W' => ∃ (m : Nat) (vs : List Int) (s : Option (List UInt8)), i = (m : Int) ∧ m ≤ ps.length ∧ k = ps.length - m ∧ vs.length = m ∧ rNs ps.length st = (vs ++ (rNs (ps.length - m) s).1, (rNs (ps.length - m) s).2) ∧ Dr w0 wA W' mb b2 x d (vf vs) [] [] [] [] s ∧ Bk W' pb (ptrR.cells ps) t,
    ⟨_, 0, [], st, rfl, by omega, rfl, rfl, by simp, h, hp⟩, ?_⟩
  rintro k1 i w8 ⟨m, vs, s, rfl, hm, rfl, hvs, hI, h8, hp8⟩
  refine VIf.mk (fun hc => ?_) (fun hc => ?_)
  · have hm' : m < ps.length := by simp at hc; omega
    intro w9 hw9
    have ed := Ext.drew' hw9
    have h9 := h8.ext0 ed
    have hp9 := hp8.ext ed
    have hseg : Seg w9 (some ⟨pb, 0, none⟩) ps.length ptrR.k (ptrR.cells ps) := Seg.of_bk hp9 (by simp) (Rec.cells_len ps)
    refine VIx.i (by omega) (by omega) ?_
    obtain ⟨a1, ha1, hr1⟩ := hseg.rec_at hm'
    obtain rfl := Option.some.inj ha1
    rw [Int.toNat_natCast]
    have hr1 : Rd w9 (Addr.add ⟨pb, 0, none⟩ (m * 1)) [.pointer (some ⟨mb, base + m, none⟩)] := by
      have := hr1
      rw [hps m hm'] at this
      exact this
    have lx := h.rc.lx
    have hpx : pb ∉ [x] := by simp; omega
    refine VLd.i1 (t := .ptr) (some ⟨mb, base + m, none⟩) hr1 ?_
    refine h9.num fun v1 s1 w10 g10 h10 e10 => ?_
    have hp10 := hp9.ext e10 hpx
    have hseg10 : Seg w10 (some ⟨pb, 0, none⟩) ps.length ptrR.k (ptrR.cells ps) := Seg.of_bk hp10 (by simp) (Rec.cells_len ps)
    refine ⟨?_, VNN.i ?_⟩
    · exact hr1.ext e10 (by rw [add_blk]; exact hpx)
    · refine VSt.bk h10.m rfl (by simp [mvF]; omega) fun w11 hk11 e11 => ?_
      have hk11 : Bk w11 mb (List.take (base + vs.length) (mvF (vf vs)) ++ [.int .i64 v1] ++ List.drop (base + vs.length + 1) (mvF (vf vs))) 34 := by rw [hvs]; exact hk11
      rw [hvf vs (by omega) v1] at hk11
      obtain ⟨n1, n2, n3, n4⟩ := hnil (vs ++ [v1])
      have h11 := h10.wr (v' := vf (vs ++ [v1])) hk11 e11 (by rw [n1]; exact EOwn.nil _ _) (by rw [n2]; exact OwnR.nil _ _ _ _) (by rw [n3]; exact OwnR.nil _ _ _ _) (by rw [n4]; exact OwnR.nil _ _ _ _)
      rw [w64 (n := (m : Int) + 1) (by omega)]
      refine VSet.i ⟨_, (show ps.length - (m + 1) < ps.length - m by omega), m + 1, vs ++ [v1], s1, rfl, by omega, rfl, by simp; omega, ?_, h11, hp10.ext e11 (by simpa using hne)⟩
      rw [hI]
      have hst : rNs (ps.length - m) s = (v1 :: (rNs (ps.length - (m + 1)) s1).1, (rNs (ps.length - (m + 1)) s1).2) := by
        rw [show ps.length - m = (ps.length - (m + 1)) + 1 by omega, rNs, g10]
      rw [hst]
      simp
  · have hmm : m = ps.length := by simp at hc; omega
    refine k vs s w8 (by omega) ?_ h8
    rw [hI, show ps.length - m = 0 by omega]
    simp [rNs]
end Go.Proofs.Ytodcdfelbphajaa
