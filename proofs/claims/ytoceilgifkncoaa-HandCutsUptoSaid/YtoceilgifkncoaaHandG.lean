/-
  Package hand: a shard is cut.
-/
import Derived.Test.YtoceilgifkncoaaHandF
namespace Go.Proofs.Ytoceilgifkncoaa
open Go.RowKit
set_option maxRecDepth 100000

theorem VIx.rec' {g : Option Bool} {base : Option Addr} {a : Addr} {n : Nat} {i : Int} {K : Addr → Prop} (hb : base = some a) (h0 : 0 ≤ i) (h1 : i < (n : Int)) (k : K a) : VIx g base n i K := by
  subst hb; exact VIx.i h0 h1 k
theorem cutP_spec (w0 w : World) (q : Nat) (s : Sl) (X : List PX) (c0 : Cu) (N : Nat) (h : CuO w0 w q s X c0) (e0 : Ext [] w0 w) (hok : c0.ok N) (l : Sl) (L : List Pr) (hl : InR prR w0 l L) (hN : N + L.length ≤ 1000) :
    Calls Try.prog 29 #[.pointer (some ⟨q, 0, none⟩), .slice l.base l.len l.cap, .func (.func 30) #[] #[], .func (.func 31) #[] #[]] w fun e w' => e = .returned (.tuple #[]) ∧
      ∃ s' X', CuO w0 w' q s' X' (L.foldl Cu.addP c0) ∧ (L.foldl Cu.addP c0).ok (N + L.length) ∧ Ext [] w0 w' := by
  refine sh_hand_cut_ok _ _ _ _ _ _ ?_
  unfold sh_hand_cut
  have hn := hl.len
  refine ⟨fun k i W => ∃ (m : Nat) (s : Sl) (X : List PX), i = (m : Int) ∧ m ≤ L.length ∧ k = L.length - m ∧ CuO w0 W q s X ((L.take m).foldl Cu.addP c0) ∧ ((L.take m).foldl Cu.addP c0).ok (N + m) ∧ Ext [] w0 W, ⟨_, 0, s, X, rfl, by omega, rfl, h, hok, e0⟩, ?_⟩
  clear h e0 s X
  rintro k i w1 ⟨m, s, X, rfl, hm, rfl, h1, hok1, e1⟩
  refine VIf.mk (fun hc => ?_) (fun hc => ?_)
  · have hm' : m < L.length := by simp at hc; omega
    have hstep : (L.take (m + 1)).foldl Cu.addP c0 = ((L.take m).foldl Cu.addP c0).addP L[m] := by
      rw [List.take_succ_eq_append_getElem hm', List.foldl_append]; rfl
    have hok' := hok1.addP L[m]
    rw [← hstep] at hok'
    generalize hC : (L.take m).foldl Cu.addP c0 = c at *
    refine VIx.rec (r := prR) (hl.1.ext0 e1) hm' rfl fun a hr => ?_
    refine ⟨((L[m]).1 : ByteArray), ((L[m]).2 : ByteArray), gd.i hr, ?_⟩
    refine VNw.i fun b2 w2 hb2 hk2 e2 => ?_
    refine VSt.bk hk2 rfl (by simp) fun w3 hk3 e3 => ?_
    have e13 : Ext [] w1 w3 := e2.then e3 (fun i hi hlt => by simp at hi; omega)
    refine ⟨((L[m]).1 : ByteArray), ((L[m]).2 : ByteArray), gd.i (Rd.of_bk hk3 rfl), ?_⟩
    refine VDyn.i (by kernel_rfl) (VCall.i (sizeP_spec L[m] w3) ?_)
    rintro e w4 ⟨rfl, e4⟩
    have e14 := e13.then0 e4
    have h4 := h1.ext0 e14
    have hk4 : Bk w4 b2 [.string (L[m]).1, .string (L[m]).2] 37 := hk3.ext e4
    refine exW.i1 (t := .int .i64) _ rfl (VSet.i ?_)
    refine ⟨fun W => ∃ s X, CuO w0 W q s X (c.room (szP L[m])) ∧ Bk W b2 [.string (L[m]).1, .string (L[m]).2] 37 ∧ Ext [] w0 W, ?_, ?_⟩
    · refine room_walk h4 (e1.then0 e14) hok1 (by omega) fun W' s' X' h' e' hkeep => ⟨s', X', h', hkeep _ _ _ hk4 (by decide) (by decide), e'⟩
    · rintro w10 ⟨s, X, h10, hx10, e10⟩
      intro w11 hw11
      have ed := Ext.drew' hw11
      have h11 := h10.ext0 ed
      have hx11 := hx10.ext ed
      have e11 := e10.then0 ed
      obtain ⟨r1, r2, r3, r4, r5⟩ := hok1.room (szP L[m])
      have hXl := h11.len
      have hi : X.length - 1 < X.length := by omega
      have hsl := h11.pt.len
      have hmem : (X[X.length - 1]).2 ∈ (c.room (szP L[m])).L := by rw [← h11.eq]; exact List.mem_map_of_mem (List.getElem_mem hi)
      have hsm := r3 _ hmem
      have hidx : IntKind.wrap .i64 (((s.len : Nat) : Int) - 1) = ((X.length - 1 : Nat) : Int) := by rw [w64 (by omega)]; omega
      refine VNN.i (VLd.s s (Rd.of_bk h11.bk rfl) (VNN.i (VLd.s s (Rd.of_bk h11.bk rfl) ?_)))
      rw [hidx]
      obtain ⟨rb, hrb, hrow⟩ := Row.cell (r := ptR) h11.pt.row.1 (i := X.length - 1) (by simpa using hi)
      refine VIx.rec' hrb (by omega) (by omega) ?_
      refine ⟨((L[m]).1 : ByteArray), ((L[m]).2 : ByteArray), gd.i (Rd.of_bk hx11 rfl), ?_⟩
      refine VDyn.i (by kernel_rfl) (VCall.i (putP_spec w0 w11 s X (X.length - 1) hi h11.pt e11 ⟨rb, 0, none⟩ hrb L[m] (by omega) _ (by rw [Int.toNat_natCast])) ?_)
      rintro e w12 ⟨rfl, v', h12, e12, ea12⟩
      have hnoq := h11.pt.noQ h11.bk
      have hbk12 := h11.bk.ext ea12 (fun hq => by
        rcases List.mem_append.1 hq with hq | hq
        · exact hnoq.1 hq
        · exact hnoq.2 _ (List.getElem_mem hi) hq)
      refine exW.i0 rfl ?_
      intro w13 hw13
      have ed2 := Ext.drew' hw13
      have hbk13 := hbk12.ext ed2
      have h13 := h12.ext0 ed2
      refine VNN.i (VLd.i1 (t := .int .i64) _ (Rd.of_bk hbk13 rfl) (VNN.i (VLd.i1 (t := .int .i64) _ (Rd.of_bk hbk13 rfl) (VNN.i ?_))))
      refine VSt.bk hbk13 rfl (by simp) fun w14 hk14 e14 => VNN.i (VSt.bk hk14 rfl (by simp) fun w15 hk15 e15 => ?_)
      have e1315 : Ext [q] w13 w15 := e14.then e15 (fun i hi _ => hi)
      have hn13 := h13.noQ hbk13
      rw [w64 (n := (m : Int) + 1) (by omega)]
      refine ⟨_, by omega, m + 1, s, _, rfl, by omega, rfl, ⟨?_, h13.ext e1315 (fun b hb hq => hn13.1 (by simp at hq; exact hq ▸ hb)) (fun x hx b hb hq => hn13.2 x hx (by simp at hq; exact hq ▸ hb)), ?_, h11.ge⟩, hok', (e12.then0 ed2).then e1315 (fun i hi hlt => by simp at hi; have := h11.ge; omega)⟩
      · rw [hstep]
        have hw : IntKind.wrap .i64 ((c.room (szP L[m])).many + 1) = (c.room (szP L[m])).many + 1 := w64 (by omega)
        rw [hw] at hk15
        exact hk15
      · rw [pts_set (f := Pt.putP L[m]) (by omega) hi, h11.eq, hstep]; rfl
  · have hmm : m = L.length := by simp at hc; omega
    subst hmm
    rw [List.take_length] at h1 hok1
    exact ⟨rfl, s, X, h1, hok1, e1⟩
theorem cutQ_spec (w0 w : World) (q : Nat) (s : Sl) (X : List PX) (c0 : Cu) (N : Nat) (h : CuO w0 w q s X c0) (e0 : Ext [] w0 w) (hok : c0.ok N) (l : Sl) (L : List Ls) (hl : InR lsR w0 l L) (hN : N + L.length ≤ 1000) :
    Calls Try.prog 32 #[.pointer (some ⟨q, 0, none⟩), .slice l.base l.len l.cap, .func (.func 33) #[] #[], .func (.func 34) #[] #[]] w fun e w' => e = .returned (.tuple #[]) ∧
      ∃ s' X', CuO w0 w' q s' X' (L.foldl Cu.addQ c0) ∧ (L.foldl Cu.addQ c0).ok (N + L.length) ∧ Ext [] w0 w' := by
  refine sh_hand_cut'_ok _ _ _ _ _ _ ?_
  unfold sh_hand_cut'
  have hn := hl.len
  refine ⟨fun k i W => ∃ (m : Nat) (s : Sl) (X : List PX), i = (m : Int) ∧ m ≤ L.length ∧ k = L.length - m ∧ CuO w0 W q s X ((L.take m).foldl Cu.addQ c0) ∧ ((L.take m).foldl Cu.addQ c0).ok (N + m) ∧ Ext [] w0 W, ⟨_, 0, s, X, rfl, by omega, rfl, h, hok, e0⟩, ?_⟩
  clear h e0 s X
  rintro k i w1 ⟨m, s, X, rfl, hm, rfl, h1, hok1, e1⟩
  refine VIf.mk (fun hc => ?_) (fun hc => ?_)
  · have hm' : m < L.length := by simp at hc; omega
    have hstep : (L.take (m + 1)).foldl Cu.addQ c0 = ((L.take m).foldl Cu.addQ c0).addQ L[m] := by
      rw [List.take_succ_eq_append_getElem hm', List.foldl_append]; rfl
    have hok' := hok1.addQ L[m]
    rw [← hstep] at hok'
    generalize hC : (L.take m).foldl Cu.addQ c0 = c at *
    refine VIx.rec (r := lsR) (hl.1.ext0 e1) hm' rfl fun a hr => ?_
    refine ⟨((L[m]).1 : Int), ((L[m]).2.1 : Int), ((L[m]).2.2.1 : Int), ((L[m]).2.2.2.1 : Bool), ((L[m]).2.2.2.2 : ByteArray), gd.i hr, ?_⟩
    refine VNw.i fun b2 w2 hb2 hk2 e2 => ?_
    refine VSt.bk hk2 rfl (by simp) fun w3 hk3 e3 => ?_
    have e13 : Ext [] w1 w3 := e2.then e3 (fun i hi hlt => by simp at hi; omega)
    refine ⟨((L[m]).1 : Int), ((L[m]).2.1 : Int), ((L[m]).2.2.1 : Int), ((L[m]).2.2.2.1 : Bool), ((L[m]).2.2.2.2 : ByteArray), gd.i (Rd.of_bk hk3 rfl), ?_⟩
    refine VDyn.i (by kernel_rfl) (VCall.i (sizeQ_spec L[m] w3) ?_)
    rintro e w4 ⟨rfl, e4⟩
    have e14 := e13.then0 e4
    have h4 := h1.ext0 e14
    have hk4 : Bk w4 b2 [.int .i64 (L[m]).1, .int .i64 (L[m]).2.1, .int .u8 (L[m]).2.2.1, .bool (L[m]).2.2.2.1, .string (L[m]).2.2.2.2] 68 := hk3.ext e4
    refine exW.i1 (t := .int .i64) _ rfl (VSet.i ?_)
    refine ⟨fun W => ∃ s X, CuO w0 W q s X (c.room (szQ L[m])) ∧ Bk W b2 [.int .i64 (L[m]).1, .int .i64 (L[m]).2.1, .int .u8 (L[m]).2.2.1, .bool (L[m]).2.2.2.1, .string (L[m]).2.2.2.2] 68 ∧ Ext [] w0 W, ?_, ?_⟩
    · refine room_walk h4 (e1.then0 e14) hok1 (by omega) fun W' s' X' h' e' hkeep => ⟨s', X', h', hkeep _ _ _ hk4 (by decide) (by decide), e'⟩
    · rintro w10 ⟨s, X, h10, hx10, e10⟩
      intro w11 hw11
      have ed := Ext.drew' hw11
      have h11 := h10.ext0 ed
      have hx11 := hx10.ext ed
      have e11 := e10.then0 ed
      obtain ⟨r1, r2, r3, r4, r5⟩ := hok1.room (szQ L[m])
      have hXl := h11.len
      have hi : X.length - 1 < X.length := by omega
      have hsl := h11.pt.len
      have hmem : (X[X.length - 1]).2 ∈ (c.room (szQ L[m])).L := by rw [← h11.eq]; exact List.mem_map_of_mem (List.getElem_mem hi)
      have hsm := r3 _ hmem
      have hidx : IntKind.wrap .i64 (((s.len : Nat) : Int) - 1) = ((X.length - 1 : Nat) : Int) := by rw [w64 (by omega)]; omega
      refine VNN.i (VLd.s s (Rd.of_bk h11.bk rfl) (VNN.i (VLd.s s (Rd.of_bk h11.bk rfl) ?_)))
      rw [hidx]
      obtain ⟨rb, hrb, hrow⟩ := Row.cell (r := ptR) h11.pt.row.1 (i := X.length - 1) (by simpa using hi)
      refine VIx.rec' hrb (by omega) (by omega) ?_
      refine ⟨((L[m]).1 : Int), ((L[m]).2.1 : Int), ((L[m]).2.2.1 : Int), ((L[m]).2.2.2.1 : Bool), ((L[m]).2.2.2.2 : ByteArray), gd.i (Rd.of_bk hx11 rfl), ?_⟩
      refine VDyn.i (by kernel_rfl) (VCall.i (putQ_spec w0 w11 s X (X.length - 1) hi h11.pt e11 ⟨rb, 0, none⟩ hrb L[m] (by omega) _ (by rw [Int.toNat_natCast])) ?_)
      rintro e w12 ⟨rfl, v', h12, e12, ea12⟩
      have hnoq := h11.pt.noQ h11.bk
      have hbk12 := h11.bk.ext ea12 (fun hq => by
        rcases List.mem_append.1 hq with hq | hq
        · exact hnoq.1 hq
        · exact hnoq.2 _ (List.getElem_mem hi) hq)
      refine exW.i0 rfl ?_
      intro w13 hw13
      have ed2 := Ext.drew' hw13
      have hbk13 := hbk12.ext ed2
      have h13 := h12.ext0 ed2
      refine VNN.i (VLd.i1 (t := .int .i64) _ (Rd.of_bk hbk13 rfl) (VNN.i (VLd.i1 (t := .int .i64) _ (Rd.of_bk hbk13 rfl) (VNN.i ?_))))
      refine VSt.bk hbk13 rfl (by simp) fun w14 hk14 e14 => VNN.i (VSt.bk hk14 rfl (by simp) fun w15 hk15 e15 => ?_)
      have e1315 : Ext [q] w13 w15 := e14.then e15 (fun i hi _ => hi)
      have hn13 := h13.noQ hbk13
      rw [w64 (n := (m : Int) + 1) (by omega)]
      refine ⟨_, by omega, m + 1, s, _, rfl, by omega, rfl, ⟨?_, h13.ext e1315 (fun b hb hq => hn13.1 (by simp at hq; exact hq ▸ hb)) (fun x hx b hb hq => hn13.2 x hx (by simp at hq; exact hq ▸ hb)), ?_, h11.ge⟩, hok', (e12.then0 ed2).then e1315 (fun i hi hlt => by simp at hi; have := h11.ge; omega)⟩
      · rw [hstep]
        have hw : IntKind.wrap .i64 ((c.room (szQ L[m])).many + 1) = (c.room (szQ L[m])).many + 1 := w64 (by omega)
        rw [hw] at hk15
        exact hk15
      · rw [pts_set (f := Pt.putQ L[m]) (by omega) hi, h11.eq, hstep]; rfl
  · have hmm : m = L.length := by simp at hc; omega
    subst hmm
    rw [List.take_length] at h1 hok1
    exact ⟨rfl, s, X, h1, hok1, e1⟩

theorem Cut_spec (a b : Sl) (P : List Pr) (Q : List Ls) (w : World) (hP : InR prR w a P) (hQ : InR lsR w b Q) (hl : P.length + Q.length ≤ 900) :
    Calls Try.prog 11 #[.slice a.base a.len a.cap, .slice b.base b.len b.cap] w fun e w' => ∃ (s : Sl) (X : List PX), e = .returned (.slice s.base s.len s.cap) ∧ PtsO w w' s X ∧ pts X = cutI P Q ∧ (cutL P Q).ok (P.length + Q.length) ∧ Ext [] w w' := by
  refine sh_hand_Cut_ok _ _ _ _ ?_
  unfold sh_hand_Cut
  refine VNw.i fun b7 w1 hb7 hk7 e1 => VNw.i fun b9 w2 hb9 hk9 e2 => ?_
  have hs1 := e1.size
  have e12 := e1.then0 e2
  have hk7 : Bk w1 b7 (ptR.cells [(⟨none, 0, 0⟩, ⟨none, 0, 0⟩, false)]) 33 := hk7
  have hX0 : PtsO w w2 ⟨some ⟨b7, 0, none⟩, 1, 1⟩ [((⟨none, 0, 0⟩, ⟨none, 0, 0⟩, false), ptE)] := by
    refine ⟨⟨Row.of_bk (hk7.ext e2) rfl (by omega), by simp [rowB]; omega⟩, ?_, List.pairwise_singleton _ _⟩
    intro x hx
    rw [List.mem_singleton.1 hx]
    exact ⟨OwnR.nil _ _ _ _, OwnR.nil _ _ _ _, rfl⟩
  have hC0 : CuO w w2 b9 ⟨some ⟨b7, 0, none⟩, 1, 1⟩ [((⟨none, 0, 0⟩, ⟨none, 0, 0⟩, false), ptE)] ⟨[ptE], 0, 0⟩ := ⟨hk9, hX0, rfl, by omega⟩
  have hok0 : Cu.ok 0 ⟨[ptE], 0, 0⟩ := ⟨by simp, by simp, by simp [ptE], by simp⟩
  refine VCall.i (cutP_spec w w2 b9 _ _ _ 0 hC0 e12 hok0 a P hP (by omega)) ?_
  rintro e w3 ⟨rfl, s3, X3, h3, hok3, e3⟩
  refine exW.i0 rfl ?_
  refine VCall.i (cutQ_spec w w3 b9 _ _ _ _ h3 e3 hok3 b Q hQ (by omega)) ?_
  rintro e w4 ⟨rfl, s4, X4, h4, hok4, e4⟩
  refine exW.i0 rfl ?_
  intro w5 hw5
  have ed := Ext.drew' hw5
  have h5 := h4.ext0 ed
  have e5 := e4.then0 ed
  have hXl := h5.len
  have hsl := h5.pt.len
  have hne := hok4.ne
  have hle := hok4.len
  have hi : X4.length - 1 < X4.length := by omega
  have hidx : IntKind.wrap .i64 (((s4.len : Nat) : Int) - 1) = ((X4.length - 1 : Nat) : Int) := by rw [w64 (by omega)]; omega
  refine VNN.i (VLd.s s4 (Rd.of_bk h5.bk rfl) (VNN.i (VLd.s s4 (Rd.of_bk h5.bk rfl) ?_)))
  rw [hidx]
  have hget : (X4.map (·.1))[X4.length - 1]'(by simpa using hi) = (X4[X4.length - 1]).1 := List.getElem_map ..
  refine Row.putR (r := ptR) (i := X4.length - 1) (j := 2) (vs := [.bool true]) (x := ((X4[X4.length - 1]).1.1, (X4[X4.length - 1]).1.2.1, true)) h5.pt.row.1 (by simpa using hi) (by show 2 + 1 ≤ 3; omega) rfl (by rw [hget]; rfl) (fun a => by rw [Int.toNat_natCast]; rfl) fun w6 h6 e6 => ?_
  have hnq := h5.pt.noQ h5.bk
  have hx := h5.pt.all _ (List.getElem_mem hi)
  have hput : PtsO w w6 s4 (X4.set (X4.length - 1) (((X4[X4.length - 1]).1.1, (X4[X4.length - 1]).1.2.1, true), (X4[X4.length - 1]).2.end_)) :=
    h5.pt.put hi (y := (((X4[X4.length - 1]).1.1, (X4[X4.length - 1]).1.2.1, true), (X4[X4.length - 1]).2.end_)) ⟨hx.P, hx.Q, rfl⟩ (fun b hb => .inl hb) (Ext.refl _ _) h6 e6 h5.pt.row
  refine VNN.i (VLd.s s4 (Rd.of_bk (h5.bk.ext e6 hnq.1) rfl) ⟨s4, _, rfl, hput, ?_, ?_, e5.then e6 (fun i hi hlt => by have := h5.pt.row.2 i hi; omega)⟩)
  · rw [pts_set (f := Pt.end_) (by omega) hi, h5.eq]; rfl
  · rw [Nat.zero_add] at hok4; exact hok4
end Go.Proofs.Ytoceilgifkncoaa
