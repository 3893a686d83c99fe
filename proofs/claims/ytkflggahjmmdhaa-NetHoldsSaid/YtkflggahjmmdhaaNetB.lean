/-
  Package net: Take, the document's Take, told; the first example.
-/
import Derived.Test.YtkflggahjmmdhaaNetA
namespace Go.Proofs.Ytkflggahjmmdhaa
open Go.RowKit
set_option maxRecDepth 100000

theorem look_has {N : NM} {i : Int} (hi : N.has i = true) : ∃ h : i.toNat < N.L.length, N.look i = N.L[i.toNat] := by
  obtain ⟨h0, hl⟩ := has_iff.1 hi
  have hil : i.toNat < N.L.length := by omega
  exact ⟨hil, by unfold NM.look; rw [if_pos hi, List.getD_eq_getElem?_getD, List.getElem?_eq_getElem hil]; rfl⟩

theorem Take_spec (w0 w : World) (q : Nat) (s : Sl) (N : NM) (i : Int) (e0 : Ext [] w0 w) (h : NetO 58 35 w0 w q s N) :
    Calls Try.prog 10 #[.pointer (some ⟨q, 0, none⟩), .int .i64 i] w fun e w' =>
      e = .returned (.tuple #[.agg #[.int .i64 (N.look i).1, .int .i64 (N.look i).2.1, .string (N.look i).2.2], .bool (N.has i)]) ∧ After 58 35 w0 w w' q s (N.take i) := by
  refine sh_net_Net_Take_ok _ _ _ _ ?_
  unfold sh_net_Net_Take
  refine VNw.i fun b w1 hb hk e1 => ?_
  have h1 := h.ext0 e1
  refine VCall.i (Look_spec w0 w1 q s N i h1) ?_
  rintro e w2 ⟨rfl, e2⟩
  refine exW.i4 (t := .int .i64) (u := .int .i64) (v := .str) (q := .bool) _ _ _ _ rfl ?_
  refine VNw.i fun b3 w3 hb3 hk3 e3 => ?_
  refine VSt.bk hk3 rfl (by simp) fun w4 hk4 e4 => ?_
  have e12 := e1.then0 e2
  have e24 : Ext [] w2 w4 := e3.then e4 (fun i hi hlt => by simp at hi; omega)
  have ew4 := e12.then0 e24
  have h4 := h.ext0 ew4
  have hkb4 := (hk.ext e2).ext e24
  have hlt := h.lt
  have hs1 := e1.size
  have hs12 := e12.size
  have hb3q : ∀ x ∈ fp q s, b3 ≠ x ∧ b ≠ x := fun x hx => by have := hlt x hx; omega
  have hbb : b ≠ b3 := by have := hk.lt; have := e2.size; omega
  refine ⟨fun W => ∃ s', NetO 58 35 w0 W q s' (N.take i) ∧ rowB s' = rowB s ∧ Ext (fp q s) w W ∧ Bk W b3 [.int .i64 (N.look i).1, .int .i64 (N.look i).2.1, .string (N.look i).2.2] 35 ∧ Bk W b [.int .i64 0, .int .i64 0, .string ByteArray.empty] 35, ?_, ?_⟩
  · cases hi : N.has i with
    | false =>
      refine VIf.f rfl ?_
      unfold NM.take
      rw [hi]
      exact ⟨s, h4, rfl, ew4.mono (by simp), hk4, hkb4⟩
    | true =>
      refine VIf.t rfl ?_
      obtain ⟨h0, hl⟩ := has_iff.1 hi
      obtain ⟨j, rfl⟩ := Int.eq_ofNat_of_zero_le h0
      have hsl := h.slen
      have hcp := h.row.cap
      have hm := h.len
      have hm1 := h.m1
      intro w5 hw5
      have e45 := Ext.drew' hw5
      have e5 := ew4.then0 e45
      have h5 := h4.ext0 e45
      rw [w64 (n := ((j : Nat) : Int) + 1) (by omega)]
      refine VNN.i (VLd.s s h5.rd2 (VCk.i (by omega) (VNN.i (VLd.s s h5.rd2 (VCk.i (by omega) ?_)))))
      rw [show Int.toNat (((j : Nat) : Int) + 1) = j + 1 by omega, Int.toNat_natCast]
      refine VCopy.shift (r := pkR) h5.row.1 (by omega) fun w6 h6 e6 => ?_
      intro w7 hw7
      have e67 := Ext.drew' hw7
      have h7 := h6.ext0 e67
      have hqs := h.qs
      have hk6 := h5.bk.ext e6 hqs
      have hk7 := hk6.ext e67
      have hr2 : Rd w7 ⟨q, 2, none⟩ [.slice s.base s.len s.cap] := Rd.of_bk hk7 rfl
      refine VNN.i (VLd.s s hr2 (VNN.i (VLd.s s hr2 ?_)))
      rw [w64 (n := ((s.len : Nat) : Int) - 1) (by omega)]
      refine VCk.i (by omega) (VNN.i ?_)
      refine VSt.bk hk7 rfl (by simp) fun w8 hk8 e8 => ?_
      rw [cutB_zero, Nat.sub_zero, Nat.sub_zero, show Int.toNat (((s.len : Nat) : Int) - 1) = s.len - 1 by omega] at hk8
      have e78 : Ext (rowB s) w5 w7 := e6.then0 e67
      have hr8 : OwnR pkR 35 w0 w8 ⟨s.base, s.len - 1, s.cap⟩ (N.L.eraseIdx j) := ⟨h7.ext e8 (fun x hx hx' => by simp at hx'; subst hx'; exact hqs hx), h.row.2⟩
      have hb3r : b3 ∉ rowB s := fun hx => (hb3q b3 (by simp [fp, hx])).1 rfl
      have hbr : b ∉ rowB s := fun hx => (hb3q b (by simp [fp, hx])).2 rfl
      have hb3qq := hb3q q (by simp [fp])
      unfold NM.take
      rw [hi]
      refine ⟨⟨s.base, s.len - 1, s.cap⟩, ⟨hk8, hr8, h.ge, h.m0, h.m1, ?_, h.te⟩, rfl, ?_, ?_, ?_⟩
      · simp only [if_true]; rw [List.length_eraseIdx]; split <;> omega
      · exact ((e5.mono (by simp)).then e78 (fun i hi _ => by simp [fp, hi])).then e8 (fun i hi _ => by simp at hi; simp [fp, hi])
      · exact ((hk4.ext e45).ext e78 hb3r).ext e8 (by simp; exact hb3qq.1)
      · exact ((hkb4.ext e45).ext e78 hbr).ext e8 (by simp; exact hb3qq.2)
  · rintro w9 ⟨s', h9, hr9, e9, hk9, hkb9⟩
    refine VLd.i3 _ _ _ (Rd.of_bk hk9 rfl) ?_
    refine VSt.bk hkb9 rfl (by simp) fun w10 hk10 e10 => ?_
    refine VLd.i3 _ _ _ (Rd.of_bk hk10 rfl) ?_
    refine ⟨rfl, s', h9.ext e10 (fun x hx => ?_), e9.then e10 (fun x hx hlt' => by simp at hx; omega), fun x hx => .inl (by rw [← hr9]; exact hx)⟩
    have : x ∈ fp q s := by simp only [fp, List.mem_cons] at hx ⊢; rw [hr9] at hx; exact hx
    simp
    exact fun e => (hb3q x this).2 e.symm

theorem XTake_spec (w0 w : World) (q : Nat) (s : Sl) (N : NM) (i : Int) (e0 : Ext [] w0 w) (h : NetO 54 48 w0 w q s N) :
    Calls Try.prog 16 #[.pointer (some ⟨q, 0, none⟩), .int .i64 i] w fun e w' =>
      e = .returned (.tuple #[.agg #[.int .i64 (N.look i).1, .int .i64 (N.look i).2.1, .string (N.look i).2.2], .bool (N.has i)]) ∧ After 54 48 w0 w w' q s (N.take i) := by
  refine sh_butteryref10_Net_Take_ok _ _ _ _ ?_
  unfold sh_butteryref10_Net_Take
  have hsl := h.slen
  have hcp := h.row.cap
  have hm := h.len
  have hm1 := h.m1
  refine VNw.i fun b w1 hb hk e1 => ?_
  have h1 := h.ext0 e1
  have hlt := h.lt
  refine VNN.i (VLd.s s h1.rd2 ?_)
  cases hi : N.has i with
  | false =>
    have hn : ¬ (0 ≤ i ∧ i < (N.L.length : Int)) := fun h => by rw [has_iff.2 h] at hi; cases hi
    refine VIf.t (by simp; omega) ?_
    have hlook : N.look i = pk0 := by unfold NM.look; rw [hi]; rfl
    refine VSt.bk hk rfl (by simp) fun w2 hk2 e2 => ?_
    refine VLd.i3 _ _ _ (Rd.of_bk hk2 rfl) ?_
    rw [hlook]
    have e12 : Ext [] w w2 := e1.then e2 (fun i hi hlt => by simp at hi; omega)
    unfold NM.take
    rw [hi]
    exact ⟨rfl, After.same (h.ext0 e12) e12⟩
  | true =>
    obtain ⟨hil, hlook⟩ := look_has hi
    obtain ⟨h0, hl⟩ := has_iff.1 hi
    obtain ⟨j, rfl⟩ := Int.eq_ofNat_of_zero_le h0
    simp only [Int.toNat_natCast] at hil hlook
    refine VIf.f (by simp; omega) (VNN.i (VLd.s s h1.rd2 ?_))
    obtain ⟨a, ha, hrd⟩ := h1.row.seg.rec_at hil
    rw [ha]
    refine VIx.i (by omega) (by omega) ?_
    refine VLd.i3 _ _ _ hrd ?_
    refine VNw.i fun b3 w3 hb3 hk3 e3 => ?_
    refine VSt.bk hk3 rfl (by simp) fun w4 hk4 e4 => ?_
    have e14 : Ext [] w1 w4 := e3.then e4 (fun i hi hlt => by simp at hi; omega)
    have h4 := h1.ext0 e14
    have hkb4 := hk.ext e14
    have ew4 := e1.then0 e14
    refine VNN.i (VLd.s s h4.rd2 (VCk.i (by omega) ?_))
    simp only [Int.toNat_natCast]
    have q1 := h4.row.in_.cut 0 j (by omega) (by omega)
    rw [List.drop_zero] at q1
    refine VApp.rec (r := pkR) (s := ⟨none, 0, 0⟩) (w0 := w4) (OwnR.nil pkR _ w4 w4) (Ext.refl _ _) (news := N.L.take j) q1.1 (by rw [List.length_take]; omega) rfl (by simp; omega) (by simp; omega) fun s5 w5 h5 e5 _ _ => ?_
    rw [List.nil_append] at h5
    have h45 := h4.ext0 e5
    have ew5 := ew4.then0 e5
    refine VNN.i (VLd.s s h45.rd2 ?_)
    rw [w64 (n := ((j : Nat) : Int) + 1) (by omega)]
    refine VCk.i (by omega) ?_
    rw [show Int.toNat (((j : Nat) : Int) + 1) = j + 1 by omega]
    have q2 := h45.row.in_.cut (j + 1) s.len (by omega) (by omega)
    rw [hsl, List.take_length] at q2
    rw [hsl]
    have hl5 : (N.L.take j).length = j := by rw [List.length_take]; omega
    refine VApp.rec (r := pkR) (w0 := w4) h5 e5 (news := N.L.drop (j + 1)) q2.1 (by rw [List.length_drop]) rfl (by rw [hl5]; omega) (by rw [hl5]; omega) fun s6 w6 h6 e6 _ _ => ?_
    have h46 := h4.ext0 e6
    have ew6 := ew4.then0 e6
    refine VNN.i ?_
    have hq4 : q < w4.heap.size := h4.bk.lt
    refine VSt.bk h46.bk rfl (by simp) fun w7 hk7 e7 => ?_
    have hk47 : Bk w7 b3 _ _ := (hk4.ext e6).ext e7 (by simp; have := hlt q (by simp [fp]); have := e1.size; omega)
    have hkb7 : Bk w7 b _ _ := (hkb4.ext e6).ext e7 (by simp; have := hlt q (by simp [fp]); omega)
    have hq6 : q ∉ rowB s6 := fun hx => by have := h6.2 q hx; omega
    have h67 := h6.ext e7 (fun x hx hx' => by simp at hx'; subst hx'; exact hq6 hx)
    refine VLd.i3 _ _ _ (Rd.of_bk hk47 rfl) ?_
    refine VSt.bk hkb7 rfl (by simp) fun w8 hk8 e8 => ?_
    refine VLd.i3 _ _ _ (Rd.of_bk hk8 rfl) ?_
    have hgw : w0.heap.size ≤ w4.heap.size := by have := e0.size; have := ew4.size; omega
    unfold NM.take
    rw [hi, hlook]
    have her : N.L.eraseIdx j = N.L.take j ++ N.L.drop (j + 1) := List.eraseIdx_eq_take_drop_succ ..
    refine ⟨rfl, s6, ⟨?_, ?_, h.ge, h.m0, h.m1, ?_, h.te⟩, ?_, ?_⟩
    · exact hk7.ext e8 (by simp; have := hlt q (by simp [fp]); omega)
    · simp only [if_true, Int.toNat_natCast]; rw [her]
      exact (h67.ext e8 (fun x hx hx' => by simp at hx'; subst hx'; have := h6.2 x hx; have := hkb4.lt; omega)).mono hgw
    · simp only [if_true]; rw [List.length_eraseIdx]; split <;> omega
    · exact ((ew6.mono (by simp)).then e7 (fun i hi _ => by simp at hi; simp [fp, hi])).then e8 (fun x hx hlt' => by simp at hx; omega)
    · intro x hx
      have := h6.2 x hx
      have := ew4.size
      exact .inr (by omega)

theorem ba_eq {a b : ByteArray} (h : a.toList = b.toList) : a = b := by
  obtain ⟨⟨x⟩⟩ := a
  obtain ⟨⟨y⟩⟩ := b
  rw [ByteArray.toList_eq, ByteArray.toList_eq] at h
  simp at h
  rw [h]
theorem told_spec (s t : Sl) (L M : List Pk) (w : World) (h : Seg w s.base s.len 3 (pkR.cells L)) (k : Seg w t.base t.len 3 (pkR.cells M)) (hl : L.length ≤ 1000000) :
    Calls Try.prog 17 #[.slice s.base s.len s.cap, .slice t.base t.len t.cap] w fun e w' => ∃ r, e = .returned (.bool r) ∧ (r = true ↔ L = M) ∧ Ext [] w w' := by
  refine sh_butterylaw10_told_ok _ _ _ _ ?_
  unfold sh_butterylaw10_told
  have h' : Seg w s.base s.len pkR.k (pkR.cells L) := h
  have k' : Seg w t.base t.len pkR.k (pkR.cells M) := k
  have hn := h'.rlen
  have kn := k'.rlen
  refine VIf.mk (fun hc => ⟨false, rfl, ?_, Ext.refl _ _⟩) (fun hc => ?_)
  · simp only [Bool.false_eq_true, false_iff]
    rintro rfl
    simp at hc; omega
  have hlm : L.length = M.length := by simp at hc; omega
  refine ⟨fun k x W => ∃ j : Nat, x = (j : Int) ∧ j ≤ L.length ∧ k = L.length - j ∧ Ext [] w W ∧ L.take j = M.take j, ⟨_, 0, rfl, by omega, rfl, Ext.refl _ _, rfl⟩, ?_⟩
  rintro k1 x w1 ⟨j, rfl, hj, rfl, e1, htk⟩
  refine VIf.mk (fun hc2 => ?_) (fun hc2 => ?_)
  · have hjl : j < L.length := by simp at hc2; omega
    intro w2 hw2
    have e2 := e1.then0 (Ext.drew' hw2)
    obtain ⟨a, ha, hra⟩ := (h'.ext0 e2).rec_at hjl
    obtain ⟨b, hb, hrb⟩ := (k'.ext0 e2).rec_at (show j < M.length by omega)
    rw [ha, hb]
    refine VIx.i (by omega) (by omega) (VLd.i1 _ (hra.fld0 rfl) (VIx.i (by omega) (by omega) (VLd.i1 _ (hrb.fld0 rfl) ?_)))
    refine VIx.i (by omega) (by omega) (VLd.i1 _ (hra.fld 1 rfl) (VIx.i (by omega) (by omega) (VLd.i1 _ (hrb.fld 1 rfl) ?_)))
    refine VIx.i (by omega) (by omega) (VLd.i1 _ (hra.fld 2 rfl) (VIx.i (by omega) (by omega) (VLd.i1 _ (hrb.fld 2 rfl) ?_)))
    refine VIf.mk (fun hc3 => ⟨false, rfl, ?_, e2⟩) (fun hc3 => ?_)
    · simp only [Bool.false_eq_true, false_iff]
      rintro rfl
      simp at hc3
    · have : L[j] = M[j]'(by omega) := by
        simp at hc3
        obtain ⟨⟨h1, h2⟩, h3⟩ := hc3
        exact Prod.ext h1 (Prod.ext h2 (ba_eq h3))
      rw [w64 (show -9223372036854775808 ≤ (j : Int) + 1 ∧ (j : Int) + 1 ≤ 9223372036854775807 by omega)]
      refine VSet.i ⟨_, by omega, j + 1, by omega, by omega, rfl, e2, ?_⟩
      rw [List.take_succ_eq_append_getElem hjl, List.take_succ_eq_append_getElem (show j < M.length by omega), htk, this]
  · have : j = L.length := by simp at hc2; omega
    subst this
    refine ⟨true, rfl, ?_, e1⟩
    simp only [true_iff]
    rw [List.take_length, hlm, List.take_length] at htk
    exact htk
end Go.Proofs.Ytkflggahjmmdhaa
