/-
  Package msg: the document's twin.
-/
import Derived.Test.YtodcdfelbphajaaMsgE
namespace Go.Proofs.Ytodcdfelbphajaa
open Go.RowKit
set_option maxRecDepth 100000

theorem refTwin_spec (a : MV) (p : MP) (X : List EX) (w : World) (h : MIn w a p X) (hf : Fit p) :
    Calls Try.prog 11 #[mva a] w fun e w' => ∃ (m : MV) (Y : List EX), e = .returned (mva m) ∧ MIn w' m p Y ∧ Ext [] w w' := by
  unfold mva
  apply sh_butteryref13_Twin_ok
  unfold sh_butteryref13_Twin
  have hXl : X.length = p.E.length := by rw [← h.ex]; simp [ens]
  have hXa : ∀ j (hj : j < X.length), (X[j]).2.length ≤ 1048576 := fun j hj => by
    have := hf.fa (X[j].en) (by rw [← h.ex]; exact List.mem_map_of_mem (List.getElem_mem hj))
    exact this
  have f1 := hf.fe
  have f2 := hf.fl
  have f3 := hf.fp
  have f4 := hf.fq
  have lE := h.es.len
  refine VNw.i fun mb w1 hb1 hk1 e1 => VNw.i fun b2 w2 hb2 hk2 e2 => ?_
  have hk1 : Bk w1 mb (mvF a) 34 := hk1
  have hm2 := hk1.ext e2
  refine VLd.mv a (Rd.of_bk hm2 rfl) ?_
  refine VNw.i fun ob w3 hb3 hk3 e3 => VSt.bk hk3 rfl (by simp) fun w4 hk4 e4 => ?_
  have hk4 : Bk w4 ob (mvF a) 34 := hk4
  refine VSt.bk hk4 rfl (by simp [mvF]) fun w5 hk5 e5 => ?_
  have hk5 : Bk w5 ob (mvF ⟨a.c, ⟨none, 0, 0⟩, a.l, a.p, a.q⟩) 34 := hk5
  have hob : w.heap.size ≤ ob := by have := e1.size; have := e2.size; omega
  have hbb : w.heap.size ≤ b2 := by have := e1.size; omega
  have l1 := hk1.lt
  have l2 := hk2.lt
  have e25 : Ext [] w2 w5 := (e3.then e4 (fun i hi hlt => by simp at hi; omega)).then e5 (fun i hi hlt => by simp at hi; omega)
  have e05 := (e1.then0 e2).then0 e25
  have hm5 := hm2.ext e25
  have hb5 := hk2.ext e25
  have hne1 : mb ≠ ob := by have := hm2.lt; omega
  have hne2 : b2 ≠ ob := by omega
  refine ⟨fun k i W => ∃ (m : Nat) (Y : List EX) (l : Sl), i = (m : Int) ∧ m ≤ X.length ∧ k = X.length - m ∧ Y.length = m ∧ ens Y = (ens X).take m ∧ OwnR enR 58 w W l (Y.map (·.1)) ∧ (∀ y ∈ Y, OwnR intR 3 w W y.1.2.2.2 y.2) ∧
      Bk W mb (mvF a) 34 ∧ Bk W ob (mvF ⟨a.c, l, a.l, a.p, a.q⟩) 34 ∧ (∃ cs, cs.length = 33 ∧ Bk W b2 cs 34) ∧ Ext [] w W,
    ⟨_, 0, [], ⟨none, 0, 0⟩, rfl, by omega, rfl, rfl, rfl, OwnR.nil _ _ _ _, by simp, hm5, hk5, ⟨_, by rfl, hb5⟩, e05⟩, ?_⟩
  rintro k i w6 ⟨m, Y, l, rfl, hm, rfl, hYl, hYX, her, hea, hmb, hko, ⟨cs2, hcs2, hkb⟩, e6⟩
  refine VLd.s a.e (Rd.of_bk hmb rfl) (VIf.mk (fun hc => ?_) (fun hc => ?_))
  · have hm' : m < X.length := by simp at hc; omega
    have h6 := h.ext0 e6
    refine VLd.s a.e (Rd.of_bk hmb rfl) (VIx.es h6.es hm' rfl fun a1 hr1 => ⟨((X[m]).1.1 : Int), ((X[m]).1.2.1 : Int), ((X[m]).1.2.2.1 : ByteArray), ((X[m]).1.2.2.2 : Sl), gd.i hr1, ?_⟩)
    refine VNw.i fun eb w7 heb hke e7 => VSt.bk hke rfl (by simp) fun w8 hk8 e8 => ?_
    have hk8 : Bk w8 eb (enR.f (X[m]).1) 58 := hk8
    have e68 : Ext [] w6 w8 := e7.then e8 (fun i hi hlt => by simp at hi; omega)
    have h8 := h6.ext0 e68
    refine VNw.i fun nb w9 hnb hkn e9 => ?_
    refine VLd.s a.e (Rd.of_bk ((hmb.ext e68).ext e9) rfl) (VIx.es (h8.ext0 e9).es hm' rfl fun a2 hr2 => VLd.s (X[m]).1.2.2.2 (hr2.fld 3 rfl) ?_)
    have hxl := hXa m hm'
    refine VApp.rclone (r := intR) (L := (X[m]).2) hnb hkn e9 (h8.es.all _ (List.getElem_mem hm')).1 rfl (by omega) (by omega) fun ln w10 hln e10 => ?_
    have e610 := e68.then0 e10
    refine VSt.bk (hk8.ext e10) rfl (by simp [enR]) fun w11 hk11 e11 => ?_
    have hk11 : Bk w11 eb (enR.f ((X[m]).1.1, (X[m]).1.2.1, (X[m]).1.2.2.1, ln)) 58 := hk11
    have heb6 : w6.heap.size ≤ eb := by omega
    have e611 : Ext [] w6 w11 := e610.then e11 (fun i hi hlt => by simp at hi; omega)
    have hln11 : OwnR intR 3 w w11 ln (X[m]).2 := ((hln.mono (w0 := w) (e6.then0 e68).size)).ext e11 (fun b hb hq => by
      simp at hq; subst hq
      exact hln.noB (hk8.ext e10) (by decide) hb)
    refine VLd.s l (Rd.of_bk (hko.ext e611) rfl) ?_
    refine ⟨((X[m]).1.1 : Int), ((X[m]).1.2.1 : Int), ((X[m]).1.2.2.1 : ByteArray), (ln : Sl), gd.i (Rd.of_bk hk11 rfl), ?_⟩
    refine VNw.i fun qb w12 hqb hkq e12 => ?_
    have e612 := e611.then0 e12
    have her12 := her.ext0 e612
    refine VApp.rec (r := enR) her12 (e6.then0 e612) (news := [((X[m]).1.1, (X[m]).1.2.1, (X[m]).1.2.2.1, ln)]) (Seg.of_bk hkq rfl rfl) rfl rfl (by simp; omega) (by simp; omega) fun l13 w13 hr13 e13w e13 _ => ?_
    have hko13 := (hko.ext e612).ext e13 (her12.noB (hko.ext e612) (by decide))
    refine VSt.bk hko13 rfl (by simp [mvF]) fun w14 hk14 e14 => ?_
    have hk14 : Bk w14 ob (mvF ⟨a.c, l13, a.l, a.p, a.q⟩) 34 := hk14
    have n14 : ∀ {α : Type} {r : Rec α} {e : TypeId} {s : Sl} {L : List α}, OwnR r e w w13 s L → e ≠ 34 → ∀ b ∈ rowB s, b ∉ [ob] := fun ho hn b hb hq => by
      simp at hq; subst hq; exact ho.noB hko13 hn hb
    have hmb13 := (hmb.ext e612).ext e13 (her12.noB (hmb.ext e612) (by decide))
    have hkb13 := (hkb.ext e612).ext e13 (her12.noB (hkb.ext e612) (by decide))
    rw [w64 (n := (m : Int) + 1) (by omega)]
    refine VSet.i ⟨_, (show X.length - (m + 1) < X.length - m by omega), m + 1, Y ++ [(((X[m]).1.1, (X[m]).1.2.1, (X[m]).1.2.2.1, ln), (X[m]).2)], l13, rfl, by omega, rfl, by simp; omega, ?_, ?_, ?_, hmb13.ext e14 (by simpa using hne1), hk14, ⟨cs2, hcs2, hkb13.ext e14 (by simpa using hne2)⟩, e13w.then e14 (fun i hi hlt => by simp at hi; omega)⟩
    · have lX : m < (ens X).length := by simpa [ens] using hm'
      rw [List.take_succ_eq_append_getElem lX, ← hYX]
      simp [ens, EX.en]
    · rw [List.map_append]
      exact hr13.ext e14 (n14 hr13 (by decide))
    · intro y hy
      rcases List.mem_append.1 hy with hy | hy
      · have h1 := (hea y hy).ext0 e612
        have h2 := h1.ext e13 (h1.sepT her12 (by decide))
        exact h2.ext e14 (n14 h2 (by decide))
      · rw [List.mem_singleton.1 hy]
        have h1 := hln11.ext0 e12
        have h2 := h1.ext e13 (h1.sepT her12 (by decide))
        exact h2.ext e14 (n14 h2 (by decide))
  · have hmm : m = X.length := by simp at hc; omega
    subst hmm
    have h6 := h.ext0 e6
    refine VNw.i fun b15 w15 hb15 hk15 e15 => ?_
    refine VLd.s a.l (Rd.of_bk (hmb.ext e15) rfl) ?_
    refine VApp.rclone (r := intR) (L := p.L) hb15 hk15 e15 h6.li.1 rfl (by omega) (by omega) fun l1 w16 hl1 e16 => ?_
    refine VSt.bk (hko.ext e16) rfl (by simp [mvF]) fun w17 hk17 e17 => ?_
    have hk17 : Bk w17 ob (mvF ⟨a.c, l, l1, a.p, a.q⟩) 34 := hk17
    have keep : ∀ {W W' : World}, Ext [] w W → Ext [ob] W W' → Ext [] w W' := fun x y => x.then y (fun i hi hlt => by simp at hi; omega)
    have nb : ∀ {W : World} {α : Type} {r : Rec α} {e : TypeId} {s : Sl} {L : List α} {cs : List Value}, OwnR r e w W s L → Bk W ob cs 34 → e ≠ 34 → ∀ b ∈ rowB s, b ∉ [ob] := fun ho hk hn b hb hq => by
      simp at hq; subst hq; exact ho.noB hk hn hb
    have hko16 := hko.ext e16
    have e617 : Ext [ob] w6 w17 := (e16.mono (N := [ob]) (by simp)).then e17 (fun i hi _ => hi)
    have e017 := keep e6 e617
    have h17 := h.ext0 e017
    have hl1w := hl1.mono (w0 := w) e6.size
    have hl17 := hl1w.ext e17 (nb hl1w hko16 (by decide))
    have hmb17 := hmb.ext e617 (by simpa using hne1)
    refine VNw.i fun b18 w18 hb18 hk18 e18 => ?_
    refine VLd.s a.p (Rd.of_bk (hmb17.ext e18) rfl) ?_
    refine VApp.rclone (r := prR) (L := p.P) hb18 hk18 e18 h17.pi.1 rfl (by omega) (by omega) fun l2 w19 hl2 e19 => ?_
    have hko19 := hk17.ext e19
    refine VSt.bk hko19 rfl (by simp [mvF]) fun w20 hk20 e20 => ?_
    have hk20 : Bk w20 ob (mvF ⟨a.c, l, l1, l2, a.q⟩) 34 := hk20
    have e1720 : Ext [ob] w17 w20 := (e19.mono (N := [ob]) (by simp)).then e20 (fun i hi _ => hi)
    have e020 := keep e017 e1720
    have h20 := h.ext0 e020
    have hl2w := hl2.mono (w0 := w) e017.size
    have hl20 := hl2w.ext e20 (nb hl2w hko19 (by decide))
    have hmb20 := hmb17.ext e1720 (by simpa using hne1)
    refine VNw.i fun b21 w21 hb21 hk21 e21 => ?_
    refine VLd.s a.q (Rd.of_bk (hmb20.ext e21) rfl) ?_
    refine VApp.rclone (r := lsR) (L := p.Q) hb21 hk21 e21 h20.qi.1 rfl (by omega) (by omega) fun l3 w22 hl3 e22 => ?_
    have hko22 := hk20.ext e22
    refine VSt.bk hko22 rfl (by simp [mvF]) fun w23 hk23 e23 => ?_
    have hk23 : Bk w23 ob (mvF ⟨a.c, l, l1, l2, l3⟩) 34 := hk23
    have e2023 : Ext [ob] w20 w23 := (e22.mono (N := [ob]) (by simp)).then e23 (fun i hi _ => hi)
    have e023 := keep e020 e2023
    have hl3w := hl3.mono (w0 := w) e020.size
    have hl23 := hl3w.ext e23 (nb hl3w hko22 (by decide))
    have e623 : Ext [ob] w6 w23 := (e617.then e1720 (fun i hi _ => hi)).then e2023 (fun i hi _ => hi)
    have hkb23 := hkb.ext e623 (by simpa using hne2)
    refine VLd.mv ⟨a.c, l, l1, l2, l3⟩ (Rd.of_bk hk23 rfl) ?_
    refine VSt.bk hkb23 rfl (by simp; omega) fun w24 hk24 e24 => ?_
    have hk24' : Bk w24 b2 (mvF ⟨a.c, l, l1, l2, l3⟩) 34 := by
      have : ∀ vs : List Value, vs.length = 33 → List.take 0 cs2 ++ vs ++ List.drop (0 + vs.length) cs2 = vs := fun vs hv => by
        rw [List.drop_eq_nil_of_le (by omega)]; simp
      rw [this _ rfl] at hk24
      exact hk24
    have nb2 : ∀ {W : World} {α : Type} {r : Rec α} {e : TypeId} {s : Sl} {L : List α}, OwnR r e w w23 s L → e ≠ 34 → ∀ b ∈ rowB s, b ∉ [b2] := fun ho hn b hb hq => by
      simp at hq; subst hq; exact ho.noB hkb23 hn hb
    have her23 := her.ext e623 (nb her hko (by decide))
    have hl1_23 := (hl17.ext e1720 (nb hl17 hk17 (by decide))).ext e2023 (nb (hl17.ext e1720 (nb hl17 hk17 (by decide))) hk20 (by decide))
    have hl2_23 := hl20.ext e2023 (nb hl20 hk20 (by decide))
    refine VLd.mv ⟨a.c, l, l1, l2, l3⟩ (Rd.of_bk hk24' rfl) ⟨⟨a.c, l, l1, l2, l3⟩, Y, rfl, ⟨h.c, ⟨(her23.ext e24 (nb2 (W := w) her23 (by decide))).in_, fun y hy => ?_⟩, ?_, (hl1_23.ext e24 (nb2 (W := w) hl1_23 (by decide))).in_, (hl2_23.ext e24 (nb2 (W := w) hl2_23 (by decide))).in_, (hl23.ext e24 (nb2 (W := w) hl23 (by decide))).in_⟩, e023.then e24 (fun i hi hlt => by simp at hi; omega)⟩
    · have h1 := (hea y hy).ext e623 (nb (hea y hy) hko (by decide))
      exact (h1.ext e24 (nb2 (W := w) h1 (by decide))).in_
    · rw [hYX, ← h.ex]
      have lX : X.length = (ens X).length := by simp [ens]
      rw [lX, List.take_length]
end Go.Proofs.Ytodcdfelbphajaa
