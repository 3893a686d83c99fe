/-
  Package msg: the same message.
-/
import Derived.Test.YtodcdfelbphajaaMsgB
namespace Go.Proofs.Ytodcdfelbphajaa
open Go.RowKit
set_option maxRecDepth 100000

structure MP where
  c : SC
  E : List En
  L : List Int
  P : List Pr
  Q : List Ls
noncomputable instance : DecidableEq MP := fun a b => Classical.propDecidable (a = b)
structure MIn (w : World) (m : MV) (p : MP) (X : List EX) : Prop where
  c : m.c = p.c
  es : EsIn w m.e X
  ex : ens X = p.E
  li : InR intR w m.l p.L
  pi : InR prR w m.p p.P
  qi : InR lsR w m.q p.Q
theorem MIn.ext0 {w w' : World} {m : MV} {p : MP} {X : List EX} (h : MIn w m p X) (e : Ext [] w w') : MIn w' m p X := ⟨h.c, h.es.ext0 e, h.ex, h.li.ext0 e, h.pi.ext0 e, h.qi.ext0 e⟩
theorem mp_eq (p q : MP) : p = q ↔ p.c = q.c ∧ p.L = q.L ∧ p.P = q.P ∧ p.Q = q.Q ∧ p.E = q.E := by
  obtain ⟨a, b, c, d, e⟩ := p
  obtain ⟨a', b', c', d', e'⟩ := q
  simp only [MP.mk.injEq]
  constructor
  · rintro ⟨h1, h2, h3, h4, h5⟩; exact ⟨h1, h3, h4, h5, h2⟩
  · rintro ⟨h1, h3, h4, h5, h2⟩; exact ⟨h1, h2, h3, h4, h5⟩
theorem same_fin {p q : MP} {G r1 r2 r3 r4 : Bool} (hG : G = decide (p.c = q.c)) (h1 : G = true → r1 = decide (p.L = q.L)) (h2 : (G && r1) = true → r2 = decide (p.P = q.P)) (h3 : ((G && r1) && r2) = true → r3 = decide (p.Q = q.Q)) (h4 : (((G && r1) && r2) && r3) = true → r4 = decide (p.E = q.E)) :
    ((((G && r1) && r2) && r3) && r4) = decide (p = q) := by
  rw [Bool.eq_iff_iff, decide_eq_true_eq, mp_eq]
  simp only [Bool.and_eq_true] at *
  subst hG
  constructor
  · rintro ⟨⟨⟨⟨g, g1⟩, g2⟩, g3⟩, g4⟩
    have k1 := h1 g
    have k2 := h2 ⟨g, g1⟩
    have k3 := h3 ⟨⟨g, g1⟩, g2⟩
    have k4 := h4 ⟨⟨⟨g, g1⟩, g2⟩, g3⟩
    subst g1 g2 g3 g4
    exact ⟨of_decide_eq_true g, of_decide_eq_true k1.symm, of_decide_eq_true k2.symm, of_decide_eq_true k3.symm, of_decide_eq_true k4.symm⟩
  · rintro ⟨g, g1, g2, g3, g4⟩
    have k0 := decide_eq_true g
    have k1 := (h1 k0).trans (decide_eq_true g1)
    have k2 := (h2 ⟨k0, k1⟩).trans (decide_eq_true g2)
    have k3 := (h3 ⟨⟨k0, k1⟩, k2⟩).trans (decide_eq_true g3)
    have k4 := (h4 ⟨⟨⟨k0, k1⟩, k2⟩, k3⟩).trans (decide_eq_true g4)
    exact ⟨⟨⟨⟨k0, k1⟩, k2⟩, k3⟩, k4⟩
theorem Same_spec (a b : MV) (p q : MP) (X Y : List EX) (w : World) (h : MIn w a p X) (k : MIn w b q Y) :
    Calls Try.prog 9 #[mva a, mva b] w fun e w' => e = .returned (.bool (decide (p = q))) ∧ Ext [] w w' := by
  unfold mva
  apply sh_msg_Same_ok
  unfold sh_msg_Same
  refine VNw.i fun b1 w1 hb1 ha e1 => VNw.i fun b2 w2 hb2 hb e2 => ?_
  have ha := ha.ext e2
  have e12 := e1.then0 e2
  have h2 := h.ext0 e12
  have k2 := k.ext0 e12
  iterate 14 refine VLd.i1 _ (by first | exact Rd.of_bk ha rfl | exact Rd.of_bk hb rfl) ?_
  iterate 2 refine VLd.i5 _ _ _ _ _ (by first | exact Rd.of_bk ha rfl | exact Rd.of_bk hb rfl) ?_
  iterate 2 refine VLd.i1 _ (by first | exact Rd.of_bk ha rfl | exact Rd.of_bk hb rfl) ?_
  iterate 2 refine VLd.i3 _ _ _ (by first | exact Rd.of_bk ha rfl | exact Rd.of_bk hb rfl) ?_
  iterate 18 refine VLd.i1 _ (by first | exact Rd.of_bk ha rfl | exact Rd.of_bk hb rfl) ?_
  iterate 2 refine VLd.i4 _ _ _ _ (by first | exact Rd.of_bk ha rfl | exact Rd.of_bk hb rfl) ?_
  refine VLd.s a.l (Rd.of_bk ha rfl) (VLd.s b.l (Rd.of_bk hb rfl) ?_)
  refine callIf (EqualI_spec a.l b.l p.L q.L w2 h2.li k2.li) fun r1 w3 hr1 e3 => ?_
  have ha := ha.ext e3
  have hb := hb.ext e3
  have h3 := h2.ext0 e3
  have k3 := k2.ext0 e3
  refine VLd.s a.p (Rd.of_bk ha rfl) (VLd.s b.p (Rd.of_bk hb rfl) ?_)
  refine callIf (EqualP_spec a.p b.p p.P q.P w3 h3.pi k3.pi) fun r2 w4 hr2 e4 => ?_
  have ha := ha.ext e4
  have hb := hb.ext e4
  have h4 := h3.ext0 e4
  have k4 := k3.ext0 e4
  refine VLd.s a.q (Rd.of_bk ha rfl) (VLd.s b.q (Rd.of_bk hb rfl) ?_)
  refine callIf (EqualQ_spec a.q b.q p.Q q.Q w4 h4.qi k4.qi) fun r3 w5 hr3 e5 => ?_
  have ha := ha.ext e5
  have hb := hb.ext e5
  have h5 := h4.ext0 e5
  have k5 := k4.ext0 e5
  refine VLd.s a.e (Rd.of_bk ha rfl) (VLd.s b.e (Rd.of_bk hb rfl) ?_)
  refine callIf (EqualE_spec a.e b.e X Y w5 h5.es k5.es) fun r4 w6 hr4 e6 => ?_
  rw [h.ex, k.ex] at hr4
  refine ⟨?_, (((e12.then0 e3).then0 e4).then0 e5).then0 e6⟩
  rw [same_fin ?_ hr1 hr2 hr3 hr4]
  rw [← h.c, ← k.c, Bool.eq_iff_iff, decide_eq_true_eq, sc_eq]
  simp only [Bool.and_eq_true, beq_iff_eq, ba_beq, decide_eq_true_eq, and_assoc]
end Go.Proofs.Ytodcdfelbphajaa
