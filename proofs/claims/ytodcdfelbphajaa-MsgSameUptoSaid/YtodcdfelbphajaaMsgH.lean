/-
  Package msg: the law of sameness.
-/
import Derived.Test.YtodcdfelbphajaaMsgG
namespace Go.Proofs.Ytodcdfelbphajaa
open Go.RowKit
set_option maxRecDepth 100000

def good (w : World) (e : Ending) (w' : World) : Prop := e = .returned (.bool true) ∧ Ext [] w w'
theorem MsgSame_law (a b : MV) (p q : MP) (X Y : List EX) (w : World) (h : MIn w a p X) (k : MIn w b q Y) (hf : Fit p) :
    Calls Try.prog 3 #[mva a, mva b] w (good w) := by
  unfold mva
  apply sh_butterylaw13_MsgSame_ok
  unfold sh_butterylaw13_MsgSame
  refine VNw.i fun b1 w1 hb1 ha e1 => VNw.i fun b2 w2 hb2 hb e2 => ?_
  intro w3 hw3
  have ed := Ext.drew' hw3
  have ha : Bk w3 b1 (mvF a) 34 := (ha.ext e2).ext ed
  have hb : Bk w3 b2 (mvF b) 34 := hb.ext ed
  have e3 := (e1.then0 e2).then0 ed
  have h3 := h.ext0 e3
  have k3 := k.ext0 e3
  have qp : decide (q = p) = decide (p = q) := by rw [Bool.eq_iff_iff, decide_eq_true_eq, decide_eq_true_eq]; exact ⟨Eq.symm, Eq.symm⟩
  refine VLd.mv a (Rd.of_bk ha rfl) (VLd.mv b (Rd.of_bk hb rfl) (VLd.mv a (Rd.of_bk ha rfl) (VLd.mv b (Rd.of_bk hb rfl) ?_)))
  refine VCall.i (Same_spec a b p q X Y w3 h3 k3) ?_
  rintro e w4 ⟨rfl, e4⟩
  refine exW.i1 (t := .bool) _ rfl ⟨(Rd.of_bk hb rfl : Rd w3 _ (mvF b)).ext e4 (by simp), (Rd.of_bk ha rfl : Rd w3 _ (mvF a)).ext e4 (by simp), ?_⟩
  refine VCall.i (refSame_spec a b p q X Y w4 (h3.ext0 e4) (k3.ext0 e4)) ?_
  rintro e w5 ⟨rfl, e5⟩
  refine exW.i1 (t := .bool) _ rfl ?_
  have g1 : (decide (p = q) == decide (p = q)) = true := by simp
  rw [g1]
  have e35 := e4.then0 e5
  have ha5 := ha.ext e35
  have hb5 := hb.ext e35
  have h5 := h3.ext0 e35
  have k5 := k3.ext0 e35
  refine VLd.mv b (Rd.of_bk hb5 rfl) (VLd.mv a (Rd.of_bk ha5 rfl) (VLd.mv a (Rd.of_bk ha5 rfl) (VLd.mv b (Rd.of_bk hb5 rfl) ?_)))
  refine VCall.on rfl (VCall.i (Same_spec b a q p Y X w5 k5 h5) ?_)
  rintro e w6 ⟨rfl, e6⟩
  refine exW.i1 (t := .bool) _ rfl ⟨fun _ => (Rd.of_bk hb5 rfl : Rd w5 _ (mvF b)).ext e6 (by simp), fun _ => (Rd.of_bk ha5 rfl : Rd w5 _ (mvF a)).ext e6 (by simp), ?_⟩
  refine VCall.on rfl (VCall.i (Same_spec a b p q X Y w6 (h5.ext0 e6) (k5.ext0 e6)) ?_)
  rintro e w7 ⟨rfl, e7⟩
  refine exW.i1 (t := .bool) _ rfl ?_
  rw [qp, g1]
  have e57 := e6.then0 e7
  have ha7 := ha5.ext e57
  have h7 := h5.ext0 e57
  refine VLd.mv a (Rd.of_bk ha7 rfl) (VLd.mv a (Rd.of_bk ha7 rfl) ?_)
  refine VCall.on rfl (VCall.i (Same_spec a a p p X X w7 h7 h7) ?_)
  rintro e w8 ⟨rfl, e8⟩
  rw [decide_eq_true (rfl : p = p)]
  refine exW.i1 (t := .bool) true rfl (VIf.f rfl ?_)
  have ha8 := ha7.ext e8
  have h8 := h7.ext0 e8
  have e08 := ((e3.then0 e35).then0 e57).then0 e8
  refine VLd.mv a (Rd.of_bk ha8 rfl) ?_
  refine VCall.i (refTwin_spec a p X w8 h8 hf) ?_
  rintro e w9 ⟨t, Z, rfl, ht, e9⟩
  refine exW.mv t rfl ?_
  refine VNw.i fun tb w10 htb hk10 e10 => VSt.bk hk10 rfl (by simp) fun w11 hk11 e11 => ?_
  have hk11 : Bk w11 tb (mvF t) 34 := hk11
  have e911 : Ext [] w9 w11 := e10.then e11 (fun i hi hlt => by simp at hi; omega)
  have e811 := e9.then0 e911
  have ha11 := ha8.ext e811
  have h11 := h8.ext0 e811
  have ht11 := ht.ext0 e911
  refine VLd.mv a (Rd.of_bk ha11 rfl) ?_
  refine VCall.i (Twin_spec a p X w11 h11 hf) ?_
  rintro e w12 ⟨x, U, rfl, hx, e12⟩
  refine exW.mv x rfl ?_
  refine VNw.i fun xb w13 hxb hk13 e13 => VSt.bk hk13 rfl (by simp) fun w14 hk14 e14 => ?_
  have hk14 : Bk w14 xb (mvF x) 34 := hk14
  have e1214 : Ext [] w12 w14 := e13.then e14 (fun i hi hlt => by simp at hi; omega)
  have e1114 := e12.then0 e1214
  have ha14 := ha11.ext e1114
  refine VLd.mv x (Rd.of_bk hk14 rfl) (VLd.mv a (Rd.of_bk ha14 rfl) ?_)
  have hx14 := hx.ext0 e1214
  refine VCall.i (refSame_spec x a p p U X w14 hx14.in_ (h11.ext0 e1114)) ?_
  rintro e w15 ⟨rfl, e15⟩
  rw [decide_eq_true (rfl : p = p)]
  refine exW.i1 (t := .bool) true rfl (VIf.f rfl ?_)
  have hk15 := hk14.ext e15
  refine VLd.mv x (Rd.of_bk hk15 rfl) ?_
  refine VCall.i (spoil_spec x p U w11 w15 (hx14.ext0 e15) hf) ?_
  rintro e w16 ⟨rfl, M, hM, e16⟩
  have e1116 : Ext [] w11 w16 := (e1114.then0 e15).then e16 (fun i hi hlt => by have := hM i hi; omega)
  refine exW.i0 rfl ?_
  refine VLd.mv a (Rd.of_bk (ha11.ext e1116) rfl) (VLd.mv t (Rd.of_bk (hk11.ext e1116) rfl) ?_)
  refine VCall.i (refSame_spec a t p p X Z w16 (h11.ext0 e1116) (ht11.ext0 e1116)) ?_
  rintro e w17 ⟨rfl, e17⟩
  rw [decide_eq_true (rfl : p = p)]
  exact exW.i1 (t := .bool) true rfl ⟨rfl, ((e08.then0 e811).then0 e1116).then0 e17⟩
end Go.Proofs.Ytodcdfelbphajaa
