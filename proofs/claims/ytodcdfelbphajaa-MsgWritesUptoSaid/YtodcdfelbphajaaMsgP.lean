/-
  Package msg: MsgWrites: any message is written as the document says, or refused.
-/
import Derived.Test.YtodcdfelbphajaaMsgO
import Derived.Test.YtodcdfelbphajaaMsgD
import Derived.Test.YtodcdfelbphajaaMsgF
import Derived.Test.YtodcdfelbphajaaCodeI
namespace Go.Proofs.Ytodcdfelbphajaa
open Go.RowKit
set_option maxRecDepth 100000

theorem MsgWrites_law (a : MV) (p : MP) (X : List EX) (w : World) (h : MIn w a p X) (hok : EOk p) (hf : Fit p) :
    Calls Try.prog 4 #[mva a] w fun e w' => e = .returned (.bool true) ∧ Ext [] w w' := by
  unfold mva
  apply sh_butterylaw13_MsgWrites_ok
  unfold sh_butterylaw13_MsgWrites
  refine VNw.i fun b1 w1 hb1 ha e1 => ?_
  have ha : Bk w1 b1 (mvF a) 34 := ha
  refine VLd.mv a (Rd.of_bk ha rfl) ?_
  refine VCall.i (refTwin_spec a p X w1 (h.ext0 e1) hf) ?_
  rintro e w2 ⟨t, Y, rfl, ht, e2⟩
  refine exW.mv t rfl ?_
  refine VNw.i fun tb w3 htb hk3 e3 => VSt.bk hk3 rfl (by simp) fun w4 hk4 e4 => ?_
  have hk4 : Bk w4 tb (mvF t) 34 := hk4
  have e24 : Ext [] w2 w4 := e3.then e4 (fun i hi hlt => by simp at hi; omega)
  have e14 := e2.then0 e24
  have e04 := e1.then0 e14
  have ha4 := ha.ext e14
  have ht4 := ht.ext0 e24
  refine ⟨fun k i W => ∃ m : Nat, i = (m : Int) ∧ m ≤ 2 ∧ k = 2 - m ∧ Ext [] w4 W, ⟨_, 0, rfl, by omega, rfl, Ext.refl _ _⟩, ?_⟩
  rintro k1 i w5 ⟨m, rfl, hm, rfl, e5⟩
  refine VIf.mk (fun hc => ?_) (fun hc => ⟨rfl, e04.then0 e5⟩)
  have hm' : m < 2 := by simp at hc; omega
  have ha5 := ha4.ext e5
  have hk5 := hk4.ext e5
  have h5 := (h.ext0 e04).ext0 e5
  have ht5 := ht4.ext0 e5
  refine VLd.mv t (Rd.of_bk hk5 rfl) ?_
  refine VCall.i (Encode_spec t p Y w5 ht5 hok) ?_
  rintro e w6 ⟨s, rfl, hs6, e6⟩
  refine exW.i2 (t := .sl) (u := .int .i64) s (encP p).1 rfl (VSet.i ?_)
  refine VLd.mv a (Rd.of_bk (ha5.ext e6) rfl) ?_
  refine VCall.i (refEncode_spec a p X w6 (h5.ext0 e6) hok hf) ?_
  rintro e w7 ⟨r, rfl, hr7, e7⟩
  refine exW.i2 (t := .sl) (u := .int .i64) r (encP p).1 rfl (VSet.i ?_)
  have hs7 := hs6.ext0 e7
  refine VStr.i _ hs7.seg fun x1 hx1 => VStr.i _ hr7.seg fun x2 hx2 => ?_
  have hne : ((encP p).1 != (encP p).1) = false := by simp
  have heq : (!(x1.toList == x2.toList)) = false := by rw [strEq, hx1, hx2]; simp
  have e67 := e6.then0 e7
  rw [hne, heq]
  refine VLd.mv t (Rd.of_bk (hk5.ext e67) rfl) (VLd.mv a (Rd.of_bk (ha5.ext e67) rfl) ?_)
  refine VCall.on rfl (VCall.i (refSame_spec t a p p Y X w7 (ht5.ext0 e67) (h5.ext0 e67)) ?_)
  rintro e w8 ⟨rfl, e8⟩
  rw [decide_eq_true (rfl : p = p)]
  refine exW.i1 (t := .bool) true rfl (VIf.f rfl ?_)
  refine Own.fill 9 rfl (hs7.ext0 e8) (fun w9 l9 h9 hl9 e9 e59 => ?_) (e67.then0 e8)
  rw [w64 (n := (m : Int) + 1) (by omega)]
  exact VSet.i ⟨_, (show 2 - (m + 1) < 2 - m by omega), m + 1, rfl, by omega, rfl, e5.then0 e59⟩
end Go.Proofs.Ytodcdfelbphajaa
