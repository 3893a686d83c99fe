/-
  Package msg: the document's answer to whether two messages are the same.
-/
import Derived.Test.YtodcdfelbphajaaMsgC
namespace Go.Proofs.Ytodcdfelbphajaa
open Go.RowKit
set_option maxRecDepth 100000

theorem en_eq (x y : EX) : x.en = y.en ↔ ((x.1.1 = y.1.1 ∧ x.1.2.1 = y.1.2.1) ∧ x.1.2.2.1 = y.1.2.2.1) ∧ x.2 = y.2 := by
  unfold EX.en
  simp only [Prod.mk.injEq, and_assoc]
set_option maxHeartbeats 1000000 in
theorem refSame_spec (a b : MV) (p q : MP) (X Y : List EX) (w : World) (h : MIn w a p X) (k : MIn w b q Y) :
    Calls Try.prog 10 #[mva a, mva b] w fun e w' => e = .returned (.bool (decide (p = q))) ∧ Ext [] w w' := by
  unfold mva
  apply sh_butteryref13_Same_ok
  unfold sh_butteryref13_Same
  refine VNw.i fun b1 w1 hb1 ha e1 => VNw.i fun b2 w2 hb2 hb e2 => ?_
  have ha := ha.ext e2
  have e12 := e1.then0 e2
  have h2 := h.ext0 e12
  have k2 := k.ext0 e12
  refine VLd.s a.e (Rd.of_bk ha rfl) (VLd.s b.e (Rd.of_bk hb rfl) (VLd.s a.p (Rd.of_bk ha rfl) (VLd.s b.p (Rd.of_bk hb rfl) (VLd.s a.q (Rd.of_bk ha rfl) (VLd.s b.q (Rd.of_bk hb rfl) (VLd.s a.l (Rd.of_bk ha rfl) (VLd.s b.l (Rd.of_bk hb rfl) ?_)))))))
  refine callIf (ints_spec a.l b.l p.L q.L w2 h2.li k2.li) fun r1 w3 hr1 e3 => ?_
  have lE : a.e.len = (ens X).length := by rw [h.es.len]; simp [ens]
  have lE' : b.e.len = (ens Y).length := by rw [k.es.len]; simp [ens]
  have lP := h.pi.len
  have lP' := k.pi.len
  have lQ := h.qi.len
  have lQ' := k.qi.len
  have cE := h.es.row.2
  have cP := h.pi.2
  have cQ := h.qi.2
  have e03 := e12.then0 e3
  refine VIf.mk (fun hd => ⟨?_, e03⟩) (fun hd => ?_)
  · rw [decide_eq_false]
    intro e
    subst e
    rw [h.ex] at lE
    rw [k.ex] at lE'
    rw [lE, lE', lP, lP', lQ, lQ'] at hr1 hd
    have := hr1 (by simp)
    rw [this] at hd
    simp at hd
  have hEl : (ens X).length = (ens Y).length := by
    rw [← lE, ← lE']
    apply Classical.byContradiction; intro hn
    have hn : ¬ ((a.e.len : Nat) : Int) = ((b.e.len : Nat) : Int) := by omega
    simp [hn] at hd
  have hPl : p.P.length = q.P.length := by
    rw [← lP, ← lP']
    apply Classical.byContradiction; intro hn
    have hn : ¬ ((a.p.len : Nat) : Int) = ((b.p.len : Nat) : Int) := by omega
    simp [hn] at hd
  have hQl : p.Q.length = q.Q.length := by
    rw [← lQ, ← lQ']
    apply Classical.byContradiction; intro hn
    have hn : ¬ ((a.q.len : Nat) : Int) = ((b.q.len : Nat) : Int) := by omega
    simp [hn] at hd
  have hL : p.L = q.L := by
    have hg := hr1 (by rw [lE, lE', lP, lP', lQ, lQ', hEl, hPl, hQl]; simp)
    rw [hg] at hd
    apply Classical.byContradiction; intro hn
    rw [decide_eq_false hn] at hd
    simp at hd
  clear hd hr1
  have ha3 := ha.ext e3
  have hb3 := hb.ext e3
  have lX : (ens X).length = X.length := by simp [ens]
  have lY : (ens Y).length = Y.length := by simp [ens]
  refine ⟨fun k' i W => ∃ m : Nat, i = (m : Int) ∧ m ≤ X.length ∧ k' = X.length - m ∧ (ens X).take m = (ens Y).take m ∧ Ext [] w3 W, ⟨_, 0, rfl, by omega, rfl, rfl, Ext.refl _ _⟩, ?_⟩
  rintro k' i w4 ⟨m, rfl, hm, rfl, ht, e4⟩
  have ha := ha3.ext e4
  have hb := hb3.ext e4
  have h4 := (h2.ext0 e3).ext0 e4
  have k4 := (k2.ext0 e3).ext0 e4
  have e04 := e03.then0 e4
  refine VLd.s a.e (Rd.of_bk ha rfl) (VIf.mk (fun hc => ?_) (fun hc => ?_))
  · have hm' : m < X.length := by simp at hc; omega
    have hm2 : m < Y.length := by omega
    refine VLd.s a.e (Rd.of_bk ha rfl) (VIx.es h4.es hm' rfl fun a1 hr1 => ⟨((X[m]).1.1 : Int), ((X[m]).1.2.1 : Int), ((X[m]).1.2.2.1 : ByteArray), ((X[m]).1.2.2.2 : Sl), gd.i hr1, ?_⟩)
    refine VNw.i fun x w5 hx hkx e5 => VSt.bk hkx rfl (by simp) fun w6 hkx e6 => ?_
    have e46 : Ext [] w4 w6 := e5.then e6 (fun i hi hlt => by simp at hi; omega)
    have hb6 := hb.ext e46
    refine VLd.s b.e (Rd.of_bk hb6 rfl) (VIx.es (k4.ext0 e46).es hm2 rfl fun a2 hr2 => ⟨((Y[m]).1.1 : Int), ((Y[m]).1.2.1 : Int), ((Y[m]).1.2.2.1 : ByteArray), ((Y[m]).1.2.2.2 : Sl), gd.i hr2, ?_⟩)
    refine VNw.i fun y w7 hy hky e7 => VSt.bk hky rfl (by simp) fun w8 hky e8 => ?_
    have e68 : Ext [] w6 w8 := e7.then e8 (fun i hi hlt => by simp at hi; omega)
    have hkx := hkx.ext e68
    have e48 := e46.then0 e68
    iterate 6 refine VLd.i1 _ (by first | exact Rd.of_bk hkx rfl | exact Rd.of_bk hky rfl) ?_
    refine VLd.s (X[m]).1.2.2.2 (Rd.of_bk hkx rfl) (VLd.s (Y[m]).1.2.2.2 (Rd.of_bk hky rfl) ?_)
    refine callIf (ints_spec (X[m]).1.2.2.2 (Y[m]).1.2.2.2 (X[m]).2 (Y[m]).2 w8 ((h4.ext0 e48).es.all _ (List.getElem_mem hm')) ((k4.ext0 e48).es.all _ (List.getElem_mem hm2))) fun r2 w9 hr2 e9 => ?_
    have hgx : (ens X)[m]'(by omega) = X[m].en := by simp [ens]
    have hgy : (ens Y)[m]'(by omega) = Y[m].en := by simp [ens]
    have e49 := e48.then0 e9
    refine VIf.mk (fun hd => ⟨?_, e04.then0 e49⟩) (fun hd => ?_)
    · rw [decide_eq_false]
      intro e
      have hen : X[m].en = Y[m].en := by
        rw [← hgx, ← hgy]
        have : ens X = ens Y := by rw [h.ex, k.ex, e]
        simp only [this]
      obtain ⟨⟨⟨g1, g2⟩, g3⟩, g4⟩ := (en_eq _ _).1 hen
      have := hr2 (by simp [g1, g2, g3])
      rw [this, decide_eq_true g4] at hd
      simp [g1, g2, g3] at hd
    · have hen : X[m].en = Y[m].en := by
        simp only [Bool.or_eq_false_iff, bne_eq_false_iff_eq, Bool.not_eq_false', ba_beq, decide_eq_true_eq] at hd
        have := hr2 (by simp [ba_beq, hd.1.1.1, hd.1.1.2, hd.1.2])
        rw [hd.2] at this
        exact (en_eq _ _).2 ⟨hd.1, of_decide_eq_true this.symm⟩
      rw [w64 (n := (m : Int) + 1) (by omega)]
      exact VSet.i ⟨_, by omega, m + 1, rfl, by omega, rfl, (take_succ_eq ht (by omega) (by omega)).2 (by rw [hgx, hgy]; exact hen), e4.then0 e49⟩
  have hmm : m = X.length := by simp at hc; omega
  subst hmm
  rw [← lX, List.take_length, hEl, List.take_length] at ht
  have hE : p.E = q.E := by rw [← h.ex, ← k.ex, ht]
  clear ht hc
  refine ⟨fun k' i W => ∃ m : Nat, i = (m : Int) ∧ m ≤ p.P.length ∧ k' = p.P.length - m ∧ p.P.take m = q.P.take m ∧ Ext [] w4 W, ⟨_, 0, rfl, by omega, rfl, rfl, Ext.refl _ _⟩, ?_⟩
  rintro k' i w10 ⟨m, rfl, hm, rfl, ht, e10⟩
  have ha10 := ha.ext e10
  have hb10 := hb.ext e10
  have h10 := h4.ext0 e10
  have k10 := k4.ext0 e10
  have e010 := e04.then0 e10
  refine VLd.s a.p (Rd.of_bk ha10 rfl) (VIf.mk (fun hc => ?_) (fun hc => ?_))
  · have hm' : m < p.P.length := by simp at hc; omega
    have hm2 : m < q.P.length := by omega
    intro w11 hw11
    have ed := Ext.drew' hw11
    have ha11 := ha10.ext ed
    have hb11 := hb10.ext ed
    refine VLd.s a.p (Rd.of_bk ha11 rfl) (VIx.rec (r := prR) (h10.ext0 ed).pi.1 hm' rfl fun a1 hr1 => VLd.i2 (t := .str) (u := .str) _ _ hr1 ?_)
    refine VLd.s b.p (Rd.of_bk hb11 rfl) (VIx.rec (r := prR) (k10.ext0 ed).pi.1 hm2 rfl fun a1 hr1 => VLd.i2 (t := .str) (u := .str) _ _ hr1 ?_)
    dsimp only
    refine VIf.mk (fun hd => ⟨?_, e010.then0 ed⟩) (fun hd => ?_)
    · rw [decide_eq_false]
      intro e
      subst e
      simp at hd
    · have hx : p.P[m] = q.P[m] := by
        simp [ba_beq] at hd
        exact Prod.ext hd.1 hd.2
      rw [w64 (n := (m : Int) + 1) (by omega)]
      exact VSet.i ⟨_, by omega, m + 1, rfl, by omega, rfl, (take_succ_eq ht hm' hm2).2 hx, e10.then0 ed⟩
  have hmm : m = p.P.length := by simp at hc; omega
  subst hmm
  rw [List.take_length, hPl, List.take_length] at ht
  have hP := ht
  clear ht hc
  refine ⟨fun k' i W => ∃ m : Nat, i = (m : Int) ∧ m ≤ p.Q.length ∧ k' = p.Q.length - m ∧ p.Q.take m = q.Q.take m ∧ Ext [] w10 W, ⟨_, 0, rfl, by omega, rfl, rfl, Ext.refl _ _⟩, ?_⟩
  rintro k' i w12 ⟨m, rfl, hm, rfl, ht, e12'⟩
  have ha12 := ha10.ext e12'
  have hb12 := hb10.ext e12'
  have h12 := h10.ext0 e12'
  have k12 := k10.ext0 e12'
  have e012 := e010.then0 e12'
  refine VLd.s a.q (Rd.of_bk ha12 rfl) (VIf.mk (fun hc => ?_) (fun hc => ?_))
  · have hm' : m < p.Q.length := by simp at hc; omega
    have hm2 : m < q.Q.length := by omega
    intro w13 hw13
    have ed := Ext.drew' hw13
    have ha13 := ha12.ext ed
    have hb13 := hb12.ext ed
    refine VLd.s a.q (Rd.of_bk ha13 rfl) (VIx.rec (r := lsR) (h12.ext0 ed).qi.1 hm' rfl fun a1 hr1 => VLd.i5 (t := .int .i64) (u := .int .i64) (v := .int .u8) (s := .bool) (r := .str) _ _ _ _ _ hr1 ?_)
    refine VLd.s b.q (Rd.of_bk hb13 rfl) (VIx.rec (r := lsR) (k12.ext0 ed).qi.1 hm2 rfl fun a1 hr1 => VLd.i5 (t := .int .i64) (u := .int .i64) (v := .int .u8) (s := .bool) (r := .str) _ _ _ _ _ hr1 ?_)
    dsimp only
    refine VIf.mk (fun hd => ⟨?_, e012.then0 ed⟩) (fun hd => ?_)
    · rw [decide_eq_false]
      intro e
      subst e
      simp at hd
    · have hx : p.Q[m] = q.Q[m] := by
        simp [ba_beq] at hd
        obtain ⟨h1, h2, h3, h4, h5⟩ := hd
        exact Prod.ext h1 (Prod.ext h2 (Prod.ext h3 (Prod.ext h4 h5)))
      rw [w64 (n := (m : Int) + 1) (by omega)]
      exact VSet.i ⟨_, by omega, m + 1, rfl, by omega, rfl, (take_succ_eq ht hm' hm2).2 hx, e12'.then0 ed⟩
  have hmm : m = p.Q.length := by simp at hc; omega
  subst hmm
  rw [List.take_length, hQl, List.take_length] at ht
  have hQ := ht
  clear ht hc
  iterate 14 refine VLd.i1 _ (by first | exact Rd.of_bk ha12 rfl | exact Rd.of_bk hb12 rfl) ?_
  iterate 2 refine VLd.i5 _ _ _ _ _ (by first | exact Rd.of_bk ha12 rfl | exact Rd.of_bk hb12 rfl) ?_
  iterate 2 refine VLd.i1 _ (by first | exact Rd.of_bk ha12 rfl | exact Rd.of_bk hb12 rfl) ?_
  iterate 2 refine VLd.i3 _ _ _ (by first | exact Rd.of_bk ha12 rfl | exact Rd.of_bk hb12 rfl) ?_
  have hdec : decide (p = q) = decide (p.c = q.c) := by
    rw [Bool.eq_iff_iff, decide_eq_true_eq, decide_eq_true_eq, mp_eq]
    exact ⟨fun h => h.1, fun h => ⟨h, hL, hP, hQ, hE⟩⟩
  rw [hdec, ← h.c, ← k.c]
  refine VIf.mk (fun hd => ⟨?_, e012⟩) (fun hd => ?_)
  · rw [decide_eq_false]
    intro e
    rw [e] at hd
    simp at hd
  · iterate 18 refine VLd.i1 _ (by first | exact Rd.of_bk ha12 rfl | exact Rd.of_bk hb12 rfl) ?_
    iterate 2 refine VLd.i4 _ _ _ _ (by first | exact Rd.of_bk ha12 rfl | exact Rd.of_bk hb12 rfl) ?_
    refine ⟨?_, e012⟩
    congr 2
    simp only [Bool.or_eq_false_iff, bne_eq_false_iff_eq, Bool.not_eq_false', Bool.and_eq_true, beq_iff_eq, ba_beq, decide_eq_true_eq, and_assoc] at hd
    rw [Bool.eq_iff_iff, decide_eq_true_eq, sc_eq]
    simp only [Bool.and_eq_true, beq_iff_eq, ba_beq, decide_eq_true_eq, and_assoc]
    obtain ⟨g0, g1, g2, g3, g4, g5, g6, g7, g8, g9, g10, g11, g12, g13, g14, g15⟩ := hd
    exact ⟨fun hh => ⟨g0, g1, g2, g3, g4, g5, g6, g7, g8, g9, g10, g11, g12, g13, g14, g15, hh⟩, fun hh => hh.2.2.2.2.2.2.2.2.2.2.2.2.2.2.2.2⟩
end Go.Proofs.Ytodcdfelbphajaa
