/-
  Package msg: the document's Size and Encode.
-/
import Derived.Test.YtodcdfelbphajaaMsgM
import Derived.Test.YtodcdfelbphajaaMsgE
namespace Go.Proofs.Ytodcdfelbphajaa
open Go.RowKit
set_option maxRecDepth 100000

theorem add64 {a b : Nat} (h : a + b ≤ 9223372036854775807) : IntKind.wrap .i64 ((a : Int) + (b : Int)) = ((a + b : Nat) : Int) := by
  rw [w64 (by omega)]; omega
set_option maxHeartbeats 1000000 in
theorem Size_spec (a : MV) (p : MP) (X : List EX) (w : World) (h : MIn w a p X) (hok : EOk p) (hf : Fit p) :
    Calls Try.prog 41 #[mva a] w fun e w' => ∃ n : Nat, e = .returned (.int .i64 (n : Int)) ∧ Near n (szT p) ∧ Ext [] w w' := by
  unfold mva
  apply sh_butteryref13_Size_ok
  unfold sh_butteryref13_Size
  have hc := h.c
  refine VNw.i fun mb w1 hb1 hk1 e1 => ?_
  have hk1 : Bk w1 mb (mvF a) 34 := hk1
  refine VLd.i1 (t := .str) a.c.f8 (Rd.of_bk hk1 rfl) (VLd.i1 (t := .str) a.c.f9 (Rd.of_bk hk1 rfl) (VLd.i1 (t := .str) a.c.f10 (Rd.of_bk hk1 rfl) (VLd.i1 (t := .str) a.c.f15 (Rd.of_bk hk1 rfl) (VLd.i1 (t := .str) a.c.f24 (Rd.of_bk hk1 rfl) ?_))))
  refine VLd.s a.l (Rd.of_bk hk1 rfl) (VLd.s a.p (Rd.of_bk hk1 rfl) (VLd.s a.q (Rd.of_bk hk1 rfl) (VLd.s a.e (Rd.of_bk hk1 rfl) ?_)))
  have s8 := hok.s8 p.c.f8 (by simp)
  have s9 := hok.s8 p.c.f9 (by simp)
  have s10 := hok.s8 p.c.f10 (by simp)
  have s15 := hok.s15
  have s24 := hok.s24
  have lE : a.e.len = p.E.length := by rw [h.es.len, ← h.ex]; simp [ens]
  have lL := h.li.len
  have lP := h.pi.len
  have lQ := h.qi.len
  have lX : X.length = p.E.length := by rw [← h.ex]; simp [ens]
  obtain ⟨fe, fa, fl, fp, fq⟩ := hf
  rw [hc, lE, lL, lP, lQ]
  rw [add64 (by omega), add64 (by omega), add64 (by omega), add64 (by omega), add64 (by omega), add64 (by omega), add64 (by omega), add64 (by omega)]
  refine VSet.i ?_
  refine ⟨fun k' n i W => ∃ m : Nat, i = (m : Int) ∧ m ≤ p.P.length ∧ k' = p.P.length - m ∧ (∃ N : Nat, n = (N : Int) ∧ N ≤ 100000000 ∧ Near N (szH p + sm szP (p.P.take m))) ∧ Ext [] w1 W, ⟨_, 0, rfl, by omega, rfl, ⟨_, rfl, by omega, Or.inl rfl⟩, Ext.refl _ _⟩, ?_⟩
  rintro k1 n i w2 ⟨m, rfl, hm, rfl, ⟨N, rfl, hN, hn⟩, e2⟩
  have hk2 := hk1.ext e2
  refine VLd.s a.p (Rd.of_bk hk2 rfl) (VIf.mk (fun hd => ?_) (fun hd => ?_))
  · rw [lP] at hd
    simp only [Bool.and_eq_true, decide_eq_true_eq] at hd
    have hm' : m < p.P.length := by omega
    intro w3 hw3
    have ed := Ext.drew' hw3
    have hk3 := hk2.ext ed
    have hp3 := (h.pi.ext0 (e1.then0 (e2.then0 ed))).1
    rw [lP] at hp3
    have hb := hok.pp _ (List.getElem_mem hm')
    refine VLd.s a.p (Rd.of_bk hk3 rfl) ?_
    rw [lP]
    refine VIx.rec (r := prR) hp3 hm' rfl fun a1 hr1 => VLd.i1 (t := .str) (p.P[m]).1 (hr1.fld0 rfl) ?_
    refine VLd.s a.p (Rd.of_bk hk3 rfl) ?_
    rw [lP]
    refine VIx.rec (r := prR) hp3 hm' rfl fun a2 hr2 => VLd.i1 (t := .str) (p.P[m]).2 (hr2.fld 1 rfl) ?_
    rw [add64 (by omega), add64 (by omega), w64 (n := (m : Int) + 1) (by omega)]
    refine VSet.i (VSet.i ⟨_, (show p.P.length - (m + 1) < p.P.length - m by omega), m + 1, rfl, by omega, rfl, ⟨_, rfl, by omega, ?_⟩, e2.then0 ed⟩)
    rw [sm_take szP p.P m hm', Nat.add_assoc N, ← Nat.add_assoc (szH p)]
    exact hn.add (by omega) _
  have hn1 : Near N (szH p + sm szP p.P) := by
    rw [lP] at hd
    simp only [Bool.and_eq_false_iff, decide_eq_false_iff_not] at hd
    have := sm_le szP p.P m
    refine hn.end (b := true) (by omega) ?_
    rcases hd with hd | hd
    · rw [show m = p.P.length by omega, List.take_length]; exact Or.inl rfl
    · exact Or.inr (by omega)
  clear hn hd hm
  refine ⟨fun k' n i W => ∃ m : Nat, i = (m : Int) ∧ m ≤ p.Q.length ∧ k' = p.Q.length - m ∧ (∃ N : Nat, n = (N : Int) ∧ N ≤ 100000000 ∧ Near N (szH p + sm szP p.P + sm szQ (p.Q.take m))) ∧ Ext [] w2 W, ⟨_, 0, rfl, by omega, rfl, ⟨_, rfl, by omega, hn1⟩, Ext.refl _ _⟩, ?_⟩
  rintro k1 n i w4 ⟨m, rfl, hm, rfl, ⟨N, rfl, hN, hn⟩, e4⟩
  have hk4 := hk2.ext e4
  refine VLd.s a.q (Rd.of_bk hk4 rfl) (VIf.mk (fun hd => ?_) (fun hd => ?_))
  · rw [lQ] at hd
    simp only [Bool.and_eq_true, decide_eq_true_eq] at hd
    have hm' : m < p.Q.length := by omega
    have hp4 := (h.qi.ext0 (e1.then0 (e2.then0 e4))).1
    rw [lQ] at hp4
    have hb := (hok.qq _ (List.getElem_mem hm')).2.2.2
    refine VLd.s a.q (Rd.of_bk hk4 rfl) ?_
    rw [lQ]
    refine VIx.rec (r := lsR) hp4 hm' rfl fun a1 hr1 => VLd.i1 (t := .str) (p.Q[m]).2.2.2.2 (hr1.fld 4 rfl) ?_
    rw [add64 (by omega), w64 (n := (m : Int) + 1) (by omega)]
    refine VSet.i (VSet.i ⟨_, (show p.Q.length - (m + 1) < p.Q.length - m by omega), m + 1, rfl, by omega, rfl, ⟨_, rfl, by omega, ?_⟩, e4⟩)
    rw [sm_take szQ p.Q m hm', ← Nat.add_assoc]
    exact hn.add (by omega) _
  have hn2 : Near N (szH p + sm szP p.P + sm szQ p.Q) := by
    rw [lQ] at hd
    simp only [Bool.and_eq_false_iff, decide_eq_false_iff_not] at hd
    have := sm_le szQ p.Q m
    refine hn.end (b := true) (by omega) ?_
    rcases hd with hd | hd
    · rw [show m = p.Q.length by omega, List.take_length]; exact Or.inl rfl
    · exact Or.inr (by omega)
  clear hn hd hm hn1
  refine ⟨fun k' n i W => ∃ m : Nat, i = (m : Int) ∧ m ≤ X.length ∧ k' = X.length - m ∧ (∃ N : Nat, n = (N : Int) ∧ N ≤ 100000000 ∧ Near N (szH p + sm szP p.P + sm szQ p.Q + sm szE (p.E.take m))) ∧ Ext [] w4 W, ⟨_, 0, rfl, by omega, rfl, ⟨_, rfl, by omega, hn2⟩, Ext.refl _ _⟩, ?_⟩
  rintro k1 n i w5 ⟨m, rfl, hm, rfl, ⟨N, rfl, hN, hn⟩, e5⟩
  have hk5 := hk4.ext e5
  refine VLd.s a.e (Rd.of_bk hk5 rfl) (VIf.mk (fun hd => ?_) (fun hd => ?_))
  · rw [lE] at hd
    simp only [Bool.and_eq_true, decide_eq_true_eq] at hd
    have hm' : m < X.length := by omega
    have hmE : m < p.E.length := by omega
    intro w6 hw6
    have ed := Ext.drew' hw6
    have hk6 := hk5.ext ed
    have hs6 := h.es.ext0 ((e1.then0 (e2.then0 (e4.then0 e5))).then0 ed)
    have hx : p.E[m] = X[m].en := by
      have h1 : p.E[m] = (ens X)[m]'(by simp [ens]; omega) := by simp only [h.ex]
      rw [h1]; simp [ens]
    have hb := hok.e _ (List.getElem_mem hmE)
    rw [hx] at hb
    have b1 : (X[m]).1.2.2.1.size ≤ 1048576 := hb.2.2.1
    have b2 : (X[m]).2.length ≤ 1048576 := hb.2.2.2.1
    have b3 := (hs6.all _ (List.getElem_mem hm')).len
    refine VLd.s a.e (Rd.of_bk hk6 rfl) (VIx.es hs6 hm' rfl fun a1 hr1 => VLd.i1 (t := .str) (X[m]).1.2.2.1 (hr1.fld 2 rfl) ?_)
    refine VLd.s a.e (Rd.of_bk hk6 rfl) (VIx.es hs6 hm' rfl fun a2 hr2 => VLd.s (X[m]).1.2.2.2 (hr2.fld 3 rfl) ?_)
    rw [b3, add64 (by omega), add64 (by omega), w64 (n := (m : Int) + 1) (by omega)]
    refine VSet.i (VSet.i ⟨_, (show X.length - (m + 1) < X.length - m by omega), m + 1, rfl, by omega, rfl, ⟨_, rfl, by omega, ?_⟩, e5.then0 ed⟩)
    rw [sm_take szE p.E m hmE, ← Nat.add_assoc, hx, Nat.add_assoc N]
    exact hn.add (by omega) _
  refine VSet.i ⟨N, rfl, ?_, e1.then0 (e2.then0 (e4.then0 e5))⟩
  rw [lE] at hd
  simp only [Bool.and_eq_false_iff, decide_eq_false_iff_not] at hd
  have := sm_le szE p.E m
  unfold szT
  refine hn.end (b := true) (by omega) ?_
  rcases hd with hd | hd
  · rw [show m = p.E.length by omega, List.take_length]; exact Or.inl rfl
  · exact Or.inr (by omega)
end Go.Proofs.Ytodcdfelbphajaa
