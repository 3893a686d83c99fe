/-
  Package hand: the law of the cut.
-/
import Derived.Test.YtoceilgifkncoaaHandT
namespace Go.Proofs.Ytoceilgifkncoaa
open Go.RowKit
set_option maxRecDepth 100000

theorem one_P {p : Pt} (h : p.P ≠ []) : zs ⟨(p.P.take 1).drop 0, [], false⟩ = fst1 p := by
  unfold fst1 zs sumQ sumP
  cases hp : p.P with
  | nil => exact absurd hp h
  | cons x L => simp
theorem one_Q {p : Pt} (h : p.P = []) (hq : p.Q ≠ []) : zs ⟨[], (p.Q.take 1).drop 0, false⟩ = fst1 p := by
  unfold fst1 zs sumQ sumP
  rw [h]
  cases hp : p.Q with
  | nil => exact absurd hp hq
  | cons x L => simp
/-- the document's size of a part of a row, asked for under a condition -/
theorem SizeIf {c : Bool} {w : World} {s : Sl} {X : List PX} {m : Nat} {i : Int} (h : PtsIn w s X) (hm : m < X.length) (hi : i = (m : Int)) {K : Int → World → Prop}
    (k : ∀ r w', (c = true → r = IntKind.wrap .i64 (zs (X[m]).2)) → Ext [] w w' → K r w') :
    VIx (some c) s.base s.len i fun (a : Addr) => VLd (some c) w (Addr.add a ((Int.toNat i) * 3)) [CT.sl, CT.sl, CT.bool] fun (p : Sl) (q : Sl) (b : Bool) =>
      VCall (some c) Try.prog 13 #[.agg #[.slice p.base p.len p.cap, .slice q.base q.len q.cap, .bool b]] w (.agg #[.slice none 0 0, .slice none 0 0, .bool false]) fun (r0 : Sl) (r1 : Sl) (r2 : Bool) (w7 : World) =>
      VCall (some c) Try.prog 23 #[.agg #[.slice r0.base r0.len r0.cap, .slice r1.base r1.len r1.cap, .bool r2]] w7 (.int .i64 0) fun (r : Int) (w8 : World) => K r w8 := by
  subst hi
  refine VIx.pt h hm rfl fun a hr => ⟨((X[m]).1.1 : Sl), ((X[m]).1.2.1 : Sl), ((X[m]).1.2.2 : Bool), gd.i hr, ?_⟩
  cases hc : c
  · exact VCall.off rfl ⟨(⟨none, 0, 0⟩ : Sl), (⟨none, 0, 0⟩ : Sl), (false : Bool), trivial, VCall.off rfl (exW.i1 (t := .int .i64) 0 trivial (k _ _ (fun h => by rw [hc] at h; cases h) (Ext.refl _ _)))⟩
  · refine VCall.on rfl (VCall.i (of_spec (X[m]).1 w) ?_)
    rintro e w1 ⟨rfl, e1⟩
    refine ⟨((X[m]).1.1 : Sl), ((X[m]).1.2.1 : Sl), ((X[m]).1.2.2 : Bool), rfl, ?_⟩
    refine VCall.on rfl (VCall.i (Size_spec (X[m]).1 (X[m]).2 w1 ((h.all _ (List.getElem_mem hm)).ext0 e1)) ?_)
    rintro e w2 ⟨rfl, e2⟩
    exact exW.i1 (t := .int .i64) _ rfl (k _ w2 (fun _ => rfl) (e1.then0 e2))
theorem HandCut_law (a b : Sl) (P : List Pr) (Q : List Ls) (w : World) (hP : InR prR w a P) (hQ : InR lsR w b Q) (hPl : P.length ≤ 1048576) (hQl : Q.length ≤ 1048576) :
    Calls Try.prog 5 #[.slice a.base a.len a.cap, .slice b.base b.len b.cap] w (good w) := by
  refine sh_butterylaw23_HandCut_ok _ _ _ _ ?_
  unfold sh_butterylaw23_HandCut
  refine VCall.i (works_spec w) ?_
  rintro e w1 ⟨rfl, e1⟩
  refine exW.i1 (t := .bool) true rfl (VCall.on rfl (VCall.i (long_spec a b P Q w1 (hP.ext0 e1) (hQ.ext0 e1) hPl hQl) ?_))
  rintro e w2 ⟨lg, rfl, hlg, e2'⟩
  have e2 := e1.then0 e2'
  refine exW.i1 (t := .bool) lg rfl (VIf.mk (fun hc => ?_) (fun hc => ?_))
  · refine VCall.i (works_spec w2) ?_
    rintro e w3 ⟨rfl, e3⟩
    exact exW.i1 (t := .bool) true rfl ⟨rfl, e2.then0 e3⟩
  have hl : P.length + Q.length ≤ 300 := hlg (by simpa using hc)
  refine VCall.i (Cut_spec a b P Q w2 (hP.ext0 e2) (hQ.ext0 e2) (by omega)) ?_
  rintro e w4 ⟨s, X, rfl, hX, hpX, hok, e4'⟩
  have e4 := e2.then0 e4'
  refine exW.i1 (t := .sl) s rfl ?_
  have hg := good_cut P Q
  have hsm := cutI_small hok (by omega)
  rw [← hpX] at hg hsm
  clear hpX hok hlg
  have hX := hX.in_
  have hsl := hX.len
  have hXl : (pts X).length = X.length := by simp [pts]
  have hat : ∀ m (hm : m < X.length), (pts X)[m]'(by omega) = (X[m]).2 := fun m hm => by simp [pts]
  have h1 := hg.ne
  have hsl5 := hsm.1
  refine ⟨fun W => Ext [] w W, ⟨fun k i W => ∃ m : Nat, i = (m : Int) ∧ m ≤ X.length ∧ k = X.length - m ∧ Ext [] w4 W, ⟨_, 0, rfl, by omega, rfl, Ext.refl _ _⟩, ?_⟩, ?_⟩
  rotate_left
  · intro W hW
    rw [decide_eq_true (by omega)]
    exact ⟨rfl, hW⟩
  rintro k i w5 ⟨m, rfl, hm, rfl, e5⟩
  refine VIf.mk (fun hc2 => ?_) (fun hc2 => e4.then0 e5)
  have hm' : m < X.length := by simp at hc2; omega
  intro w6 hw6
  have e6 := e5.then0 (Ext.drew' hw6)
  have h6 := hX.ext0 e6
  have hx := h6.all _ (List.getElem_mem hm')
  refine VIx.pt h6 hm' rfl fun a hr => VLd.s (X[m]).1.1 (hr.fld0 rfl) (VIx.pt h6 hm' rfl fun a hr => VLd.s (X[m]).1.2.1 (hr.fld 1 rfl) (VSet.i (VIx.pt h6 hm' rfl fun a hr => VLd.i1 (t := .bool) (X[m]).1.2.2 (hr.fld 2 rfl) ?_)))
  have g1 := hg.last m (by omega)
  have g2 := hg.some_ m (by omega)
  have g3 := hg.four m (by omega)
  have g4 := hg.most m (by omega)
  have g5 := fun h => hg.next m h
  rw [hat m hm'] at g1 g2 g3 g4
  simp only [hat m hm'] at g5
  have hlast : (X[m]).1.2.2 = decide (m + 1 = X.length) := by rw [hx.last, g1, hXl]
  have hcn : cnt (X[m]).2 = (X[m]).1.1.len + (X[m]).1.2.1.len := by unfold cnt; rw [hx.P.len, hx.Q.len]
  rw [w64 (n := (((X[m]).1.1.len : Nat) : Int) + (((X[m]).1.2.1.len : Nat) : Int)) (by omega), hlast, w64 (n := ((s.len : Nat) : Int) - 1) (by omega)]
  have b1 : (!(decide (m + 1 = X.length) == ((m : Int) == ((s.len : Nat) : Int) - 1))) = false := by
    by_cases h : m + 1 = X.length
    · have : (m : Int) = ((s.len : Nat) : Int) - 1 := by omega
      simp [h, this]
    · have : ¬ (m : Int) = ((s.len : Nat) : Int) - 1 := by omega
      simp [h, this]
  have b2 : ((((((X[m]).1.1.len : Nat) : Int) + (((X[m]).1.2.1.len : Nat) : Int)) == 0) && (decide (((s.len : Nat) : Int) > 1))) = false := by
    by_cases h : 1 < X.length
    · have := g2 (by omega)
      have : ¬ (((X[m]).1.1.len : Nat) : Int) + (((X[m]).1.2.1.len : Nat) : Int) = 0 := by omega
      simp only [Bool.and_eq_false_iff]; left; simpa using this
    · have : ¬ (((s.len : Nat) : Int) > 1) := by omega
      simp only [Bool.and_eq_false_iff]; right; exact decide_eq_false this
  have b3 : decide ((((X[m]).1.1.len : Nat) : Int) + (((X[m]).1.2.1.len : Nat) : Int) > 4) = false := decide_eq_false (by omega)
  rw [b1, b2, b3]
  refine SizeIf h6 hm' rfl fun r w8 hr8 e8 => ?_
  refine VIf.f ?_ ?_
  · by_cases h : (((X[m]).1.1.len : Nat) : Int) + (((X[m]).1.2.1.len : Nat) : Int) > 1
    · have := g4 (by omega)
      have hr9 := hr8 (by rw [decide_eq_true h]; rfl)
      have : ¬ r > 4000 := by omega
      simp [this]
    · simp [h]
  have e48 := e6.then0 e8
  have ew8 := e4.then0 e48
  rw [w64 (n := (m : Int) + 1) (by omega)]
  refine VIf.mk (fun hc3 => ew8) (fun hc3 => ?_)
  have hm1 : m + 1 < X.length := by simp at hc3; omega
  refine VNw.i fun next w9 hb9 hk9 e9 => ?_
  refine VSt.bk hk9 rfl (by simp) fun w10 hk10 e10 => ?_
  have hnlt : w8.heap.size ≤ next := by omega
  have e810 : Ext [] w8 w10 := e9.then e10 (fun i hi hlt => by simp at hi; omega)
  have hx8 := hX.ext0 e48
  have h10 := hx8.ext0 e810
  have hy := h10.all _ (List.getElem_mem hm1)
  have g6 := hg.some_ (m + 1) (by omega) (by omega)
  rw [hat (m + 1) hm1] at g6
  have q1 := hy.P.len
  have q2 := hy.Q.len
  have q3 := hy.P.2
  have q4 := hy.Q.2
  unfold cnt at g6
  refine ⟨fun W => ∃ (v : PtV) (q : Pt), Bk W next (ptR.f v) 31 ∧ PtIn W v q ∧ zs q = fst1 (X[m + 1]).2 ∧ Ext [] w8 W, ?_, ?_⟩
  · refine VIx.pt h10 hm1 (by omega) fun a hr => VLd.s (X[m + 1]).1.1 (hr.fld0 rfl) (VIf.mk (fun hc4 => ?_) (fun hc4 => ?_))
    · have hp : 1 ≤ (X[m + 1]).2.P.length := by simp at hc4; omega
      refine VIx.pt h10 hm1 (by omega) fun a hr => VLd.s (X[m + 1]).1.1 (hr.fld0 rfl) (VCk.i ⟨by omega, by omega, by omega⟩ ?_)
      refine VSt.bk hk10 rfl (by simp) fun w11 hk11 e11 => ?_
      have e811 : Ext [] w8 w11 := e810.then e11 (fun i hi hlt => by simp at hi; omega)
      have hz := (hx8.ext0 e811).all _ (List.getElem_mem hm1)
      exact ⟨(⟨cutB (X[m + 1]).1.1.base (X[m + 1]).1.1.cap 2 0, 1 - 0, (X[m + 1]).1.1.cap - 0⟩, ⟨none, 0, 0⟩, false), ⟨_, [], false⟩, hk11, ⟨hz.P.cut 0 1 (by omega) (by omega), InR.nil _, rfl⟩, one_P (by intro e; rw [e] at hp; simp at hp), e811⟩
    · have hp : (X[m + 1]).2.P.length = 0 := by simp at hc4; omega
      refine VIx.pt h10 hm1 (by omega) fun a hr => VLd.s (X[m + 1]).1.2.1 (hr.fld 1 rfl) (VCk.i ⟨by omega, by omega, by omega⟩ ?_)
      refine VSt.bk hk10 rfl (by simp) fun w11 hk11 e11 => ?_
      have e811 : Ext [] w8 w11 := e810.then e11 (fun i hi hlt => by simp at hi; omega)
      have hz := (hx8.ext0 e811).all _ (List.getElem_mem hm1)
      exact ⟨(⟨none, 0, 0⟩, ⟨cutB (X[m + 1]).1.2.1.base (X[m + 1]).1.2.1.cap 5 0, 1 - 0, (X[m + 1]).1.2.1.cap - 0⟩, false), ⟨[], _, false⟩, hk11, ⟨InR.nil _, hz.Q.cut 0 1 (by omega) (by omega), rfl⟩, one_Q (List.length_eq_zero_iff.1 hp) (by intro e; rw [e] at g6; simp at g6; omega), e811⟩
  · rintro w13 ⟨v, q, hk13, hv, hq, e13⟩ w14 hw14
    have e14' := Ext.drew' hw14
    have e14 := e13.then0 e14'
    have h14 := hx8.ext0 e14
    refine VIx.pt h14 hm' rfl fun a hr => ⟨((X[m]).1.1 : Sl), ((X[m]).1.2.1 : Sl), ((X[m]).1.2.2 : Bool), gd.i hr, ?_⟩
    have hk14 := hk13.ext e14'
    refine ⟨(v.1 : Sl), (v.2.1 : Sl), (v.2.2 : Bool), gd.i (Rd.of_bk hk14 rfl), ?_⟩
    have next' : ∀ W, Ext [] w14 W → ∃ k', k' < X.length - m ∧ ∃ m_1 : Nat, IntKind.wrap .i64 ((m : Int) + 1) = (m_1 : Int) ∧ m_1 ≤ X.length ∧ k' = X.length - m_1 ∧ Ext [] w4 W := fun W eW => ⟨_, by omega, m + 1, by rw [w64 (n := (m : Int) + 1) (by omega)]; rfl, by omega, rfl, (e48.then0 e14).then0 eW⟩
    rw [w64 (n := (m : Int) + 1) (by omega)] at next'
    by_cases hn : (((X[m]).1.1.len : Nat) : Int) + (((X[m]).1.2.1.len : Nat) : Int) < 4
    · rw [decide_eq_true hn]
      refine VCall.on rfl (VCall.i (of_spec (X[m]).1 w14) ?_)
      rintro e w15 ⟨rfl, e15⟩
      refine ⟨((X[m]).1.1 : Sl), ((X[m]).1.2.1 : Sl), ((X[m]).1.2.2 : Bool), rfl, ?_⟩
      have hk15 := hk14.ext e15
      refine ⟨fun _ => Rd.of_bk hk15 rfl, ?_⟩
      refine VCall.on rfl (VCall.i (Size_spec (X[m]).1 (X[m]).2 w15 ((h14.all _ (List.getElem_mem hm')).ext0 e15)) ?_)
      rintro e w16 ⟨rfl, e16⟩
      refine exW.i1 (t := .int .i64) _ rfl ?_
      have e1416 := e15.then0 e16
      refine ⟨fun _ => Rd.of_bk (hk15.ext e16) rfl, ?_⟩
      refine VCall.on rfl (VCall.i (Size_spec v q w16 ((hv.ext0 e14').ext0 e1416)) ?_)
      rintro e w17 ⟨rfl, e17⟩
      refine exW.i1 (t := .int .i64) _ rfl ?_
      rw [wrap_add, wrap_add2, hq]
      have := g5 (by omega) (by omega)
      rw [hat (m + 1) hm1] at this
      refine VIf.f (by rw [decide_eq_false (show ¬ (IntKind.wrap .i64 (zs (X[m]).2 + fst1 (X[m + 1]).2)) ≤ 4000 by omega)]; rfl) (VSet.i (next' _ (e1416.then0 e17)))
    · rw [decide_eq_false hn]
      refine VCall.off rfl ⟨(⟨none, 0, 0⟩ : Sl), (⟨none, 0, 0⟩ : Sl), (false : Bool), trivial, fun h => (by cases h), VCall.off rfl (exW.i1 (t := .int .i64) 0 trivial ⟨fun h => (by cases h), VCall.off rfl (exW.i1 (t := .int .i64) 0 trivial ?_)⟩)⟩
      exact VIf.f rfl (VSet.i (next' _ (Ext.refl _ _)))
end Go.Proofs.Ytoceilgifkncoaa
