/-
  Package hand: rows of parts; twins, joined parts, what is spoilt.
-/
import Derived.Test.YtoceilgifkncoaaHandB
namespace Go.Proofs.Ytoceilgifkncoaa
open Go.RowKit
set_option maxRecDepth 100000

theorem OwnR.sepT {α β : Type} {r : Rec α} {q : Rec β} {e e' : TypeId} {w0 w1 w : World} {s t : Sl} {L : List α} {T : List β} (h : OwnR r e w0 w s L) (k : OwnR q e' w1 w t T) (hne : e ≠ e') : ∀ b ∈ rowB s, b ∉ rowB t := by
  intro b hb hb'
  obtain ⟨_, k1⟩ := h.1.bk_of hb
  obtain ⟨_, k2⟩ := k.1.bk_of hb'
  exact k1.neT k2 hne rfl
theorem PtO.noT {w0 w w1 : World} {v : PtV} {p : Pt} {s : Sl} {H : List PtV} (h : PtO w0 w v p) (k : OwnR ptR 33 w1 w s H) : ∀ b ∈ fpt v, b ∉ rowB s := by
  intro b hb
  simp only [fpt, List.mem_append] at hb
  rcases hb with hb | hb
  · exact h.P.sepT k (by decide) b hb
  · exact h.Q.sepT k (by decide) b hb

abbrev PX := PtV × Pt
structure PtsIn (w : World) (s : Sl) (X : List PX) : Prop where
  row : InR ptR w s (X.map (·.1))
  all : ∀ x ∈ X, PtIn w x.1 x.2
structure PtsO (w0 w : World) (s : Sl) (X : List PX) : Prop where
  row : OwnR ptR 33 w0 w s (X.map (·.1))
  all : ∀ x ∈ X, PtO w0 w x.1 x.2
  sep : X.Pairwise fun x y => ∀ b ∈ fpt x.1, b ∉ fpt y.1
def pts (X : List PX) : List Pt := X.map (·.2)
def small (L : List Pt) : Prop := L.length ≤ 100000 ∧ ∀ p ∈ L, p.P.length ≤ 1000000 ∧ p.Q.length ≤ 1000000
section
variable {w0 w w' : World} {s : Sl} {X : List PX} {M : List Nat}
theorem PtsIn.ext0 (h : PtsIn w s X) (e : Ext [] w w') : PtsIn w' s X := ⟨h.row.ext0 e, fun x hx => (h.all x hx).ext0 e⟩
theorem PtsIn.len (h : PtsIn w s X) : s.len = X.length := by rw [h.row.len, List.length_map]
theorem PtsO.in_ (h : PtsO w0 w s X) : PtsIn w s X := ⟨h.row.in_, fun x hx => (h.all x hx).in_⟩
theorem PtsO.len (h : PtsO w0 w s X) : s.len = X.length := h.in_.len
theorem PtsO.ext0 (h : PtsO w0 w s X) (e : Ext [] w w') : PtsO w0 w' s X := ⟨h.row.ext0 e, fun x hx => (h.all x hx).ext0 e, h.sep⟩
theorem PtsO.ext (h : PtsO w0 w s X) (e : Ext M w w') (h1 : ∀ b ∈ rowB s, b ∉ M) (h2 : ∀ x ∈ X, ∀ b ∈ fpt x.1, b ∉ M) : PtsO w0 w' s X := ⟨h.row.ext e h1, fun x hx => (h.all x hx).ext e (h2 x hx), h.sep⟩
theorem PtsO.mono {w1 : World} (h : PtsO w1 w s X) (le : w0.heap.size ≤ w1.heap.size) : PtsO w0 w s X := ⟨h.row.mono le, fun x hx => (h.all x hx).mono le, h.sep⟩
theorem PtsO.nil (w0 w : World) : PtsO w0 w ⟨none, 0, 0⟩ [] := ⟨OwnR.nil _ _ _ _, by simp, List.Pairwise.nil⟩
/-- a part in new memory is put behind -/
theorem PtsO.push {w1 : World} {x : PX} {s' : Sl} (h : PtsO w0 w1 s X) (k : PtO w1 w x.1 x.2) (e0 : w0.heap.size ≤ w1.heap.size) (e : Ext [] w1 w) (hr : OwnR ptR 33 w0 w' s' (X.map (·.1) ++ [x.1])) (e' : Ext (rowB s) w w') : PtsO w0 w' s' (X ++ [x]) := by
  have h1 := h.ext0 e
  refine ⟨by rw [List.map_append]; exact hr, ?_, ?_⟩
  · intro y hy
    rcases List.mem_append.1 hy with hy | hy
    · exact (h1.all y hy).ext e' ((h1.all y hy).noT h1.row)
    · rw [List.mem_singleton.1 hy]
      exact (k.mono e0).ext e' (k.noT h1.row)
  · rw [List.pairwise_append]
    refine ⟨h.sep, List.pairwise_singleton _ _, ?_⟩
    intro y hy z hz b hb hb'
    rw [List.mem_singleton.1 hz] at hb'
    have := (h.all y hy).lt b hb
    have := k.ges b hb'
    omega
theorem VIx.pt {g : Option Bool} {m : Nat} {i : Int} {K : Addr → Prop} (h : PtsIn w s X) (hm : m < X.length) (hi : i = (m : Int)) (k : ∀ a, Rd w (a.add (m * 3)) (ptR.f X[m].1) → K a) : VIx g s.base s.len i K := by
  refine VIx.rec (r := ptR) (L := X.map (·.1)) h.row.1 (by simpa using hm) hi fun a hr => k a ?_
  rw [List.getElem_map] at hr
  exact hr
end
theorem twins_spec (s : Sl) (X : List PX) (w : World) (h : PtsIn w s X) (hs : small (pts X)) :
    Calls Try.prog 37 #[.slice s.base s.len s.cap] w fun e w' => ∃ (s' : Sl) (Y : List PX), e = .returned (.slice s'.base s'.len s'.cap) ∧ PtsO w w' s' Y ∧ pts Y = pts X ∧ Ext [] w w' := by
  refine sh_hand_twins_ok _ _ _ ?_
  unfold sh_hand_twins
  have hn := h.len
  have hsl : X.length ≤ 100000 := by have := hs.1; simpa [pts] using this
  refine ⟨fun k o i W => ∃ (m : Nat) (Y : List PX), i = (m : Int) ∧ m ≤ X.length ∧ k = X.length - m ∧ PtsO w W o Y ∧ pts Y = pts (X.take m) ∧ Ext [] w W, ⟨_, 0, [], rfl, by omega, rfl, PtsO.nil _ _, rfl, Ext.refl _ _⟩, ?_⟩
  rintro k o i w1 ⟨m, Y, rfl, hm, rfl, hY, hYX, e1⟩
  have hYl : Y.length = m := by have := congrArg List.length hYX; simp [pts] at this; omega
  refine VIf.mk (fun hc => ?_) (fun hc => ?_)
  · have hm' : m < X.length := by simp at hc; omega
    have hx := (h.ext0 e1).all _ (List.getElem_mem hm')
    have hsx := hs.2 (X[m]).2 (by unfold pts; exact List.mem_map_of_mem (List.getElem_mem hm'))
    refine VIx.pt (h.ext0 e1) hm' rfl fun a hr => ?_
    refine ⟨((X[m]).1.1 : Sl), ((X[m]).1.2.1 : Sl), ((X[m]).1.2.2 : Bool), gd.i hr, ?_⟩
    refine VNw.i fun b2 w2 hb2 hk2 e2 => ?_
    refine VSt.bk hk2 rfl (by simp) fun w3 hk3 e3 => ?_
    have e13 : Ext [] w1 w3 := e2.then e3 (fun i hi hlt => by simp at hi; omega)
    refine ⟨((X[m]).1.1 : Sl), ((X[m]).1.2.1 : Sl), ((X[m]).1.2.2 : Bool), gd.i (Rd.of_bk hk3 rfl), ?_⟩
    refine VCall.i (twin_spec (X[m]).1 (X[m]).2 w3 (hx.ext0 e13) hsx.1 hsx.2) ?_
    rintro e w4 ⟨v', rfl, hv, _, e4⟩
    refine ⟨(v'.1 : Sl), (v'.2.1 : Sl), (v'.2.2 : Bool), rfl, ?_⟩
    refine VNw.i fun b5 w5 hb5 hk5 e5 => ?_
    have e15 := (e13.then0 e4).then0 e5
    have hYo := hY.ext0 e15
    refine VApp.rec (r := ptR) hYo.row (e1.then0 e15) (news := [v']) (Seg.of_bk hk5 rfl rfl) rfl rfl (by simp; omega) (by simp; omega) fun s6 w6 hr6 e6 ea6 _ => ?_
    refine ⟨_, by omega, m + 1, Y ++ [(v', (X[m]).2)], ?_, by omega, rfl, ?_, ?_, e6⟩
    · rw [w64 (n := (m : Int) + 1) (by omega)]; rfl
    · have hYo3 := hY.ext0 e13
      exact hYo3.push (x := (v', (X[m]).2)) (w := w5) (hv.ext0 e5) (e1.then0 e13).size (e4.then0 e5) hr6 ea6
    · unfold pts at hYX ⊢
      rw [List.map_append, hYX, List.take_succ_eq_append_getElem hm', List.map_append]; rfl
  · have hmm : m = X.length := by simp at hc; omega
    subst hmm
    rw [List.take_length] at hYX
    exact ⟨o, Y, rfl, hY, hYX, e1⟩
def allP (L : List Pt) : List Pr := L.flatMap (·.P)
def allQ (L : List Pt) : List Ls := L.flatMap (·.Q)
theorem Join_spec (s : Sl) (X : List PX) (w : World) (h : PtsIn w s X) (hs : X.length ≤ 100000) (hP : (allP (pts X)).length ≤ 1000000) (hQ : (allQ (pts X)).length ≤ 1000000) :
    Calls Try.prog 14 #[.slice s.base s.len s.cap] w fun e w' => ∃ (a b : Sl), e = .returned (.tuple #[.slice a.base a.len a.cap, .slice b.base b.len b.cap]) ∧ OwnR prR 37 w w' a (allP (pts X)) ∧ OwnR lsR 68 w w' b (allQ (pts X)) ∧ Ext [] w w' := by
  refine sh_hand_Join_ok _ _ _ ?_
  unfold sh_hand_Join
  have hn := h.len
  have hpre : ∀ m, (allP (pts (X.take m))).length ≤ (allP (pts X)).length ∧ (allQ (pts (X.take m))).length ≤ (allQ (pts X)).length := by
    intro m
    have h1 : allP (pts X) = allP (pts (X.take m)) ++ allP (pts (X.drop m)) := by
      conv => lhs; rw [← List.take_append_drop m X]
      simp only [pts, allP, List.map_append, List.flatMap_append]
    have h2 : allQ (pts X) = allQ (pts (X.take m)) ++ allQ (pts (X.drop m)) := by
      conv => lhs; rw [← List.take_append_drop m X]
      simp only [pts, allQ, List.map_append, List.flatMap_append]
    rw [h1, h2, List.length_append, List.length_append]
    omega
  have hstep : ∀ m (hm : m < X.length), allP (pts (X.take (m + 1))) = allP (pts (X.take m)) ++ (X[m]).2.P ∧ allQ (pts (X.take (m + 1))) = allQ (pts (X.take m)) ++ (X[m]).2.Q := by
    intro m hm
    unfold pts allP allQ
    rw [List.take_succ_eq_append_getElem hm, List.map_append, List.flatMap_append, List.flatMap_append]
    simp
  refine ⟨fun k a b i W => ∃ (m : Nat), i = (m : Int) ∧ m ≤ X.length ∧ k = X.length - m ∧ OwnR prR 37 w W a (allP (pts (X.take m))) ∧ OwnR lsR 68 w W b (allQ (pts (X.take m))) ∧ Ext [] w W, ⟨_, 0, rfl, by omega, rfl, OwnR.nil _ _ _ _, OwnR.nil _ _ _ _, Ext.refl _ _⟩, ?_⟩
  rintro k a b i w1 ⟨m, rfl, hm, rfl, ha, hb, e1⟩
  refine VIf.mk (fun hc => ?_) (fun hc => ?_)
  · have hm' : m < X.length := by simp at hc; omega
    have hp := hpre (m + 1)
    obtain ⟨s1, s2⟩ := hstep m hm'
    have hx := (h.ext0 e1).all _ (List.getElem_mem hm')
    refine VIx.pt (h.ext0 e1) hm' rfl fun ad hr => ?_
    refine ⟨((X[m]).1.1 : Sl), ((X[m]).1.2.1 : Sl), ((X[m]).1.2.2 : Bool), gd.i hr, ?_⟩
    refine VNw.i fun b2 w2 hb2 hk2 e2 => ?_
    refine VSt.bk hk2 rfl (by simp) fun w3 hk3 e3 => ?_
    have e13 : Ext [] w1 w3 := e2.then e3 (fun i hi hlt => by simp at hi; omega)
    intro w4 hw4
    have e34 := Ext.drew' hw4
    have e14 := e13.then0 e34
    have hk4 := hk3.ext e34
    have hx4 := hx.ext0 e14
    have ha4 := ha.ext0 e14
    have hb4 := hb.ext0 e14
    have l1 := hx4.P.len
    have l2 := hx4.Q.len
    rw [s1, s2, List.length_append, List.length_append] at hp
    refine VLd.s (X[m]).1.1 (Rd.of_bk hk4 rfl) (VLd.s (X[m]).1.2.1 (Rd.of_bk hk4 rfl) ?_)
    refine VApp.rec (r := prR) ha4 (e1.then0 e14) (news := (X[m]).2.P) hx4.P.1 l1.symm rfl (by rw [l1]; omega) (by rw [l1]; omega) fun s5 w5 h5 e5 ea5 _ => ?_
    have hpw : ∀ i ∈ rowB a, w.heap.size ≤ i := ha.2
    have hb5 := hb4.ext ea5 (hb4.sepT ha4 (by decide))
    have hk2w : b2 ∉ rowB a := fun hq => by have := ha.1.lt b2 hq; omega
    refine ⟨Rd.of_bk (hk4.ext ea5 hk2w) rfl, ?_⟩
    have hx5 := ((h.all _ (List.getElem_mem hm')).ext0 e5)
    refine VApp.rec (r := lsR) hb5 e5 (news := (X[m]).2.Q) hx5.Q.1 l2.symm rfl (by rw [l2]; omega) (by rw [l2]; omega) fun s6 w6 h6 e6 ea6 _ => ?_
    refine ⟨_, by omega, m + 1, ?_, by omega, rfl, ?_, ?_, e6⟩
    · rw [w64 (n := (m : Int) + 1) (by omega)]; rfl
    · rw [s1]; exact h5.ext ea6 (h5.sepT hb5 (by decide))
    · rw [s2]; exact h6
  · have hmm : m = X.length := by simp at hc; omega
    subst hmm
    rw [List.take_length] at ha hb
    exact ⟨a, b, rfl, ha, hb, e1⟩
theorem spoil_spec (v : PtV) (p : Pt) (w0 w : World) (h : PtO w0 w v p) (hP : p.P.length ≤ 1000000) (hQ : p.Q.length ≤ 1000000) :
    Calls Try.prog 15 #[ptv v] w fun e w' => e = .returned (.tuple #[]) ∧ Ext (fpt v) w w' := by
  refine sh_butterylaw23_spoil_ok _ _ _ _ _ ?_
  unfold sh_butterylaw23_spoil
  have hn := h.P.len
  have hm := h.Q.len
  have hsep := h.P.sepT h.Q (by decide)
  refine VNw.i fun b1 w1 hb1 hk1 e1 => ?_
  have hlt := h.lt
  have hnb : b1 ∉ fpt v := fun hq => by have := hlt b1 hq; omega
  refine ⟨fun k i W => ∃ (m : Nat) (L : List Pr), i = (m : Int) ∧ m ≤ p.P.length ∧ k = p.P.length - m ∧ L.length = p.P.length ∧ OwnR prR 37 w0 W v.1 L ∧ OwnR lsR 68 w0 W v.2.1 p.Q ∧ Bk W b1 [.slice v.1.base v.1.len v.1.cap, .slice v.2.1.base v.2.1.len v.2.1.cap, .bool v.2.2] 33 ∧ Ext (fpt v) w W,
    ⟨_, 0, p.P, rfl, by omega, rfl, rfl, h.P.ext0 e1, h.Q.ext0 e1, hk1, (Ext.refl (fpt v) w).then e1 (by simp)⟩, ?_⟩
  rintro k i w2 ⟨m, L, rfl, hm2, rfl, hL, h2, q2, hk2, e2⟩
  refine VLd.s v.1 (Rd.of_bk hk2 rfl) ?_
  refine VIf.mk (fun hc => ?_) (fun hc => ?_)
  · have hm' : m < L.length := by simp at hc; omega
    refine VLd.s v.1 (Rd.of_bk hk2 rfl) ?_
    refine Row.putR (r := prR) (j := 0) (vs := [.string (ByteArray.mk #[63])]) (x := (ByteArray.mk #[63], (L[m]).2)) h2.1 hm' (by show 0 + 1 ≤ 2; omega) rfl rfl (fun a => (add_zero _).symm) fun w3 h3 e3 => ?_
    rw [w64 (n := (m : Int) + 1) (by omega)]
    refine VSet.i ⟨_, by omega, m + 1, _, rfl, by omega, rfl, by rw [List.length_set]; exact hL, ⟨h3, h2.2⟩, q2.ext e3 (q2.sepT h2 (by decide)), hk2.ext e3 (fun hq => hnb (by simp [fpt, hq])), e2.then e3 (fun i hi _ => by simp [fpt, hi])⟩
  · refine ⟨fun k i W => ∃ (m : Nat) (L : List Ls), i = (m : Int) ∧ m ≤ p.Q.length ∧ k = p.Q.length - m ∧ L.length = p.Q.length ∧ OwnR lsR 68 w0 W v.2.1 L ∧ Bk W b1 [.slice v.1.base v.1.len v.1.cap, .slice v.2.1.base v.2.1.len v.2.1.cap, .bool v.2.2] 33 ∧ Ext (fpt v) w W,
      ⟨_, 0, p.Q, rfl, by omega, rfl, rfl, q2, hk2, e2⟩, ?_⟩
    rintro k i w4 ⟨m, L, rfl, hm2, rfl, hL, h4, hk4, e4⟩
    refine VLd.s v.2.1 (Rd.of_bk hk4 rfl) ?_
    refine VIf.mk (fun hc => ?_) (fun hc => ⟨rfl, e4⟩)
    have hm' : m < L.length := by simp at hc; omega
    refine VLd.s v.2.1 (Rd.of_bk hk4 rfl) ?_
    refine Row.putR (r := lsR) (j := 1) (vs := [.int .i64 (-7)]) (x := ((L[m]).1, -7, (L[m]).2.2)) h4.1 hm' (by show 1 + 1 ≤ 5; omega) rfl rfl (fun a => rfl) fun w5 h5 e5 => ?_
    rw [w64 (n := (m : Int) + 1) (by omega)]
    refine VSet.i ⟨_, by omega, m + 1, _, rfl, by omega, rfl, by rw [List.length_set]; exact hL, ⟨h5, h4.2⟩, hk4.ext e5 (fun hq => hnb (by simp [fpt, hq])), e4.then e5 (fun i hi _ => by simp [fpt, hi])⟩
end Go.Proofs.Ytoceilgifkncoaa
