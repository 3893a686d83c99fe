/-
  Package msg: a message in memory of its own; copies.
-/
import Derived.Test.YtodcdfelbphajaaMsgD
namespace Go.Proofs.Ytodcdfelbphajaa
open Go.RowKit
set_option maxRecDepth 100000

theorem OwnR.noB {α : Type} {r : Rec α} {e t : TypeId} {w0 w : World} {s : Sl} {L : List α} {q : Nat} {cs : List Value} (h : OwnR r e w0 w s L) (k : Bk w q cs t) (hne : e ≠ t) : q ∉ rowB s := fun hb => by
  obtain ⟨_, hz⟩ := h.1.bk_of hb
  exact hz.neT k hne rfl
theorem OwnR.sepT {α β : Type} {r : Rec α} {q : Rec β} {e e' : TypeId} {w0 w1 w : World} {s t : Sl} {L : List α} {T : List β} (h : OwnR r e w0 w s L) (k : OwnR q e' w1 w t T) (hne : e ≠ e') : ∀ b ∈ rowB s, b ∉ rowB t := by
  intro b hb hb'
  obtain ⟨_, h1⟩ := h.1.bk_of hb
  obtain ⟨_, k1⟩ := k.1.bk_of hb'
  exact h1.neT k1 hne rfl
theorem base_none {α : Type} {r : Rec α} {w : World} {s : Sl} {L : List α} (h : InR r w s L) (hb : s.base = none) : L = [] := by
  have hl := h.len
  rcases h.1.2 with h0 | ⟨a, ha, _⟩
  · exact List.length_eq_zero_iff.1 (by omega)
  · rw [hb] at ha; cases ha
theorem CloneE (s : Sl) (L : List EnV) (w : World) (h : InR enR w s L) (hl : L.length ≤ 1048576) :
    Calls Try.prog 25 #[.slice s.base s.len s.cap] w fun e w' => ∃ s' : Sl, e = .returned (.slice s'.base s'.len s'.cap) ∧ OwnR enR 58 w w' s' L ∧ Ext [] w w' := by
  refine sh_slices_Clone_ok _ _ _ ?_
  unfold sh_slices_Clone
  refine VIf.mk (fun hc => ?_) (fun hc => ?_)
  · have hb : s.base = none := by simpa using hc
    rw [base_none h hb]
    exact ⟨⟨none, 0, 0⟩, rfl, OwnR.nil _ _ _ _, Ext.refl _ _⟩
  · refine VNw.i fun b w1 hb hk e1 => ?_
    exact VApp.rclone (r := enR) (L := L) hb hk e1 h.1 rfl (by omega) (by omega) fun s' w' ho e' => ⟨s', rfl, ho, e'⟩
theorem CloneI (s : Sl) (L : List Int) (w : World) (h : InR intR w s L) (hl : L.length ≤ 1048576) :
    Calls Try.prog 26 #[.slice s.base s.len s.cap] w fun e w' => ∃ s' : Sl, e = .returned (.slice s'.base s'.len s'.cap) ∧ OwnR intR 3 w w' s' L ∧ Ext [] w w' := by
  refine sh_slices_Clone'_ok _ _ _ ?_
  unfold sh_slices_Clone'
  refine VIf.mk (fun hc => ?_) (fun hc => ?_)
  · have hb : s.base = none := by simpa using hc
    rw [base_none h hb]
    exact ⟨⟨none, 0, 0⟩, rfl, OwnR.nil _ _ _ _, Ext.refl _ _⟩
  · refine VNw.i fun b w1 hb hk e1 => ?_
    exact VApp.rclone (r := intR) (L := L) hb hk e1 h.1 rfl (by omega) (by omega) fun s' w' ho e' => ⟨s', rfl, ho, e'⟩
theorem CloneP (s : Sl) (L : List Pr) (w : World) (h : InR prR w s L) (hl : L.length ≤ 1048576) :
    Calls Try.prog 27 #[.slice s.base s.len s.cap] w fun e w' => ∃ s' : Sl, e = .returned (.slice s'.base s'.len s'.cap) ∧ OwnR prR 52 w w' s' L ∧ Ext [] w w' := by
  refine sh_slices_Clone''_ok _ _ _ ?_
  unfold sh_slices_Clone''
  refine VIf.mk (fun hc => ?_) (fun hc => ?_)
  · have hb : s.base = none := by simpa using hc
    rw [base_none h hb]
    exact ⟨⟨none, 0, 0⟩, rfl, OwnR.nil _ _ _ _, Ext.refl _ _⟩
  · refine VNw.i fun b w1 hb hk e1 => ?_
    exact VApp.rclone (r := prR) (L := L) hb hk e1 h.1 rfl (by omega) (by omega) fun s' w' ho e' => ⟨s', rfl, ho, e'⟩
theorem CloneQ (s : Sl) (L : List Ls) (w : World) (h : InR lsR w s L) (hl : L.length ≤ 1048576) :
    Calls Try.prog 28 #[.slice s.base s.len s.cap] w fun e w' => ∃ s' : Sl, e = .returned (.slice s'.base s'.len s'.cap) ∧ OwnR lsR 55 w w' s' L ∧ Ext [] w w' := by
  refine sh_slices_Clone'''_ok _ _ _ ?_
  unfold sh_slices_Clone'''
  refine VIf.mk (fun hc => ?_) (fun hc => ?_)
  · have hb : s.base = none := by simpa using hc
    rw [base_none h hb]
    exact ⟨⟨none, 0, 0⟩, rfl, OwnR.nil _ _ _ _, Ext.refl _ _⟩
  · refine VNw.i fun b w1 hb hk e1 => ?_
    exact VApp.rclone (r := lsR) (L := L) hb hk e1 h.1 rfl (by omega) (by omega) fun s' w' ho e' => ⟨s', rfl, ho, e'⟩
/-- a message in memory of its own -/
structure MO (w0 w : World) (m : MV) (p : MP) (X : List EX) : Prop where
  c : m.c = p.c
  er : OwnR enR 58 w0 w m.e (X.map (·.1))
  ea : ∀ j (hj : j < X.length), OwnR intR 3 w0 w (X[j]).1.2.2.2 (X[j]).2
  es : ∀ i j (hi : i < X.length) (hj : j < X.length), i ≠ j → ∀ b ∈ rowB (X[i]).1.2.2.2, b ∉ rowB (X[j]).1.2.2.2
  el : ∀ j (hj : j < X.length), ∀ b ∈ rowB (X[j]).1.2.2.2, b ∉ rowB m.l
  ex : ens X = p.E
  li : OwnR intR 3 w0 w m.l p.L
  pi : OwnR prR 52 w0 w m.p p.P
  qi : OwnR lsR 55 w0 w m.q p.Q
theorem MO.in_ {w0 w : World} {m : MV} {p : MP} {X : List EX} (h : MO w0 w m p X) : MIn w m p X :=
  ⟨h.c, ⟨h.er.in_, fun x hx => by
    obtain ⟨j, hj, rfl⟩ := List.mem_iff_getElem.1 hx
    exact (h.ea j hj).in_⟩, h.ex, h.li.in_, h.pi.in_, h.qi.in_⟩
theorem MO.ext0 {w0 w w' : World} {m : MV} {p : MP} {X : List EX} (h : MO w0 w m p X) (e : Ext [] w w') : MO w0 w' m p X :=
  ⟨h.c, h.er.ext0 e, fun j hj => (h.ea j hj).ext0 e, h.es, h.el, h.ex, h.li.ext0 e, h.pi.ext0 e, h.qi.ext0 e⟩
/-- a message that is not too long for the machine -/
structure Fit (p : MP) : Prop where
  fe : p.E.length ≤ 1048576
  fa : ∀ x ∈ p.E, x.2.2.2.length ≤ 1048576
  fl : p.L.length ≤ 1048576
  fp : p.P.length ≤ 1048576
  fq : p.Q.length ≤ 1048576
theorem set_en (X : List EX) (m : Nat) (h : m < X.length) (s : Sl) : ens (X.set m (((X[m]).1.1, (X[m]).1.2.1, (X[m]).1.2.2.1, s), (X[m]).2)) = ens X := by
  unfold ens
  apply List.ext_getElem
  · simp
  · intro i h1 h2
    simp only [List.getElem_map, List.getElem_set]
    split
    · rename_i e; subst e; rfl
    · rfl
theorem Twin_spec (a : MV) (p : MP) (X : List EX) (w : World) (h : MIn w a p X) (hf : Fit p) :
    Calls Try.prog 12 #[mva a] w fun e w' => ∃ (m : MV) (Y : List EX), e = .returned (mva m) ∧ MO w w' m p Y ∧ Ext [] w w' := by
  unfold mva
  apply sh_msg_Twin_ok
  unfold sh_msg_Twin
  have hXl : X.length = p.E.length := by rw [← h.ex]; simp [ens]
  have hXa : ∀ j (hj : j < X.length), (X[j]).2.length ≤ 1048576 := fun j hj => by
    have := hf.fa (X[j].en) (by rw [← h.ex]; exact List.mem_map_of_mem (List.getElem_mem hj))
    exact this
  have f1 := hf.fe
  refine VNw.i fun mb w1 hb1 hk1 e1 => VNw.i fun b2 w2 hb2 hk2 e2 => ?_
  intro w3 hw3
  have ed := Ext.drew' hw3
  have hk := (hk1.ext e2).ext ed
  have hk2 := hk2.ext ed
  have e03 := (e1.then0 e2).then0 ed
  have h3 := h.ext0 e03
  refine VLd.s a.e (Rd.of_bk hk rfl) (VLd.s a.l (Rd.of_bk hk rfl) (VLd.s a.p (Rd.of_bk hk rfl) (VLd.s a.q (Rd.of_bk hk rfl) ?_)))
  refine VCall.i (CloneE a.e (X.map (·.1)) w3 h3.es.row (by simp; omega)) ?_
  rintro e w4 ⟨se, rfl, he, e4⟩
  refine exW.i1 (t := .sl) se rfl ⟨Rd.of_bk (hk.ext e4) rfl, Rd.of_bk (hk.ext e4) rfl, Rd.of_bk (hk.ext e4) rfl, ?_⟩
  refine VCall.i (CloneI a.l p.L w4 (h3.ext0 e4).li hf.fl) ?_
  rintro e w5 ⟨sl, rfl, hl, e5⟩
  have e35 := e4.then0 e5
  refine exW.i1 (t := .sl) sl rfl ⟨Rd.of_bk (hk.ext e35) rfl, Rd.of_bk (hk.ext e35) rfl, ?_⟩
  refine VCall.i (CloneP a.p p.P w5 (h3.ext0 e35).pi hf.fp) ?_
  rintro e w6 ⟨sp, rfl, hp, e6⟩
  have e36 := e35.then0 e6
  refine exW.i1 (t := .sl) sp rfl ⟨Rd.of_bk (hk.ext e36) rfl, ?_⟩
  refine VCall.i (CloneQ a.q p.Q w6 (h3.ext0 e36).qi hf.fq) ?_
  rintro e w7 ⟨sq, rfl, hq, e7⟩
  have e37 := e36.then0 e7
  refine exW.i1 (t := .sl) sq rfl ?_
  have hk7 := hk.ext e37
  have he7 := (((he.mono (w0 := w) e03.size).ext0 e5).ext0 e6).ext0 e7
  have hl7 := ((hl.mono (w0 := w) (e03.then0 e4).size).ext0 e6).ext0 e7
  have hp7 := (hp.mono (w0 := w) (e03.then0 e35).size).ext0 e7
  have hq7 := hq.mono (w0 := w) (e03.then0 e36).size
  have hk27 := hk2.ext e37
  have hmb : mb = w.heap.size := hb1
  have h2b : w.heap.size ≤ b2 := by have := e1.size; omega
  have keep : ∀ {W W' : World}, Ext [] w W → Ext [mb] W W' → Ext [] w W' := fun x y => x.then y (fun i hi hlt => by simp at hi; omega)
  have hne : b2 ≠ mb := by have := hk1.lt; omega
  have h2n : b2 ∉ [mb] := by simpa using hne
  refine VSt.bk hk7 rfl (by simp) fun w8 hk8 e8 => VSt.bk hk8 rfl (by simp) fun w9 hk9 e9 => VSt.bk hk9 rfl (by simp) fun w10 hk10 e10 => VSt.bk hk10 rfl (by simp) fun w11 hk11 e11 => ?_
  have e711 : Ext [mb] w7 w11 := ((e8.then e9 (fun i hi _ => hi)).then e10 (fun i hi _ => hi)).then e11 (fun i hi _ => hi)
  have e011 := keep (e03.then0 e37) e711
  have nb : ∀ {α : Type} {r : Rec α} {e : TypeId} {s : Sl} {L : List α}, OwnR r e w w7 s L → e ≠ 34 → ∀ b ∈ rowB s, b ∉ [mb] := fun ho hn b hb hq => by
    simp at hq; subst hq; exact ho.noB hk7 hn hb
  have he11 := he7.ext e711 (nb he7 (by decide))
  have hl11 := hl7.ext e711 (nb hl7 (by decide))
  have hp11 := hp7.ext e711 (nb hp7 (by decide))
  have hq11 := hq7.ext e711 (nb hq7 (by decide))
  have hk211 := hk27.ext e711 h2n
  have hk11' : Bk w11 mb (mvF ⟨a.c, se, sl, sp, sq⟩) 34 := hk11
  clear hk8 hk9 hk10 hk11
  refine VLd.s se (Rd.of_bk hk11' rfl) ?_
  have hsel := he11.len
  rw [List.length_map] at hsel
  refine ⟨fun k i W => ∃ (m : Nat) (Y : List EX), i = (m : Int) ∧ m ≤ X.length ∧ k = X.length - m ∧ Y.length = X.length ∧ ens Y = ens X ∧ OwnR enR 58 w W se (Y.map (·.1)) ∧
      (∀ j (hj : j < Y.length), j < m → OwnR intR 3 w W (Y[j]).1.2.2.2 (Y[j]).2) ∧ (∀ j (hj : j < Y.length) (hj' : j < X.length), m ≤ j → Y[j] = X[j]) ∧
      (∀ i j (hi : i < Y.length) (hj : j < Y.length), i < m → j < m → i ≠ j → ∀ b ∈ rowB (Y[i]).1.2.2.2, b ∉ rowB (Y[j]).1.2.2.2) ∧ (∀ j (hj : j < Y.length), j < m → ∀ b ∈ rowB (Y[j]).1.2.2.2, b ∉ rowB sl) ∧
      OwnR intR 3 w W sl p.L ∧ OwnR prR 52 w W sp p.P ∧ OwnR lsR 55 w W sq p.Q ∧ Bk W mb (mvF ⟨a.c, se, sl, sp, sq⟩) 34 ∧ (∃ cs, cs.length = 33 ∧ Bk W b2 cs 34) ∧ Ext [] w W,
    ⟨_, 0, X, rfl, by omega, rfl, rfl, rfl, he11, fun j hj h0 => by omega, fun j hj hj' _ => rfl, fun i j hi hj h0 => by omega, fun j hj h0 => by omega, hl11, hp11, hq11, hk11', ⟨_, by rfl, hk211⟩, e011⟩, ?_⟩
  rintro k i w12 ⟨m, Y, rfl, hm, rfl, hYl, hYX, her, hea, hold, hsep, hsl, hli, hpi, hqi, hkm, ⟨cs2, hcs2, hkb⟩, e12⟩
  refine VIf.mk (fun hc => ?_) (fun hc => ?_)
  · have hm' : m < X.length := by simp at hc; omega
    have hmY : m < Y.length := by omega
    refine VSet.i ?_
    intro w13 hw13
    have ed := Ext.drew' hw13
    have hkm13 := hkm.ext ed
    have her13 := her.ext0 ed
    refine VLd.s se (Rd.of_bk hkm13 rfl) (VLd.s se (Rd.of_bk hkm13 rfl) ?_)
    refine VIx.rec (r := enR) her13.in_.1 (show m < (Y.map (·.1)).length by simpa using hmY) rfl fun a1 hr1 => ?_
    rw [List.getElem_map, hold m hmY hm' (Nat.le_refl _)] at hr1
    refine VLd.s (X[m]).1.2.2.2 (hr1.fld 3 rfl) ?_
    refine VCall.i (CloneI (X[m]).1.2.2.2 (X[m]).2 w13 ((h.ext0 (e12.then0 ed)).es.all _ (List.getElem_mem hm')) (hXa m hm')) ?_
    rintro e w14 ⟨sn, rfl, hn, e14⟩
    refine exW.i1 (t := .sl) sn rfl ⟨Rd.of_bk (hkm13.ext e14) rfl, ?_⟩
    have e1214 := ed.then0 e14
    have her14 := her.ext0 e1214
    have hgY : (Y.map (·.1))[m]'(by simpa using hmY) = (X[m]).1 := by rw [List.getElem_map, hold m hmY hm' (Nat.le_refl _)]
    refine Row.putR (r := enR) (j := 3) (vs := [.slice sn.base sn.len sn.cap]) (x := ((X[m]).1.1, (X[m]).1.2.1, (X[m]).1.2.2.1, sn)) her14.1 (show m < (Y.map (·.1)).length by simpa using hmY) (by show 3 + 1 ≤ 4; omega) rfl (by rw [hgY]; rfl) (fun a => rfl) fun w15 h15 e15 => ?_
    have hnw := hn.mono (w0 := w) (e12.then0 ed).size
    have hge13 : ∀ b ∈ rowB sn, w13.heap.size ≤ b := hn.2
    have hs13 := ed.size
    have hYm : Y[m] = X[m] := hold m hmY hm' (Nat.le_refl _)
    have hset : (Y.map (·.1)).set m ((X[m]).1.1, (X[m]).1.2.1, (X[m]).1.2.2.1, sn) = (Y.set m (((Y[m]).1.1, (Y[m]).1.2.1, (Y[m]).1.2.2.1, sn), (Y[m]).2)).map (·.1) := by rw [List.map_set, hYm]
    rw [hset] at h15
    have hlt12 : ∀ j (hj : j < Y.length), j < m → ∀ b ∈ rowB (Y[j]).1.2.2.2, b < w12.heap.size := fun j hj h0 => (hea j hj h0).1.lt
    have hltl : ∀ b ∈ rowB sl, b < w12.heap.size := hli.1.lt
    refine ⟨_, (show X.length - (m + 1) < X.length - m by omega), m + 1, _, ?_, by omega, rfl, by rw [List.length_set]; exact hYl, by rw [set_en Y m hmY sn]; exact hYX, ⟨h15, her14.2⟩, ?_, ?_, ?_, ?_, (hli.ext0 e1214).ext e15 ((hli.ext0 e1214).sepT her14 (by decide)), (hpi.ext0 e1214).ext e15 ((hpi.ext0 e1214).sepT her14 (by decide)), (hqi.ext0 e1214).ext e15 ((hqi.ext0 e1214).sepT her14 (by decide)),
      (hkm.ext e1214).ext e15 (her14.noB (hkm.ext e1214) (by decide)), ⟨cs2, hcs2, (hkb.ext e1214).ext e15 (her14.noB (hkb.ext e1214) (by decide))⟩, (e12.then0 e1214).then e15 (fun i hi hlt => by have := her14.2 i hi; omega)⟩
    · rw [w64 (n := (m : Int) + 1) (by omega)]; rfl
    · intro j hj h0
      rw [List.length_set] at hj
      by_cases hjm : j = m
      · subst hjm
        rw [List.getElem_set_self]
        simp only [hYm]
        exact hnw.ext e15 (hnw.sepT her14 (by decide))
      · rw [List.getElem_set_ne (by omega)]
        have := (hea j hj (by omega)).ext0 e1214
        exact this.ext e15 (this.sepT her14 (by decide))
    · intro j hj hj' h0
      rw [List.length_set] at hj
      rw [List.getElem_set_ne (by omega)]
      exact hold j hj hj' (by omega)
    · intro i j hi hj h0 h1 hne b hb hb'
      have hi2 : i < Y.length := by simpa using hi
      have hj2 : j < Y.length := by simpa using hj
      by_cases him : i = m
      · subst him
        rw [List.getElem_set_self] at hb
        rw [List.getElem_set_ne (by omega)] at hb'
        have := hge13 b hb
        have := hlt12 j hj2 (by omega) b hb'
        omega
      · rw [List.getElem_set_ne (by omega)] at hb
        by_cases hjm : j = m
        · subst hjm
          rw [List.getElem_set_self] at hb'
          have := hge13 b hb'
          have := hlt12 i hi2 (by omega) b hb
          omega
        · rw [List.getElem_set_ne (by omega)] at hb'
          exact hsep i j hi2 hj2 (by omega) (by omega) hne b hb hb'
    · intro j hj h0 b hb hb'
      rw [List.length_set] at hj
      by_cases hjm : j = m
      · subst hjm
        rw [List.getElem_set_self] at hb
        have := hge13 b hb
        have := hltl b hb'
        omega
      · rw [List.getElem_set_ne (by omega)] at hb
        exact hsl j hj (by omega) b hb hb'
  · have hmm : m = X.length := by simp at hc; omega
    subst hmm
    refine VLd.mv ⟨a.c, se, sl, sp, sq⟩ (Rd.of_bk hkm rfl) ?_
    refine VSt.bk hkb rfl (by simp; omega) fun w16 hk16 e16 => ?_
    have hk16' : Bk w16 b2 (mvF ⟨a.c, se, sl, sp, sq⟩) 34 := by
      have : ∀ vs : List Value, vs.length = 33 → List.take 0 cs2 ++ vs ++ List.drop (0 + vs.length) cs2 = vs := fun vs hv => by
        rw [List.drop_eq_nil_of_le (by omega)]; simp
      rw [this _ rfl] at hk16
      exact hk16
    have nb2 : ∀ {α : Type} {r : Rec α} {e : TypeId} {s : Sl} {L : List α}, OwnR r e w w12 s L → e ≠ 34 → ∀ b ∈ rowB s, b ∉ [b2] := fun ho hn b hb hq => by
      simp at hq; subst hq; exact ho.noB hkb hn hb
    refine VLd.mv ⟨a.c, se, sl, sp, sq⟩ (Rd.of_bk hk16' rfl) ⟨⟨a.c, se, sl, sp, sq⟩, Y, rfl, ⟨h.c, her.ext e16 (nb2 her (by decide)), fun j hj => ?_, fun i j hi hj => hsep i j hi hj (by omega) (by omega), fun j hj => hsl j hj (by omega), by rw [hYX, h.ex], hli.ext e16 (nb2 hli (by decide)), hpi.ext e16 (nb2 hpi (by decide)), hqi.ext e16 (nb2 hqi (by decide))⟩, e12.then e16 (fun i hi hlt => by simp at hi; omega)⟩
    have := hea j hj (by omega)
    exact this.ext e16 (nb2 this (by decide))
end Go.Proofs.Ytodcdfelbphajaa
