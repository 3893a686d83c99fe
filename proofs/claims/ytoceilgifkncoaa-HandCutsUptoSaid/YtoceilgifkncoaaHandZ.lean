/-
  Package hand: the document's cut is the cutter's.
-/
import Derived.Test.YtoceilgifkncoaaHandY
namespace Go.Proofs.Ytoceilgifkncoaa
open Go.RowKit
set_option maxRecDepth 100000

def cu0 : Cu := ⟨[ptE], 0, 0⟩
theorem kpP (P : List Pr) : (P.foldl Cu.addP cu0).kp := foldP_kp P _ kp0 (by intro p hp; rw [List.mem_singleton.1 hp]; rfl)
theorem stepP (P : List Pr) (m : Nat) (h : m < P.length) : (P.take (m + 1)).foldl Cu.addP cu0 = ((P.take m).foldl Cu.addP cu0).addP P[m] := by
  rw [List.take_succ_eq_append_getElem h, List.foldl_append]; rfl
theorem stepQ (c : Cu) (Q : List Ls) (m : Nat) (h : m < Q.length) : (Q.take (m + 1)).foldl Cu.addQ c = ((Q.take m).foldl Cu.addQ c).addQ Q[m] := by
  rw [List.take_succ_eq_append_getElem h, List.foldl_append]; rfl
set_option maxHeartbeats 4000000 in
theorem refCut_spec (a b : Sl) (P : List Pr) (Q : List Ls) (w : World) (hP : InR prR w a P) (hQ : InR lsR w b Q) (hl : P.length + Q.length ≤ 300) :
    Calls Try.prog 10 #[.slice a.base a.len a.cap, .slice b.base b.len b.cap] w fun e w' => ∃ (s : Sl) (X : List PX), e = .returned (.slice s.base s.len s.cap) ∧ OwnR ptR 31 w w' s (X.map (·.1)) ∧ (∀ x ∈ X, PtO w w' x.1 x.2) ∧ pts X = cutI P Q ∧ Ext [] w w' := by
  refine sh_butteryref23_Cut_ok _ _ _ _ ?_
  unfold sh_butteryref23_Cut
  refine VNw.i fun now w1 hb1 hk1 e1 => ?_
  refine VSt.bk hk1 rfl (by simp) fun w2 hk2 e2 => ?_
  have e02 : Ext [] w w2 := e1.then e2 (fun i hi hlt => by simp at hi; omega)
  have hnl := hP.len
  have hml := hQ.len
  have c0 : Cr w w2 now ⟨none, 0, 0⟩ [] (⟨none, 0, 0⟩, ⟨none, 0, 0⟩, false) ptE now :=
    ⟨OwnR.nil _ _ _ _, by simp, hk2, ⟨OwnR.nil _ _ _ _, OwnR.nil _ _ _ _, rfl⟩, ⟨_, rfl, hk2⟩, by simp [rowB], by simp [rowB], by omega, by omega, e02⟩
  refine ⟨fun k out i W => ∃ (m : Nat) (OX : List PX) (v : PtV) (p : Pt), i = (m : Int) ∧ m ≤ P.length ∧ k = P.length - m ∧ Cr w W now out OX v p now ∧ ((P.take m).foldl Cu.addP cu0).L = pts OX ++ [p] ∧ p.Q = [] ∧ p.last = false ∧ OX.length ≤ m,
    ⟨_, 0, [], _, ptE, rfl, by omega, rfl, c0, rfl, rfl, rfl, by simp⟩, ?_⟩
  rintro k out i w3 ⟨m, OX, v, p, rfl, hm, rfl, c3, hL, hpQ, hpl, hox⟩
  refine VIf.mk (fun hc => ?_) (fun hc => ?_)
  · have hm' : m < P.length := by simp at hc; omega
    have hkp := kpP (P.take m)
    have h4 := kp_four hL hkp
    have hcn : cnt p = p.P.length := by unfold cnt; rw [hpQ]; rfl
    refine ⟨fun mo W => ∃ (mb : Nat) (l : Sl), mo = some ⟨mb, 0, none⟩ ∧ Bk W mb (ptR.f (l, ⟨none, 0, 0⟩, false)) 31 ∧ OwnR prR 37 w W l (p.P ++ [P[m]]) ∧ Ext [] w3 W ∧ w3.heap.size ≤ mb, ?_, ?_⟩
    · intro w4 hw4
      have e4 := Ext.drew' hw4
      have c4 := c3.ext0 e4
      have hP4 := hP.ext0 c4.e
      refine VLd.s v.1 (Rd.of_bk c4.bk rfl) (VIx.rec (r := prR) hP4.1 hm' rfl fun a24 hr => VLd.i2 (t := .str) (u := .str) (P[m]).1 (P[m]).2 hr ?_)
      have hn0 : Rd w4 ⟨now, 0, none⟩ [.slice v.1.base v.1.len v.1.cap] := Rd.of_bk c4.bk rfl
      have s0 : St prR 37 w4 w4 p.P P[m] none none none none none := St.new (Ext.refl _ _)
      have hsg : Seg w4 v.1.base v.1.len prR.k (prR.cells p.P) := c4.pt.P.seg
      have hs4 := e4.size
      repeat' (first
        | exact St.rd (by assumption) hr
        | exact St.rd (by assumption) hn0
        | refine St.n18 (r := prR) (w4 := w4) (L := p.P) (x := P[m]) (by assumption) fun b W' h => ?_
        | refine St.n26 (r := prR) (w4 := w4) (L := p.P) (x := P[m]) (by assumption) rfl fun b W' h => ?_
        | refine St.nm (r := prR) (w4 := w4) (L := p.P) (x := P[m]) (by assumption) rfl fun b W' h => ?_
        | refine St.a21 (r := prR) (w4 := w4) (L := p.P) (x := P[m]) (by assumption) (by decide) hsg rfl (by omega) (by omega) fun l W' h => ?_
        | refine St.a27 (r := prR) (w4 := w4) (L := p.P) (x := P[m]) (by assumption) (by decide) rfl (by omega) (by omega) fun l W' h => ?_
        | refine St.fin (r := prR) (w4 := w4) (L := p.P) (x := P[m]) (by assumption) (by decide) rfl rfl fun W' hk he ho hg => ⟨_, _, rfl, hk, ho.mono c4.e.size, e4.then0 he, by omega⟩
        | refine ⟨?_, ?_⟩)
    · rintro mo w72 ⟨mb, l, rfl, hkm, hlo, e72, hmg⟩
      have c72 : Cr w w72 now out OX v p now := c3.ext0 e72
      have hmn : mb ∉ rowB out := fun hq => by have := c3.ow.1.lt mb hq; omega
      have hne : now ≠ mb := by have := c3.bk.lt; omega
      have hwm : w.heap.size ≤ mb := by have := c3.e.size; omega
      refine ⟨fun o W => ∃ (OX' : List PX) (v' : PtV) (p' : Pt), Cr w W now o OX' v' p' mb ∧ ((P.take (m + 1)).foldl Cu.addP cu0).L = pts OX' ++ [p'] ∧ p'.Q = [] ∧ p'.last = false ∧ OX'.length ≤ m + 1, ?_, ?_⟩
      · refine VLd.s v.1 (Rd.of_bk c72.bk rfl) (onPtr.i ?_)
        refine ⟨(l : Sl), (⟨none, 0, 0⟩ : Sl), (false : Bool), gd.i (Rd.of_bk hkm rfl), ?_⟩
        have hin : PtIn w72 (l, ⟨none, 0, 0⟩, false) (p.putP P[m]) := ⟨hlo.in_, by rw [show (p.putP P[m]).Q = [] from hpQ]; exact InR.nil _, hpl.symm⟩
        refine SizeC (v := (l, ⟨none, 0, 0⟩, false)) hin fun r w73 hr73 e73 => onPtr.i ?_
        have hkm73 := hkm.ext e73
        refine VLd.s l (Rd.of_bk hkm73 rfl) ?_
        have c73 := c72.ext0 e73
        have hll : l.len = p.P.length + 1 := by rw [hlo.len]; simp
        have hvl : v.1.len = p.P.length := c72.pt.P.len
        obtain ⟨g1, g2⟩ := add_out hL hkp (eP P[m]) (Pt.putP P[m])
        rw [← szP_eq] at g1 g2
        rw [zs_putP] at hr73
        refine VIf.mk (fun hd => ?_) (fun hd => ?_)
        · simp only [Bool.and_eq_true, Bool.or_eq_true, decide_eq_true_eq] at hd
          have hr := hr73 (decide_eq_true hd.1)
          refine c73.push hkm73 rfl hmn hwm (by omega) fun l47 w75 x75 => ?_
          refine VIx.rec (r := prR) (hP.ext0 x75.e).1 hm' rfl fun a50 hr50 => VLd.i2 (t := .str) (u := .str) (P[m]).1 (P[m]).2 hr50 ?_
          refine VNw.i fun b52 w76 hb52 hk76 e76 => onPtr.i ?_
          have x76 := x75.ext0 e76
          refine x76.fill (v := (⟨some ⟨b52, 0, none⟩, 1, 1⟩, ⟨none, 0, 0⟩, false)) (p := ptE.putP P[m]) hne ⟨⟨Row.of_bk hk76 rfl (by omega), ?_⟩, OwnR.nil _ _ _ _, rfl⟩ fun w77 c77 => ?_
          · have := x75.e.size
            simp [rowB]; omega
          · refine ⟨_, _, _, c77, ?_, rfl, rfl, by simp; omega⟩
            rw [stepP P m hm']
            show (((P.take m).foldl Cu.addP cu0).add (szP P[m]) (Pt.putP P[m])).L = _
            rw [g1 (by omega)]
            simp [pts]
        · have hnc : ¬ (cnt p = 4 ∨ (0 < cnt p ∧ 4000 < IntKind.wrap .i64 (zs p + eP P[m]))) := by
            intro hcn2
            by_cases h0 : ((v.1.len : Nat) : Int) > 0
            · have hr := hr73 (decide_eq_true h0)
              simp only [decide_eq_true h0, Bool.true_and, Bool.or_eq_false_iff, decide_eq_false_iff_not] at hd
              omega
            · omega
          refine ⟨OX, (l, ⟨none, 0, 0⟩, false), p.putP P[m], ⟨c73.ow, c73.op, hkm73, ⟨hlo.ext0 e73, by rw [show (p.putP P[m]).Q = [] from hpQ]; exact OwnR.nil _ _ _ _, hpl.symm⟩, ⟨_, rfl, c73.bk⟩, c73.nr, hmn, c73.ng, hwm, c73.e⟩, ?_, hpQ, hpl, by omega⟩
          rw [stepP P m hm']
          show (((P.take m).foldl Cu.addP cu0).add (szP P[m]) (Pt.putP P[m])).L = _
          rw [g2 hnc]
      · rintro o w78 ⟨OX', v', p', c78, hL', hq', hl', ho'⟩
        refine onPtr.i ⟨(v'.1 : Sl), (v'.2.1 : Sl), (v'.2.2 : Bool), gd.i (Rd.of_bk c78.bk rfl), ?_⟩
        refine c78.st fun w79 c79 => ?_
        rw [w64 (n := (m : Int) + 1) (by omega)]
        exact VSet.i ⟨_, by omega, m + 1, OX', v', p', rfl, by omega, rfl, c79, hL', hq', hl', ho'⟩
  · have hmm : m = P.length := by simp at hc; omega
    subst hmm
    rw [List.take_length] at hL
    refine ⟨fun k out i W => ∃ (m : Nat) (OX : List PX) (v : PtV) (p : Pt), i = (m : Int) ∧ m ≤ Q.length ∧ k = Q.length - m ∧ Cr w W now out OX v p now ∧ ((Q.take m).foldl Cu.addQ (P.foldl Cu.addP cu0)).L = pts OX ++ [p] ∧ p.last = false ∧ OX.length ≤ P.length + m,
      ⟨_, 0, OX, v, p, rfl, by omega, rfl, c3, hL, hpl, by omega⟩, ?_⟩
    clear c3 hL hpl hox hpQ c0
    rintro k out i w3 ⟨m, OX, v, p, rfl, hm, rfl, c3, hL, hpl, hox⟩
    have hkp : ((Q.take m).foldl Cu.addQ (P.foldl Cu.addP cu0)).kp := foldQ_kp _ _ (kpP P)
    have h4 := kp_four hL hkp
    have hcn : cnt p = p.P.length + p.Q.length := rfl
    refine VIf.mk (fun hc => ?_) (fun hc => ?_)
    · have hm' : m < Q.length := by simp at hc; omega
      refine ⟨fun mo W => ∃ (mb : Nat) (l : Sl), mo = some ⟨mb, 0, none⟩ ∧ Bk W mb (ptR.f (v.1, l, false)) 31 ∧ OwnR lsR 68 w W l (p.Q ++ [Q[m]]) ∧ Ext [] w3 W ∧ w3.heap.size ≤ mb, ?_, ?_⟩
      · intro w4 hw4
        have e4 := Ext.drew' hw4
        have c4 := c3.ext0 e4
        have hQ4 := hQ.ext0 c4.e
        refine VLd.s v.1 (Rd.of_bk c4.bk rfl) (VLd.s v.2.1 (Rd.of_bk c4.bk rfl) (VIx.rec (r := lsR) hQ4.1 hm' rfl fun a24 hr => ?_))
        refine ⟨((Q[m]).1 : Int), ((Q[m]).2.1 : Int), ((Q[m]).2.2.1 : Int), ((Q[m]).2.2.2.1 : Bool), ((Q[m]).2.2.2.2 : ByteArray), gd.i hr, ?_⟩
        have hn0 : Rd w4 ⟨now, 0, none⟩ [.slice v.1.base v.1.len v.1.cap] := Rd.of_bk c4.bk rfl
        have hn1 : Rd w4 ⟨now, 1, none⟩ [.slice v.2.1.base v.2.1.len v.2.1.cap] := Rd.of_bk c4.bk rfl
        have s0 : St lsR 68 w4 w4 p.Q Q[m] none none none none none := St.new (Ext.refl _ _)
        have hsg : Seg w4 v.2.1.base v.2.1.len lsR.k (lsR.cells p.Q) := c4.pt.Q.seg
        have hs4 := e4.size
        repeat' (first
          | exact St.rd (by assumption) hr
          | exact St.rd (by assumption) hn0
          | exact St.rd (by assumption) hn1
          | refine St.n18 (r := lsR) (w4 := w4) (L := p.Q) (x := Q[m]) (by assumption) fun b W' h => ?_
          | refine St.n26 (r := lsR) (w4 := w4) (L := p.Q) (x := Q[m]) (by assumption) rfl fun b W' h => ?_
          | refine St.nm (r := lsR) (w4 := w4) (L := p.Q) (x := Q[m]) (by assumption) rfl fun b W' h => ?_
          | refine St.a21 (r := lsR) (w4 := w4) (L := p.Q) (x := Q[m]) (by assumption) (by decide) hsg rfl (by omega) (by omega) fun l W' h => ?_
          | refine St.a27 (r := lsR) (w4 := w4) (L := p.Q) (x := Q[m]) (by assumption) (by decide) rfl (by omega) (by omega) fun l W' h => ?_
          | refine St.fin (r := lsR) (w4 := w4) (L := p.Q) (x := Q[m]) (by assumption) (by decide) rfl rfl fun W' hk he ho hg => ⟨_, _, rfl, hk, ho.mono c4.e.size, e4.then0 he, by omega⟩
          | refine ⟨?_, ?_⟩)
      · rintro mo w72 ⟨mb, l, rfl, hkm, hlo, e72, hmg⟩
        have c72 : Cr w w72 now out OX v p now := c3.ext0 e72
        have hmn : mb ∉ rowB out := fun hq => by have := c3.ow.1.lt mb hq; omega
        have hne : now ≠ mb := by have := c3.bk.lt; omega
        have hwm : w.heap.size ≤ mb := by have := c3.e.size; omega
        refine ⟨fun o W => ∃ (OX' : List PX) (v' : PtV) (p' : Pt), Cr w W now o OX' v' p' mb ∧ ((Q.take (m + 1)).foldl Cu.addQ (P.foldl Cu.addP cu0)).L = pts OX' ++ [p'] ∧ p'.last = false ∧ OX'.length ≤ P.length + (m + 1), ?_, ?_⟩
        · have hll : l.len = p.Q.length + 1 := by rw [hlo.len]; simp
          have hvl : v.1.len = p.P.length := c72.pt.P.len
          have hvq : v.2.1.len = p.Q.length := c72.pt.Q.len
          refine VLd.s v.1 (Rd.of_bk c72.bk rfl) (VLd.s v.2.1 (Rd.of_bk c72.bk rfl) (onPtr.i ?_))
          rw [w64 (n := ((v.1.len : Nat) : Int) + ((v.2.1.len : Nat) : Int)) (by omega)]
          refine ⟨(v.1 : Sl), (l : Sl), (false : Bool), gd.i (Rd.of_bk hkm rfl), ?_⟩
          have hin : PtIn w72 (v.1, l, false) (p.putQ Q[m]) := ⟨c72.pt.P.in_, hlo.in_, hpl.symm⟩
          refine SizeC (v := (v.1, l, false)) hin fun r w73 hr73 e73 => onPtr.i ?_
          have hkm73 := hkm.ext e73
          refine VLd.s v.1 (Rd.of_bk hkm73 rfl) (onPtr.i (VLd.s l ((Rd.of_bk (i := 0) (vs := ptR.f (v.1, l, false)) hkm73 rfl).fld 1 rfl) ?_))
          have c73 := c72.ext0 e73
          rw [w64 (n := ((v.1.len : Nat) : Int) + ((l.len : Nat) : Int)) (by omega)]
          obtain ⟨g1, g2⟩ := add_out hL hkp (eQ Q[m]) (Pt.putQ Q[m])
          rw [← szQ_eq] at g1 g2
          rw [zs_putQ] at hr73
          refine VIf.mk (fun hd => ?_) (fun hd => ?_)
          · simp only [Bool.and_eq_true, Bool.or_eq_true, decide_eq_true_eq] at hd
            have hr := hr73 (decide_eq_true hd.1)
            refine c73.push hkm73 rfl hmn hwm (by omega) fun l47 w75 x75 => ?_
            refine VIx.rec (r := lsR) (hQ.ext0 x75.e).1 hm' rfl fun a50 hr50 => ?_
            refine ⟨((Q[m]).1 : Int), ((Q[m]).2.1 : Int), ((Q[m]).2.2.1 : Int), ((Q[m]).2.2.2.1 : Bool), ((Q[m]).2.2.2.2 : ByteArray), gd.i hr50, ?_⟩
            refine VNw.i fun b52 w76 hb52 hk76 e76 => onPtr.i ?_
            have x76 := x75.ext0 e76
            refine x76.fill (v := (⟨none, 0, 0⟩, ⟨some ⟨b52, 0, none⟩, 1, 1⟩, false)) (p := ptE.putQ Q[m]) hne ⟨OwnR.nil _ _ _ _, ⟨Row.of_bk hk76 rfl (by omega), ?_⟩, rfl⟩ fun w77 c77 => ?_
            · have := x75.e.size
              simp [rowB]; omega
            · refine ⟨_, _, _, c77, ?_, rfl, by simp; omega⟩
              rw [stepQ _ Q m hm']
              show (((Q.take m).foldl Cu.addQ (P.foldl Cu.addP cu0)).add (szQ Q[m]) (Pt.putQ Q[m])).L = _
              rw [g1 (by omega)]
              simp [pts]
          · have hnc : ¬ (cnt p = 4 ∨ (0 < cnt p ∧ 4000 < IntKind.wrap .i64 (zs p + eQ Q[m]))) := by
              intro hcn2
              by_cases h0 : ((v.1.len : Nat) : Int) + ((v.2.1.len : Nat) : Int) > 0
              · have hr := hr73 (decide_eq_true h0)
                simp only [decide_eq_true h0, Bool.true_and, Bool.or_eq_false_iff, decide_eq_false_iff_not] at hd
                omega
              · omega
            refine ⟨OX, (v.1, l, false), p.putQ Q[m], ⟨c73.ow, c73.op, hkm73, ⟨c73.pt.P, hlo.ext0 e73, hpl.symm⟩, ⟨_, rfl, c73.bk⟩, c73.nr, hmn, c73.ng, hwm, c73.e⟩, ?_, hpl, by omega⟩
            rw [stepQ _ Q m hm']
            show (((Q.take m).foldl Cu.addQ (P.foldl Cu.addP cu0)).add (szQ Q[m]) (Pt.putQ Q[m])).L = _
            rw [g2 hnc]
        · rintro o w78 ⟨OX', v', p', c78, hL', hl', ho'⟩
          refine onPtr.i ⟨(v'.1 : Sl), (v'.2.1 : Sl), (v'.2.2 : Bool), gd.i (Rd.of_bk c78.bk rfl), ?_⟩
          refine c78.st fun w79 c79 => ?_
          rw [w64 (n := (m : Int) + 1) (by omega)]
          exact VSet.i ⟨_, by omega, m + 1, OX', v', p', rfl, by omega, rfl, c79, hL', hl', ho'⟩
    · have hmm : m = Q.length := by simp at hc; omega
      subst hmm
      rw [List.take_length] at hL
      refine VSt.bk c3.bk rfl (by simp [ptR]) fun w4 hk4 e4 => ?_
      have kd := kd1 c3.bk
      have hng := c3.ng
      have c4 : Cr w w4 now out OX (v.1, v.2.1, true) p.end_ now :=
        ⟨c3.ow.ext e4 (fun b hb hq => by simp at hq; subst hq; exact c3.nr hb), fun x hx => (c3.op x hx).extK kd e4, hk4, ⟨(c3.pt.extK kd e4).P, (c3.pt.extK kd e4).Q, rfl⟩, ⟨_, rfl, hk4⟩, c3.nr, c3.nr, c3.ng, c3.ng, c3.e.then e4 (fun i hi hlt => by simp at hi; omega)⟩
      refine c4.push (mb := now) hk4 rfl c3.nr c3.ng (by omega) fun l w5 x5 => ?_
      refine ⟨l, _, rfl, x5.ow, x5.op, ?_, x5.e⟩
      unfold cutI cutL
      rw [show (Q.foldl Cu.addQ (P.foldl Cu.addP ⟨[ptE], 0, 0⟩)).L = _ from hL, addLast_app]
      simp [pts]
end Go.Proofs.Ytoceilgifkncoaa
