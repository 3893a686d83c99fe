/-
  Package msg: the document's reading of a message, walked.
-/
import Derived.Test.YtodcdfelbphajaaMsgS
namespace Go.Proofs.Ytodcdfelbphajaa
open Go.RowKit
set_option maxRecDepth 100000

section
variable {w0 wA W W' Wn : World} {mb b2 x d b : Nat} {v v' : MV} {X X' : List EX} {L L' : List Int} {P P' : List Pr} {Q Q' : List Ls} {st sn : Option (List UInt8)}
/-- behind a writing into a block that is younger than the lists -/
theorem Dr.oth (h : Dr w0 wA W mb b2 x d v X L P Q st) (hN : Dr w0 wA Wn mb b2 x d v X L P Q sn) (hb : Wn.heap.size ≤ b) (e : Ext [b] W W') : Dr w0 wA W' mb b2 x d v X L P Q st := by
  obtain ⟨cs, hc, hk⟩ := h.b
  have n := hN.n
  have lm := hN.m.lt
  have f3 := h.f3
  have f8 := h.f8
  have ag : ∀ {α : Type} {r : Rec α} {e : TypeId} {s : Sl} {M : List α}, OwnR r e wA Wn s M → ∀ i ∈ rowB s, i ∉ [b] := fun ho i hi hm => by
    have := ho.1.lt i hi
    simp at hm; omega
  exact ⟨h.rc.new e (fun i hi => by simp at hi; omega), h.m.ext e (by simp; omega), ⟨cs, hc, hk.ext e (by simp; omega)⟩, h.e.then e (fun i hi hlt => by simp at hi; omega), Nat.le_trans h.n e.size, h.f1, f3, h.f4, h.f5, h.f7, f8,
    ⟨h.le.er.ext e (ag hN.le.er), fun j hj => (h.le.ea j hj).ext e (ag (hN.le.ea j hj)), h.le.es⟩, h.ll.ext e (ag hN.ll), h.lp.ext e (ag hN.lp), h.lq.ext e (ag hN.lq)⟩
theorem Dr.appE (h : Dr w0 wA W mb b2 x d v X L P Q st) (e : Ext (rowB v.e) W W') {K : World → Prop} {i : Nat} {vs : List Value} (h1 : vs.all Value.oneCell' = true) (hl : i + vs.length ≤ 33) (hv : (mvF v).take i ++ vs ++ (mvF v).drop (i + vs.length) = mvF v')
    (ho : EOwn wA W' v'.e X') (hll : v'.l = v.l) (hpp : v'.p = v.p) (hqq : v'.q = v.q) (k : ∀ W'', Dr w0 wA W'' mb b2 x d v' X' L P Q st → K W'') : VSt none W' ⟨mb, i, none⟩ vs K := by
  obtain ⟨cs, hc, hk⟩ := h.b
  have hrow : ∀ i ∈ rowB v.e, wA.heap.size ≤ i := h.le.er.2
  have f3 := h.f3
  have f8 := h.f8
  have hm := h.m.ext e (fun hi => by
    obtain ⟨_, hz⟩ := h.le.er.1.bk_of hi
    exact hz.neT h.m (by decide) rfl)
  refine VSt.bk hm h1 (by simpa [mvF] using hl) fun W'' hk2 e2 => k W'' ?_
  rw [hv] at hk2
  have f1 := h.f1
  exact ⟨(h.rc.new e (fun i hi => hrow i hi)).new e2 (fun i hi => by simp at hi; omega), hk2, ⟨cs, hc, (hk.ext e (fun hi => by have := hrow _ hi; omega)).ext e2 (by simp; omega)⟩, (h.e.then e (fun i hi hlt => by have := hrow i hi; omega)).then e2 (fun i hi hlt => by simp at hi; omega), Nat.le_trans (Nat.le_trans h.n e.size) e2.size, f1, f3, h.f4, h.f5, h.f7, f8, ho.nb hm (by decide) (by decide) e2, (by rw [hll]; exact (h.ll.ext e (h.ll.sepT h.le.er (by decide))).ext e2 ((h.ll.ext e (h.ll.sepT h.le.er (by decide))).nb hm (by decide))), (by rw [hpp]; exact (h.lp.ext e (h.lp.sepT h.le.er (by decide))).ext e2 ((h.lp.ext e (h.lp.sepT h.le.er (by decide))).nb hm (by decide))), (by rw [hqq]; exact (h.lq.ext e (h.lq.sepT h.le.er (by decide))).ext e2 ((h.lq.ext e (h.lq.sepT h.le.er (by decide))).nb hm (by decide)))⟩
theorem Dr.appP (h : Dr w0 wA W mb b2 x d v X L P Q st) (e : Ext (rowB v.p) W W') {K : World → Prop} {i : Nat} {vs : List Value} (h1 : vs.all Value.oneCell' = true) (hl : i + vs.length ≤ 33) (hv : (mvF v).take i ++ vs ++ (mvF v).drop (i + vs.length) = mvF v')
    (ho : OwnR prR 52 wA W' v'.p P') (hee : v'.e = v.e) (hll : v'.l = v.l) (hqq : v'.q = v.q) (k : ∀ W'', Dr w0 wA W'' mb b2 x d v' X L P' Q st → K W'') : VSt none W' ⟨mb, i, none⟩ vs K := by
  obtain ⟨cs, hc, hk⟩ := h.b
  have hrow : ∀ i ∈ rowB v.p, wA.heap.size ≤ i := h.lp.2
  have f3 := h.f3
  have f8 := h.f8
  have hm := h.m.ext e (fun hi => by
    obtain ⟨_, hz⟩ := h.lp.1.bk_of hi
    exact hz.neT h.m (by decide) rfl)
  refine VSt.bk hm h1 (by simpa [mvF] using hl) fun W'' hk2 e2 => k W'' ?_
  rw [hv] at hk2
  have f1 := h.f1
  exact ⟨(h.rc.new e (fun i hi => hrow i hi)).new e2 (fun i hi => by simp at hi; omega), hk2, ⟨cs, hc, (hk.ext e (fun hi => by have := hrow _ hi; omega)).ext e2 (by simp; omega)⟩, (h.e.then e (fun i hi hlt => by have := hrow i hi; omega)).then e2 (fun i hi hlt => by simp at hi; omega), Nat.le_trans (Nat.le_trans h.n e.size) e2.size, f1, f3, h.f4, h.f5, h.f7, f8, (by rw [hee]; exact EOwn.nb ⟨h.le.er.ext e (h.le.er.sepT h.lp (by decide)), fun j hj => (h.le.ea j hj).ext e ((h.le.ea j hj).sepT h.lp (by decide)), h.le.es⟩ hm (by decide) (by decide) e2), (by rw [hll]; exact (h.ll.ext e (h.ll.sepT h.lp (by decide))).ext e2 ((h.ll.ext e (h.ll.sepT h.lp (by decide))).nb hm (by decide))), ho.ext e2 (ho.nb hm (by decide)), (by rw [hqq]; exact (h.lq.ext e (h.lq.sepT h.lp (by decide))).ext e2 ((h.lq.ext e (h.lq.sepT h.lp (by decide))).nb hm (by decide)))⟩
theorem Dr.appQ (h : Dr w0 wA W mb b2 x d v X L P Q st) (e : Ext (rowB v.q) W W') {K : World → Prop} {i : Nat} {vs : List Value} (h1 : vs.all Value.oneCell' = true) (hl : i + vs.length ≤ 33) (hv : (mvF v).take i ++ vs ++ (mvF v).drop (i + vs.length) = mvF v')
    (ho : OwnR lsR 55 wA W' v'.q Q') (hee : v'.e = v.e) (hll : v'.l = v.l) (hpp : v'.p = v.p) (k : ∀ W'', Dr w0 wA W'' mb b2 x d v' X L P Q' st → K W'') : VSt none W' ⟨mb, i, none⟩ vs K := by
  obtain ⟨cs, hc, hk⟩ := h.b
  have hrow : ∀ i ∈ rowB v.q, wA.heap.size ≤ i := h.lq.2
  have f3 := h.f3
  have f8 := h.f8
  have hm := h.m.ext e (fun hi => by
    obtain ⟨_, hz⟩ := h.lq.1.bk_of hi
    exact hz.neT h.m (by decide) rfl)
  refine VSt.bk hm h1 (by simpa [mvF] using hl) fun W'' hk2 e2 => k W'' ?_
  rw [hv] at hk2
  have f1 := h.f1
  exact ⟨(h.rc.new e (fun i hi => hrow i hi)).new e2 (fun i hi => by simp at hi; omega), hk2, ⟨cs, hc, (hk.ext e (fun hi => by have := hrow _ hi; omega)).ext e2 (by simp; omega)⟩, (h.e.then e (fun i hi hlt => by have := hrow i hi; omega)).then e2 (fun i hi hlt => by simp at hi; omega), Nat.le_trans (Nat.le_trans h.n e.size) e2.size, f1, f3, h.f4, h.f5, h.f7, f8, (by rw [hee]; exact EOwn.nb ⟨h.le.er.ext e (h.le.er.sepT h.lq (by decide)), fun j hj => (h.le.ea j hj).ext e ((h.le.ea j hj).sepT h.lq (by decide)), h.le.es⟩ hm (by decide) (by decide) e2), (by rw [hll]; exact (h.ll.ext e (h.ll.sepT h.lq (by decide))).ext e2 ((h.ll.ext e (h.ll.sepT h.lq (by decide))).nb hm (by decide))), (by rw [hpp]; exact (h.lp.ext e (h.lp.sepT h.lq (by decide))).ext e2 ((h.lp.ext e (h.lp.sepT h.lq (by decide))).nb hm (by decide))), ho.ext e2 (ho.nb hm (by decide))⟩
end
theorem rIts_step {T : Type} {r : Option (List UInt8) → T × Option (List UInt8)} {N m : Nat} {l : List UInt8} {v : T} {s' : Option (List UInt8)} (h : m < N) (hv : r (some l) = (v, s')) : rIts r (N - m) (some l) = (v :: (rIts r (N - (m + 1)) s').1, (rIts r (N - (m + 1)) s').2) := by
  rw [show N - m = (N - (m + 1)) + 1 by omega, rIts, hv]
theorem rIts_stop {T : Type} {r : Option (List UInt8) → T × Option (List UInt8)} {N m : Nat} {s : Option (List UInt8)} {rb : Bool} (hm : m ≤ N) (hrb : decide ((m : Int) < (N : Int)) = true → rb = s.isSome) (hc : (decide ((m : Int) < (N : Int)) && rb) = false) : rIts r (N - m) s = ([], s) := by
  by_cases h0 : m < N
  · have := hrb (by simpa using h0)
    rw [this] at hc
    cases s with
    | none => exact rIts_none _ _
    | some l => simp at hc; omega
  · rw [show N - m = 0 by omega]; rfl
set_option maxHeartbeats 4000000 in
theorem refDecode_spec (s : Sl) (l : List UInt8) (w : World) (h : Seg w s.base s.len 1 (bc l)) (hll : l.length ≤ 140737488355328) :
    Calls Try.prog 17 #[.slice s.base s.len s.cap] w fun e w' => ∃ (m : MV) (X : List EX), e = .returned (.tuple #[mva m, .int .i64 (decM l).2]) ∧ MIn w' m (decM l).1 X ∧ Ext [] w w' := by
  refine sh_butteryref13_Decode_ok _ _ _ ?_
  unfold sh_butteryref13_Decode
  have hlen := h.blen
  refine VNw.i fun b2 w1 hb2 hk1 e1 => VIf.mk (fun hc => ?_) (fun hc => ?_)
  · have hc : 8192 < l.length := by simp at hc; omega
    have hd : decM l = (⟨sc0, [], [], [], []⟩, 4) := by unfold decM; rw [if_pos hc]
    rw [hd]
    refine VSt.bk hk1 rfl (by simp) fun w2 hk2 e2 => ?_
    have hk2 : Bk w2 b2 (mvF mv0) 34 := hk2
    exact VLd.mv mv0 (Rd.of_bk hk2 rfl) ⟨mv0, [], rfl, (mv0_in w _).in_, e1.then e2 (fun i hi hlt => by simp at hi; omega)⟩
  have hc : ¬ 8192 < l.length := by simp at hc; omega
  refine VCall.i (XReader_spec s l w1 (h.ext0 e1) hll) ?_
  rintro e wA ⟨x, d0, rfl, hrep, eA, gx, gd⟩
  refine exW.i1 (t := .ptr) (some ⟨x, 0, none⟩) rfl ?_
  obtain ⟨d, hrc⟩ := hrep.fix
  have lb2 := hk1.lt
  have lxA := hrc.lx
  refine hrc.kind fun v0 s0 w6 g0 rc6 e6 => ?_
  refine VNw.i fun mb w7 hmb hk7 e7 => VSt.bk hk7 rfl (by simp) fun w8 hk8 e8 => ?_
  have z1 := e1.size
  have zA := eA.size
  have z6 := e6.size
  have hk8 : Bk w8 mb (mvF ⟨⟨v0, 0, 0, 0, 0, 0, 0, 0, ByteArray.empty, ByteArray.empty, ByteArray.empty, false, 0, 0, false, ByteArray.empty, 0, 0, 0, 0, 0, false, ByteArray.empty, 0, false, 0, 0, 0, 0⟩, ⟨none, 0, 0⟩, ⟨none, 0, 0⟩, ⟨none, 0, 0⟩, ⟨none, 0, 0⟩⟩) 34 := hk8
  have e68 : Ext [] w6 w8 := e7.then e8 (fun i hi hlt => by simp at hi; omega)
  have e16 : Ext [] w1 w6 := eA.then e6 (fun i hi hlt => by simp at hi; omega)
  have hbq : b2 ∉ [x] := by simp; omega
  have hk1A := (((hk1.ext eA).ext e6 hbq).ext e68)
  have h0 : Dr w wA w8 mb b2 x d ⟨⟨v0, 0, 0, 0, 0, 0, 0, 0, ByteArray.empty, ByteArray.empty, ByteArray.empty, false, 0, 0, false, ByteArray.empty, 0, 0, 0, 0, 0, false, ByteArray.empty, 0, false, 0, 0, 0, 0⟩, ⟨none, 0, 0⟩, ⟨none, 0, 0⟩, ⟨none, 0, 0⟩, ⟨none, 0, 0⟩⟩ [] [] [] [] s0 := ⟨rc6.ext0 e68, hk8, ⟨_, by rfl, hk1A⟩, (e1.then0 e16).then0 e68, by have := e68.size; omega, by omega, by omega, by omega, by omega, by omega, by omega, EOwn.nil _ _, OwnR.nil _ _ _ _, OwnR.nil _ _ _ _, OwnR.nil _ _ _ _⟩
  refine VNw.i fun ba wa hba hka ea => ?_
  have za := h0.n
  have lma := h0.m.lt
  refine Dr.nums (base := 1) (n := 6) (vf := (fun vs : List Int => (⟨⟨v0, vs.getD 0 0, vs.getD 1 0, vs.getD 2 0, vs.getD 3 0, vs.getD 4 0, vs.getD 5 0, 0, ByteArray.empty, ByteArray.empty, ByteArray.empty, false, 0, 0, false, ByteArray.empty, 0, 0, 0, 0, 0, false, ByteArray.empty, 0, false, 0, 0, 0, 0⟩, ⟨none, 0, 0⟩, ⟨none, 0, 0⟩, ⟨none, 0, 0⟩, ⟨none, 0, 0⟩⟩ : MV))) (ps := [some ⟨mb, 1, none⟩, some ⟨mb, 2, none⟩, some ⟨mb, 3, none⟩, some ⟨mb, 4, none⟩, some ⟨mb, 5, none⟩, some ⟨mb, 6, none⟩]) (h0.ext0 ea) hka (by omega) (by omega) rfl (by omega) (fun m hm => ?_) (by omega) (fun vs hvs z => ?_) (fun vs => ⟨rfl, rfl, rfl, rfl⟩) (fun vsa s6 WNa hvsa hnsa hDa => ?_)
  · match m, hm with
    | 0, _ => rfl
    | 1, _ => rfl
    | 2, _ => rfl
    | 3, _ => rfl
    | 4, _ => rfl
    | 5, _ => rfl
  · rcases vs with _ | ⟨a0, _ | ⟨a1, _ | ⟨a2, _ | ⟨a3, _ | ⟨a4, _ | ⟨a5, t⟩⟩⟩⟩⟩⟩
    · rfl
    · rfl
    · rfl
    · rfl
    · rfl
    · rfl
    · simp at hvs; omega
  obtain ⟨v1, s1, g1⟩ : ∃ a b, rNum s0 = (a, b) := ⟨_, _, rfl⟩
  obtain ⟨v2, s2, g2⟩ : ∃ a b, rNum s1 = (a, b) := ⟨_, _, rfl⟩
  obtain ⟨v3, s3, g3⟩ : ∃ a b, rNum s2 = (a, b) := ⟨_, _, rfl⟩
  obtain ⟨v4, s4, g4⟩ : ∃ a b, rNum s3 = (a, b) := ⟨_, _, rfl⟩
  obtain ⟨v5, s5, g5⟩ : ∃ a b, rNum s4 = (a, b) := ⟨_, _, rfl⟩
  obtain ⟨v6, s6, g6⟩ : ∃ a b, rNum s5 = (a, b) := ⟨_, _, rfl⟩
  simp only [rNs, g1, g2, g3, g4, g5, g6, Prod.mk.injEq] at hnsa
  obtain ⟨rfl, rfl⟩ := hnsa
  have hDa : Dr w wA WNa mb b2 x d ⟨⟨v0, v1, v2, v3, v4, v5, v6, 0, ByteArray.empty, ByteArray.empty, ByteArray.empty, false, 0, 0, false, ByteArray.empty, 0, 0, 0, 0, 0, false, ByteArray.empty, 0, false, 0, 0, 0, 0⟩, ⟨none, 0, 0⟩, ⟨none, 0, 0⟩, ⟨none, 0, 0⟩, ⟨none, 0, 0⟩⟩ [] [] [] [] s6 := hDa
  refine hDa.kind fun v7 s7 W1 g7 t1 E1 => ?_
  refine VSt.bk t1.m rfl (by simp [mvF]) fun W2 k2 E2 => ?_
  have t2 := t1.wr (v' := ⟨⟨v0, v1, v2, v3, v4, v5, v6, v7, ByteArray.empty, ByteArray.empty, ByteArray.empty, false, 0, 0, false, ByteArray.empty, 0, 0, 0, 0, 0, false, ByteArray.empty, 0, false, 0, 0, 0, 0⟩, ⟨none, 0, 0⟩, ⟨none, 0, 0⟩, ⟨none, 0, 0⟩, ⟨none, 0, 0⟩⟩) k2 E2 t1.le t1.ll t1.lp t1.lq
  clear k2
  refine t2.text fun v8 s8 W3 g8 t3 E3 => ?_
  refine VSt.bk t3.m rfl (by simp [mvF]) fun W4 k4 E4 => ?_
  have t4 := t3.wr (v' := ⟨⟨v0, v1, v2, v3, v4, v5, v6, v7, v8, ByteArray.empty, ByteArray.empty, false, 0, 0, false, ByteArray.empty, 0, 0, 0, 0, 0, false, ByteArray.empty, 0, false, 0, 0, 0, 0⟩, ⟨none, 0, 0⟩, ⟨none, 0, 0⟩, ⟨none, 0, 0⟩, ⟨none, 0, 0⟩⟩) k4 E4 t3.le t3.ll t3.lp t3.lq
  clear k4
  refine t4.text fun v9 s9 W5 g9 t5 E5 => ?_
  refine VSt.bk t5.m rfl (by simp [mvF]) fun W6 k6 E6 => ?_
  have t6 := t5.wr (v' := ⟨⟨v0, v1, v2, v3, v4, v5, v6, v7, v8, v9, ByteArray.empty, false, 0, 0, false, ByteArray.empty, 0, 0, 0, 0, 0, false, ByteArray.empty, 0, false, 0, 0, 0, 0⟩, ⟨none, 0, 0⟩, ⟨none, 0, 0⟩, ⟨none, 0, 0⟩, ⟨none, 0, 0⟩⟩) k6 E6 t5.le t5.ll t5.lp t5.lq
  clear k6
  refine t6.text fun v10 s10 W7 g10 t7 E7 => ?_
  refine VSt.bk t7.m rfl (by simp [mvF]) fun W8 k8 E8 => ?_
  have t8 := t7.wr (v' := ⟨⟨v0, v1, v2, v3, v4, v5, v6, v7, v8, v9, v10, false, 0, 0, false, ByteArray.empty, 0, 0, 0, 0, 0, false, ByteArray.empty, 0, false, 0, 0, 0, 0⟩, ⟨none, 0, 0⟩, ⟨none, 0, 0⟩, ⟨none, 0, 0⟩, ⟨none, 0, 0⟩⟩) k8 E8 t7.le t7.ll t7.lp t7.lq
  clear k8
  refine t8.flag fun v11 s11 W9 g11 t9 E9 => ?_
  refine VSt.bk t9.m rfl (by simp [mvF]) fun W10 k10 E10 => ?_
  have t10 := t9.wr (v' := ⟨⟨v0, v1, v2, v3, v4, v5, v6, v7, v8, v9, v10, v11, 0, 0, false, ByteArray.empty, 0, 0, 0, 0, 0, false, ByteArray.empty, 0, false, 0, 0, 0, 0⟩, ⟨none, 0, 0⟩, ⟨none, 0, 0⟩, ⟨none, 0, 0⟩, ⟨none, 0, 0⟩⟩) k10 E10 t9.le t9.ll t9.lp t9.lq
  clear k10
  refine t10.num fun v12 s12 W11 g12 t11 E11 => ?_
  refine VSt.bk t11.m rfl (by simp [mvF]) fun W12 k12 E12 => ?_
  have t12 := t11.wr (v' := ⟨⟨v0, v1, v2, v3, v4, v5, v6, v7, v8, v9, v10, v11, v12, 0, false, ByteArray.empty, 0, 0, 0, 0, 0, false, ByteArray.empty, 0, false, 0, 0, 0, 0⟩, ⟨none, 0, 0⟩, ⟨none, 0, 0⟩, ⟨none, 0, 0⟩, ⟨none, 0, 0⟩⟩) k12 E12 t11.le t11.ll t11.lp t11.lq
  clear k12
  refine t12.res fun v13 v14 v15 s13 W13 g13 t13 E13 => ?_
  refine VSt.bk t13.m rfl (by simp [mvF]) fun W14 k14 E14 => ?_
  have t14 := t13.wr (v' := ⟨⟨v0, v1, v2, v3, v4, v5, v6, v7, v8, v9, v10, v11, v12, v13, v14, v15, 0, 0, 0, 0, 0, false, ByteArray.empty, 0, false, 0, 0, 0, 0⟩, ⟨none, 0, 0⟩, ⟨none, 0, 0⟩, ⟨none, 0, 0⟩, ⟨none, 0, 0⟩⟩) k14 E14 t13.le t13.ll t13.lp t13.lq
  clear k14
  refine VNw.i fun bb wb hbb hkb eb => ?_
  have zb := t14.n
  have lmb := t14.m.lt
  refine Dr.nums (base := 16) (n := 5) (vf := (fun vs : List Int => (⟨⟨v0, v1, v2, v3, v4, v5, v6, v7, v8, v9, v10, v11, v12, v13, v14, v15, vs.getD 0 0, vs.getD 1 0, vs.getD 2 0, vs.getD 3 0, vs.getD 4 0, false, ByteArray.empty, 0, false, 0, 0, 0, 0⟩, ⟨none, 0, 0⟩, ⟨none, 0, 0⟩, ⟨none, 0, 0⟩, ⟨none, 0, 0⟩⟩ : MV))) (ps := [some ⟨mb, 16, none⟩, some ⟨mb, 17, none⟩, some ⟨mb, 18, none⟩, some ⟨mb, 19, none⟩, some ⟨mb, 20, none⟩]) (t14.ext0 eb) hkb (by omega) (by omega) rfl (by omega) (fun m hm => ?_) (by omega) (fun vs hvs z => ?_) (fun vs => ⟨rfl, rfl, rfl, rfl⟩) (fun vsb s20 WNb hvsb hnsb hDb => ?_)
  · match m, hm with
    | 0, _ => rfl
    | 1, _ => rfl
    | 2, _ => rfl
    | 3, _ => rfl
    | 4, _ => rfl
  · rcases vs with _ | ⟨a0, _ | ⟨a1, _ | ⟨a2, _ | ⟨a3, _ | ⟨a4, t⟩⟩⟩⟩⟩
    · rfl
    · rfl
    · rfl
    · rfl
    · rfl
    · simp at hvs; omega
  obtain ⟨v16, s16, g16⟩ : ∃ a b, rNum s13 = (a, b) := ⟨_, _, rfl⟩
  obtain ⟨v17, s17, g17⟩ : ∃ a b, rNum s16 = (a, b) := ⟨_, _, rfl⟩
  obtain ⟨v18, s18, g18⟩ : ∃ a b, rNum s17 = (a, b) := ⟨_, _, rfl⟩
  obtain ⟨v19, s19, g19⟩ : ∃ a b, rNum s18 = (a, b) := ⟨_, _, rfl⟩
  obtain ⟨v20, s20, g20⟩ : ∃ a b, rNum s19 = (a, b) := ⟨_, _, rfl⟩
  simp only [rNs, g16, g17, g18, g19, g20, Prod.mk.injEq] at hnsb
  obtain ⟨rfl, rfl⟩ := hnsb
  have hDb : Dr w wA WNb mb b2 x d ⟨⟨v0, v1, v2, v3, v4, v5, v6, v7, v8, v9, v10, v11, v12, v13, v14, v15, v16, v17, v18, v19, v20, false, ByteArray.empty, 0, false, 0, 0, 0, 0⟩, ⟨none, 0, 0⟩, ⟨none, 0, 0⟩, ⟨none, 0, 0⟩, ⟨none, 0, 0⟩⟩ [] [] [] [] s20 := hDb
  refine hDb.flag fun v21 s21 W15 g21 t15 E15 => ?_
  refine VSt.bk t15.m rfl (by simp [mvF]) fun W16 k16 E16 => ?_
  have t16 := t15.wr (v' := ⟨⟨v0, v1, v2, v3, v4, v5, v6, v7, v8, v9, v10, v11, v12, v13, v14, v15, v16, v17, v18, v19, v20, v21, ByteArray.empty, 0, false, 0, 0, 0, 0⟩, ⟨none, 0, 0⟩, ⟨none, 0, 0⟩, ⟨none, 0, 0⟩, ⟨none, 0, 0⟩⟩) k16 E16 t15.le t15.ll t15.lp t15.lq
  clear k16
  refine t16.cnt fun NE scE WCE hNE gNE tCE eCE => VSet.i ?_
  refine ⟨fun k i W => ∃ (m : Nat) (X : List EX) (s : Option (List UInt8)) (lv : Sl), i = (m : Int) ∧ m ≤ NE ∧ k = NE - m ∧ X.length = m ∧ rIts rEn NE scE = (ens X ++ (rIts rEn (NE - m) s).1, (rIts rEn (NE - m) s).2) ∧ Dr w wA W mb b2 x d ⟨⟨v0, v1, v2, v3, v4, v5, v6, v7, v8, v9, v10, v11, v12, v13, v14, v15, v16, v17, v18, v19, v20, v21, ByteArray.empty, 0, false, 0, 0, 0, 0⟩, lv, ⟨none, 0, 0⟩, ⟨none, 0, 0⟩, ⟨none, 0, 0⟩⟩ X [] [] [] s,
    ⟨_, 0, [], scE, ⟨none, 0, 0⟩, rfl, by omega, rfl, rfl, by simp [ens], tCE⟩, ?_⟩
  rintro kE iE WIE ⟨m, X, s, lv, rfl, hm, rfl, hL, hI, hI1⟩
  refine hI1.rc.ok fun rb hrb => VIf.mk (fun hd => ?_) (fun hd => ?_)
  · have hd' := hd
    simp only [Bool.and_eq_true, decide_eq_true_eq] at hd
    obtain ⟨hd1, hd2⟩ := hd
    have hm0 : m < NE := by omega
    rw [hrb (by simpa using hd1)] at hd2
    cases s with
    | none => cases hd2
    | some l =>
    refine hI1.num fun a1 t1 U1 f1 u1 x1 => ?_
    refine VNw.i fun eb U2 heb hke x2 => VSt.bk hke rfl (by simp) fun U3 hk3 x3 => ?_
    have hk3 : Bk U3 eb [.int .i64 a1, .int .u8 0, .string ByteArray.empty, .slice none 0 0] 58 := hk3
    have hage : U1.heap.size ≤ eb := by omega
    have u3 := (u1.ext0 x2).oth u1 hage x3
    have hbx : eb ∉ [x] := by have := u1.n; simp; omega
    refine u3.kind fun a2 t2 U4 f2 u4 x4 => VSt.bk (hk3.ext x4 hbx) rfl (by simp) fun U5 hk5 x5 => ?_
    have hk5 : Bk U5 eb [.int .i64 a1, .int .u8 a2, .string ByteArray.empty, .slice none 0 0] 58 := hk5
    have u5 := u4.oth u1 hage x5
    refine u5.text fun a3 t3 U6 f3 u6 x6 => VSt.bk (hk5.ext x6 hbx) rfl (by simp) fun U7 hk7 x7 => ?_
    have hk7 : Bk U7 eb [.int .i64 a1, .int .u8 a2, .string a3, .slice none 0 0] 58 := hk7
    have u7 := u6.oth u1 hage x7
    refine u7.lst fun sn Ln t4 U8 f4 ho8 u8 x8 => ?_
    have hkb8 := hk7.ext x8 hbx
    refine VSt.bk hkb8 rfl (by simp) fun U9 hk9 x9 => ?_
    have hk9 : Bk U9 eb [.int .i64 a1, .int .u8 a2, .string a3, .slice sn.base sn.len sn.cap] 58 := hk9
    have u9 := u8.oth u1 hage x9
    have ho9 := ho8.ext x9 (ho8.nb hkb8 (by decide))
    refine VLd.s lv (Rd.of_bk u9.m rfl) (VLd.i4 (t := .int .i64) (u := .int .u8) (v := .str) (s := .sl) a1 a2 a3 sn (Rd.of_bk hk9 rfl) ?_)
    refine VNw.i fun nb U10 hnb hk10 x10 => ?_
    have u10 := u9.ext0 x10
    refine EOwn.push (x := ((a1, a2, a3, sn), Ln)) u10.le (ho9.ext0 x10) (fun k hk => (u7.le.ea k hk).1.lt) u7.n u10.n hk10 (by omega) fun s' U11 ho11 x11 => ?_
    refine u10.appE (v' := ⟨⟨v0, v1, v2, v3, v4, v5, v6, v7, v8, v9, v10, v11, v12, v13, v14, v15, v16, v17, v18, v19, v20, v21, ByteArray.empty, 0, false, 0, 0, 0, 0⟩, s', ⟨none, 0, 0⟩, ⟨none, 0, 0⟩, ⟨none, 0, 0⟩⟩) (i := 22) (vs := [.slice s'.base s'.len s'.cap]) x11 rfl (by simp) rfl ho11 rfl rfl rfl fun U12 u12 => ?_
    rw [w64 (n := (m : Int) + 1) (by omega)]
    refine VSet.i ⟨_, (show NE - (m + 1) < NE - m by omega), m + 1, X ++ [((a1, a2, a3, sn), Ln)], t4, s', rfl, by omega, rfl, by simp; omega, ?_, u12⟩
    have hst := rIts_step (r := rEn) hm0 (show rEn (some l) = ((a1, a2, a3, Ln), t4) from rPair_eq f1 (rPair_eq f2 (rPair_eq f3 f4)))
    rw [hI, hst]
    simp [ens, EX.en]
  have hfin := rIts_stop (r := rEn) hm hrb hd
  rw [hfin, List.append_nil] at hI
  have gE : rL rEn s21 = (ens X, s) := by unfold rL; rw [gNE]; exact hI
  clear hfin hI hd hrb hm hL
  rename Sl => se
  rename Option (List UInt8) => s22
  have hFE := hI1
  clear hI1
  refine hFE.lst fun sl L s23 WL g23 hoL tL eL => ?_
  refine VSt.bk tL.m rfl (by simp [mvF]) fun WL2 kL EL => ?_
  have tL2 := tL.wr (v' := ⟨⟨v0, v1, v2, v3, v4, v5, v6, v7, v8, v9, v10, v11, v12, v13, v14, v15, v16, v17, v18, v19, v20, v21, ByteArray.empty, 0, false, 0, 0, 0, 0⟩, se, sl, ⟨none, 0, 0⟩, ⟨none, 0, 0⟩⟩) kL EL tL.le (hoL.mono hFE.n) tL.lp tL.lq
  clear kL
  refine tL2.text fun v24 s24 W17 g24 t17 E17 => ?_
  refine VSt.bk t17.m rfl (by simp [mvF]) fun W18 k18 E18 => ?_
  have t18 := t17.wr (v' := ⟨⟨v0, v1, v2, v3, v4, v5, v6, v7, v8, v9, v10, v11, v12, v13, v14, v15, v16, v17, v18, v19, v20, v21, v24, 0, false, 0, 0, 0, 0⟩, se, sl, ⟨none, 0, 0⟩, ⟨none, 0, 0⟩⟩) k18 E18 t17.le t17.ll t17.lp t17.lq
  clear k18
  refine t18.num fun v25 s25 W19 g25 t19 E19 => ?_
  refine VSt.bk t19.m rfl (by simp [mvF]) fun W20 k20 E20 => ?_
  have t20 := t19.wr (v' := ⟨⟨v0, v1, v2, v3, v4, v5, v6, v7, v8, v9, v10, v11, v12, v13, v14, v15, v16, v17, v18, v19, v20, v21, v24, v25, false, 0, 0, 0, 0⟩, se, sl, ⟨none, 0, 0⟩, ⟨none, 0, 0⟩⟩) k20 E20 t19.le t19.ll t19.lp t19.lq
  clear k20
  refine t20.flag fun v26 s26 W21 g26 t21 E21 => ?_
  refine VSt.bk t21.m rfl (by simp [mvF]) fun W22 k22 E22 => ?_
  have t22 := t21.wr (v' := ⟨⟨v0, v1, v2, v3, v4, v5, v6, v7, v8, v9, v10, v11, v12, v13, v14, v15, v16, v17, v18, v19, v20, v21, v24, v25, v26, 0, 0, 0, 0⟩, se, sl, ⟨none, 0, 0⟩, ⟨none, 0, 0⟩⟩) k22 E22 t21.le t21.ll t21.lp t21.lq
  clear k22
  refine t22.cnt fun NP scP WCP hNP gNP tCP eCP => VSet.i ?_
  refine ⟨fun k i W => ∃ (m : Nat) (M : List Pr) (s : Option (List UInt8)) (lv : Sl), i = (m : Int) ∧ m ≤ NP ∧ k = NP - m ∧ M.length = m ∧ rIts rPr NP scP = (M ++ (rIts rPr (NP - m) s).1, (rIts rPr (NP - m) s).2) ∧ Dr w wA W mb b2 x d ⟨⟨v0, v1, v2, v3, v4, v5, v6, v7, v8, v9, v10, v11, v12, v13, v14, v15, v16, v17, v18, v19, v20, v21, v24, v25, v26, 0, 0, 0, 0⟩, se, sl, lv, ⟨none, 0, 0⟩⟩ X L M [] s,
    ⟨_, 0, [], scP, ⟨none, 0, 0⟩, rfl, by omega, rfl, rfl, by simp, tCP⟩, ?_⟩
  rintro kP iP WIP ⟨m, M, s, lv, rfl, hm, rfl, hL, hI, hI1⟩
  refine hI1.rc.ok fun rb hrb => VIf.mk (fun hd => ?_) (fun hd => ?_)
  · have hd' := hd
    simp only [Bool.and_eq_true, decide_eq_true_eq] at hd
    obtain ⟨hd1, hd2⟩ := hd
    have hm0 : m < NP := by omega
    rw [hrb (by simpa using hd1)] at hd2
    cases s with
    | none => cases hd2
    | some l =>
    refine hI1.text fun a1 t1 U1 f1 u1 x1 => ?_
    refine VNw.i fun eb U2 heb hke x2 => VSt.bk hke rfl (by simp) fun U3 hk3 x3 => ?_
    have hk3 : Bk U3 eb [.string a1, .string ByteArray.empty] 52 := hk3
    have hage : U1.heap.size ≤ eb := by omega
    have u3 := (u1.ext0 x2).oth u1 hage x3
    have hbx : eb ∉ [x] := by have := u1.n; simp; omega
    refine u3.text fun a2 t2 U4 f2 u4 x4 => VSt.bk (hk3.ext x4 hbx) rfl (by simp) fun U5 hk5 x5 => ?_
    have hk5 : Bk U5 eb [.string a1, .string a2] 52 := hk5
    have u5 := u4.oth u1 hage x5
    refine VLd.s lv (Rd.of_bk u5.m rfl) (VLd.i2 (t := .str) (u := .str) a1 a2 (Rd.of_bk hk5 rfl) ?_)
    refine VNw.i fun nb U10 hnb hk10 x10 => ?_
    have u10 := u5.ext0 x10
    refine VApp.rec2 (r := prR) (news := [(a1, a2)]) u10.lp u10.n (Seg.of_bk hk10 rfl rfl) rfl rfl (by omega) (by omega) fun s' U11 ho11 x11 => ?_
    refine u10.appP (v' := ⟨⟨v0, v1, v2, v3, v4, v5, v6, v7, v8, v9, v10, v11, v12, v13, v14, v15, v16, v17, v18, v19, v20, v21, v24, v25, v26, 0, 0, 0, 0⟩, se, sl, s', ⟨none, 0, 0⟩⟩) (i := 27) (vs := [.slice s'.base s'.len s'.cap]) x11 rfl (by simp) rfl ho11 rfl rfl rfl fun U12 u12 => ?_
    rw [w64 (n := (m : Int) + 1) (by omega)]
    refine VSet.i ⟨_, (show NP - (m + 1) < NP - m by omega), m + 1, M ++ [(a1, a2)], t2, s', rfl, by omega, rfl, by simp; omega, ?_, u12⟩
    have hst := rIts_step (r := rPr) hm0 (show rPr (some l) = ((a1, a2), t2) from rPair_eq f1 f2)
    rw [hI, hst]
    simp
  have hfin := rIts_stop (r := rPr) hm hrb hd
  rw [hfin, List.append_nil] at hI
  have gP : rL rPr s26 = (M, s) := by unfold rL; rw [gNP]; exact hI
  clear hfin hI hd hrb hm hL
  rename Sl => sp
  rename List Pr => Pl
  rename Option (List UInt8) => s27
  have hFP := hI1
  clear hI1
  refine hFP.cnt fun NQ scQ WCQ hNQ gNQ tCQ eCQ => VSet.i ?_
  refine ⟨fun k i W => ∃ (m : Nat) (M : List Ls) (s : Option (List UInt8)) (lv : Sl), i = (m : Int) ∧ m ≤ NQ ∧ k = NQ - m ∧ M.length = m ∧ rIts rLs NQ scQ = (M ++ (rIts rLs (NQ - m) s).1, (rIts rLs (NQ - m) s).2) ∧ Dr w wA W mb b2 x d ⟨⟨v0, v1, v2, v3, v4, v5, v6, v7, v8, v9, v10, v11, v12, v13, v14, v15, v16, v17, v18, v19, v20, v21, v24, v25, v26, 0, 0, 0, 0⟩, se, sl, sp, lv⟩ X L Pl M s,
    ⟨_, 0, [], scQ, ⟨none, 0, 0⟩, rfl, by omega, rfl, rfl, by simp, tCQ⟩, ?_⟩
  rintro kQ iQ WIQ ⟨m, M, s, lv, rfl, hm, rfl, hL, hI, hI1⟩
  refine hI1.rc.ok fun rb hrb => VIf.mk (fun hd => ?_) (fun hd => ?_)
  · have hd' := hd
    simp only [Bool.and_eq_true, decide_eq_true_eq] at hd
    obtain ⟨hd1, hd2⟩ := hd
    have hm0 : m < NQ := by omega
    rw [hrb (by simpa using hd1)] at hd2
    cases s with
    | none => cases hd2
    | some l =>
    refine hI1.num fun a1 t1 U1 f1 u1 x1 => ?_
    refine VNw.i fun eb U2 heb hke x2 => VSt.bk hke rfl (by simp) fun U3 hk3 x3 => ?_
    have hk3 : Bk U3 eb [.int .i64 a1, .int .i64 0, .int .u8 0, .bool false, .string ByteArray.empty] 55 := hk3
    have hage : U1.heap.size ≤ eb := by omega
    have u3 := (u1.ext0 x2).oth u1 hage x3
    have hbx : eb ∉ [x] := by have := u1.n; simp; omega
    refine u3.num fun a2 t2 U4 f2 u4 x4 => VSt.bk (hk3.ext x4 hbx) rfl (by simp) fun U5 hk5 x5 => ?_
    have hk5 : Bk U5 eb [.int .i64 a1, .int .i64 a2, .int .u8 0, .bool false, .string ByteArray.empty] 55 := hk5
    have u5 := u4.oth u1 hage x5
    refine u5.res fun a3 a4 a5 t3 U6 f3 u6 x6 => VSt.bk (hk5.ext x6 hbx) rfl (by simp) fun U7 hk7 x7 => ?_
    have hk7 : Bk U7 eb [.int .i64 a1, .int .i64 a2, .int .u8 a3, .bool a4, .string a5] 55 := hk7
    have u7 := u6.oth u1 hage x7
    refine VLd.s lv (Rd.of_bk u7.m rfl) (VLd.i5 (t := .int .i64) (u := .int .i64) (v := .int .u8) (s := .bool) (r := .str) a1 a2 a3 a4 a5 (Rd.of_bk hk7 rfl) ?_)
    refine VNw.i fun nb U10 hnb hk10 x10 => ?_
    have u10 := u7.ext0 x10
    refine VApp.rec2 (r := lsR) (news := [(a1, a2, a3, a4, a5)]) u10.lq u10.n (Seg.of_bk hk10 rfl rfl) rfl rfl (by omega) (by omega) fun s' U11 ho11 x11 => ?_
    refine u10.appQ (v' := ⟨⟨v0, v1, v2, v3, v4, v5, v6, v7, v8, v9, v10, v11, v12, v13, v14, v15, v16, v17, v18, v19, v20, v21, v24, v25, v26, 0, 0, 0, 0⟩, se, sl, sp, s'⟩) (i := 28) (vs := [.slice s'.base s'.len s'.cap]) x11 rfl (by simp) rfl ho11 rfl rfl rfl fun U12 u12 => ?_
    rw [w64 (n := (m : Int) + 1) (by omega)]
    refine VSet.i ⟨_, (show NQ - (m + 1) < NQ - m by omega), m + 1, M ++ [(a1, a2, a3, a4, a5)], t3, s', rfl, by omega, rfl, by simp; omega, ?_, u12⟩
    have hst := rIts_step (r := rLs) hm0 (show rLs (some l) = ((a1, a2, a3, a4, a5), t3) from rPair_eq f1 (rPair_eq f2 f3))
    rw [hI, hst]
    simp
  have hfin := rIts_stop (r := rLs) hm hrb hd
  rw [hfin, List.append_nil] at hI
  have gQ : rL rLs s27 = (M, s) := by unfold rL; rw [gNQ]; exact hI
  clear hfin hI hd hrb hm hL
  rename Sl => sq
  rename List Ls => Ql
  rename Option (List UInt8) => s28
  have hFQ := hI1
  clear hI1
  refine hFQ.kind fun v29 s29 W23 g29 t23 E23 => ?_
  refine VSt.bk t23.m rfl (by simp [mvF]) fun W24 k24 E24 => ?_
  have t24 := t23.wr (v' := ⟨⟨v0, v1, v2, v3, v4, v5, v6, v7, v8, v9, v10, v11, v12, v13, v14, v15, v16, v17, v18, v19, v20, v21, v24, v25, v26, v29, 0, 0, 0⟩, se, sl, sp, sq⟩) k24 E24 t23.le t23.ll t23.lp t23.lq
  clear k24
  refine t24.num fun v30 s30 W25 g30 t25 E25 => ?_
  refine VSt.bk t25.m rfl (by simp [mvF]) fun W26 k26 E26 => ?_
  have t26 := t25.wr (v' := ⟨⟨v0, v1, v2, v3, v4, v5, v6, v7, v8, v9, v10, v11, v12, v13, v14, v15, v16, v17, v18, v19, v20, v21, v24, v25, v26, v29, v30, 0, 0⟩, se, sl, sp, sq⟩) k26 E26 t25.le t25.ll t25.lp t25.lq
  clear k26
  refine t26.num fun v31 s31 W27 g31 t27 E27 => ?_
  refine VSt.bk t27.m rfl (by simp [mvF]) fun W28 k28 E28 => ?_
  have t28 := t27.wr (v' := ⟨⟨v0, v1, v2, v3, v4, v5, v6, v7, v8, v9, v10, v11, v12, v13, v14, v15, v16, v17, v18, v19, v20, v21, v24, v25, v26, v29, v30, v31, 0⟩, se, sl, sp, sq⟩) k28 E28 t27.le t27.ll t27.lp t27.lq
  clear k28
  refine t28.num fun v32 s32 W29 g32 t29 E29 => ?_
  refine VSt.bk t29.m rfl (by simp [mvF]) fun W30 k30 E30 => ?_
  have t30 := t29.wr (v' := ⟨⟨v0, v1, v2, v3, v4, v5, v6, v7, v8, v9, v10, v11, v12, v13, v14, v15, v16, v17, v18, v19, v20, v21, v24, v25, v26, v29, v30, v31, v32⟩, se, sl, sp, sq⟩) k30 E30 t29.le t29.ll t29.lp t29.lq
  clear k30
  obtain ⟨s13a, s13b, ga, gb, gc⟩ : ∃ a b, rK s12 = (v13, a) ∧ rF a = (v14, b) ∧ rS b = (v15, s13) := by
    unfold rRes rPair at g13
    simp only [Prod.mk.injEq] at g13
    obtain ⟨⟨h1, h2, h3⟩, h4⟩ := g13
    exact ⟨_, _, Prod.ext h1 rfl, Prod.ext h2 rfl, Prod.ext h3 h4⟩
  have hT := rPair_eq g0 (rPair_eq g1 (rPair_eq g2 (rPair_eq g3 (rPair_eq g4 (rPair_eq g5 (rPair_eq g6 (rPair_eq g7 (rPair_eq g8 (rPair_eq g9 (rPair_eq g10 (rPair_eq g11 (rPair_eq g12 (rPair_eq ga (rPair_eq gb (rPair_eq gc (rPair_eq g16 (rPair_eq g17 (rPair_eq g18 (rPair_eq g19 (rPair_eq g20 (rPair_eq g21 (rPair_eq gE (rPair_eq g23 (rPair_eq g24 (rPair_eq g25 (rPair_eq g26 (rPair_eq gP (rPair_eq gQ (rPair_eq g29 (rPair_eq g30 (rPair_eq g31 (g32))))))))))))))))))))))))))))))))
  have hM : rMsg (some l) = (⟨⟨v0, v1, v2, v3, v4, v5, v6, v7, v8, v9, v10, v11, v12, v13, v14, v15, v16, v17, v18, v19, v20, v21, v24, v25, v26, v29, v30, v31, v32⟩, ens X, L, Pl, Ql⟩, s32) := by
    show (toMP (rMT (some l)).1, (rMT (some l)).2) = _
    unfold rMT
    rw [hT]; rfl
  refine VCall.i (xDone_spec x d s32 _ t30.rc.rep) ?_
  rintro e WD ⟨rfl, rfl⟩
  refine exW.i1 (t := .bool) _ rfl ?_
  refine VLd.i1 (t := .int .u8) v0 (Rd.of_bk t30.m rfl) (VLd.i1 (t := .int .u8) v0 (Rd.of_bk t30.m rfl) (VIf.mk (fun hd => ?_) (fun hd => ?_)))
  · have hd2 : decM l = (⟨sc0, [], [], [], []⟩, 4) := by
      unfold decM
      rw [if_neg hc, hM, if_neg]
      rintro ⟨k1, k2, k3⟩
      simp only at k1 k2 k3
      rw [k1] at hd
      simp at hd
      omega
    rw [hd2]
    obtain ⟨cs, hcs, hkb⟩ := t30.b
    refine VSt.bk hkb rfl (by simp; omega) fun w2 hk2 e2 => ?_
    rw [zero_msg cs hcs _ rfl] at hk2
    have hk2 : Bk w2 b2 (mvF mv0) 34 := hk2
    have f4 := t30.f4
    exact VLd.mv mv0 (Rd.of_bk hk2 rfl) ⟨mv0, [], rfl, (mv0_in w _).in_, t30.e.then e2 (fun i hi hlt => by simp at hi; omega)⟩
  · have hd2 : decM l = (⟨⟨v0, v1, v2, v3, v4, v5, v6, v7, v8, v9, v10, v11, v12, v13, v14, v15, v16, v17, v18, v19, v20, v21, v24, v25, v26, v29, v30, v31, v32⟩, ens X, L, Pl, Ql⟩, 0) := by
      unfold decM
      rw [if_neg hc, hM, if_pos]
      simp at hd
      refine ⟨hd.1.1, ?_, by simp only; omega⟩
      simp only
      have := hd.1.2
      omega
    rw [hd2]
    obtain ⟨cs, hcs, hkb⟩ := t30.b
    refine VLd.mv ⟨⟨v0, v1, v2, v3, v4, v5, v6, v7, v8, v9, v10, v11, v12, v13, v14, v15, v16, v17, v18, v19, v20, v21, v24, v25, v26, v29, v30, v31, v32⟩, se, sl, sp, sq⟩ (Rd.of_bk t30.m rfl) ?_
    refine VSt.bk hkb rfl (by simp; omega) fun w2 hk2 e2 => ?_
    rw [zero_msg cs hcs _ rfl] at hk2
    have hk2 : Bk w2 b2 (mvF ⟨⟨v0, v1, v2, v3, v4, v5, v6, v7, v8, v9, v10, v11, v12, v13, v14, v15, v16, v17, v18, v19, v20, v21, v24, v25, v26, v29, v30, v31, v32⟩, se, sl, sp, sq⟩) 34 := hk2
    have f3 := t30.f3
    have f4 := t30.f4
    have ag : ∀ {α : Type} {r : Rec α} {e : TypeId} {s : Sl} {L : List α} {W : World}, OwnR r e wA W s L → ∀ b ∈ rowB s, b ∉ [b2] := fun ho b hb hm => by
      have := ho.2 b hb
      simp at hm; omega
    refine VLd.mv ⟨⟨v0, v1, v2, v3, v4, v5, v6, v7, v8, v9, v10, v11, v12, v13, v14, v15, v16, v17, v18, v19, v20, v21, v24, v25, v26, v29, v30, v31, v32⟩, se, sl, sp, sq⟩ (Rd.of_bk hk2 rfl) ⟨⟨⟨v0, v1, v2, v3, v4, v5, v6, v7, v8, v9, v10, v11, v12, v13, v14, v15, v16, v17, v18, v19, v20, v21, v24, v25, v26, v29, v30, v31, v32⟩, se, sl, sp, sq⟩, X, rfl, ⟨rfl, ⟨(t30.le.er.ext e2 (ag t30.le.er)).in_, fun y hy => ?_⟩, rfl, (t30.ll.ext e2 (ag t30.ll)).in_, (t30.lp.ext e2 (ag t30.lp)).in_, (t30.lq.ext e2 (ag t30.lq)).in_⟩, t30.e.then e2 (fun i hi hlt => by simp at hi; omega)⟩
    obtain ⟨j, hj, rfl⟩ := List.mem_iff_getElem.1 hy
    exact ((t30.le.ea j hj).ext e2 (ag (t30.le.ea j hj))).in_
end Go.Proofs.Ytodcdfelbphajaa
