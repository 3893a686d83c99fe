/-
  Package dedup: DedupDoes, DedupSteps (printed by walks/does.py).
-/
import Derived.Test.YtlnomdjmjeabhaaDupM
namespace Go.Proofs.Ytlnomdjmjeabhaa
open Go.RowKit
set_option maxRecDepth 100000

/-- each record of an own row is written over -/
theorem spoil {α : Type} {r : Rec α} {e : TypeId} {w0 W : World} {s : Sl} {L : List α} {jo : Nat} {vs : List Value} {K : World → Prop} {ad : Addr → Int → Addr} (h : OwnR r e w0 W s L) (hx : ∀ x, ∃ y, (r.f x).take jo ++ vs ++ (r.f x).drop (jo + vs.length) = r.f y) (hj : jo + vs.length ≤ r.k) (h1 : vs.all Value.oneCell' = true)
    (ha : ∀ a (j : Nat), ad a (j : Int) = (a.add (j * r.k)).add jo) (k : ∀ W' L', L'.length = L.length → OwnR r e w0 W' s L' → Ext (rowB s) W W' → K W') :
    ∃ I : Nat → Int → World → Prop, (∃ k, I k 0 W) ∧ ∀ k1 (i : Int) (w1 : World), I k1 i w1 → VIf (decide (i < ((s.len : Nat) : Int))) (VIx none s.base s.len i fun (a : Addr) => VSt none w1 (ad a i) vs fun (w2 : World) => VSet (IntKind.wrap .i64 (i + 1)) fun (i' : Int) => ∃ k', k' < k1 ∧ I k' i' w2) (K w1) := by
  have hl := h.len
  have hc := h.cap
  refine ⟨fun kk i W' => ∃ (j : Nat) (L' : List α), i = (j : Int) ∧ j ≤ L.length ∧ kk = L.length - j ∧ L'.length = L.length ∧ OwnR r e w0 W' s L' ∧ Ext (rowB s) W W', ⟨_, 0, L, rfl, by omega, rfl, rfl, h, Ext.refl _ _⟩, ?_⟩
  rintro kk i w1 ⟨j, L', rfl, hj', rfl, hL', ho, e1⟩
  refine VIf.mk (fun hc' => ?_) (fun hc' => k w1 L' hL' ho e1)
  have hjl : j < L'.length := by simp at hc'; omega
  obtain ⟨y, hy⟩ := hx L'[j]
  refine Row.putR (r := r) (g := none) (x := y) (ad := fun a => ad a (j : Int)) ho.1 hjl hj h1 hy (fun a => ha a j) fun w2 h2 e2 => ?_
  exact VSet.i ⟨_, (show L.length - (j + 1) < L.length - j by omega), j + 1, L'.set j y, w64 (n := (j : Int) + 1) (by omega), by omega, rfl, by rw [List.length_set, hL'], ⟨h2, ho.2⟩, e1.then e2 (fun _ h _ => h)⟩
theorem spoilP {w0 W : World} {s : Sl} {L : List Pr} {c : ByteArray} {K : World → Prop} (h : OwnR prR 36 w0 W s L) (k : ∀ W' L', L'.length = L.length → OwnR prR 36 w0 W' s L' → Ext (rowB s) W W' → K W') :
    ∃ I : Nat → Int → World → Prop, (∃ k, I k 0 W) ∧ ∀ k1 (i : Int) (w1 : World), I k1 i w1 → VIf (decide (i < ((s.len : Nat) : Int))) (VIx none s.base s.len i fun (a : Addr) => VSt none w1 (Addr.add a ((Int.toNat i) * 2)) [.string c] fun (w2 : World) => VSet (IntKind.wrap .i64 (i + 1)) fun (i' : Int) => ∃ k', k' < k1 ∧ I k' i' w2) (K w1) :=
  spoil (r := prR) (jo := 0) (vs := [.string c]) (ad := fun a i => Addr.add a ((Int.toNat i) * 2)) h (fun x => ⟨(c, x.2), rfl⟩) (by show 0 + 1 ≤ 2; omega) rfl (fun a j => by rw [add_zero, Int.toNat_natCast]; rfl) k
theorem spoilL {w0 W : World} {s : Sl} {L : List Ls} {c : Int} {K : World → Prop} (h : OwnR lsR 42 w0 W s L) (k : ∀ W' L', L'.length = L.length → OwnR lsR 42 w0 W' s L' → Ext (rowB s) W W' → K W') :
    ∃ I : Nat → Int → World → Prop, (∃ k, I k 0 W) ∧ ∀ k1 (i : Int) (w1 : World), I k1 i w1 → VIf (decide (i < ((s.len : Nat) : Int))) (VIx none s.base s.len i fun (a : Addr) => VSt none w1 (Addr.add (Addr.add a ((Int.toNat i) * 5)) 1) [.int .i64 c] fun (w2 : World) => VSet (IntKind.wrap .i64 (i + 1)) fun (i' : Int) => ∃ k', k' < k1 ∧ I k' i' w2) (K w1) :=
  spoil (r := lsR) (jo := 1) (vs := [.int .i64 c]) (ad := fun a i => Addr.add (Addr.add a ((Int.toNat i) * 5)) 1) h (fun x => ⟨(x.1, c, x.2.2), rfl⟩) (by show 1 + 1 ≤ 5; omega) rfl (fun a j => by rw [Int.toNat_natCast]; rfl) k
theorem do_lenO (m : List Pr) (o : Wo) : (doO m o).1.length ≤ m.length + 1 := by
  unfold doO
  split
  · exact do_len m o
  · simp

set_option maxHeartbeats 1000000 in
theorem Does_law (s : Sl) (m : List Pr) (o : Wo) (n : Int) (w : World) (h : InR prR w s m) (hk : 0 ≤ o.kind ∧ o.kind ≤ 255) (hb : m.length ≤ 2000000) (hks : o.key.size ≤ 2000000) :
    Calls Try.prog 3 #[.slice s.base s.len s.cap, .agg #[.int .u8 o.kind, .string o.key, .string o.value, .string o.old, .bool o.had], .int .i64 n] w fun e w' => e = .returned (.bool true) ∧ Ext [] w w' := by
  refine sh_butterylaw09_DedupDoes_ok _ _ _ _ _ _ _ _ _ ?_
  unfold sh_butterylaw09_DedupDoes
  have hl := h.len
  have hdl := do_lenO m o
  refine VNw.i fun op_4 w1 hb1 hk1 e1 => ?_
  have hk1 : Bk w1 op_4 [.int .u8 o.kind, .string o.key, .string o.value, .string o.old, .bool o.had] 24 := hk1
  have z1 := e1.size
  have l1 := hk1.lt
  refine VNw.i fun b20 w2 hb2 hk2 e2 => ?_
  have hk2 : Bk w2 b20 [] 36 := hk2
  have z2 := e2.size
  have l2 := hk2.lt
  have e0_2 := e1.then0 e2
  have h_2 := h.ext0 e0_2
  have hO0 : OwnR prR 36 w w2 ⟨some ⟨b20, 0, none⟩, 0, 0⟩ [] := OwnR.made hk2 (by omega)
  have hop_4_2 := hk1.ext e2
  refine VApp.rec (r := prR) (s := ⟨some ⟨b20, 0, none⟩, 0, 0⟩) (news := m) hO0 e0_2 h_2.1 hl.symm rfl (by simp; omega) (by simp; omega) fun l22 w3 hO e0_3 e3 hb3 => ?_
  have z3 := e3.size
  have z0_3 := e0_3.size
  have hop_4_3 := hop_4_2.ext e3 (OwnR.notin hO0 hop_4_2 (by decide))
  rw [List.nil_append] at hO
  have hI := hO.in_
  refine VLd.i1 (t := CT.str) o.key (Rd.of_bk hop_4_3 rfl) ?_
  refine VCall.i (Find_spec l22 m o.key w3 hI) ?_
  rintro e w4 ⟨rfl, e4⟩
  have z4 := e4.size
  refine ⟨(valP m o.key), (hasP m o.key), rfl, ?_⟩
  have hop_4_4 := hop_4_3.ext e4
  refine VLd.i1 (t := CT.str) o.key (Rd.of_bk hop_4_4 rfl) ?_
  have e2_4 := e3.then0 e4
  have e0_4 := e0_3.then0 e4
  have h_4 := h.ext0 e0_4
  refine VCall.i (xFind_spec s m o.key w4 h_4) ?_
  rintro e w5 ⟨rfl, hq5⟩
  have e5 : Ext [] w4 w5 := hq5 ▸ Ext.refl _ _
  have z5 := e5.size
  refine ⟨valP m o.key, hasP m o.key, rfl, ?_⟩
  intro w6 hw6
  have e6 := Ext.drew' hw6
  have z6 := e6.size
  have e4_6 := e5.then0 e6
  have hop_4_6 := hop_4_4.ext e4_6
  refine ⟨o.kind, o.key, o.value, o.old, o.had, gd.i (Rd.of_bk hop_4_6 rfl), ?_⟩
  refine ⟨o.kind, o.key, o.value, o.old, o.had, gd.i (Rd.of_bk hop_4_6 rfl), ?_⟩
  refine VCall.opt (Check_spec o w6 hk) fun w7 e7 => ?_
  have z7 := e7.size
  refine ⟨(checkO o), rfl, ?_⟩
  have hop_4_7 := hop_4_6.ext e7
  refine ⟨fun _ => Rd.of_bk hop_4_7 rfl, ?_⟩
  refine VCall.opt (xCheck_spec o w7 hk) fun w8 e8 => ?_
  have z8 := e8.size
  refine ⟨(checkO o), rfl, ?_⟩
  have hop_4_8 := hop_4_7.ext e8
  refine VLd.i1 (t := CT.str) o.key (Rd.of_bk hop_4_8 rfl) ?_
  refine VLd.i1 (t := CT.str) o.key (Rd.of_bk hop_4_8 rfl) ?_
  refine VCall.opt (Place_spec o.key n w8 (by omega)) fun w9 e9 => ?_
  have z9 := e9.size
  refine ⟨(placeO o.key n), rfl, ?_⟩
  have hop_4_9 := hop_4_8.ext e9
  refine ⟨fun _ => Rd.of_bk hop_4_9 rfl, ?_⟩
  refine VCall.opt (xPlace_spec o.key n w9 (by omega)) fun w10 e10 => ?_
  have z10 := e10.size
  refine ⟨(placeO o.key n), rfl, ?_⟩
  refine VIf.f (by simp) ?_
  have e3_5 := e4.then0 e5
  have e3_6 := e3_5.then0 e6
  have e3_7 := e3_6.then0 e7
  have e3_8 := e3_7.then0 e8
  have e3_9 := e3_8.then0 e9
  have e3_10 := e3_9.then0 e10
  have hI_10 := hI.ext0 e3_10
  have hop_4_10 := hop_4_9.ext e10
  have e0_5 := e0_4.then0 e5
  have e0_6 := e0_5.then0 e6
  have e0_7 := e0_6.then0 e7
  have e0_8 := e0_7.then0 e8
  have e0_9 := e0_8.then0 e9
  have e0_10 := e0_9.then0 e10
  refine ⟨fun kk round_12 W => ∃ j : Nat, kk = 2 - j ∧ round_12 = (j : Int) ∧ j ≤ 2 ∧ InR prR W l22 m ∧ Bk W op_4 [.int .u8 o.kind, .string o.key, .string o.value, .string o.old, .bool o.had] 24 ∧ Ext [] w W, ⟨_, 0, rfl, rfl, by omega, hI_10, hop_4_10, e0_10⟩, ?_⟩
  rintro kk round_12 w11 ⟨j, rfl, rfl, hj, hI, gop_4_11, e0_11⟩
  have z11 := e0_11.size
  have lgop_4_11 := gop_4_11.lt
  refine VIf.mk (fun hc => ?_) (fun hc => ?_)
  · have hj2 : j < 2 := by simp at hc; omega
    refine ⟨o.kind, o.key, o.value, o.old, o.had, gd.i (Rd.of_bk gop_4_11 rfl), ?_⟩
    refine VCall.i (Do_spec l22 m o w11 hI hk (by omega)) ?_
    rintro e w12 ⟨ra, rfl, hA, e12⟩
    have z12 := e12.size
    refine ⟨ra, (doO m o).2.1.1, (doO m o).2.1.2.1, (doO m o).2.1.2.2, (doO m o).2.2, rfl, ?_⟩
    refine VNw.i fun r_14 w13 hb13 hk13 e13 => ?_
    have hk13 : Bk w13 r_14 [.int .u8 0, .bool false, .string ByteArray.empty] 31 := hk13
    have z13 := e13.size
    have l13 := hk13.lt
    refine VSt.bk hk13 rfl (by simp) fun w14 hk14 e14 => ?_
    have hk14 : Bk w14 r_14 [.int .u8 (doO m o).2.1.1, .bool (doO m o).2.1.2.1, .string (doO m o).2.1.2.2] 31 := hk14
    have z14 := e14.size
    refine VSet.i ?_
    have e11_13 := e12.then0 e13
    have e11_14 := e11_13.then e14 (fun i hi hlt => by simp at hi; omega)
    have hop_4_14 := gop_4_11.ext e11_14
    refine ⟨o.kind, o.key, o.value, o.old, o.had, gd.i (Rd.of_bk hop_4_14 rfl), ?_⟩
    have e0_12 := e0_11.then0 e12
    have e0_13 := e0_12.then0 e13
    have e0_14 := e0_13.then e14 (fun i hi hlt => by simp at hi; omega)
    have h_14 := h.ext0 e0_14
    refine VCall.i (xDo_spec s m o w14 h_14 hk (by omega)) ?_
    rintro e w15 ⟨rb, rfl, hB, e15⟩
    have z15 := e15.size
    refine ⟨rb, (doO m o).2.1.1, (doO m o).2.1.2.1, (doO m o).2.1.2.2, (doO m o).2.2, rfl, ?_⟩
    refine VNw.i fun s_17 w16 hb16 hk16 e16 => ?_
    have hk16 : Bk w16 s_17 [.int .u8 0, .bool false, .string ByteArray.empty] 31 := hk16
    have z16 := e16.size
    have l16 := hk16.lt
    refine VSt.bk hk16 rfl (by simp) fun w17 hk17 e17 => ?_
    have hk17 : Bk w17 s_17 [.int .u8 (doO m o).2.1.1, .bool (doO m o).2.1.2.1, .string (doO m o).2.1.2.2] 31 := hk17
    have z17 := e17.size
    refine VSet.i ?_
    have e14_16 := e15.then0 e16
    have e14_17 := e14_16.then e17 (fun i hi hlt => by simp at hi; omega)
    have hr_14_17 := hk14.ext e14_17
    refine ⟨(doO m o).2.1.1, (doO m o).2.1.2.1, (doO m o).2.1.2.2, gd.i (Rd.of_bk hr_14_17 rfl), ?_⟩
    refine ⟨(doO m o).2.1.1, (doO m o).2.1.2.1, (doO m o).2.1.2.2, gd.i (Rd.of_bk hk17 rfl), ?_⟩
    have e12_14 := e13.then e14 (fun i hi hlt => by simp at hi; omega)
    have e12_15 := e12_14.then0 e15
    have e12_16 := e12_15.then0 e16
    have e12_17 := e12_16.then e17 (fun i hi hlt => by simp at hi; omega)
    have hA_17 := hA.ext0 e12_17
    have e15_17 := e16.then e17 (fun i hi hlt => by simp at hi; omega)
    have hB_17 := hB.ext0 e15_17
    refine VCall.opt (Same9_spec ra rb _ _ w17 hA_17.in_ hB_17.in_) fun w18 e18 => ?_
    have z18 := e18.size
    refine ⟨(decide ((doO m o).1 = (doO m o).1)), rfl, ?_⟩
    refine VIf.f (by simp) ?_
    have hA_18 := hA_17.ext0 e18
    have e14_18 := e14_17.then0 e18
    have hop_4_18 := hop_4_14.ext e14_18
    have e0_15 := e0_14.then0 e15
    have e0_16 := e0_15.then0 e16
    have e0_17 := e0_16.then e17 (fun i hi hlt => by simp at hi; omega)
    have e0_18 := e0_17.then0 e18
    have e11_15 := e11_14.then0 e15
    have e11_16 := e11_15.then0 e16
    have e11_17 := e11_16.then e17 (fun i hi hlt => by simp at hi; omega)
    have e11_18 := e11_17.then0 e18
    refine spoilP hA_18 fun w19 L19 hL19 hA19 e19 => ?_
    have e0_19 : Ext [] w w19 := e0_18.then e19 (fun b hb hlt => absurd hlt (Nat.not_lt.2 (Nat.le_trans (by omega) (hA_18.2 b hb))))
    have e11_19 : Ext [] w11 w19 := e11_18.then e19 (fun b hb hlt => absurd hlt (Nat.not_lt.2 (Nat.le_trans (by omega) (hA_18.2 b hb))))
    have z19 := e19.size
    have hop_4_19 := hop_4_18.ext e19 (OwnR.notin hA_18 hop_4_18 (by decide))
    refine VNw.i fun b107 w21 hb21 hk21 e21 => ?_
    have hk21 : Bk w21 b107 [.string (ByteArray.mk #[109, 111, 114, 101]), .string ByteArray.empty] 36 := hk21
    have z21 := e21.size
    have l21 := hk21.lt
    have hA19_21 := hA19.ext0 e21
    have e11_21 := e11_19.then0 e21
    have hop_4_21 := hop_4_19.ext e21
    have e0_21 := e0_19.then0 e21
    refine VApp.rec (r := prR) (m := 1) (news := [(ByteArray.mk #[109, 111, 114, 101], ByteArray.empty)]) hA19_21 e11_21 (seg1 (x := ((ByteArray.mk #[109, 111, 114, 101], ByteArray.empty) : Pr)) hk21) rfl rfl (by omega) (by omega) fun l108 w22 hN eN e22 hb22 => ?_
    have e0_22 : Ext [] w w22 := e0_21.then e22 (fun b hb hlt => absurd hlt (Nat.not_lt.2 (Nat.le_trans (by omega) (hA19_21.2 b hb))))
    have e11_22 : Ext [] w11 w22 := e11_21.then e22 (fun b hb hlt => absurd hlt (Nat.not_lt.2 (Nat.le_trans (by omega) (hA19_21.2 b hb))))
    have z22 := e22.size
    have hop_4_22 := hop_4_21.ext e22 (OwnR.notin hA19_21 hop_4_21 (by decide))
    have hnl := hN.len
    rw [List.length_append] at hnl
    have hnl1 : 1 ≤ l108.len := by rw [hnl]; simp
    have hI_22 := hI.ext0 e11_22
    have e14_19 := e14_18.trans e19
    have e14_21 := e14_19.then0 e21
    have e14_22 := e14_21.trans e22
    have h_22 := h.ext0 e0_22
    refine VCall.opt (Same9_spec l22 s m m w22 hI_22 h_22) fun w23 e23 => ?_
    have z23 := e23.size
    refine ⟨(decide (m = m)), rfl, ?_⟩
    refine VIf.f (by simp; omega) ?_
    refine VSet.eq (m := (j : Int) + 1) (w64 (by omega)) ?_
    have hI_23 := hI_22.ext0 e23
    have hop_4_23 := hop_4_22.ext e23
    have e0_23 := e0_22.then0 e23
    exact ⟨_, (show 2 - (j + 1) < 2 - j by omega), j + 1, rfl, rfl, by omega, hI_23, hop_4_23, e0_23⟩
  · exact ⟨rfl, e0_11⟩
set_option maxHeartbeats 1000000 in
theorem Steps_law (s q : Sl) (m : List Pr) (l : List Ls) (who id : Int) (o : Wo) (w : World) (h : InR prR w s m) (hq : InR lsR w q l) (hk : 0 ≤ o.kind ∧ o.kind ≤ 255) (hb : m.length ≤ 2000000) (hlb : l.length ≤ 2000000) :
    Calls Try.prog 4 #[.slice s.base s.len s.cap, .slice q.base q.len q.cap, .int .i64 who, .int .i64 id, .agg #[.int .u8 o.kind, .string o.key, .string o.value, .string o.old, .bool o.had]] w fun e w' => e = .returned (.bool true) ∧ Ext [] w w' := by
  refine sh_butterylaw09_DedupSteps_ok _ _ _ _ _ _ _ _ _ _ _ ?_
  unfold sh_butterylaw09_DedupSteps
  have hl := h.len
  have hql := hq.len
  refine VNw.i fun op_9 w1 hb1 hk1 e1 => ?_
  have hk1 : Bk w1 op_9 [.int .u8 o.kind, .string o.key, .string o.value, .string o.old, .bool o.had] 24 := hk1
  have z1 := e1.size
  have l1 := hk1.lt
  refine VNw.i fun b31 w2 hb2 hk2 e2 => ?_
  have hk2 : Bk w2 b31 [] 36 := hk2
  have z2 := e2.size
  have l2 := hk2.lt
  have e0_2 := e1.then0 e2
  have h_2 := h.ext0 e0_2
  have hO0 : OwnR prR 36 w w2 ⟨some ⟨b31, 0, none⟩, 0, 0⟩ [] := OwnR.made hk2 (by omega)
  have hop_9_2 := hk1.ext e2
  refine VApp.rec (r := prR) (s := ⟨some ⟨b31, 0, none⟩, 0, 0⟩) (news := m) hO0 e0_2 h_2.1 hl.symm rfl (by simp; omega) (by simp; omega) fun l33 w3 hO e0_3 e3 hb3 => ?_
  have z3 := e3.size
  have z0_3 := e0_3.size
  have hop_9_3 := hop_9_2.ext e3 (OwnR.notin hO0 hop_9_2 (by decide))
  rw [List.nil_append] at hO
  refine VNw.i fun b34 w4 hb4 hk4 e4 => ?_
  have hk4 : Bk w4 b34 [] 42 := hk4
  have z4 := e4.size
  have l4 := hk4.lt
  have e0_4 := e0_3.then0 e4
  have hq_4 := hq.ext0 e0_4
  have hQ0 : OwnR lsR 42 w w4 ⟨some ⟨b34, 0, none⟩, 0, 0⟩ [] := OwnR.made hk4 (by omega)
  have hO_4 := hO.ext0 e4
  have hop_9_4 := hop_9_3.ext e4
  refine VApp.rec (r := lsR) (s := ⟨some ⟨b34, 0, none⟩, 0, 0⟩) (news := l) hQ0 e0_4 hq_4.1 hql.symm rfl (by simp; omega) (by simp; omega) fun l36 w5 hQ e0_5 e5 hb5 => ?_
  have z5 := e5.size
  have z0_5 := e0_5.size
  have hop_9_5 := hop_9_4.ext e5 (OwnR.notin hQ0 hop_9_4 (by decide))
  have hO_5 := hO_4.ext e5 (OwnR.notinT hQ0 hO_4 (by decide))
  rw [List.nil_append] at hQ
  have hI := hO_5.in_
  have hJ := hQ.in_
  refine VCall.i (Seen_spec l36 l who id w5 hJ) ?_
  rintro e w6 ⟨rfl, e6⟩
  have z6 := e6.size
  refine ⟨(seenO l who id).1.1, (seenO l who id).1.2.1, (seenO l who id).1.2.2, (seenO l who id).2, rfl, ?_⟩
  refine VNw.i fun r_13 w7 hb7 hk7 e7 => ?_
  have hk7 : Bk w7 r_13 [.int .u8 0, .bool false, .string ByteArray.empty] 31 := hk7
  have z7 := e7.size
  have l7 := hk7.lt
  refine VSt.bk hk7 rfl (by simp) fun w8 hk8 e8 => ?_
  have hk8 : Bk w8 r_13 [.int .u8 (seenO l who id).1.1, .bool (seenO l who id).1.2.1, .string (seenO l who id).1.2.2] 31 := hk8
  have z8 := e8.size
  refine VSet.i ?_
  have e4_6 := e5.then0 e6
  have e4_7 := e4_6.then0 e7
  have e4_8 := e4_7.trans e8
  have e0_6 := e0_5.then0 e6
  have e0_7 := e0_6.then0 e7
  have e0_8 := e0_7.then e8 (fun i hi hlt => by simp at hi; omega)
  have hq_8 := hq.ext0 e0_8
  refine VCall.i (xSeen_spec q l who id w8 hq_8) ?_
  rintro e w9 ⟨rfl, e9⟩
  have z9 := e9.size
  refine ⟨(seenO l who id).1.1, (seenO l who id).1.2.1, (seenO l who id).1.2.2, (seenO l who id).2, rfl, ?_⟩
  refine VNw.i fun s_15 w10 hb10 hk10 e10 => ?_
  have hk10 : Bk w10 s_15 [.int .u8 0, .bool false, .string ByteArray.empty] 31 := hk10
  have z10 := e10.size
  have l10 := hk10.lt
  refine VSt.bk hk10 rfl (by simp) fun w11 hk11 e11 => ?_
  have hk11 : Bk w11 s_15 [.int .u8 (seenO l who id).1.1, .bool (seenO l who id).1.2.1, .string (seenO l who id).1.2.2] 31 := hk11
  have z11 := e11.size
  refine VSet.i ?_
  have e8_10 := e9.then0 e10
  have e8_11 := e8_10.then e11 (fun i hi hlt => by simp at hi; omega)
  have hr_13_11 := hk8.ext e8_11
  refine ⟨(seenO l who id).1.1, (seenO l who id).1.2.1, (seenO l who id).1.2.2, gd.i (Rd.of_bk hr_13_11 rfl), ?_⟩
  refine ⟨(seenO l who id).1.1, (seenO l who id).1.2.1, (seenO l who id).1.2.2, gd.i (Rd.of_bk hk11 rfl), ?_⟩
  refine VIf.f (by simp) ?_
  have e5_7 := e6.then0 e7
  have e5_8 := e5_7.then e8 (fun i hi hlt => by simp at hi; omega)
  have e5_9 := e5_8.then0 e9
  have e5_10 := e5_9.then0 e10
  have e5_11 := e5_10.then e11 (fun i hi hlt => by simp at hi; omega)
  have hop_9_11 := hop_9_5.ext e5_11
  refine VLd.i1 (t := CT.str) o.value (Rd.of_bk hop_9_11 rfl) ?_
  refine VNw.i fun last_17 w12 hb12 hk12 e12 => ?_
  have hk12 : Bk w12 last_17 [.int .i64 0, .int .i64 0, .int .u8 0, .bool false, .string ByteArray.empty] 42 := hk12
  have z12 := e12.size
  have l12 := hk12.lt
  refine VSt.bk hk12 rfl (by simp) fun w13 hk13 e13 => ?_
  have hk13 : Bk w13 last_17 [.int .i64 who, .int .i64 id, .int .u8 1, .bool false, .string o.value] 42 := hk13
  have z13 := e13.size
  refine ⟨who, id, 1, false, o.value, gd.i (Rd.of_bk hk13 rfl), ?_⟩
  have e5_12 := e5_11.then0 e12
  have e5_13 := e5_12.then e13 (fun i hi hlt => by simp at hi; omega)
  have hI_13 := hI.ext0 e5_13
  have hJ_13 := hJ.ext0 e5_13
  refine VCall.i (Note_spec l36 l (who, id, (1 : Int), false, o.value) w13 hJ_13 (by omega)) ?_
  rintro e w14 ⟨rx, rfl, hX, e14⟩
  have z14 := e14.size
  refine ⟨rx, rfl, ?_⟩
  have hlast_17_14 := hk13.ext e14
  refine ⟨who, id, 1, false, o.value, gd.i (Rd.of_bk hlast_17_14 rfl), ?_⟩
  have e8_12 := e8_11.then0 e12
  have e8_13 := e8_12.then e13 (fun i hi hlt => by simp at hi; omega)
  have e8_14 := e8_13.then0 e14
  have hq_14 := hq_8.ext0 e8_14
  refine VCall.i (xNote_spec q l (who, id, (1 : Int), false, o.value) w14 hq_14 (by omega)) ?_
  rintro e w15 ⟨ry, rfl, hY, e15⟩
  have z15 := e15.size
  refine ⟨ry, rfl, ?_⟩
  have hX_15 := hX.ext0 e15
  refine VCall.i (SameLasts_spec rx ry _ _ w15 hX_15.in_ hY.in_) ?_
  rintro e w16 ⟨rfl, e16⟩
  have z16 := e16.size
  refine ⟨(decide (putN l (who, id, (1 : Int), false, o.value) = putN l (who, id, (1 : Int), false, o.value))), rfl, ?_⟩
  refine VIf.f (by simp) ?_
  have hX_16 := hX_15.ext0 e16
  have e11_13 := e12.then e13 (fun i hi hlt => by simp at hi; omega)
  have e11_14 := e11_13.then0 e14
  have e11_15 := e11_14.then0 e15
  have e11_16 := e11_15.then0 e16
  have hop_9_16 := hop_9_11.ext e11_16
  have e0_9 := e0_8.then0 e9
  have e0_10 := e0_9.then0 e10
  have e0_11 := e0_10.then e11 (fun i hi hlt => by simp at hi; omega)
  have e0_12 := e0_11.then0 e12
  have e0_13 := e0_12.then e13 (fun i hi hlt => by simp at hi; omega)
  have e0_14 := e0_13.then0 e14
  have e0_15 := e0_14.then0 e15
  have e0_16 := e0_15.then0 e16
  have e13_15 := e14.then0 e15
  have e13_16 := e13_15.then0 e16
  refine spoilL hX_16 fun w17 L17 hL17 hX17 e17 => ?_
  have e0_17 : Ext [] w w17 := e0_16.then e17 (fun b hb hlt => absurd hlt (Nat.not_lt.2 (Nat.le_trans (by omega) (hX_16.2 b hb))))
  have e13_17 : Ext [] w13 w17 := e13_16.then e17 (fun b hb hlt => absurd hlt (Nat.not_lt.2 (Nat.le_trans (by omega) (hX_16.2 b hb))))
  have z17 := e17.size
  have hop_9_17 := hop_9_16.ext e17 (OwnR.notin hX_16 hop_9_16 (by decide))
  have hI17 := hI_13.ext0 e13_17
  have hJ17 := hJ_13.ext0 e13_17
  refine ⟨fun kk round_20 W => ∃ j : Nat, kk = 2 - j ∧ round_20 = (j : Int) ∧ j ≤ 2 ∧ InR prR W l33 m ∧ InR lsR W l36 l ∧ Bk W op_9 [.int .u8 o.kind, .string o.key, .string o.value, .string o.old, .bool o.had] 24 ∧ Ext [] w W, ⟨_, 0, rfl, rfl, by omega, hI17, hJ17, hop_9_17, e0_17⟩, ?_⟩
  rintro kk round_20 w19 ⟨j, rfl, rfl, hj, hI, hJ, gop_9_19, e0_19⟩
  have z19 := e0_19.size
  have lgop_9_19 := gop_9_19.lt
  refine VIf.mk (fun hc => ?_) (fun hc => ?_)
  · have hj2 : j < 2 := by simp at hc; omega
    refine ⟨o.kind, o.key, o.value, o.old, o.had, gd.i (Rd.of_bk gop_9_19 rfl), ?_⟩
    refine VCall.i (Step_spec l33 l36 m l who id o w19 hI hJ hk (by omega) (by omega)) ?_
    rintro e w20 ⟨ra, rp, rfl, hA, hP, e20⟩
    have z20 := e20.size
    refine ⟨ra, rp, (stepO m l who id o).2.2.1.1, (stepO m l who id o).2.2.1.2.1, (stepO m l who id o).2.2.1.2.2, (stepO m l who id o).2.2.2, rfl, ?_⟩
    refine VNw.i fun r_23 w21 hb21 hk21 e21 => ?_
    have hk21 : Bk w21 r_23 [.int .u8 0, .bool false, .string ByteArray.empty] 31 := hk21
    have z21 := e21.size
    have l21 := hk21.lt
    refine VSt.bk hk21 rfl (by simp) fun w22 hk22 e22 => ?_
    have hk22 : Bk w22 r_23 [.int .u8 (stepO m l who id o).2.2.1.1, .bool (stepO m l who id o).2.2.1.2.1, .string (stepO m l who id o).2.2.1.2.2] 31 := hk22
    have z22 := e22.size
    refine VSet.i ?_
    have e19_21 := e20.then0 e21
    have e19_22 := e19_21.then e22 (fun i hi hlt => by simp at hi; omega)
    have hop_9_22 := gop_9_19.ext e19_22
    refine ⟨o.kind, o.key, o.value, o.old, o.had, gd.i (Rd.of_bk hop_9_22 rfl), ?_⟩
    have e0_20 := e0_19.then0 e20
    have e0_21 := e0_20.then0 e21
    have e0_22 := e0_21.then e22 (fun i hi hlt => by simp at hi; omega)
    have h_22 := h.ext0 e0_22
    have hq_22 := hq.ext0 e0_22
    refine VCall.i (xStep_spec s q m l who id o w22 h_22 hq_22 hk (by omega) (by omega)) ?_
    rintro e w23 ⟨rb, rq, rfl, hB, hPx, e23⟩
    have z23 := e23.size
    refine ⟨rb, rq, (stepO m l who id o).2.2.1.1, (stepO m l who id o).2.2.1.2.1, (stepO m l who id o).2.2.1.2.2, (stepO m l who id o).2.2.2, rfl, ?_⟩
    refine VNw.i fun s_27 w24 hb24 hk24 e24 => ?_
    have hk24 : Bk w24 s_27 [.int .u8 0, .bool false, .string ByteArray.empty] 31 := hk24
    have z24 := e24.size
    have l24 := hk24.lt
    refine VSt.bk hk24 rfl (by simp) fun w25 hk25 e25 => ?_
    have hk25 : Bk w25 s_27 [.int .u8 (stepO m l who id o).2.2.1.1, .bool (stepO m l who id o).2.2.1.2.1, .string (stepO m l who id o).2.2.1.2.2] 31 := hk25
    have z25 := e25.size
    refine VSet.i ?_
    have e22_24 := e23.then0 e24
    have e22_25 := e22_24.then e25 (fun i hi hlt => by simp at hi; omega)
    have hr_23_25 := hk22.ext e22_25
    refine ⟨(stepO m l who id o).2.2.1.1, (stepO m l who id o).2.2.1.2.1, (stepO m l who id o).2.2.1.2.2, gd.i (Rd.of_bk hr_23_25 rfl), ?_⟩
    refine ⟨(stepO m l who id o).2.2.1.1, (stepO m l who id o).2.2.1.2.1, (stepO m l who id o).2.2.1.2.2, gd.i (Rd.of_bk hk25 rfl), ?_⟩
    have e20_22 := e21.then e22 (fun i hi hlt => by simp at hi; omega)
    have e20_23 := e20_22.then0 e23
    have e20_24 := e20_23.then0 e24
    have e20_25 := e20_24.then e25 (fun i hi hlt => by simp at hi; omega)
    have hA_25 := hA.ext0 e20_25
    have e23_25 := e24.then e25 (fun i hi hlt => by simp at hi; omega)
    have hB_25 := hB.ext0 e23_25
    refine VCall.opt (Same9_spec ra rb _ _ w25 hA_25.in_ hB_25.in_) fun w26 e26 => ?_
    have z26 := e26.size
    refine ⟨(decide ((stepO m l who id o).1 = (stepO m l who id o).1)), rfl, ?_⟩
    have e20_26 := e20_25.then0 e26
    have hP_26 := hP.ext0 e20_26
    have e23_26 := e23_25.then0 e26
    have hPx_26 := hPx.ext0 e23_26
    refine VCall.opt (SameLasts_spec rp rq _ _ w26 hP_26.in_ hPx_26.in_) fun w27 e27 => ?_
    have z27 := e27.size
    refine ⟨(decide ((stepO m l who id o).2.1 = (stepO m l who id o).2.1)), rfl, ?_⟩
    refine VIf.f (by simp) ?_
    have e25_27 := e26.then0 e27
    have hA_27 := hA_25.ext0 e25_27
    have e22_26 := e22_25.then0 e26
    have e22_27 := e22_26.then0 e27
    have hop_9_27 := hop_9_22.ext e22_27
    have hP_27 := hP_26.ext0 e27
    have e0_23 := e0_22.then0 e23
    have e0_24 := e0_23.then0 e24
    have e0_25 := e0_24.then e25 (fun i hi hlt => by simp at hi; omega)
    have e0_26 := e0_25.then0 e26
    have e0_27 := e0_26.then0 e27
    have e19_23 := e19_22.then0 e23
    have e19_24 := e19_23.then0 e24
    have e19_25 := e19_24.then e25 (fun i hi hlt => by simp at hi; omega)
    have e19_26 := e19_25.then0 e26
    have e19_27 := e19_26.then0 e27
    refine spoilP hA_27 fun w28 L28 hL28 hA28 e28 => ?_
    have e0_28 : Ext [] w w28 := e0_27.then e28 (fun b hb hlt => absurd hlt (Nat.not_lt.2 (Nat.le_trans (by omega) (hA_27.2 b hb))))
    have e19_28 : Ext [] w19 w28 := e19_27.then e28 (fun b hb hlt => absurd hlt (Nat.not_lt.2 (Nat.le_trans (by omega) (hA_27.2 b hb))))
    have z28 := e28.size
    have hop_9_28 := hop_9_27.ext e28 (OwnR.notin hA_27 hop_9_27 (by decide))
    have hP_28 := hP_27.ext e28 (OwnR.notinT hA_27 hP_27 (by decide))
    refine spoilL hP_28 fun w30 L30 hL30 hP30 e30 => ?_
    have e0_30 : Ext [] w w30 := e0_28.then e30 (fun b hb hlt => absurd hlt (Nat.not_lt.2 (Nat.le_trans (by omega) (hP_28.2 b hb))))
    have e19_30 : Ext [] w19 w30 := e19_28.then e30 (fun b hb hlt => absurd hlt (Nat.not_lt.2 (Nat.le_trans (by omega) (hP_28.2 b hb))))
    have z30 := e30.size
    have hop_9_30 := hop_9_28.ext e30 (OwnR.notin hP_28 hop_9_28 (by decide))
    have hI_30 := hI.ext0 e19_30
    have e22_28 := e22_27.trans e28
    have e22_30 := e22_28.trans e30
    have h_30 := h.ext0 e0_30
    refine VCall.i (Same9_spec l33 s m m w30 hI_30 h_30) ?_
    rintro e w32 ⟨rfl, e32⟩
    have z32 := e32.size
    refine ⟨(decide (m = m)), rfl, ?_⟩
    have e19_32 := e19_30.then0 e32
    have hJ_32 := hJ.ext0 e19_32
    have e22_32 := e22_30.then0 e32
    have e0_32 := e0_30.then0 e32
    have hq_32 := hq.ext0 e0_32
    refine VCall.opt (SameLasts_spec l36 q l l w32 hJ_32 hq_32) fun w33 e33 => ?_
    have z33 := e33.size
    refine ⟨(decide (l = l)), rfl, ?_⟩
    refine VIf.f (by simp) ?_
    refine VSet.eq (m := (j : Int) + 1) (w64 (by omega)) ?_
    have e30_33 := e32.then0 e33
    have hI_33 := hI_30.ext0 e30_33
    have hJ_33 := hJ_32.ext0 e33
    have hop_9_33 := hop_9_30.ext e30_33
    have e0_33 := e0_32.then0 e33
    exact ⟨_, (show 2 - (j + 1) < 2 - j by omega), j + 1, rfl, rfl, by omega, hI_33, hJ_33, hop_9_33, e0_33⟩
  · exact ⟨rfl, e0_19⟩
end Go.Proofs.Ytlnomdjmjeabhaa
