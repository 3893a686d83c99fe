/-
  Package dedup: the document's Do and Seen (printed by walks/xdo.py).
-/
import Derived.Test.YtlnomdjmjeabhaaDupI
namespace Go.Proofs.Ytlnomdjmjeabhaa
open Go.RowKit
set_option maxRecDepth 100000

theorem seg1 {α : Type} {r : Rec α} {w : World} {b : Nat} {t : TypeId} {x : α} (h : Bk w b (r.f x) t) : Seg w (some ⟨b, 0, none⟩) 1 r.k (r.cells [x]) := Seg.of_bk h (by rw [Rec.cells_one]; simp) (by rw [Rec.cells_one, Rec.len]; simp)
theorem delP_take {m : List Pr} {k : ByteArray} {j : Nat} (h : j < m.length) : delP (m.take (j + 1)) k = if decide ((m[j]).1 = k) = true then delP (m.take j) k else delP (m.take j) k ++ [m[j]] := by
  unfold delP
  rw [List.take_succ_eq_append_getElem h, List.filter_append]
  by_cases hk : (m[j]).1 = k
  · simp [hk]
  · simp [hk]
theorem delP_len (m : List Pr) (k : ByteArray) : (delP m k).length ≤ m.length := List.length_filter_le _ _

set_option maxHeartbeats 1000000 in
theorem xDo_spec (s : Sl) (m : List Pr) (o : Wo) (w : World) (h : InR prR w s m) (hk : 0 ≤ o.kind ∧ o.kind ≤ 255) (hb : m.length ≤ 10000000) : Calls Try.prog 17 #[.slice s.base s.len s.cap, .agg #[.int .u8 o.kind, .string o.key, .string o.value, .string o.old, .bool o.had]] w fun e w' => ∃ s' : Sl,
      e = .returned (.tuple #[.slice s'.base s'.len s'.cap, .agg #[.int .u8 (doO m o).2.1.1, .bool (doO m o).2.1.2.1, .string (doO m o).2.1.2.2], .int .i64 (doO m o).2.2]) ∧ OwnR prR 36 w w' s' (doO m o).1 ∧ Ext [] w w' := by
  refine sh_butteryref09_Do_ok _ _ _ _ _ _ _ _ ?_
  unfold sh_butteryref09_Do
  have hl := h.len
  refine VNw.i fun op_3 w1 hb1 hk1 e1 => ?_
  have hk1 : Bk w1 op_3 [.int .u8 o.kind, .string o.key, .string o.value, .string o.old, .bool o.had] 24 := hk1
  have z1 := e1.size
  have l1 := hk1.lt
  refine VNw.i fun b5 w2 hb2 hk2 e2 => ?_
  have hk2 : Bk w2 b5 [.int .u8 0, .bool false, .string ByteArray.empty] 31 := hk2
  have z2 := e2.size
  have l2 := hk2.lt
  have hop_3_2 := hk1.ext e2
  refine ⟨o.kind, o.key, o.value, o.old, o.had, gd.i (Rd.of_bk hop_3_2 rfl), ?_⟩
  refine VCall.i (xCheck_spec o w2 hk) ?_
  rintro e w3 ⟨rfl, e3⟩
  have z3 := e3.size
  refine ⟨(checkO o), rfl, ?_⟩
  refine VSet.i ?_
  refine VIf.mk (fun hc => ?_) (fun hc => ?_)
  · have hc0 : checkO o ≠ 0 := by simpa using hc
    rw [doO_bad hc0]
    have hb5_3 := hk2.ext e3
    refine VSt.bk hb5_3 rfl (by simp) fun w4 hk4 e4 => ?_
    have hk4 : Bk w4 b5 [.int .u8 0, .bool false, .string ByteArray.empty] 31 := hk4
    have z4 := e4.size
    refine VSet.i ?_
    refine ⟨0, false, ByteArray.empty, gd.i (Rd.of_bk hk4 rfl), ?_⟩
    have e0_2 := e1.then0 e2
    have e0_3 := e0_2.then0 e3
    have e0_4 := e0_3.then e4 (fun i hi hlt => by simp at hi; omega)
    exact ⟨⟨none, 0, 0⟩, rfl, OwnR.nil _ _ _ _, e0_4⟩
  · have hc0 : checkO o = 0 := by simpa using hc
    rw [doO_ok hc0]
    have hkk := kinds hc0
    have hop_3_3 := hop_3_2.ext e3
    refine VLd.i1 (t := CT.str) o.key (Rd.of_bk hop_3_3 rfl) ?_
    have e0_2 := e1.then0 e2
    have e0_3 := e0_2.then0 e3
    have h_3 := h.ext0 e0_3
    refine VCall.i (xFind_spec s m o.key w3 h_3) ?_
    rintro e w5 ⟨rfl, hq5⟩
    have e5 : Ext [] w3 w5 := hq5 ▸ Ext.refl _ _
    have z5 := e5.size
    refine ⟨valP m o.key, hasP m o.key, rfl, ?_⟩
    have e0_5 := e0_3.then0 e5
    have h_5 := h_3.ext0 e5
    refine VApp.rec (r := prR) (s := ⟨none, 0, 0⟩) (L := []) (news := m) (OwnR.nil prR 36 w _) e0_5 h_5.1 hl.symm rfl (by simp; omega) (by simp; omega) fun l29 w6 hO e0_6 e6 hb6 => ?_
    rw [List.nil_append] at hO
    have e6 : Ext [] _ _ := e6
    have z6 := e6.size
    have e3_6 := e5.then0 e6
    have hop_3_6 := hop_3_3.ext e3_6
    refine VLd.i1 (t := CT.str) o.key (Rd.of_bk hop_3_6 rfl) ?_
    refine VLd.i1 (t := CT.str) o.value (Rd.of_bk hop_3_6 rfl) ?_
    refine VNw.i fun p_11 w7 hb7 hk7 e7 => ?_
    have hk7 : Bk w7 p_11 [.string ByteArray.empty, .string ByteArray.empty] 36 := hk7
    have z7 := e7.size
    have l7 := hk7.lt
    refine VSt.bk hk7 rfl (by simp) fun w8 hk8 e8 => ?_
    have hk8 : Bk w8 p_11 [.string o.key, .string o.value] 36 := hk8
    have z8 := e8.size
    have e6_8 := e7.then e8 (fun i hi hlt => by simp at hi; omega)
    have hop_3_8 := hop_3_6.ext e6_8
    refine VLd.i1 (t := CT.int .u8) o.kind (Rd.of_bk hop_3_8 rfl) ?_
    refine VIf.mk (fun hc => ?_) (fun hc => ?_)
    · have kk1 : o.kind = 1 := by simpa using hc
      have hMR := do1 (m := m) kk1
      have e2_5 := e3.then0 e5
      have e2_6 := e2_5.then0 e6
      have e2_7 := e2_6.then0 e7
      have e2_8 := e2_7.then e8 (fun i hi hlt => by simp at hi; omega)
      have hb5_8 := hk2.ext e2_8
      refine VSt.bk hb5_8 rfl (by simp) fun w9 hk9 e9 => ?_
      have hk9 : Bk w9 b5 [.int .u8 1, .bool (hasP m o.key), .string (valP m o.key)] 31 := hk9
      have z9 := e9.size
      refine ⟨1, (hasP m o.key), (valP m o.key), gd.i (Rd.of_bk hk9 rfl), ?_⟩
      have e0_6 := e0_5.then0 e6
      have e0_7 := e0_6.then0 e7
      have e0_8 := e0_7.then e8 (fun i hi hlt => by simp at hi; omega)
      have e0_9 := e0_8.then e9 (fun i hi hlt => by simp at hi; omega)
      have hO_9 := OwnR.ext (hO.ext0 e6_8) e9 (notin1 (OwnR.notin (hO.ext0 e6_8) hb5_8 (by decide)))
      rw [hMR.1, hMR.2]
      exact ⟨l29, rfl, hO_9, e0_9⟩
    · have kk1 : ¬ o.kind = 1 := by simpa using hc
      refine VLd.i1 (t := CT.int .u8) o.kind (Rd.of_bk hop_3_8 rfl) ?_
      refine VIf.mk (fun hc => ?_) (fun hc => ?_)
      · have kk2 : o.kind = 2 := by simpa using hc
        have hMR := do2 (m := m) kk2
        refine ⟨o.key, o.value, gd.i (Rd.of_bk hk8 rfl), ?_⟩
        have e5_7 := e6.then0 e7
        have e5_8 := e5_7.then e8 (fun i hi hlt => by simp at hi; omega)
        have h_8 := h_5.ext0 e5_8
        refine VCall.i (xPut_spec s m (o.key, o.value) w8 h_8 hb) ?_
        rintro e w10 ⟨r47, rfl, hOr47, e10⟩
        have z10 := e10.size
        refine ⟨r47, rfl, ?_⟩
        have e2_5 := e3.then0 e5
        have e2_6 := e2_5.then0 e6
        have e2_7 := e2_6.then0 e7
        have e2_8 := e2_7.then e8 (fun i hi hlt => by simp at hi; omega)
        have e2_10 := e2_8.then0 e10
        have hb5_10 := hk2.ext e2_10
        refine VSt.bk hb5_10 rfl (by simp) fun w11 hk11 e11 => ?_
        have hk11 : Bk w11 b5 [.int .u8 1, .bool false, .string ByteArray.empty] 31 := hk11
        have z11 := e11.size
        refine ⟨1, false, ByteArray.empty, gd.i (Rd.of_bk hk11 rfl), ?_⟩
        have e0_6 := e0_5.then0 e6
        have e0_7 := e0_6.then0 e7
        have e0_8 := e0_7.then e8 (fun i hi hlt => by simp at hi; omega)
        have e0_10 := e0_8.then0 e10
        have e0_11 := e0_10.then e11 (fun i hi hlt => by simp at hi; omega)
        have hOr47_11 := OwnR.ext hOr47 e11 (notin1 (OwnR.notin hOr47 hb5_10 (by decide)))
        rw [hMR.1, hMR.2]
        exact ⟨r47, rfl, hOr47_11.mono (by omega), e0_11⟩
      · have kk2 : ¬ o.kind = 2 := by simpa using hc
        refine VLd.i1 (t := CT.int .u8) o.kind (Rd.of_bk hop_3_8 rfl) ?_
        refine VIf.mk (fun hc => ?_) (fun hc => ?_)
        · have kk4 : o.kind = 4 := by simpa using hc
          refine VLd.i1 (t := CT.bool) o.had (Rd.of_bk hop_3_8 rfl) ?_
          refine VLd.i1 (t := CT.str) o.old (Rd.of_bk hop_3_8 rfl) ?_
          refine VLd.i1 (t := CT.bool) o.had (Rd.of_bk hop_3_8 rfl) ?_
          refine VIf.mk (fun hc => ?_) (fun hc => ?_)
          · have hf : fits m o = true := by unfold fits; rw [ba_beq] at hc; cases h1 : hasP m o.key <;> cases h2 : o.had <;> rw [h1, h2] at hc <;> simp_all
            have hMR := do4t (m := m) kk4 hf
            refine ⟨o.key, o.value, gd.i (Rd.of_bk hk8 rfl), ?_⟩
            have e5_7 := e6.then0 e7
            have e5_8 := e5_7.then e8 (fun i hi hlt => by simp at hi; omega)
            have h_8 := h_5.ext0 e5_8
            refine VCall.i (xPut_spec s m (o.key, o.value) w8 h_8 hb) ?_
            rintro e w12 ⟨r74, rfl, hOr74, e12⟩
            have z12 := e12.size
            refine ⟨r74, rfl, ?_⟩
            have e2_5 := e3.then0 e5
            have e2_6 := e2_5.then0 e6
            have e2_7 := e2_6.then0 e7
            have e2_8 := e2_7.then e8 (fun i hi hlt => by simp at hi; omega)
            have e2_12 := e2_8.then0 e12
            have hb5_12 := hk2.ext e2_12
            refine VSt.bk hb5_12 rfl (by simp) fun w13 hk13 e13 => ?_
            have hk13 : Bk w13 b5 [.int .u8 1, .bool true, .string ByteArray.empty] 31 := hk13
            have z13 := e13.size
            refine ⟨1, true, ByteArray.empty, gd.i (Rd.of_bk hk13 rfl), ?_⟩
            have e0_6 := e0_5.then0 e6
            have e0_7 := e0_6.then0 e7
            have e0_8 := e0_7.then e8 (fun i hi hlt => by simp at hi; omega)
            have e0_12 := e0_8.then0 e12
            have e0_13 := e0_12.then e13 (fun i hi hlt => by simp at hi; omega)
            have hOr74_13 := OwnR.ext hOr74 e13 (notin1 (OwnR.notin hOr74 hb5_12 (by decide)))
            rw [hMR.1, hMR.2]
            exact ⟨r74, rfl, hOr74_13.mono (by omega), e0_13⟩
          · have hf : fits m o = false := by unfold fits; rw [ba_beq] at hc; cases h1 : hasP m o.key <;> cases h2 : o.had <;> rw [h1, h2] at hc <;> simp_all
            have hMR := do4f (m := m) kk4 hf
            have e2_5 := e3.then0 e5
            have e2_6 := e2_5.then0 e6
            have e2_7 := e2_6.then0 e7
            have e2_8 := e2_7.then e8 (fun i hi hlt => by simp at hi; omega)
            have hb5_8 := hk2.ext e2_8
            refine VSt.bk hb5_8 rfl (by simp) fun w14 hk14 e14 => ?_
            have hk14 : Bk w14 b5 [.int .u8 1, .bool false, .string ByteArray.empty] 31 := hk14
            have z14 := e14.size
            refine ⟨1, false, ByteArray.empty, gd.i (Rd.of_bk hk14 rfl), ?_⟩
            have e0_6 := e0_5.then0 e6
            have e0_7 := e0_6.then0 e7
            have e0_8 := e0_7.then e8 (fun i hi hlt => by simp at hi; omega)
            have e0_14 := e0_8.then e14 (fun i hi hlt => by simp at hi; omega)
            have hO_14 := OwnR.ext (hO.ext0 e6_8) e14 (notin1 (OwnR.notin (hO.ext0 e6_8) hb5_8 (by decide)))
            rw [hMR.1, hMR.2]
            exact ⟨l29, rfl, hO_14, e0_14⟩
        · have kk4 : ¬ o.kind = 4 := by simpa using hc
          have hMR := do3 (m := m) (o := o) (by omega)
          have e2_5 := e3.then0 e5
          have e2_6 := e2_5.then0 e6
          have e2_7 := e2_6.then0 e7
          have e2_8 := e2_7.then e8 (fun i hi hlt => by simp at hi; omega)
          have hb5_8 := hk2.ext e2_8
          have e0_6 := e0_5.then0 e6
          have e0_7 := e0_6.then0 e7
          have e0_8 := e0_7.then e8 (fun i hi hlt => by simp at hi; omega)
          refine ⟨fun kk left_12 i_13 W => ∃ j : Nat, kk = m.length - j ∧ i_13 = (j : Int) ∧ j ≤ m.length ∧ OwnR prR 36 w W left_12 (delP (m.take j) o.key) ∧ Bk W b5 [.int .u8 0, .bool false, .string ByteArray.empty] 31 ∧ Bk W op_3 [.int .u8 o.kind, .string o.key, .string o.value, .string o.old, .bool o.had] 24 ∧ Ext [] w W, ⟨_, 0, rfl, rfl, by omega, OwnR.nil _ _ _ _, hb5_8, hop_3_8, e0_8⟩, ?_⟩
          rintro kk left_12 i_13 w15 ⟨j, rfl, rfl, hj, hL, gb5_15, gop_3_15, e0_15⟩
          have z15 := e0_15.size
          have lgb5_15 := gb5_15.lt
          have lgop_3_15 := gop_3_15.lt
          refine VIf.mk (fun hc => ?_) (fun hc => ?_)
          · have hj2 : j < m.length := by rw [hl] at hc; simp at hc; omega
            have hdl := delP_len (m.take j) o.key
            rw [List.length_take] at hdl
            refine ⟨fun left_12' W => OwnR prR 36 w W left_12' (delP (m.take (j + 1)) o.key) ∧ Bk W b5 [.int .u8 0, .bool false, .string ByteArray.empty] 31 ∧ Bk W op_3 [.int .u8 o.kind, .string o.key, .string o.value, .string o.old, .bool o.had] 24 ∧ Ext [] w W, ?_, ?_⟩
            · intro w16 hw16
              have e16 := Ext.drew' hw16
              have z16 := e16.size
              have e0_16 := e0_15.then0 e16
              have h_16 := h.ext0 e0_16
              refine VIx.rd (r := prR) h_16.1 (hj2) fun a86 hr_a86 => ?_
              refine VLd.i1 (t := CT.str) ((m[j]).1) (hr_a86.fld0 rfl) ?_
              have hop_3_16 := gop_3_15.ext e16
              refine VLd.i1 (t := CT.str) o.key (Rd.of_bk hop_3_16 rfl) ?_
              refine VIf.mk (fun hc => ?_) (fun hc => ?_)
              · have hne : ¬ decide ((m[j]).1 = o.key) = true := by rw [ba_beq] at hc; simpa using hc
                refine VIx.rd (r := prR) h_16.1 (hj2) fun a95 hr_a95 => ?_
                refine ⟨(m[j]).1, (m[j]).2, gd.i (hr_a95), ?_⟩
                refine VNw.i fun b97 w17 hb17 hk17 e17 => ?_
                have hk17 : Bk w17 b97 [.string (m[j]).1, .string (m[j]).2] 36 := hk17
                have z17 := e17.size
                have l17 := hk17.lt
                have e15_17 := e16.then0 e17
                have hL_17 := hL.ext0 e15_17
                have e0_17 := e0_16.then0 e17
                have hb5_17 := gb5_15.ext e15_17
                have hop_3_17 := hop_3_16.ext e17
                refine VApp.rec (r := prR) (news := [m[j]]) hL_17 e0_17 (seg1 (x := m[j]) hk17) rfl rfl (by omega) (by omega) fun l98 w18 hN e0_18 e18 hb18 => ?_
                have z18 := e18.size
                have z0_18 := e0_18.size
                have hb5_18 := hb5_17.ext e18 (OwnR.notin hL_17 hb5_17 (by decide))
                have hop_3_18 := hop_3_17.ext e18 (OwnR.notin hL_17 hop_3_17 (by decide))
                exact ⟨(by rw [delP_take hj2, if_neg hne]; exact hN), hb5_18, hop_3_18, e0_18⟩
              · have heq : decide ((m[j]).1 = o.key) = true := by rw [ba_beq] at hc; simpa using hc
                have hL_16 := hL.ext0 e16
                have hb5_16 := gb5_15.ext e16
                exact ⟨(by rw [delP_take hj2, if_pos heq]; exact hL_16), hb5_16, hop_3_16, e0_16⟩
            rintro left_12' w19 ⟨hN, gb5_19, gop_3_19, e0_19⟩
            have z19 := e0_19.size
            have lgb5_19 := gb5_19.lt
            have lgop_3_19 := gop_3_19.lt
            refine VSet.eq (m := (j : Int) + 1) (w64 (by omega)) ?_
            exact ⟨_, (show m.length - (j + 1) < m.length - j by omega), j + 1, rfl, rfl, by omega, hN, gb5_19, gop_3_19, e0_19⟩
          · have hjj : m.take j = m := by rw [hl] at hc; simp at hc; exact List.take_of_length_le (by omega)
            rw [hjj] at hL
            refine VSt.bk gb5_15 rfl (by simp) fun w20 hk20 e20 => ?_
            have hk20 : Bk w20 b5 [.int .u8 1, .bool (hasP m o.key), .string ByteArray.empty] 31 := hk20
            have z20 := e20.size
            refine ⟨1, (hasP m o.key), ByteArray.empty, gd.i (Rd.of_bk hk20 rfl), ?_⟩
            have e0_20 := e0_15.then e20 (fun i hi hlt => by simp at hi; omega)
            have hL_20 := OwnR.ext hL e20 (notin1 (OwnR.notin hL gb5_15 (by decide)))
            rw [hMR.1, hMR.2]
            exact ⟨left_12, rfl, hL_20, e0_20⟩
theorem xSeen_spec (s : Sl) (l : List Ls) (who id : Int) (w : World) (h : InR lsR w s l) : Calls Try.prog 20 #[.slice s.base s.len s.cap, .int .i64 who, .int .i64 id] w fun e w' =>
      e = .returned (.tuple #[.agg #[.int .u8 (seenO l who id).1.1, .bool (seenO l who id).1.2.1, .string (seenO l who id).1.2.2], .int .i64 (seenO l who id).2]) ∧ Ext [] w w' := by
  refine sh_butteryref09_Seen_ok _ _ _ _ _ ?_
  unfold sh_butteryref09_Seen
  have hl := h.len
  have hcap := h.2
  refine VNw.i fun b6 w1 hb1 hk1 e1 => ?_
  have hk1 : Bk w1 b6 [.int .u8 0, .bool false, .string ByteArray.empty] 31 := hk1
  have z1 := e1.size
  have l1 := hk1.lt
  refine ⟨fun kk i_8 W => ∃ j : Nat, kk = l.length - j ∧ i_8 = (j : Int) ∧ j ≤ l.length ∧ (∀ t (ht : t < l.length), t < j → decide (lsK l[t] = who) = false) ∧ Bk W b6 [.int .u8 0, .bool false, .string ByteArray.empty] 31 ∧ Ext [] w W, ⟨_, 0, rfl, rfl, by omega, fun t ht h0 => by omega, hk1, e1⟩, ?_⟩
  rintro kk i_8 w2 ⟨j, rfl, rfl, hj, hno, gb6_2, e0_2⟩
  have z2 := e0_2.size
  have lgb6_2 := gb6_2.lt
  refine VIf.mk (fun hc => ?_) (fun hc => ?_)
  · have hj2 : j < l.length := by rw [hl] at hc; simp at hc; omega
    have h_2 := h.ext0 e0_2
    refine VIx.rd (r := lsR) h_2.1 (hj2) fun a17 hr_a17 => ?_
    refine VLd.i1 (t := CT.int .i64) ((l[j]).1) (hr_a17.fld0 rfl) ?_
    refine VIf.mk (fun hc => ?_) (fun hc => ?_)
    · have hne : decide (lsK l[j] = who) = false := by rw [← int_beq]; simpa [lsK] using hc
      refine VSet.eq (m := (j : Int) + 1) (w64 (by omega)) ?_
      exact ⟨_, (show l.length - (j + 1) < l.length - j by omega), j + 1, rfl, rfl, by omega, (fun t ht hlt => by by_cases htj : t < j; (exact hno t ht htj); (obtain rfl : t = j := by omega); exact hne), gb6_2, e0_2⟩
    · have heq : decide (lsK l[j] = who) = true := by rw [← int_beq]; simpa [lsK] using hc
      obtain ⟨_, hx⟩ := fst1_idx (key := lsK) (k := who) (idxI_at (p := fun y => decide (lsK y = who)) hj2 heq hno)
      refine VIx.rd (r := lsR) h_2.1 (hj2) fun a24 hr_a24 => ?_
      refine VLd.i1 (t := CT.int .i64) ((l[j]).2.1) (hr_a24.fld 1 rfl) ?_
      refine VIf.mk (fun hc => ?_) (fun hc => ?_)
      · have hc1 : (l[j]).2.1 = id := by simpa using hc
        have hs : seenO l who id = ((l[j]).2.2, 0) := by unfold seenO fstL; rw [hx]; simp only; rw [if_neg (by omega), if_neg (by omega)]
        refine VIx.rd (r := lsR) h_2.1 (hj2) fun a31 hr_a31 => ?_
        refine VLd.i3 (t := .int .u8) (u := .bool) (v := .str) (l[j]).2.2.1 (l[j]).2.2.2.1 (l[j]).2.2.2.2 (hr_a31.drop fun q v hv => ?_) ?_
        · have hql := (List.getElem?_eq_some_iff.1 hv).1
          simp only [List.length_cons, List.length_nil] at hql
          match q, hql with
          | 0, _ => exact hv
          | 1, _ => exact hv
          | 2, _ => exact hv
        refine VSt.bk gb6_2 rfl (by simp) fun w3 hk3 e3 => ?_
        have hk3 : Bk w3 b6 [.int .u8 (l[j]).2.2.1, .bool (l[j]).2.2.2.1, .string (l[j]).2.2.2.2] 31 := hk3
        have z3 := e3.size
        refine ⟨(l[j]).2.2.1, (l[j]).2.2.2.1, (l[j]).2.2.2.2, gd.i (Rd.of_bk hk3 rfl), ?_⟩
        have e0_3 := e0_2.then e3 (fun i hi hlt => by simp at hi; omega)
        rw [hs]
        exact ⟨rfl, e0_3⟩
      · have hc1 : ¬ (l[j]).2.1 = id := by simpa using hc
        refine VIx.rd (r := lsR) h_2.1 (hj2) fun a36 hr_a36 => ?_
        refine VLd.i1 (t := CT.int .i64) ((l[j]).2.1) (hr_a36.fld 1 rfl) ?_
        refine VIf.mk (fun hc => ?_) (fun hc => ?_)
        · have hc2 : id < (l[j]).2.1 := by simpa using hc
          have hs : seenO l who id = ((0, false, eB), 6) := by unfold seenO fstL; rw [hx]; simp only; rw [if_neg (by omega), if_pos hc2]
          refine VSt.bk gb6_2 rfl (by simp) fun w4 hk4 e4 => ?_
          have hk4 : Bk w4 b6 [.int .u8 0, .bool false, .string ByteArray.empty] 31 := hk4
          have z4 := e4.size
          refine ⟨0, false, ByteArray.empty, gd.i (Rd.of_bk hk4 rfl), ?_⟩
          have e0_4 := e0_2.then e4 (fun i hi hlt => by simp at hi; omega)
          rw [hs]
          exact ⟨rfl, e0_4⟩
        · have hc2 : ¬ id < (l[j]).2.1 := by simpa using hc
          have hs : seenO l who id = ((0, false, eB), 5) := by unfold seenO fstL; rw [hx]; simp only; rw [if_pos (by omega)]
          refine VSt.bk gb6_2 rfl (by simp) fun w5 hk5 e5 => ?_
          have hk5 : Bk w5 b6 [.int .u8 0, .bool false, .string ByteArray.empty] 31 := hk5
          have z5 := e5.size
          refine ⟨0, false, ByteArray.empty, gd.i (Rd.of_bk hk5 rfl), ?_⟩
          have e0_5 := e0_2.then e5 (fun i hi hlt => by simp at hi; omega)
          rw [hs]
          exact ⟨rfl, e0_5⟩
  · have hjj : j = l.length := by rw [hl] at hc; simp at hc; omega
    have hs : seenO l who id = ((0, false, eB), 5) := by unfold seenO fstL; rw [fst1_idxn (idxI_none (p := fun y => decide (lsK y = who)) (fun t ht => hno t ht (by omega)))]
    refine VSt.bk gb6_2 rfl (by simp) fun w6 hk6 e6 => ?_
    have hk6 : Bk w6 b6 [.int .u8 0, .bool false, .string ByteArray.empty] 31 := hk6
    have z6 := e6.size
    refine ⟨0, false, ByteArray.empty, gd.i (Rd.of_bk hk6 rfl), ?_⟩
    have e0_6 := e0_2.then e6 (fun i hi hlt => by simp at hi; omega)
    rw [hs]
    exact ⟨rfl, e0_6⟩
end Go.Proofs.Ytlnomdjmjeabhaa
