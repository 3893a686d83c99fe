/-
  Package dedup: Do, the program's and the document's (printed by walks/do.py).
-/
import Derived.Test.YtlnomdjmjeabhaaDupH
import Derived.Test.YtlnomdjmjeabhaaWalkA
namespace Go.Proofs.Ytlnomdjmjeabhaa
open Go.RowKit
set_option maxRecDepth 100000

theorem OwnR.notin {α : Type} {r : Rec α} {e t : TypeId} {w0 w : World} {s : Sl} {L : List α} {b : Nat} {cs : List Value} (h : OwnR r e w0 w s L) (hk : Bk w b cs t) (hne : e ≠ t) : b ∉ rowB s := fun hi => by
  obtain ⟨_, hz⟩ := h.1.bk_of hi
  exact hz.neT hk hne rfl
theorem OwnR.ge {α : Type} {r : Rec α} {e : TypeId} {w0 w : World} {s : Sl} {L : List α} (h : OwnR r e w0 w s L) : ∀ b ∈ rowB s, w0.heap.size ≤ b := h.2
theorem notin1 {b : Nat} {l : List Nat} (h : b ∉ l) : ∀ x ∈ l, x ∉ [b] := fun x hx he => h (by simp at he; subst he; exact hx)
theorem ask3_spec (x : Pr) (o : Wo) (b : Nat) (t : TypeId) (w : World) (hb : Bk w b [.int .u8 o.kind, .string o.key, .string o.value, .string o.old, .bool o.had] t) :
    Calls Try.prog 32 #[.agg #[.string x.1, .string x.2], .pointer (some ⟨b, 0, none⟩)] w fun e w' => e = .returned (.bool (decide (prK x = o.key))) ∧ Ext [] w w' := by
  refine sh_dedup_Do_1_ok _ _ _ _ _ ?_
  unfold sh_dedup_Do_1
  refine VNw.i fun b1 w1 hb1 h1 e1 => VLd.i1 (t := .str) x.1 (Rd.of_bk h1 rfl) ?_
  rw [add_blk]
  refine VLd.i1 (t := .str) o.key (Rd.of_bk (hb.ext e1) rfl) ⟨?_, e1⟩
  rw [ba_beq]; rfl
theorem dynDel {o : Wo} {b : Nat} {t : TypeId} {M : List Nat} {w : World} (hb : Bk w b [.int .u8 o.kind, .string o.key, .string o.value, .string o.old, .bool o.had] t) (hm : b ∉ M) :
    DynP M w (.func (.func 32) #[] #[.pointer (some ⟨b, 0, none⟩)]) (fun y => decide (prK y = o.key)) :=
  ⟨_, _, _, rfl, by kernel_rfl, fun x W e => ask3_spec x o b t W (hb.ext e hm)⟩
theorem kinds {o : Wo} (h : checkO o = 0) : 1 ≤ o.kind ∧ o.kind ≤ 4 := by
  unfold checkO at h
  split at h
  · cases h
  · omega
theorem doO_bad {m : List Pr} {o : Wo} (h : checkO o ≠ 0) : doO m o = ([], (0, false, eB), checkO o) := by unfold doO; rw [if_neg h]
theorem doO_ok {m : List Pr} {o : Wo} (h : checkO o = 0) : doO m o = (doM m o, doR m o, 0) := by unfold doO; rw [if_pos h]
section
variable {m : List Pr} {o : Wo}
theorem do1 (h : o.kind = 1) : doM m o = m ∧ doR m o = (1, hasP m o.key, valP m o.key) := by unfold doM doR; rw [if_pos h, if_pos h]; exact ⟨rfl, rfl⟩
theorem do2 (h : o.kind = 2) : doM m o = putP m (o.key, o.value) ∧ doR m o = (1, false, eB) := by unfold doM doR; rw [if_neg (by omega), if_pos h, if_neg (by omega), if_pos h]; exact ⟨rfl, rfl⟩
theorem do3 (h : o.kind = 3) : doM m o = delP m o.key ∧ doR m o = (1, hasP m o.key, eB) := by unfold doM doR; rw [if_neg (by omega), if_neg (by omega), if_pos h, if_neg (by omega), if_neg (by omega), if_pos h]; exact ⟨rfl, rfl⟩
theorem do4t (h : o.kind = 4) (hf : fits m o = true) : doM m o = putP m (o.key, o.value) ∧ doR m o = (1, true, eB) := by unfold doM doR; rw [if_neg (by omega), if_neg (by omega), if_neg (by omega), if_pos hf, if_neg (by omega), if_neg (by omega), if_neg (by omega), if_pos hf]; exact ⟨rfl, rfl⟩
theorem do4f (h : o.kind = 4) (hf : fits m o = false) : doM m o = m ∧ doR m o = (1, false, eB) := by
  have hf : ¬ fits m o = true := by rw [hf]; simp
  unfold doM doR; rw [if_neg (by omega), if_neg (by omega), if_neg (by omega), if_neg hf, if_neg (by omega), if_neg (by omega), if_neg (by omega), if_neg hf]; exact ⟨rfl, rfl⟩
end

set_option maxHeartbeats 1000000 in
theorem Do_spec (s : Sl) (m : List Pr) (o : Wo) (w : World) (h : InR prR w s m) (hk : 0 ≤ o.kind ∧ o.kind ≤ 255) (hb : m.length ≤ 10000000) : Calls Try.prog 16 #[.slice s.base s.len s.cap, .agg #[.int .u8 o.kind, .string o.key, .string o.value, .string o.old, .bool o.had]] w fun e w' => ∃ s' : Sl,
      e = .returned (.tuple #[.slice s'.base s'.len s'.cap, .agg #[.int .u8 (doO m o).2.1.1, .bool (doO m o).2.1.2.1, .string (doO m o).2.1.2.2], .int .i64 (doO m o).2.2]) ∧ OwnR prR 36 w w' s' (doO m o).1 ∧ Ext [] w w' := by
  refine sh_dedup_Do_ok _ _ _ _ _ _ _ _ ?_
  unfold sh_dedup_Do
  have hl := h.len
  refine VNw.i fun op_3 w1 hb1 hk1 e1 => ?_
  have hk1 : Bk w1 op_3 [.int .u8 o.kind, .string o.key, .string o.value, .string o.old, .bool o.had] 24 := hk1
  have z1 := e1.size
  have l1 := hk1.lt
  refine VNw.i fun b5 w2 hb2 hk2 e2 => ?_
  have hk2 : Bk w2 b5 [.int .u8 0, .bool false, .string ByteArray.empty] 31 := hk2
  have z2 := e2.size
  have l2 := hk2.lt
  have hop_3_2 := hk1.ext e2
  refine ⟨o.kind, o.key, o.value, o.old, o.had, gd.i (Rd.of_bk hop_3_2 rfl), ?_⟩
  refine VCall.i (Check_spec o w2 hk) ?_
  rintro e w3 ⟨rfl, e3⟩
  have z3 := e3.size
  refine ⟨(checkO o), rfl, ?_⟩
  refine VSet.i ?_
  refine VIf.mk (fun hc => ?_) (fun hc => ?_)
  · have hc0 : checkO o ≠ 0 := by simpa using hc
    rw [doO_bad hc0]
    have hb5_3 := hk2.ext e3
    refine VSt.bk hb5_3 rfl (by simp) fun w4 hk4 e4 => ?_
    have hk4 : Bk w4 b5 [.int .u8 0, .bool false, .string ByteArray.empty] 31 := hk4
    have z4 := e4.size
    refine VSet.i ?_
    refine ⟨0, false, ByteArray.empty, gd.i (Rd.of_bk hk4 rfl), ?_⟩
    have e0_2 := e1.then0 e2
    have e0_3 := e0_2.then0 e3
    have e0_4 := e0_3.then e4 (fun i hi hlt => by simp at hi; omega)
    exact ⟨⟨none, 0, 0⟩, rfl, OwnR.nil _ _ _ _, e0_4⟩
  · have hc0 : checkO o = 0 := by simpa using hc
    rw [doO_ok hc0]
    have hkk := kinds hc0
    have hop_3_3 := hop_3_2.ext e3
    refine VLd.i1 (t := CT.str) o.key (Rd.of_bk hop_3_3 rfl) ?_
    have e0_2 := e1.then0 e2
    have e0_3 := e0_2.then0 e3
    have h_3 := h.ext0 e0_3
    refine VCall.i (Find_spec s m o.key w3 h_3) ?_
    rintro e w5 ⟨rfl, e5⟩
    have z5 := e5.size
    refine ⟨(valP m o.key), (hasP m o.key), rfl, ?_⟩
    have h_5 := h_3.ext0 e5
    refine VCall.i (CloneP_spec s m w5 h_5 (by omega)) ?_
    rintro e w6 ⟨r26, rfl, hO, e6⟩
    have z6 := e6.size
    refine ⟨r26, rfl, ?_⟩
    refine VNw.i fun r_11 w7 hb7 hk7 e7 => ?_
    have hk7 : Bk w7 r_11 [.int .u8 0, .bool false, .string ByteArray.empty] 31 := hk7
    have z7 := e7.size
    have l7 := hk7.lt
    refine VSt.bk hk7 rfl (by simp) fun w8 hk8 e8 => ?_
    have hk8 : Bk w8 r_11 [.int .u8 1, .bool false, .string ByteArray.empty] 31 := hk8
    have z8 := e8.size
    have e3_6 := e5.then0 e6
    have e3_7 := e3_6.then0 e7
    have e3_8 := e3_7.then e8 (fun i hi hlt => by simp at hi; omega)
    have hop_3_8 := hop_3_3.ext e3_8
    refine VLd.i1 (t := CT.int .u8) o.kind (Rd.of_bk hop_3_8 rfl) ?_
    refine ⟨fun out_10 W => OwnR prR 36 w W out_10 (doM m o) ∧ Bk W r_11 [.int .u8 (doR m o).1, .bool (doR m o).2.1, .string (doR m o).2.2] 31 ∧ Bk W b5 [.int .u8 0, .bool false, .string ByteArray.empty] 31 ∧ Ext [] w W, ?_, ?_⟩
    · refine ⟨fun out_10' W => OwnR prR 36 w W out_10' m ∧ doM m o = putP m (o.key, o.value) ∧ Bk W r_11 [.int .u8 (doR m o).1, .bool (doR m o).2.1, .string (doR m o).2.2] 31 ∧ Bk W b5 [.int .u8 0, .bool false, .string ByteArray.empty] 31 ∧ Bk W op_3 [.int .u8 o.kind, .string o.key, .string o.value, .string o.old, .bool o.had] 24 ∧ Ext [] w W, ?_, ?_⟩
      · refine VIf.mk (fun hc => ?_) (fun hc => ?_)
        · have kk1 : o.kind = 1 := by simpa using hc
          have hMR := do1 (m := m) kk1
          refine VSt.bk hk8 rfl (by simp) fun w9 hk9 e9 => ?_
          have hk9 : Bk w9 r_11 [.int .u8 1, .bool (hasP m o.key), .string ByteArray.empty] 31 := hk9
          have z9 := e9.size
          refine VSt.bk hk9 rfl (by simp) fun w10 hk10 e10 => ?_
          have hk10 : Bk w10 r_11 [.int .u8 1, .bool (hasP m o.key), .string (valP m o.key)] 31 := hk10
          have z10 := e10.size
          have e6_8 := e7.then e8 (fun i hi hlt => by simp at hi; omega)
          have e6_9 := e6_8.then e9 (fun i hi hlt => by simp at hi; omega)
          have e6_10 := e6_9.then e10 (fun i hi hlt => by simp at hi; omega)
          have hO_10 := hO.ext0 e6_10
          have e2_5 := e3.then0 e5
          have e2_6 := e2_5.then0 e6
          have e2_7 := e2_6.then0 e7
          have e2_8 := e2_7.then e8 (fun i hi hlt => by simp at hi; omega)
          have e2_9 := e2_8.then e9 (fun i hi hlt => by simp at hi; omega)
          have e2_10 := e2_9.then e10 (fun i hi hlt => by simp at hi; omega)
          have hb5_10 := hk2.ext e2_10
          have e0_5 := e0_3.then0 e5
          have e0_6 := e0_5.then0 e6
          have e0_7 := e0_6.then0 e7
          have e0_8 := e0_7.then e8 (fun i hi hlt => by simp at hi; omega)
          have e0_9 := e0_8.then e9 (fun i hi hlt => by simp at hi; omega)
          have e0_10 := e0_9.then e10 (fun i hi hlt => by simp at hi; omega)
          exact ⟨(by first | exact (hO_10.mono (by omega)) | (rw [hMR.1]; exact (hO_10.mono (by omega)))), (by first | exact hk10 | (rw [hMR.2]; exact hk10)), hb5_10, e0_10⟩
        · have kk1 : ¬ o.kind = 1 := by simpa using hc
          refine VIf.mk (fun hc => ?_) (fun hc => ?_)
          · have kk3 : o.kind = 3 := by simpa using hc
            have hMR := do3 (m := m) kk3
            refine VSt.bk hk8 rfl (by simp) fun w11 hk11 e11 => ?_
            have hk11 : Bk w11 r_11 [.int .u8 1, .bool (hasP m o.key), .string ByteArray.empty] 31 := hk11
            have z11 := e11.size
            have e0_5 := e0_3.then0 e5
            have e0_6 := e0_5.then0 e6
            have e0_7 := e0_6.then0 e7
            have e0_8 := e0_7.then e8 (fun i hi hlt => by simp at hi; omega)
            have e0_11 := e0_8.then e11 (fun i hi hlt => by simp at hi; omega)
            have e6_8 := e7.then e8 (fun i hi hlt => by simp at hi; omega)
            have e6_11 := e6_8.then e11 (fun i hi hlt => by simp at hi; omega)
            have hO_11 := hO.ext0 e6_11
            have hop_3_11 := hop_3_8.ext e11
            have e2_5 := e3.then0 e5
            have e2_6 := e2_5.then0 e6
            have e2_7 := e2_6.then0 e7
            have e2_8 := e2_7.then e8 (fun i hi hlt => by simp at hi; omega)
            have e2_11 := e2_8.then e11 (fun i hi hlt => by simp at hi; omega)
            have hb5_11 := hk2.ext e2_11
            refine VCall.i (DeleteP_spec r26 m _ (fun y => decide (prK y = o.key)) w w11 (hO_11.mono (by omega)) (dynDel hop_3_11 (OwnR.notin hO_11 hop_3_11 (by decide))) (by omega)) ?_
            rintro e w12 ⟨r46, rfl, hO2, e12, _⟩
            have e0_12 := e0_11.then e12 (fun b hb hlt => absurd hlt (Nat.not_lt.2 (Nat.le_trans (by omega) (hO_11.2 b hb))))
            have z12 := e12.size
            have hr_11_12 := hk11.ext e12 (OwnR.notin hO_11 hk11 (by decide))
            have hb5_12 := hb5_11.ext e12 (OwnR.notin hO_11 hb5_11 (by decide))
            refine ⟨r46, rfl, ?_⟩
            exact ⟨(by first | exact hO2 | (rw [hMR.1]; exact hO2)), (by first | exact hr_11_12 | (rw [hMR.2]; exact hr_11_12)), hb5_12, e0_12⟩
          · have kk3 : ¬ o.kind = 3 := by simpa using hc
            refine VIf.mk (fun hc => ?_) (fun hc => ?_)
            · have kk4 : o.kind = 4 := by simpa using hc
              refine VLd.i1 (t := CT.bool) o.had (Rd.of_bk hop_3_8 rfl) ?_
              refine VLd.i1 (t := CT.str) o.old (Rd.of_bk hop_3_8 rfl) ?_
              refine VIf.mk (fun hc => ?_) (fun hc => ?_)
              · have hf : fits m o = false := by unfold fits; rw [ba_beq] at hc; cases h1 : hasP m o.key <;> cases h2 : o.had <;> rw [h1, h2] at hc <;> simp_all
                have hMR := do4f (m := m) kk4 hf
                have e6_8 := e7.then e8 (fun i hi hlt => by simp at hi; omega)
                have hO_8 := hO.ext0 e6_8
                have e2_5 := e3.then0 e5
                have e2_6 := e2_5.then0 e6
                have e2_7 := e2_6.then0 e7
                have e2_8 := e2_7.then e8 (fun i hi hlt => by simp at hi; omega)
                have hb5_8 := hk2.ext e2_8
                have e0_5 := e0_3.then0 e5
                have e0_6 := e0_5.then0 e6
                have e0_7 := e0_6.then0 e7
                have e0_8 := e0_7.then e8 (fun i hi hlt => by simp at hi; omega)
                exact ⟨(by first | exact (hO_8.mono (by omega)) | (rw [hMR.1]; exact (hO_8.mono (by omega)))), (by first | exact hk8 | (rw [hMR.2]; exact hk8)), hb5_8, e0_8⟩
              · have hf : fits m o = true := by unfold fits; rw [ba_beq] at hc; cases h1 : hasP m o.key <;> cases h2 : o.had <;> rw [h1, h2] at hc <;> simp_all
                have hMR := do4t (m := m) kk4 hf
                refine VSt.bk hk8 rfl (by simp) fun w13 hk13 e13 => ?_
                have hk13 : Bk w13 r_11 [.int .u8 1, .bool true, .string ByteArray.empty] 31 := hk13
                have z13 := e13.size
                have e6_8 := e7.then e8 (fun i hi hlt => by simp at hi; omega)
                have e6_13 := e6_8.then e13 (fun i hi hlt => by simp at hi; omega)
                have hO_13 := hO.ext0 e6_13
                have e2_5 := e3.then0 e5
                have e2_6 := e2_5.then0 e6
                have e2_7 := e2_6.then0 e7
                have e2_8 := e2_7.then e8 (fun i hi hlt => by simp at hi; omega)
                have e2_13 := e2_8.then e13 (fun i hi hlt => by simp at hi; omega)
                have hb5_13 := hk2.ext e2_13
                have hop_3_13 := hop_3_8.ext e13
                have e0_5 := e0_3.then0 e5
                have e0_6 := e0_5.then0 e6
                have e0_7 := e0_6.then0 e7
                have e0_8 := e0_7.then e8 (fun i hi hlt => by simp at hi; omega)
                have e0_13 := e0_8.then e13 (fun i hi hlt => by simp at hi; omega)
                exact ⟨(hO_13.mono (by omega)), hMR.1, (by first | exact hk13 | (rw [hMR.2]; exact hk13)), hb5_13, hop_3_13, e0_13⟩
            · have kk4 : ¬ o.kind = 4 := by simpa using hc
              refine VIf.mk (fun hc => ?_) (fun hc => ?_)
              · have kk2 : o.kind = 2 := by simpa using hc
                have hMR := do2 (m := m) kk2
                have e6_8 := e7.then e8 (fun i hi hlt => by simp at hi; omega)
                have hO_8 := hO.ext0 e6_8
                have e2_5 := e3.then0 e5
                have e2_6 := e2_5.then0 e6
                have e2_7 := e2_6.then0 e7
                have e2_8 := e2_7.then e8 (fun i hi hlt => by simp at hi; omega)
                have hb5_8 := hk2.ext e2_8
                have e0_5 := e0_3.then0 e5
                have e0_6 := e0_5.then0 e6
                have e0_7 := e0_6.then0 e7
                have e0_8 := e0_7.then e8 (fun i hi hlt => by simp at hi; omega)
                exact ⟨(hO_8.mono (by omega)), hMR.1, (by first | exact hk8 | (rw [hMR.2]; exact hk8)), hb5_8, hop_3_8, e0_8⟩
              · have kk2 : ¬ o.kind = 2 := by simpa using hc
                exact absurd (show o.kind = 2 by omega) kk2
      rintro out_10' w14 ⟨hQ, hMp, gr, gb5_14, gop_3_14, e0_14⟩
      have z14 := e0_14.size
      have lgb5_14 := gb5_14.lt
      have lgop_3_14 := gop_3_14.lt
      refine VLd.i1 (t := CT.str) o.key (Rd.of_bk gop_3_14 rfl) ?_
      refine VLd.i1 (t := CT.str) o.value (Rd.of_bk gop_3_14 rfl) ?_
      refine VCall.i (putP_spec out_10' m (o.key, o.value) w14 hQ.in_ (by omega)) ?_
      rintro e w15 ⟨r67, rfl, hO3, e15⟩
      have z15 := e15.size
      refine ⟨r67, rfl, ?_⟩
      have hMR : doM m o = putL prK gtB m (o.key, o.value) ∧ doR m o = doR m o := ⟨hMp, rfl⟩
      have hr_11_15 := gr.ext e15
      have hb5_15 := gb5_14.ext e15
      have e0_15 := e0_14.then0 e15
      exact ⟨(by first | exact (hO3.mono (by omega)) | (rw [hMR.1]; exact (hO3.mono (by omega)))), (by first | exact hr_11_15 | (rw [hMR.2]; exact hr_11_15)), hb5_15, e0_15⟩
    rintro out_10 w16 ⟨hD, gr, gb5_16, e0_16⟩
    have z16 := e0_16.size
    have lgb5_16 := gb5_16.lt
    intro w17 hw17
    have e17 := Ext.drew' hw17
    have z17 := e17.size
    have hr_11_17 := gr.ext e17
    refine ⟨(doR m o).1, (doR m o).2.1, (doR m o).2.2, gd.i (Rd.of_bk hr_11_17 rfl), ?_⟩
    have hb5_17 := gb5_16.ext e17
    refine VSt.bk hb5_17 rfl (by simp) fun w18 hk18 e18 => ?_
    have hk18 : Bk w18 b5 [.int .u8 (doR m o).1, .bool (doR m o).2.1, .string (doR m o).2.2] 31 := hk18
    have z18 := e18.size
    refine ⟨(doR m o).1, (doR m o).2.1, (doR m o).2.2, gd.i (Rd.of_bk hk18 rfl), ?_⟩
    have e0_17 := e0_16.then0 e17
    have e0_18 := e0_17.then e18 (fun i hi hlt => by simp at hi; omega)
    have hD_18 := OwnR.ext (hD.ext0 e17) e18 (notin1 (OwnR.notin (hD.ext0 e17) hb5_17 (by decide)))
    exact ⟨out_10, rfl, hD_18, e0_18⟩
end Go.Proofs.Ytlnomdjmjeabhaa
