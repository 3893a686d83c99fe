/-
  Package dedup: Step, the program's and the document's (printed by walks/step.py).
-/
import Derived.Test.YtlnomdjmjeabhaaDupJ
namespace Go.Proofs.Ytlnomdjmjeabhaa
open Go.RowKit
set_option maxRecDepth 100000

theorem OwnR.made {α : Type} {r : Rec α} {e : TypeId} {w W : World} {b : Nat} (hk : Bk W b [] e) (hb : w.heap.size ≤ b) : OwnR r e w W ⟨some ⟨b, 0, none⟩, 0, 0⟩ [] := ⟨Row.of_bk hk (by simp [Rec.cells]) (by omega), by simp [rowB]; omega⟩
theorem OwnR.notinT {α β : Type} {r : Rec α} {q : Rec β} {e t : TypeId} {w0 w1 w : World} {s s' : Sl} {L : List α} {M : List β} (h : OwnR r e w0 w s L) (h' : OwnR q t w1 w s' M) (hne : e ≠ t) : ∀ b ∈ rowB s', b ∉ rowB s := fun b hb' hi => by
  obtain ⟨_, hz⟩ := h.1.bk_of hi
  obtain ⟨_, hz'⟩ := h'.1.bk_of hb'
  exact hz.neT hz' hne rfl
theorem seen_err (l : List Ls) (who id : Int) : (seenO l who id).2 = 0 ∨ (seenO l who id).2 = 5 ∨ (seenO l who id).2 = 6 := by
  unfold seenO
  split
  · right; left; rfl
  · split
    · right; left; rfl
    · split
      · right; right; rfl
      · left; rfl
section
variable {m : List Pr} {l : List Ls} {who id : Int} {o : Wo}
theorem step_bad (h : checkO o ≠ 0) : stepO m l who id o = ([], [], (0, false, eB), checkO o) := by unfold stepO; rw [if_pos h]
theorem step_get (h : checkO o = 0) (hk : o.kind = 1) : stepO m l who id o = ([], [], (0, false, eB), 1) := by unfold stepO; rw [if_neg (by omega), if_pos hk]
theorem step_old (h : checkO o = 0) (hk : ¬ o.kind = 1) (hs : (seenO l who id).2 = 0) : stepO m l who id o = (m, l, (seenO l who id).1, 0) := by unfold stepO; rw [if_neg (by omega), if_neg hk, if_pos hs]
theorem step_late (h : checkO o = 0) (hk : ¬ o.kind = 1) (hs : (seenO l who id).2 = 6) : stepO m l who id o = ([], [], (0, false, eB), 6) := by unfold stepO; rw [if_neg (by omega), if_neg hk, if_neg (by omega), if_pos hs]
theorem step_new (h : checkO o = 0) (hk : ¬ o.kind = 1) (h0 : ¬ (seenO l who id).2 = 0) (h6 : ¬ (seenO l who id).2 = 6) : stepO m l who id o = (doM m o, putN l (who, id, doR m o), doR m o, 0) := by unfold stepO; rw [if_neg (by omega), if_neg hk, if_neg h0, if_neg h6]
end

theorem DoOk_spec (s : Sl) (m : List Pr) (o : Wo) (w : World) (h : InR prR w s m) (hk : 0 ≤ o.kind ∧ o.kind ≤ 255) (hb : m.length ≤ 10000000) (hc : checkO o = 0) : Calls Try.prog 16 #[.slice s.base s.len s.cap, .agg #[.int .u8 o.kind, .string o.key, .string o.value, .string o.old, .bool o.had]] w fun e w' => ∃ s' : Sl,
      e = .returned (.tuple #[.slice s'.base s'.len s'.cap, .agg #[.int .u8 (doR m o).1, .bool (doR m o).2.1, .string (doR m o).2.2], .int .i64 0]) ∧ OwnR prR 36 w w' s' (doM m o) ∧ Ext [] w w' := by
  have := Do_spec s m o w h hk hb
  rw [doO_ok hc] at this
  exact this

theorem xDoOk_spec (s : Sl) (m : List Pr) (o : Wo) (w : World) (h : InR prR w s m) (hk : 0 ≤ o.kind ∧ o.kind ≤ 255) (hb : m.length ≤ 10000000) (hc : checkO o = 0) : Calls Try.prog 17 #[.slice s.base s.len s.cap, .agg #[.int .u8 o.kind, .string o.key, .string o.value, .string o.old, .bool o.had]] w fun e w' => ∃ s' : Sl,
      e = .returned (.tuple #[.slice s'.base s'.len s'.cap, .agg #[.int .u8 (doR m o).1, .bool (doR m o).2.1, .string (doR m o).2.2], .int .i64 0]) ∧ OwnR prR 36 w w' s' (doM m o) ∧ Ext [] w w' := by
  have := xDo_spec s m o w h hk hb
  rw [doO_ok hc] at this
  exact this

set_option maxHeartbeats 1000000 in
theorem Step_spec (s q : Sl) (m : List Pr) (l : List Ls) (who id : Int) (o : Wo) (w : World) (h : InR prR w s m) (hq : InR lsR w q l) (hk : 0 ≤ o.kind ∧ o.kind ≤ 255) (hb : m.length ≤ 10000000) (hlb : l.length ≤ 10000000) : Calls Try.prog 24 #[.slice s.base s.len s.cap, .slice q.base q.len q.cap, .int .i64 who, .int .i64 id, .agg #[.int .u8 o.kind, .string o.key, .string o.value, .string o.old, .bool o.had]] w fun e w' => ∃ a p : Sl,
      e = .returned (.tuple #[.slice a.base a.len a.cap, .slice p.base p.len p.cap, .agg #[.int .u8 (stepO m l who id o).2.2.1.1, .bool (stepO m l who id o).2.2.1.2.1, .string (stepO m l who id o).2.2.1.2.2], .int .i64 (stepO m l who id o).2.2.2]) ∧
      OwnR prR 36 w w' a (stepO m l who id o).1 ∧ OwnR lsR 42 w w' p (stepO m l who id o).2.1 ∧ Ext [] w w' := by
  refine sh_dedup_Step_ok _ _ _ _ _ _ _ _ _ _ _ ?_
  unfold sh_dedup_Step
  have hml := h.len
  have hll := hq.len
  refine VNw.i fun op_9 w1 hb1 hk1 e1 => ?_
  have hk1 : Bk w1 op_9 [.int .u8 o.kind, .string o.key, .string o.value, .string o.old, .bool o.had] 24 := hk1
  have z1 := e1.size
  have l1 := hk1.lt
  refine VNw.i fun b12 w2 hb2 hk2 e2 => ?_
  have hk2 : Bk w2 b12 [.int .u8 0, .bool false, .string ByteArray.empty] 31 := hk2
  have z2 := e2.size
  have l2 := hk2.lt
  have hop_9_2 := hk1.ext e2
  refine ⟨o.kind, o.key, o.value, o.old, o.had, gd.i (Rd.of_bk hop_9_2 rfl), ?_⟩
  refine VCall.i (Check_spec o w2 hk) ?_
  rintro e w3 ⟨rfl, e3⟩
  have z3 := e3.size
  refine ⟨(checkO o), rfl, ?_⟩
  refine VSet.i ?_
  refine ⟨fun e_14' W => e_14' = (if checkO o = 0 ∧ o.kind = 1 then (1 : Int) else checkO o) ∧ Bk W b12 [.int .u8 0, .bool false, .string ByteArray.empty] 31 ∧ Bk W op_9 [.int .u8 o.kind, .string o.key, .string o.value, .string o.old, .bool o.had] 24 ∧ Ext [] w W, ?_, ?_⟩
  · have hop_9_3 := hop_9_2.ext e3
    refine VLd.i1 (t := CT.int .u8) o.kind (Rd.of_bk hop_9_3 rfl) ?_
    refine VIf.mk (fun hc => ?_) (fun hc => ?_)
    · have hE : (1 : Int) = (if checkO o = 0 ∧ o.kind = 1 then (1 : Int) else checkO o) := by simp at hc; rw [if_pos hc]
      have hb12_3 := hk2.ext e3
      have e0_2 := e1.then0 e2
      have e0_3 := e0_2.then0 e3
      exact ⟨hE, hb12_3, hop_9_3, e0_3⟩
    · have hE : checkO o = (if checkO o = 0 ∧ o.kind = 1 then (1 : Int) else checkO o) := by rw [if_neg (fun hh => by rw [hh.1, hh.2] at hc; simp at hc)]
      have hb12_3 := hk2.ext e3
      have e0_2 := e1.then0 e2
      have e0_3 := e0_2.then0 e3
      exact ⟨hE, hb12_3, hop_9_3, e0_3⟩
  rintro e_14' w4 ⟨rfl, gb12_4, gop_9_4, e0_4⟩
  have z4 := e0_4.size
  have lgb12_4 := gb12_4.lt
  have lgop_9_4 := gop_9_4.lt
  refine VIf.mk (fun hc => ?_) (fun hc => ?_)
  · have hs : stepO m l who id o = ([], [], (0, false, eB), (if checkO o = 0 ∧ o.kind = 1 then (1 : Int) else checkO o)) := by
      by_cases hh : checkO o = 0 ∧ o.kind = 1
      · rw [if_pos hh]; exact step_get hh.1 hh.2
      · rw [if_neg hh]
        rw [if_neg hh] at hc
        exact step_bad (by simpa using hc)
    refine VSt.bk gb12_4 rfl (by simp) fun w5 hk5 e5 => ?_
    have hk5 : Bk w5 b12 [.int .u8 0, .bool false, .string ByteArray.empty] 31 := hk5
    have z5 := e5.size
    refine VSet.i ?_
    refine ⟨0, false, ByteArray.empty, gd.i (Rd.of_bk hk5 rfl), ?_⟩
    have e0_5 := e0_4.then e5 (fun i hi hlt => by simp at hi; omega)
    rw [hs]
    exact ⟨⟨none, 0, 0⟩, ⟨none, 0, 0⟩, rfl, OwnR.nil _ _ _ _, OwnR.nil _ _ _ _, e0_5⟩
  · have hgood : checkO o = 0 ∧ ¬ o.kind = 1 := by
      by_cases hh : checkO o = 0 ∧ o.kind = 1
      · rw [if_pos hh] at hc; simp at hc
      · rw [if_neg hh] at hc
        have hc0 : checkO o = 0 := by simpa using hc
        exact ⟨hc0, fun hk1 => hh ⟨hc0, hk1⟩⟩
    obtain ⟨hc0, hk1⟩ := hgood
    have hq_4 := hq.ext0 e0_4
    refine VCall.i (Seen_spec q l who id w4 hq_4) ?_
    rintro e w6 ⟨rfl, e6⟩
    have z6 := e6.size
    refine ⟨(seenO l who id).1.1, (seenO l who id).1.2.1, (seenO l who id).1.2.2, (seenO l who id).2, rfl, ?_⟩
    refine VNw.i fun r_15 w7 hb7 hk7 e7 => ?_
    have hk7 : Bk w7 r_15 [.int .u8 0, .bool false, .string ByteArray.empty] 31 := hk7
    have z7 := e7.size
    have l7 := hk7.lt
    refine VSt.bk hk7 rfl (by simp) fun w8 hk8 e8 => ?_
    have hk8 : Bk w8 r_15 [.int .u8 (seenO l who id).1.1, .bool (seenO l who id).1.2.1, .string (seenO l who id).1.2.2] 31 := hk8
    have z8 := e8.size
    refine VSet.i ?_
    refine VIf.mk (fun hc => ?_) (fun hc => ?_)
    · have h0 : (seenO l who id).2 = 0 := by simpa using hc
      have hs := step_old (m := m) hc0 hk1 h0
      intro w9 hw9
      have e9 := Ext.drew' hw9
      have z9 := e9.size
      have hr_15_9 := hk8.ext e9
      refine ⟨(seenO l who id).1.1, (seenO l who id).1.2.1, (seenO l who id).1.2.2, gd.i (Rd.of_bk hr_15_9 rfl), ?_⟩
      have e0_6 := e0_4.then0 e6
      have e0_7 := e0_6.then0 e7
      have e0_8 := e0_7.then e8 (fun i hi hlt => by simp at hi; omega)
      have e0_9 := e0_8.then0 e9
      have h_9 := h.ext0 e0_9
      refine VCall.i (CloneP_spec s m w9 h_9 (by omega)) ?_
      rintro e w10 ⟨ra, rfl, hA, e10⟩
      have z10 := e10.size
      refine ⟨ra, rfl, ?_⟩
      have hr_15_10 := hr_15_9.ext e10
      refine ⟨Rd.of_bk hr_15_10 rfl, ?_⟩
      have e4_7 := e6.then0 e7
      have e4_8 := e4_7.then e8 (fun i hi hlt => by simp at hi; omega)
      have e4_9 := e4_8.then0 e9
      have e4_10 := e4_9.then0 e10
      have hq_10 := hq_4.ext0 e4_10
      refine VCall.i (CloneL_spec q l w10 hq_10 (by omega)) ?_
      rintro e w11 ⟨rp, rfl, hP, e11⟩
      have z11 := e11.size
      refine ⟨rp, rfl, ?_⟩
      have hr_15_11 := hr_15_10.ext e11
      refine ⟨Rd.of_bk hr_15_11 rfl, ?_⟩
      have e4_11 := e4_10.then0 e11
      have hb12_11 := gb12_4.ext e4_11
      refine VSt.bk hb12_11 rfl (by simp) fun w12 hk12 e12 => ?_
      have hk12 : Bk w12 b12 [.int .u8 (seenO l who id).1.1, .bool (seenO l who id).1.2.1, .string (seenO l who id).1.2.2] 31 := hk12
      have z12 := e12.size
      refine ⟨(seenO l who id).1.1, (seenO l who id).1.2.1, (seenO l who id).1.2.2, gd.i (Rd.of_bk hk12 rfl), ?_⟩
      have e0_10 := e0_9.then0 e10
      have e0_11 := e0_10.then0 e11
      have e0_12 := e0_11.then e12 (fun i hi hlt => by simp at hi; omega)
      have hA_12 := OwnR.ext (hA.ext0 e11) e12 (notin1 (OwnR.notin (hA.ext0 e11) hb12_11 (by decide)))
      have hP_12 := OwnR.ext hP e12 (notin1 (OwnR.notin hP hb12_11 (by decide)))
      rw [hs]
      exact ⟨ra, rp, rfl, hA_12.mono (by omega), hP_12.mono (by omega), e0_12⟩
    · have h0 : ¬ (seenO l who id).2 = 0 := by simpa using hc
      refine VIf.mk (fun hc => ?_) (fun hc => ?_)
      · have h6 : (seenO l who id).2 = 6 := by simpa using hc
        have hs := step_late (m := m) hc0 hk1 h6
        have e4_7 := e6.then0 e7
        have e4_8 := e4_7.then e8 (fun i hi hlt => by simp at hi; omega)
        have hb12_8 := gb12_4.ext e4_8
        refine VSt.bk hb12_8 rfl (by simp) fun w13 hk13 e13 => ?_
        have hk13 : Bk w13 b12 [.int .u8 0, .bool false, .string ByteArray.empty] 31 := hk13
        have z13 := e13.size
        refine VSet.i ?_
        refine ⟨0, false, ByteArray.empty, gd.i (Rd.of_bk hk13 rfl), ?_⟩
        have e0_6 := e0_4.then0 e6
        have e0_7 := e0_6.then0 e7
        have e0_8 := e0_7.then e8 (fun i hi hlt => by simp at hi; omega)
        have e0_13 := e0_8.then e13 (fun i hi hlt => by simp at hi; omega)
        rw [hs]
        rw [h6]
        exact ⟨⟨none, 0, 0⟩, ⟨none, 0, 0⟩, rfl, OwnR.nil _ _ _ _, OwnR.nil _ _ _ _, e0_13⟩
      · have h6 : ¬ (seenO l who id).2 = 6 := by simpa using hc
        have hs := step_new (m := m) hc0 hk1 h0 h6
        have e4_7 := e6.then0 e7
        have e4_8 := e4_7.then e8 (fun i hi hlt => by simp at hi; omega)
        have hop_9_8 := gop_9_4.ext e4_8
        refine ⟨o.kind, o.key, o.value, o.old, o.had, gd.i (Rd.of_bk hop_9_8 rfl), ?_⟩
        have e0_6 := e0_4.then0 e6
        have e0_7 := e0_6.then0 e7
        have e0_8 := e0_7.then e8 (fun i hi hlt => by simp at hi; omega)
        have h_8 := h.ext0 e0_8
        refine VCall.i (DoOk_spec s m o w8 h_8 hk hb hc0) ?_
        rintro e w14 ⟨ra, rfl, hA, e14⟩
        have z14 := e14.size
        refine ⟨ra, (doR m o).1, (doR m o).2.1, (doR m o).2.2, (0 : Int), rfl, ?_⟩
        have hr_15_14 := hk8.ext e14
        refine VSt.bk hr_15_14 rfl (by simp) fun w15 hk15 e15 => ?_
        have hk15 : Bk w15 r_15 [.int .u8 (doR m o).1, .bool (doR m o).2.1, .string (doR m o).2.2] 31 := hk15
        have z15 := e15.size
        refine VSet.i ?_
        intro w16 hw16
        have e16 := Ext.drew' hw16
        have z16 := e16.size
        have hr_15_16 := hk15.ext e16
        refine ⟨(doR m o).1, (doR m o).2.1, (doR m o).2.2, gd.i (Rd.of_bk hr_15_16 rfl), ?_⟩
        refine ⟨(doR m o).1, (doR m o).2.1, (doR m o).2.2, gd.i (Rd.of_bk hr_15_16 rfl), ?_⟩
        have e4_14 := e4_8.then0 e14
        have e4_15 := e4_14.then e15 (fun i hi hlt => by simp at hi; omega)
        have e4_16 := e4_15.then0 e16
        have hq_16 := hq_4.ext0 e4_16
        refine VCall.i (Note_spec q l (who, id, doR m o) w16 hq_16 hlb) ?_
        rintro e w17 ⟨rp, rfl, hP, e17⟩
        have z17 := e17.size
        refine ⟨rp, rfl, ?_⟩
        have hr_15_17 := hr_15_16.ext e17
        refine ⟨Rd.of_bk hr_15_17 rfl, ?_⟩
        have e4_17 := e4_16.then0 e17
        have hb12_17 := gb12_4.ext e4_17
        refine VSt.bk hb12_17 rfl (by simp) fun w18 hk18 e18 => ?_
        have hk18 : Bk w18 b12 [.int .u8 (doR m o).1, .bool (doR m o).2.1, .string (doR m o).2.2] 31 := hk18
        have z18 := e18.size
        refine VSet.i ?_
        refine ⟨(doR m o).1, (doR m o).2.1, (doR m o).2.2, gd.i (Rd.of_bk hk18 rfl), ?_⟩
        have e0_14 := e0_8.then0 e14
        have e0_15 := e0_14.then e15 (fun i hi hlt => by simp at hi; omega)
        have e0_16 := e0_15.then0 e16
        have e0_17 := e0_16.then0 e17
        have e0_18 := e0_17.then e18 (fun i hi hlt => by simp at hi; omega)
        have hA_15 := OwnR.ext hA e15 (notin1 (OwnR.notin hA hr_15_14 (by decide)))
        have e15_17 := e16.then0 e17
        have hA_18 := OwnR.ext (hA_15.ext0 e15_17) e18 (notin1 (OwnR.notin (hA_15.ext0 e15_17) hb12_17 (by decide)))
        have hP_18 := OwnR.ext hP e18 (notin1 (OwnR.notin hP hb12_17 (by decide)))
        rw [hs]
        exact ⟨ra, rp, rfl, hA_18.mono (by omega), hP_18.mono (by omega), e0_18⟩
set_option maxHeartbeats 1000000 in
theorem xStep_spec (s q : Sl) (m : List Pr) (l : List Ls) (who id : Int) (o : Wo) (w : World) (h : InR prR w s m) (hq : InR lsR w q l) (hk : 0 ≤ o.kind ∧ o.kind ≤ 255) (hb : m.length ≤ 10000000) (hlb : l.length ≤ 10000000) : Calls Try.prog 25 #[.slice s.base s.len s.cap, .slice q.base q.len q.cap, .int .i64 who, .int .i64 id, .agg #[.int .u8 o.kind, .string o.key, .string o.value, .string o.old, .bool o.had]] w fun e w' => ∃ a p : Sl,
      e = .returned (.tuple #[.slice a.base a.len a.cap, .slice p.base p.len p.cap, .agg #[.int .u8 (stepO m l who id o).2.2.1.1, .bool (stepO m l who id o).2.2.1.2.1, .string (stepO m l who id o).2.2.1.2.2], .int .i64 (stepO m l who id o).2.2.2]) ∧
      OwnR prR 36 w w' a (stepO m l who id o).1 ∧ OwnR lsR 42 w w' p (stepO m l who id o).2.1 ∧ Ext [] w w' := by
  refine sh_butteryref09_Step_ok _ _ _ _ _ _ _ _ _ _ _ ?_
  unfold sh_butteryref09_Step
  have hml := h.len
  have hll := hq.len
  refine VNw.i fun op_9 w1 hb1 hk1 e1 => ?_
  have hk1 : Bk w1 op_9 [.int .u8 o.kind, .string o.key, .string o.value, .string o.old, .bool o.had] 24 := hk1
  have z1 := e1.size
  have l1 := hk1.lt
  refine VNw.i fun b12 w2 hb2 hk2 e2 => ?_
  have hk2 : Bk w2 b12 [.int .u8 0, .bool false, .string ByteArray.empty] 31 := hk2
  have z2 := e2.size
  have l2 := hk2.lt
  have hop_9_2 := hk1.ext e2
  refine ⟨o.kind, o.key, o.value, o.old, o.had, gd.i (Rd.of_bk hop_9_2 rfl), ?_⟩
  refine VCall.i (xCheck_spec o w2 hk) ?_
  rintro e w3 ⟨rfl, e3⟩
  have z3 := e3.size
  refine ⟨(checkO o), rfl, ?_⟩
  refine VSet.i ?_
  refine VIf.mk (fun hc => ?_) (fun hc => ?_)
  · have hs := step_bad (m := m) (l := l) (who := who) (id := id) (o := o) (by simpa using hc)
    have hb12_3 := hk2.ext e3
    refine VSt.bk hb12_3 rfl (by simp) fun w4 hk4 e4 => ?_
    have hk4 : Bk w4 b12 [.int .u8 0, .bool false, .string ByteArray.empty] 31 := hk4
    have z4 := e4.size
    refine VSet.i ?_
    refine ⟨0, false, ByteArray.empty, gd.i (Rd.of_bk hk4 rfl), ?_⟩
    have e0_2 := e1.then0 e2
    have e0_3 := e0_2.then0 e3
    have e0_4 := e0_3.then e4 (fun i hi hlt => by simp at hi; omega)
    rw [hs]
    exact ⟨⟨none, 0, 0⟩, ⟨none, 0, 0⟩, rfl, OwnR.nil _ _ _ _, OwnR.nil _ _ _ _, e0_4⟩
  · have hc0 : checkO o = 0 := by simpa using hc
    have hop_9_3 := hop_9_2.ext e3
    refine VLd.i1 (t := CT.int .u8) o.kind (Rd.of_bk hop_9_3 rfl) ?_
    refine VIf.mk (fun hc => ?_) (fun hc => ?_)
    · have hk1 : o.kind = 1 := by simpa using hc
      have hs := step_get (m := m) (l := l) (who := who) (id := id) hc0 hk1
      have hb12_3 := hk2.ext e3
      refine VSt.bk hb12_3 rfl (by simp) fun w5 hk5 e5 => ?_
      have hk5 : Bk w5 b12 [.int .u8 0, .bool false, .string ByteArray.empty] 31 := hk5
      have z5 := e5.size
      refine ⟨0, false, ByteArray.empty, gd.i (Rd.of_bk hk5 rfl), ?_⟩
      have e0_2 := e1.then0 e2
      have e0_3 := e0_2.then0 e3
      have e0_5 := e0_3.then e5 (fun i hi hlt => by simp at hi; omega)
      rw [hs]
      exact ⟨⟨none, 0, 0⟩, ⟨none, 0, 0⟩, rfl, OwnR.nil _ _ _ _, OwnR.nil _ _ _ _, e0_5⟩
    · have hk1 : ¬ o.kind = 1 := by simpa using hc
      have e0_2 := e1.then0 e2
      have e0_3 := e0_2.then0 e3
      have hq_3 := hq.ext0 e0_3
      refine VCall.i (xSeen_spec q l who id w3 hq_3) ?_
      rintro e w6 ⟨rfl, e6⟩
      have z6 := e6.size
      refine ⟨(seenO l who id).1.1, (seenO l who id).1.2.1, (seenO l who id).1.2.2, (seenO l who id).2, rfl, ?_⟩
      refine VNw.i fun r_15 w7 hb7 hk7 e7 => ?_
      have hk7 : Bk w7 r_15 [.int .u8 0, .bool false, .string ByteArray.empty] 31 := hk7
      have z7 := e7.size
      have l7 := hk7.lt
      refine VSt.bk hk7 rfl (by simp) fun w8 hk8 e8 => ?_
      have hk8 : Bk w8 r_15 [.int .u8 (seenO l who id).1.1, .bool (seenO l who id).1.2.1, .string (seenO l who id).1.2.2] 31 := hk8
      have z8 := e8.size
      refine VSet.i ?_
      refine VIf.mk (fun hc => ?_) (fun hc => ?_)
      · have h6 : (seenO l who id).2 = 6 := by simpa using hc
        have hs := step_late (m := m) hc0 hk1 h6
        have e2_6 := e3.then0 e6
        have e2_7 := e2_6.then0 e7
        have e2_8 := e2_7.then e8 (fun i hi hlt => by simp at hi; omega)
        have hb12_8 := hk2.ext e2_8
        refine VSt.bk hb12_8 rfl (by simp) fun w9 hk9 e9 => ?_
        have hk9 : Bk w9 b12 [.int .u8 0, .bool false, .string ByteArray.empty] 31 := hk9
        have z9 := e9.size
        refine VSet.i ?_
        refine ⟨0, false, ByteArray.empty, gd.i (Rd.of_bk hk9 rfl), ?_⟩
        have e0_6 := e0_3.then0 e6
        have e0_7 := e0_6.then0 e7
        have e0_8 := e0_7.then e8 (fun i hi hlt => by simp at hi; omega)
        have e0_9 := e0_8.then e9 (fun i hi hlt => by simp at hi; omega)
        rw [hs]
        rw [h6]
        exact ⟨⟨none, 0, 0⟩, ⟨none, 0, 0⟩, rfl, OwnR.nil _ _ _ _, OwnR.nil _ _ _ _, e0_9⟩
      · have h6 : ¬ (seenO l who id).2 = 6 := by simpa using hc
        refine VIf.mk (fun hc => ?_) (fun hc => ?_)
        · have h0 : (seenO l who id).2 = 0 := by simpa using hc
          have hs := step_old (m := m) hc0 hk1 h0
          refine ⟨fun x10 x11 x13 W => OwnR prR 36 w W x10 m ∧ OwnR lsR 42 w W x11 l ∧ x13 = 0 ∧ Bk W b12 [.int .u8 (seenO l who id).1.1, .bool (seenO l who id).1.2.1, .string (seenO l who id).1.2.2] 31 ∧ Ext [] w W, ?_, ?_⟩
          · intro w10 hw10
            have e10 := Ext.drew' hw10
            have z10 := e10.size
            have hr_15_10 := hk8.ext e10
            refine ⟨(seenO l who id).1.1, (seenO l who id).1.2.1, (seenO l who id).1.2.2, gd.i (Rd.of_bk hr_15_10 rfl), ?_⟩
            refine ⟨?_, ?_⟩
            · refine VNw.i fun b41 w11 hb11 hk11 e11 => ?_
              have hk11 : Bk w11 b41 [] 36 := hk11
              have z11 := e11.size
              have l11 := hk11.lt
              have hr_15_11 := hr_15_10.ext e11
              refine ⟨Rd.of_bk hr_15_11 rfl, ?_⟩
              refine ⟨?_, ?_⟩
              · have e0_6 := e0_3.then0 e6
                have e0_7 := e0_6.then0 e7
                have e0_8 := e0_7.then e8 (fun i hi hlt => by simp at hi; omega)
                have e0_10 := e0_8.then0 e10
                have e0_11 := e0_10.then0 e11
                have h_11 := h.ext0 e0_11
                have hA0 : OwnR prR 36 w w11 ⟨some ⟨b41, 0, none⟩, 0, 0⟩ [] := OwnR.made hk11 (by omega)
                have e2_6 := e3.then0 e6
                have e2_7 := e2_6.then0 e7
                have e2_8 := e2_7.then e8 (fun i hi hlt => by simp at hi; omega)
                have e2_10 := e2_8.then0 e10
                have e2_11 := e2_10.then0 e11
                have hb12_11 := hk2.ext e2_11
                refine VApp.rec (r := prR) (s := ⟨some ⟨b41, 0, none⟩, 0, 0⟩) (news := m) hA0 e0_11 h_11.1 (by omega) rfl (by simp; omega) (by simp; omega) fun l43 w12 hA e0_12 e12 hb12 => ?_
                have z12 := e12.size
                have z0_12 := e0_12.size
                have hr_15_12 := hr_15_11.ext e12 (OwnR.notin hA0 hr_15_11 (by decide))
                have hb12_12 := hb12_11.ext e12 (OwnR.notin hA0 hb12_11 (by decide))
                rw [List.nil_append] at hA
                refine ⟨Rd.of_bk hr_15_12 rfl, ?_⟩
                refine VNw.i fun b44 w13 hb13 hk13 e13 => ?_
                have hk13 : Bk w13 b44 [] 42 := hk13
                have z13 := e13.size
                have l13 := hk13.lt
                have hr_15_13 := hr_15_12.ext e13
                refine ⟨Rd.of_bk hr_15_13 rfl, ?_⟩
                have e3_7 := e6.then0 e7
                have e3_8 := e3_7.then e8 (fun i hi hlt => by simp at hi; omega)
                have e3_10 := e3_8.then0 e10
                have e3_11 := e3_10.then0 e11
                have e3_12 := e3_11.trans e12
                have e3_13 := e3_12.then0 e13
                have e0_13 := e0_12.then0 e13
                have hq_13 := hq.ext0 e0_13
                have hA_13 := hA.ext0 e13
                have hP0 : OwnR lsR 42 w w13 ⟨some ⟨b44, 0, none⟩, 0, 0⟩ [] := OwnR.made hk13 (by omega)
                have hb12_13 := hb12_12.ext e13
                refine VApp.rec (r := lsR) (s := ⟨some ⟨b44, 0, none⟩, 0, 0⟩) (news := l) hP0 e0_13 hq_13.1 (by omega) rfl (by simp; omega) (by simp; omega) fun l46 w14 hP e0_14 e14 hb14 => ?_
                have z14 := e14.size
                have z0_14 := e0_14.size
                have hr_15_14 := hr_15_13.ext e14 (OwnR.notin hP0 hr_15_13 (by decide))
                have hb12_14 := hb12_13.ext e14 (OwnR.notin hP0 hb12_13 (by decide))
                have hA_14 := hA_13.ext e14 (OwnR.notinT hP0 hA_13 (by decide))
                rw [List.nil_append] at hP
                refine ⟨Rd.of_bk hr_15_14 rfl, ?_⟩
                refine VSt.bk hb12_14 rfl (by simp) fun w15 hk15 e15 => ?_
                have hk15 : Bk w15 b12 [.int .u8 (seenO l who id).1.1, .bool (seenO l who id).1.2.1, .string (seenO l who id).1.2.2] 31 := hk15
                have z15 := e15.size
                have hA_15 := OwnR.ext hA_14 e15 (notin1 (OwnR.notin hA_14 hb12_14 (by decide)))
                have hP_15 := OwnR.ext hP e15 (notin1 (OwnR.notin hP hb12_14 (by decide)))
                have e0_15 := e0_14.then e15 (fun i hi hlt => by simp at hi; omega)
                exact ⟨hA_15, hP_15, rfl, hk15, e0_15⟩
              · refine VNw.i fun b44 w16 hb16 hk16 e16 => ?_
                have hk16 : Bk w16 b44 [] 42 := hk16
                have z16 := e16.size
                have l16 := hk16.lt
                have hr_15_16 := hr_15_11.ext e16
                refine ⟨Rd.of_bk hr_15_16 rfl, ?_⟩
                have hb41_16 := hk11.ext e16
                have e0_6 := e0_3.then0 e6
                have e0_7 := e0_6.then0 e7
                have e0_8 := e0_7.then e8 (fun i hi hlt => by simp at hi; omega)
                have e0_10 := e0_8.then0 e10
                have e0_11 := e0_10.then0 e11
                have e0_16 := e0_11.then0 e16
                have h_16 := h.ext0 e0_16
                have hA0 : OwnR prR 36 w w16 ⟨some ⟨b41, 0, none⟩, 0, 0⟩ [] := OwnR.made hb41_16 (by omega)
                have e2_6 := e3.then0 e6
                have e2_7 := e2_6.then0 e7
                have e2_8 := e2_7.then e8 (fun i hi hlt => by simp at hi; omega)
                have e2_10 := e2_8.then0 e10
                have e2_11 := e2_10.then0 e11
                have e2_16 := e2_11.then0 e16
                have hb12_16 := hk2.ext e2_16
                refine VApp.rec (r := prR) (s := ⟨some ⟨b41, 0, none⟩, 0, 0⟩) (news := m) hA0 e0_16 h_16.1 (by omega) rfl (by simp; omega) (by simp; omega) fun l43 w17 hA e0_17 e17 hb17 => ?_
                have z17 := e17.size
                have z0_17 := e0_17.size
                have hr_15_17 := hr_15_16.ext e17 (OwnR.notin hA0 hr_15_16 (by decide))
                have hb12_17 := hb12_16.ext e17 (OwnR.notin hA0 hb12_16 (by decide))
                have hb44_17 := hk16.ext e17 (OwnR.notin hA0 hk16 (by decide))
                rw [List.nil_append] at hA
                refine ⟨Rd.of_bk hr_15_17 rfl, ?_⟩
                have e3_7 := e6.then0 e7
                have e3_8 := e3_7.then e8 (fun i hi hlt => by simp at hi; omega)
                have e3_10 := e3_8.then0 e10
                have e3_11 := e3_10.then0 e11
                have e3_16 := e3_11.then0 e16
                have e3_17 := e3_16.trans e17
                have hq_17 := hq.ext0 e0_17
                have hP0 : OwnR lsR 42 w w17 ⟨some ⟨b44, 0, none⟩, 0, 0⟩ [] := OwnR.made hb44_17 (by omega)
                refine VApp.rec (r := lsR) (s := ⟨some ⟨b44, 0, none⟩, 0, 0⟩) (news := l) hP0 e0_17 hq_17.1 (by omega) rfl (by simp; omega) (by simp; omega) fun l46 w18 hP e0_18 e18 hb18 => ?_
                have z18 := e18.size
                have z0_18 := e0_18.size
                have hr_15_18 := hr_15_17.ext e18 (OwnR.notin hP0 hr_15_17 (by decide))
                have hb12_18 := hb12_17.ext e18 (OwnR.notin hP0 hb12_17 (by decide))
                have hA_18 := hA.ext e18 (OwnR.notinT hP0 hA (by decide))
                rw [List.nil_append] at hP
                refine ⟨Rd.of_bk hr_15_18 rfl, ?_⟩
                refine VSt.bk hb12_18 rfl (by simp) fun w19 hk19 e19 => ?_
                have hk19 : Bk w19 b12 [.int .u8 (seenO l who id).1.1, .bool (seenO l who id).1.2.1, .string (seenO l who id).1.2.2] 31 := hk19
                have z19 := e19.size
                have hA_19 := OwnR.ext hA_18 e19 (notin1 (OwnR.notin hA_18 hb12_18 (by decide)))
                have hP_19 := OwnR.ext hP e19 (notin1 (OwnR.notin hP hb12_18 (by decide)))
                have e0_19 := e0_18.then e19 (fun i hi hlt => by simp at hi; omega)
                exact ⟨hA_19, hP_19, rfl, hk19, e0_19⟩
            · refine VNw.i fun b44 w20 hb20 hk20 e20 => ?_
              have hk20 : Bk w20 b44 [] 42 := hk20
              have z20 := e20.size
              have l20 := hk20.lt
              have hr_15_20 := hr_15_10.ext e20
              refine ⟨Rd.of_bk hr_15_20 rfl, ?_⟩
              refine VNw.i fun b41 w21 hb21 hk21 e21 => ?_
              have hk21 : Bk w21 b41 [] 36 := hk21
              have z21 := e21.size
              have l21 := hk21.lt
              have hr_15_21 := hr_15_20.ext e21
              refine ⟨Rd.of_bk hr_15_21 rfl, ?_⟩
              have e0_6 := e0_3.then0 e6
              have e0_7 := e0_6.then0 e7
              have e0_8 := e0_7.then e8 (fun i hi hlt => by simp at hi; omega)
              have e0_10 := e0_8.then0 e10
              have e0_20 := e0_10.then0 e20
              have e0_21 := e0_20.then0 e21
              have h_21 := h.ext0 e0_21
              have hA0 : OwnR prR 36 w w21 ⟨some ⟨b41, 0, none⟩, 0, 0⟩ [] := OwnR.made hk21 (by omega)
              have e2_6 := e3.then0 e6
              have e2_7 := e2_6.then0 e7
              have e2_8 := e2_7.then e8 (fun i hi hlt => by simp at hi; omega)
              have e2_10 := e2_8.then0 e10
              have e2_20 := e2_10.then0 e20
              have e2_21 := e2_20.then0 e21
              have hb12_21 := hk2.ext e2_21
              have hb44_21 := hk20.ext e21
              refine VApp.rec (r := prR) (s := ⟨some ⟨b41, 0, none⟩, 0, 0⟩) (news := m) hA0 e0_21 h_21.1 (by omega) rfl (by simp; omega) (by simp; omega) fun l43 w22 hA e0_22 e22 hb22 => ?_
              have z22 := e22.size
              have z0_22 := e0_22.size
              have hr_15_22 := hr_15_21.ext e22 (OwnR.notin hA0 hr_15_21 (by decide))
              have hb12_22 := hb12_21.ext e22 (OwnR.notin hA0 hb12_21 (by decide))
              have hb44_22 := hb44_21.ext e22 (OwnR.notin hA0 hb44_21 (by decide))
              rw [List.nil_append] at hA
              refine ⟨Rd.of_bk hr_15_22 rfl, ?_⟩
              have e3_7 := e6.then0 e7
              have e3_8 := e3_7.then e8 (fun i hi hlt => by simp at hi; omega)
              have e3_10 := e3_8.then0 e10
              have e3_20 := e3_10.then0 e20
              have e3_21 := e3_20.then0 e21
              have e3_22 := e3_21.trans e22
              have hq_22 := hq.ext0 e0_22
              have hP0 : OwnR lsR 42 w w22 ⟨some ⟨b44, 0, none⟩, 0, 0⟩ [] := OwnR.made hb44_22 (by omega)
              refine VApp.rec (r := lsR) (s := ⟨some ⟨b44, 0, none⟩, 0, 0⟩) (news := l) hP0 e0_22 hq_22.1 (by omega) rfl (by simp; omega) (by simp; omega) fun l46 w23 hP e0_23 e23 hb23 => ?_
              have z23 := e23.size
              have z0_23 := e0_23.size
              have hr_15_23 := hr_15_22.ext e23 (OwnR.notin hP0 hr_15_22 (by decide))
              have hb12_23 := hb12_22.ext e23 (OwnR.notin hP0 hb12_22 (by decide))
              have hA_23 := hA.ext e23 (OwnR.notinT hP0 hA (by decide))
              rw [List.nil_append] at hP
              refine ⟨Rd.of_bk hr_15_23 rfl, ?_⟩
              refine VSt.bk hb12_23 rfl (by simp) fun w24 hk24 e24 => ?_
              have hk24 : Bk w24 b12 [.int .u8 (seenO l who id).1.1, .bool (seenO l who id).1.2.1, .string (seenO l who id).1.2.2] 31 := hk24
              have z24 := e24.size
              have hA_24 := OwnR.ext hA_23 e24 (notin1 (OwnR.notin hA_23 hb12_23 (by decide)))
              have hP_24 := OwnR.ext hP e24 (notin1 (OwnR.notin hP hb12_23 (by decide)))
              have e0_24 := e0_23.then e24 (fun i hi hlt => by simp at hi; omega)
              exact ⟨hA_24, hP_24, rfl, hk24, e0_24⟩
          rintro x10 x11 x13 w25 ⟨hA, hP, rfl, gb12_25, e0_25⟩
          have z25 := e0_25.size
          have lgb12_25 := gb12_25.lt
          obtain ⟨ra, hra⟩ : ∃ z, z = x10 := ⟨_, rfl⟩
          subst hra
          obtain ⟨rp, hrp⟩ : ∃ z, z = x11 := ⟨_, rfl⟩
          subst hrp
          refine ⟨(seenO l who id).1.1, (seenO l who id).1.2.1, (seenO l who id).1.2.2, gd.i (Rd.of_bk gb12_25 rfl), ?_⟩
          rw [hs]
          exact ⟨ra, rp, rfl, hA.mono (by omega), hP.mono (by omega), e0_25⟩
        · have h0 : ¬ (seenO l who id).2 = 0 := by simpa using hc
          have hs := step_new (m := m) hc0 hk1 h0 h6
          have e3_7 := e6.then0 e7
          have e3_8 := e3_7.then e8 (fun i hi hlt => by simp at hi; omega)
          have hop_9_8 := hop_9_3.ext e3_8
          refine ⟨o.kind, o.key, o.value, o.old, o.had, gd.i (Rd.of_bk hop_9_8 rfl), ?_⟩
          have e0_6 := e0_3.then0 e6
          have e0_7 := e0_6.then0 e7
          have e0_8 := e0_7.then e8 (fun i hi hlt => by simp at hi; omega)
          have h_8 := h.ext0 e0_8
          refine VCall.i (xDoOk_spec s m o w8 h_8 hk hb hc0) ?_
          rintro e w26 ⟨ra, rfl, hA, e26⟩
          have z26 := e26.size
          refine ⟨ra, (doR m o).1, (doR m o).2.1, (doR m o).2.2, (0 : Int), rfl, ?_⟩
          have hr_15_26 := hk8.ext e26
          refine VSt.bk hr_15_26 rfl (by simp) fun w27 hk27 e27 => ?_
          have hk27 : Bk w27 r_15 [.int .u8 (doR m o).1, .bool (doR m o).2.1, .string (doR m o).2.2] 31 := hk27
          have z27 := e27.size
          refine VSet.i ?_
          intro w28 hw28
          have e28 := Ext.drew' hw28
          have z28 := e28.size
          have hr_15_28 := hk27.ext e28
          refine ⟨(doR m o).1, (doR m o).2.1, (doR m o).2.2, gd.i (Rd.of_bk hr_15_28 rfl), ?_⟩
          refine ⟨(doR m o).1, (doR m o).2.1, (doR m o).2.2, gd.i (Rd.of_bk hr_15_28 rfl), ?_⟩
          have e3_26 := e3_8.then0 e26
          have e3_27 := e3_26.then e27 (fun i hi hlt => by simp at hi; omega)
          have e3_28 := e3_27.then0 e28
          have hq_28 := hq_3.ext0 e3_28
          refine VCall.i (xNote_spec q l (who, id, doR m o) w28 hq_28 hlb) ?_
          rintro e w29 ⟨rp, rfl, hP, e29⟩
          have z29 := e29.size
          refine ⟨rp, rfl, ?_⟩
          have hr_15_29 := hr_15_28.ext e29
          refine ⟨Rd.of_bk hr_15_29 rfl, ?_⟩
          have e2_6 := e3.then0 e6
          have e2_7 := e2_6.then0 e7
          have e2_8 := e2_7.then e8 (fun i hi hlt => by simp at hi; omega)
          have e2_26 := e2_8.then0 e26
          have e2_27 := e2_26.then e27 (fun i hi hlt => by simp at hi; omega)
          have e2_28 := e2_27.then0 e28
          have e2_29 := e2_28.then0 e29
          have hb12_29 := hk2.ext e2_29
          refine VSt.bk hb12_29 rfl (by simp) fun w30 hk30 e30 => ?_
          have hk30 : Bk w30 b12 [.int .u8 (doR m o).1, .bool (doR m o).2.1, .string (doR m o).2.2] 31 := hk30
          have z30 := e30.size
          refine ⟨(doR m o).1, (doR m o).2.1, (doR m o).2.2, gd.i (Rd.of_bk hk30 rfl), ?_⟩
          have e0_26 := e0_8.then0 e26
          have e0_27 := e0_26.then e27 (fun i hi hlt => by simp at hi; omega)
          have e0_28 := e0_27.then0 e28
          have e0_29 := e0_28.then0 e29
          have e0_30 := e0_29.then e30 (fun i hi hlt => by simp at hi; omega)
          have hA_27 := OwnR.ext hA e27 (notin1 (OwnR.notin hA hr_15_26 (by decide)))
          have e27_29 := e28.then0 e29
          have hA_30 := OwnR.ext (hA_27.ext0 e27_29) e30 (notin1 (OwnR.notin (hA_27.ext0 e27_29) hb12_29 (by decide)))
          have hP_30 := OwnR.ext hP e30 (notin1 (OwnR.notin hP hb12_29 (by decide)))
          rw [hs]
          exact ⟨ra, rp, rfl, hA_30.mono (by omega), hP_30.mono (by omega), e0_30⟩
end Go.Proofs.Ytlnomdjmjeabhaa
