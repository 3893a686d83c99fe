/-
  Package node, the document's: which nodes may be.
-/
import Derived.Test.YtknohdgcigcmdaaNodeB
namespace Go.Proofs.Ytknohdgcigcmdaa
open Go.RowKit
set_option maxRecDepth 100000

theorem xCheck_spec (c k : Sl) (n : Nd) (w : World) (h : NIn w c k n) (hsm : n.cs.length ≤ 1000000) : Calls Try.prog 25 #[.agg (nhC n.leaf c k).toArray] w fun e w' => e = .returned (.bool (okN n)) ∧ Ext [] w w' := by
  refine sh_butteryref06_Check_ok _ _ _ _ _ ?_
  unfold sh_butteryref06_Check
  have hl := h.ci.1.rlen
  have hkl := h.ki.1.rlen
  have hcap := h.ci.2
  have hcapk := h.ki.2
  refine VNw.i fun nb w1 hnb hk1 e1 => ?_
  have hk1 : Bk w1 nb (nhC n.leaf c k) 25 := hk1
  refine ⟨fun kk i W => ∃ m : Nat, i = (m : Int) ∧ m ≤ n.cs.length ∧ kk = n.cs.length - m ∧ (∀ j, j < m → stepC n.leaf n.cs j = true) ∧ Bk W nb (nhC n.leaf c k) 25 ∧ Ext [] w W, ⟨_, 0, rfl, by omega, rfl, fun j hj => absurd hj (by omega), hk1, e1⟩, ?_⟩
  rintro kk i w2 ⟨m, rfl, hm, rfl, hall, hk2, e2⟩
  refine VLd.s c (Rd.of_bk hk2 rfl) (VIf.mk (fun hd => ?_) (fun hd => ?_))
  · have hm' : m < n.cs.length := by rw [hl] at hd; simp at hd; omega
    intro w3 hw3
    have ed := Ext.drew' hw3
    have e03 := e2.then0 ed
    have h3 := h.ext0 e03
    have hn3 := hk2.ext ed
    refine VLd.i1 (t := .bool) n.leaf (Rd.of_bk hn3 rfl) (VLd.s c (Rd.of_bk hn3 rfl) ?_)
    refine VIx.i' (r := ceR) h3.ci.1 hm' fun a hr => VLd.ce (n.cs[m]) hr ?_
    refine VCall.i (xcell_spec (n.cs[m]) n.leaf w3) ?_
    rintro e w4 ⟨rfl, e4⟩
    refine exW.i1 (t := .bool) _ rfl ?_
    have hn4 := hn3.ext e4
    have e04 := e03.then0 e4
    have h4 := h.ext0 e04
    refine VLd.s c (Rd.of_bk hn4 rfl) ?_
    have hst : stepC n.leaf n.cs m = (mayC n.leaf n.cs[m] && (decide (m = 0) || ltB (n.cs.getD (m - 1) zCe).key (n.cs[m]).key)) := by unfold stepC; rw [getD_at hm']
    by_cases hm0 : m = 0
    · subst hm0
      refine VIx.off (by simp) fun a2 => VLd.off1 (by simp) ByteArray.empty (VLd.s c (Rd.of_bk hn4 rfl) (VIx.i' (r := ceR) h4.ci.1 hm' fun a3 hr3 => VLd.i1 (t := .str) (n.cs[0]).key (hr3.fld0 rfl) (VIf.mk (fun hq => ⟨?_, e04⟩) (fun hq => ?_))))
      · have hq : mayC n.leaf n.cs[0] = false := by simpa using hq
        unfold okN
        rw [okC_no hm' (by rw [hst, hq]; rfl)]; rfl
      · have hq : mayC n.leaf n.cs[0] = true := by simpa using hq
        rw [w64 (n := ((0 : Nat) : Int) + 1) (by omega)]
        refine VSet.i ⟨_, (show n.cs.length - (0 + 1) < n.cs.length - 0 by omega), 0 + 1, rfl, by omega, rfl, fun j hj => ?_, hn4, e04⟩
        obtain rfl : j = 0 := by omega
        rw [hst, hq]; rfl
    · have hm1 : m - 1 < n.cs.length := by omega
      have hw : IntKind.wrap .i64 ((m : Int) - 1) = ((m - 1 : Nat) : Int) := by rw [w64 (by omega)]; omega
      rw [hw]
      refine VIx.i' (r := ceR) h4.ci.1 hm1 fun a2 hr2 => VLd.i1 (t := .str) (n.cs[m - 1]).key (hr2.fld0 rfl) (VLd.s c (Rd.of_bk hn4 rfl) (VIx.i' (r := ceR) h4.ci.1 hm' fun a3 hr3 => VLd.i1 (t := .str) (n.cs[m]).key (hr3.fld0 rfl) ?_))
      have hcond : ((!(mayC n.leaf n.cs[m])) || ((decide ((m : Int) > 0)) && (!(Op.bytesLess (n.cs[m - 1]).key.toList (n.cs[m]).key.toList)))) = !(stepC n.leaf n.cs m) := by
        rw [hst, getD_at hm1]
        have h1 : decide ((m : Int) > 0) = true := by simp; omega
        have h2 : decide (m = 0) = false := by simp; exact hm0
        rw [h1, h2]
        show _ = !(mayC n.leaf n.cs[m] && (false || Op.bytesLess (n.cs[m - 1]).key.toList (n.cs[m]).key.toList))
        cases mayC n.leaf n.cs[m] <;> cases Op.bytesLess (n.cs[m - 1]).key.toList (n.cs[m]).key.toList <;> rfl
      refine VIf.mk (fun hq => ⟨?_, e04⟩) (fun hq => ?_)
      · have hq : stepC n.leaf n.cs m = false := by simpa using hcond.symm.trans hq
        unfold okN
        rw [okC_no hm' hq]; rfl
      · have hq : stepC n.leaf n.cs m = true := by simpa using hcond.symm.trans hq
        rw [w64 (n := (m : Int) + 1) (by omega)]
        refine VSet.i ⟨_, (show n.cs.length - (m + 1) < n.cs.length - m by omega), m + 1, rfl, by omega, rfl, fun j hj => ?_, hn4, e04⟩
        by_cases hjm : j = m
        · subst hjm; exact hq
        · exact hall j (by omega)
  have hmm : m = n.cs.length := by rw [hl] at hd; simp at hd; omega
  subst hmm
  have hok := okC_yes hall
  refine ⟨fun kk i W => ∃ m : Nat, i = (m : Int) ∧ m ≤ n.ks.length ∧ kk = n.ks.length - m ∧ (∀ j (hj : j < n.ks.length), j < m → kidOk n.ks[j] = true) ∧ W = w2, ⟨_, 0, rfl, by omega, rfl, fun j _ hj => absurd hj (by omega), rfl⟩, ?_⟩
  rintro kk i w5 ⟨m, rfl, hm, rfl, hkids, rfl⟩
  have h5 := h.ext0 e2
  refine VLd.s k (Rd.of_bk hk2 rfl) (VIf.mk (fun hd => ?_) (fun hd => ?_))
  · have hm' : m < n.ks.length := by rw [hkl] at hd; simp at hd; omega
    refine VLd.s k (Rd.of_bk hk2 rfl) (VIx.i' (r := itR) h5.ki.1 hm' fun a hr => VLd.i1 (t := .int .i64) (n.ks[m]) hr (VLd.s k (Rd.of_bk hk2 rfl) (VIx.i' (r := itR) h5.ki.1 hm' fun a2 hr2 => VLd.i1 (t := .int .i64) (n.ks[m]) hr2 ?_)))
    have hcond : ((decide (n.ks[m] < 0)) || (decide (n.ks[m] > 2147483647))) = !(kidOk n.ks[m]) := by
      unfold kidOk
      rw [Bool.eq_iff_iff]
      simp only [Bool.or_eq_true, decide_eq_true_eq, Bool.not_eq_true', Bool.and_eq_false_iff, decide_eq_false_iff_not]
      omega
    refine VIf.mk (fun hq => ⟨?_, e2⟩) (fun hq => ?_)
    · have hq : kidOk n.ks[m] = false := by simpa using hcond.symm.trans hq
      have : n.ks.all kidOk = false := by rw [List.all_eq_false]; exact ⟨_, List.getElem_mem hm', by rw [hq]; simp⟩
      unfold okN
      rw [this]
      simp
    · have hq : kidOk n.ks[m] = true := by simpa using hcond.symm.trans hq
      rw [w64 (n := (m : Int) + 1) (by omega)]
      refine VSet.i ⟨_, (show n.ks.length - (m + 1) < n.ks.length - m by omega), m + 1, rfl, by omega, rfl, fun j hj hlt => ?_, rfl⟩
      by_cases hjm : j = m
      · subst hjm; exact hq
      · exact hkids j hj (by omega)
  have hmm : m = n.ks.length := by rw [hkl] at hd; simp at hd; omega
  subst hmm
  have hka : n.ks.all kidOk = true := by
    rw [List.all_eq_true]
    intro x hx
    obtain ⟨j, hj, rfl⟩ := List.mem_iff_getElem.1 hx
    exact hkids j hj hj
  refine VLd.i1 (t := .bool) n.leaf (Rd.of_bk hk2 rfl) (VIf.mk (fun hq => ?_) (fun hq => ?_))
  · refine VLd.s k (Rd.of_bk hk2 rfl) ⟨?_, e2⟩
    unfold okN
    rw [hok, hka, hq, hkl, Bool.true_and, Bool.and_true]
    congr 2
    rw [Bool.eq_iff_iff, beq_iff_eq, decide_eq_true_eq, if_pos rfl]; omega
  · refine VLd.s k (Rd.of_bk hk2 rfl) (VLd.s c (Rd.of_bk hk2 rfl) ⟨?_, e2⟩)
    unfold okN
    rw [hok, hka, hq, hkl, hl, Bool.true_and, Bool.and_true, w64 (n := ((n.cs.length : Nat) : Int) + 1) (by omega)]
    congr 2
    rw [Bool.eq_iff_iff, beq_iff_eq, decide_eq_true_eq, if_neg (by simp)]; omega
end Go.Proofs.Ytknohdgcigcmdaa
