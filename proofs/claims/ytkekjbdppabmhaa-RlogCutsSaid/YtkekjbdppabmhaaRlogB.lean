/-
  Package rlog: the document's Check.
-/
import Derived.Test.YtkekjbdppabmhaaRlogA
namespace Go.Proofs.Ytkekjbdppabmhaa
open Go.RowKit
set_option maxRecDepth 100000

theorem xCheck_spec (x : Er) (e : En) (w : World) (h : EIn w x e) : Calls Try.prog 27 #[.agg (erC x).toArray] w fun r w' => r = .returned (.bool (okE e)) ∧ Ext [] w w' := by
  refine sh_butteryref14_Check_ok _ _ _ _ _ _ ?_
  unfold sh_butteryref14_Check
  obtain ⟨ht, hk, hd, hli⟩ := h
  have hll := hli.len
  refine VNw.i fun b w1 hb hk1 e1 => ?_
  have hk1 : Bk w1 b (erC x) 28 := hk1
  refine VLd.i1 (t := .int .i64) x.t (Rd.of_bk hk1 rfl) (VLd.i1 (t := .int .i64) x.t (Rd.of_bk hk1 rfl) (VIf.mk (fun hc => ⟨?_, e1⟩) (fun hc => ?_)))
  · have hc : e.term < 1 ∨ 2147483647 < e.term := by simp at hc; omega
    unfold okE; rw [if_pos hc]
  have hc : ¬ (e.term < 1 ∨ 2147483647 < e.term) := by simp at hc; omega
  refine VLd.i1 (t := .int .u8) x.k (Rd.of_bk hk1 rfl) (VIf.mk (fun hq => ?_) (fun hq => ?_))
  · have hq : e.kind = 1 := by rw [← hk]; simpa using hq
    refine VLd.i1 (t := .str) x.d (Rd.of_bk hk1 rfl) (VLd.s x.s (Rd.of_bk hk1 rfl) ⟨?_, e1⟩)
    unfold okE; rw [if_neg hc, if_pos hq, size0, hd, hll]
    congr 2
    rw [Bool.eq_iff_iff]
    simp only [Bool.and_eq_true, decide_eq_true_eq, beq_iff_eq]
    omega
  have hq : ¬ e.kind = 1 := by rw [← hk]; simpa using hq
  refine VIf.mk (fun hq2 => ?_) (fun hq2 => ?_)
  · have hq2 : e.kind = 2 := by rw [← hk]; simpa using hq2
    refine VLd.i1 (t := .str) x.d (Rd.of_bk hk1 rfl) (VLd.s x.s (Rd.of_bk hk1 rfl) ⟨?_, e1⟩)
    unfold okE; rw [if_neg hc, if_neg hq, if_pos hq2, hd, hll]
    congr 2
    rw [Bool.eq_iff_iff]
    simp only [Bool.and_eq_true, decide_eq_true_eq, beq_iff_eq]
    omega
  have hq2 : ¬ e.kind = 2 := by rw [← hk]; simpa using hq2
  refine VIf.mk (fun hq3 => ?_) (fun hq3 => ⟨?_, e1⟩)
  rotate_left
  · have hq3 : ¬ e.kind = 3 := by rw [← hk]; simpa using hq3
    unfold okE; rw [if_neg hc, if_neg hq, if_neg hq2, if_neg hq3]
  have hq3 : e.kind = 3 := by rw [← hk]; simpa using hq3
  have hok : okE e = (decide (e.data.size = 0) && (risB e.list && decide (0 < e.list.length))) := by
    unfold okE; rw [if_neg hc, if_neg hq, if_neg hq2, if_pos hq3]
  have hcap := hli.2
  refine ⟨fun kk i W => ∃ j : Nat, i = (j : Int) ∧ j ≤ e.list.length ∧ kk = e.list.length - j ∧ (∀ q, q < j → badAt e.list q = false) ∧ Bk W b (erC x) 28 ∧ Ext [] w W, ⟨_, 0, rfl, by omega, rfl, fun q hq => by omega, hk1, e1⟩, ?_⟩
  rintro kk i w2 ⟨j, rfl, hj, rfl, hall, hk2, e2⟩
  refine VLd.s x.s (Rd.of_bk hk2 rfl) (VIf.mk (fun hc1 => ?_) (fun hc1 => ?_))
  · have hj' : j < e.list.length := by simp at hc1; omega
    intro w3 hw3
    have ed := Ext.drew' hw3
    have hk3 := hk2.ext ed
    have e3 := e2.then0 ed
    have hs3 := (hli.ext0 e3).1
    refine VLd.s x.s (Rd.of_bk hk3 rfl) (VIx.rd (r := itR) hs3 hj' fun a hra => ?_)
    refine VLd.i1 (t := .int .i64) (e.list[j]) (by rw [Int.toNat_natCast]; exact hra) (VLd.s x.s (Rd.of_bk hk3 rfl) (VIx.rd (r := itR) hs3 hj' fun a' hra' => ?_))
    refine VLd.i1 (t := .int .i64) (e.list[j]) (by rw [Int.toNat_natCast]; exact hra') (VLd.s x.s (Rd.of_bk hk3 rfl) ?_)
    have key : ∀ {K : Int → Prop}, (∀ v : Int, (0 < j → v = e.list.getD (j - 1) 0) → K v) → VIx (some ((!((decide (e.list[j] < 1)) || (decide (e.list[j] > 5)))) && (decide ((j : Int) > 0)))) x.s.base x.s.len (IntKind.wrap .i64 ((j : Int) - 1)) fun (a25 : Addr) =>
        VLd (some ((!((decide (e.list[j] < 1)) || (decide (e.list[j] > 5)))) && (decide ((j : Int) > 0)))) w3 (Addr.add a25 ((Int.toNat (IntKind.wrap .i64 ((j : Int) - 1))) * 1)) [CT.int .i64] fun (v26 : Int) => K v26 := by
      intro K k
      by_cases h0 : 0 < j
      · rw [w64 (n := (j : Int) - 1) (by omega), show (j : Int) - 1 = ((j - 1 : Nat) : Int) by omega]
        refine VIx.rd (r := itR) hs3 (show j - 1 < e.list.length by omega) fun a hra => ?_
        exact VLd.i1 (t := .int .i64) (e.list[j - 1]) (by rw [Int.toNat_natCast]; exact hra) (k _ fun _ => (getD_get (by omega)).symm)
      · refine VIx.off (by simp; omega) fun a => VLd.off1 (by simp; omega) (0 : Int) (k _ fun h => absurd h h0)
    refine key fun v hv => ?_
    refine VLd.s x.s (Rd.of_bk hk3 rfl) (VIx.rd (r := itR) hs3 hj' fun a'' hra'' => ?_)
    refine VLd.i1 (t := .int .i64) (e.list[j]) (by rw [Int.toNat_natCast]; exact hra'') ?_
    have hb : (((decide (e.list[j] < 1)) || (decide (e.list[j] > 5))) || ((decide ((j : Int) > 0)) && (decide (v ≥ e.list[j])))) = badAt e.list j := by
      unfold badAt
      rw [getD_get hj']
      by_cases h0 : 0 < j
      · rw [hv h0]; simp
      · have : decide ((j : Int) > 0) = false := by simp; omega
        rw [this, show decide (0 < j) = false by simp; omega]; simp
    rw [hb]
    refine VIf.mk (fun hq => ?_) (fun hq => ?_)
    · exact ⟨by rw [hok, ris_bad hj' hq]; simp, e3⟩
    · exact VSet.i ⟨_, (show e.list.length - (j + 1) < e.list.length - j by omega), j + 1, w64 (n := (j : Int) + 1) (by omega), by omega, rfl, fun q hq' => if hqj : q = j then hqj ▸ hq else hall q (by omega), hk3, e3⟩
  · have hj' : j = e.list.length := by simp at hc1; omega
    subst hj'
    refine VLd.i1 (t := .str) x.d (Rd.of_bk hk2 rfl) (VLd.s x.s (Rd.of_bk hk2 rfl) ⟨?_, e2⟩)
    rw [hok, ris_all hall, hll, size0, hd]
    congr 2
    rw [Bool.eq_iff_iff]
    simp only [Bool.and_eq_true, decide_eq_true_eq, true_and]
    omega
end Go.Proofs.Ytkekjbdppabmhaa
