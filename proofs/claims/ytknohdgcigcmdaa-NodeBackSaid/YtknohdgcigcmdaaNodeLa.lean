/-
  Package node: a node of any size: too much or not; its bytes and size.
-/
import Derived.Test.YtknohdgcigcmdaaNodeQ
namespace Go.Proofs.Ytknohdgcigcmdaa
open Go.RowKit
set_option maxRecDepth 100000

theorem getD_memA {L : List Ce} {i : Nat} (h : i < L.length) : L.getD i zCe = L[i] := by simp [h]
theorem okN_ceA {n : Nd} (h : okN n = true) : ∀ c ∈ n.cs, mayC n.leaf c = true := by
  intro c hc
  unfold okN okC at h
  simp only [Bool.and_eq_true, List.all_eq_true, List.mem_range] at h
  obtain ⟨i, hi, rfl⟩ := List.mem_iff_getElem.1 hc
  have := h.1 i hi
  unfold stepC at this
  simp only [Bool.and_eq_true] at this
  rw [getD_memA hi] at this
  exact this.1
theorem okN_smallA {n : Nd} (h : okN n = true) (h1 : n.cs.length ≤ 1000) (h2 : n.ks.length ≤ 1000) : Small n := ⟨h1, h2, fun c hc => by
  have := okN_ceA h c hc
  unfold mayC at this
  split at this
  · cases this
  · rename_i h48
    split at this
    · simp only [Bool.and_eq_true, decide_eq_true_eq] at this; omega
    · split at this
      · simp only [Bool.and_eq_true, decide_eq_true_eq] at this; omega
      · simp only [Bool.and_eq_true, decide_eq_true_eq] at this; omega⟩
/-- whatever is told of the sizes: cells and kids that are not too many -/
theorem large_any (c k : Sl) (n : Nd) (w : World) (h : NIn w c k n) : Calls Try.prog 8 #[.agg (nhC n.leaf c k).toArray] w fun e w' => ∃ r : Bool, e = .returned (.bool r) ∧ (r = false → n.cs.length ≤ 100 ∧ n.ks.length ≤ 100) ∧ Ext [] w w' := by
  refine sh_butterylaw06_large_ok _ _ _ _ _ ?_
  unfold sh_butterylaw06_large
  have hl := h.ci.1.rlen
  have hkl := h.ki.1.rlen
  refine VNw.i fun nb w1 hnb hk1 e1 => ?_
  have hk1 : Bk w1 nb (nhC n.leaf c k) 25 := hk1
  refine VLd.s c (Rd.of_bk hk1 rfl) (VLd.s k (Rd.of_bk hk1 rfl) (VSet.i ?_))
  refine ⟨fun kk many i W => ∃ m : Nat, i = (m : Int) ∧ m ≤ 200 ∧ kk = 200 - m ∧ Bk W nb (nhC n.leaf c k) 25 ∧ Ext [] w W, ⟨_, 0, rfl, by omega, rfl, hk1, e1⟩, ?_⟩
  rintro kk many i w2 ⟨m, rfl, hm2, rfl, hk2, e2⟩
  refine VLd.s c (Rd.of_bk hk2 rfl) (VIf.mk (fun hd => ?_) (fun hd => ?_))
  · have hd : m < n.cs.length ∧ m < 200 := by
      rw [hl] at hd
      simp only [Bool.and_eq_true, decide_eq_true_eq] at hd
      omega
    obtain ⟨hm', hm3⟩ := hd
    intro w3 hw3
    have ed := Ext.drew' hw3
    have hk3 := hk2.ext ed
    have e03 := e2.then0 ed
    have h3 := h.ext0 e03
    refine VLd.s c (Rd.of_bk hk3 rfl) (VIx.i' (r := ceR) h3.ci.1 hm' fun a hr => VLd.i1 (t := .str) (n.cs[m]).key (hr.fld0 rfl) ?_)
    refine VLd.s c (Rd.of_bk hk3 rfl) (VIx.i' (r := ceR) h3.ci.1 hm' fun a2 hr2 => VLd.i1 (t := .str) (n.cs[m]).val (hr2.fld 1 rfl) (VSet.i ?_))
    rw [w64 (n := (m : Int) + 1) (by omega)]
    exact VSet.i ⟨200 - (m + 1), by omega, m + 1, rfl, by omega, rfl, hk3, e03⟩
  · refine VLd.s c (Rd.of_bk hk2 rfl) (VLd.s k (Rd.of_bk hk2 rfl) ⟨_, rfl, fun hr => ?_, e2⟩)
    rw [hl, hkl] at hr
    simp only [Bool.or_eq_false_iff, decide_eq_false_iff_not] at hr
    obtain ⟨⟨r1, r2⟩, r3⟩ := hr
    exact ⟨by omega, by omega⟩
theorem Encode_any (c k : Sl) (n : Nd) (w : World) (h : NIn w c k n) (hsc : n.cs.length ≤ 1000) (hsk : n.ks.length ≤ 1000) : Calls Try.prog 24 #[.agg (nhC n.leaf c k).toArray] w fun e w' => ∃ s' : Sl, e = .returned (.tuple #[.slice s'.base s'.len s'.cap, .int .i64 (encN n).2]) ∧ Own w w' s' (encN n).1 ∧ Ext [] w w' := by
  refine sh_node_Encode_ok _ _ _ _ _ ?_
  unfold sh_node_Encode
  refine VNw.i fun nb w1 hnb hk1 e1 => ?_
  have hk1 : Bk w1 nb (nhC n.leaf c k) 30 := hk1
  refine VLd.nh n.leaf c k (Rd.of_bk hk1 rfl) (VCall.i (Check_spec c k n w1 (h.ext0 e1) (by omega)) ?_)
  rintro e w2 ⟨rfl, e2⟩
  have e02 := e1.then0 e2
  refine exW.i1 (t := .bool) _ rfl (VIf.mk (fun hq => ?_) (fun hq => ?_))
  · have hq : okN n = false := by simpa using hq
    have hr : encN n = ([], 4) := by unfold encN; rw [hq]; rfl
    rw [hr]
    exact ⟨⟨none, 0, 0⟩, rfl, Own.nil _ _, e02⟩
  · have hq : okN n = true := by simpa using hq
    refine VLd.nh n.leaf c k (Rd.of_bk (hk1.ext e2) rfl) (VCall.i (bytes_spec c k n w2 (h.ext0 e02) (okN_smallA hq hsc hsk)) ?_)
    rintro e w3 ⟨s3, rfl, h3, e3⟩
    have hl3 := h3.len
    have e03 := e02.then0 e3
    refine exW.i1 (t := .sl) s3 rfl (VIf.mk (fun hb => ?_) (fun hb => ?_))
    · have hb : 512 < (bytesN n).length := by rw [hl3] at hb; simp at hb; omega
      have hr : encN n = ([], 40) := by unfold encN; rw [if_pos hq, if_pos hb]
      rw [hr]
      exact ⟨⟨none, 0, 0⟩, rfl, Own.nil _ _, e03⟩
    · have hb : ¬ 512 < (bytesN n).length := by rw [hl3] at hb; simp at hb; omega
      have hr : encN n = (bytesN n, 0) := by unfold encN; rw [if_pos hq, if_neg hb]
      rw [hr]
      exact ⟨s3, rfl, h3.mono e02.size, e03⟩
theorem Size_any (c k : Sl) (n : Nd) (w : World) (h : NIn w c k n) (hsc : n.cs.length ≤ 1000) (hsk : n.ks.length ≤ 1000) : Calls Try.prog 21 #[.agg (nhC n.leaf c k).toArray] w fun e w' => e = .returned (.int .i64 ((sizeN n : Nat) : Int)) ∧ Ext [] w w' := by
  refine sh_node_Size_ok _ _ _ _ _ ?_
  unfold sh_node_Size
  refine VNw.i fun nb w1 hnb hk1 e1 => ?_
  have hk1 : Bk w1 nb (nhC n.leaf c k) 30 := hk1
  refine VLd.nh n.leaf c k (Rd.of_bk hk1 rfl) (VCall.i (Check_spec c k n w1 (h.ext0 e1) (by omega)) ?_)
  rintro e w2 ⟨rfl, e2⟩
  have e02 := e1.then0 e2
  refine exW.i1 (t := .bool) _ rfl (VIf.mk (fun hq => ⟨?_, e02⟩) (fun hq => ?_))
  · have hq : okN n = false := by simpa using hq
    unfold sizeN
    rw [hq]; rfl
  · have hq : okN n = true := by simpa using hq
    refine VLd.nh n.leaf c k (Rd.of_bk (hk1.ext e2) rfl) (VCall.i (bytes_spec c k n w2 (h.ext0 e02) (okN_smallA hq hsc hsk)) ?_)
    rintro e w3 ⟨s3, rfl, h3, e3⟩
    refine exW.i1 (t := .sl) s3 rfl (VSet.i ⟨?_, e02.then0 e3⟩)
    unfold sizeN
    rw [if_pos hq, h3.len]
theorem xEncode_any (c k : Sl) (n : Nd) (w : World) (h : NIn w c k n) (hsc : n.cs.length ≤ 1000) (hsk : n.ks.length ≤ 1000) : Calls Try.prog 23 #[.agg (nhC n.leaf c k).toArray] w fun e w' => ∃ s' : Sl, e = .returned (.tuple #[.slice s'.base s'.len s'.cap, .int .i64 (encN n).2]) ∧ Own w w' s' (encN n).1 ∧ Ext [] w w' := by
  refine sh_butteryref06_Encode_ok _ _ _ _ _ ?_
  unfold sh_butteryref06_Encode
  refine VNw.i fun nb w1 hnb hk1 e1 => ?_
  have hk1 : Bk w1 nb (nhC n.leaf c k) 25 := hk1
  refine VLd.nh n.leaf c k (Rd.of_bk hk1 rfl) (VCall.i (xCheck_spec c k n w1 (h.ext0 e1) (by omega)) ?_)
  rintro e w2 ⟨rfl, e2⟩
  have e02 := e1.then0 e2
  refine exW.i1 (t := .bool) _ rfl (VIf.mk (fun hq => ?_) (fun hq => ?_))
  · have hq : okN n = false := by simpa using hq
    have hr : encN n = ([], 4) := by unfold encN; rw [hq]; rfl
    rw [hr]
    exact ⟨⟨none, 0, 0⟩, rfl, Own.nil _ _, e02⟩
  · have hq : okN n = true := by simpa using hq
    refine VLd.nh n.leaf c k (Rd.of_bk (hk1.ext e2) rfl) (VCall.i (xbytes_spec c k n w2 (h.ext0 e02) (okN_smallA hq hsc hsk)) ?_)
    rintro e w3 ⟨s3, rfl, h3, e3⟩
    have hl3 := h3.len
    have e03 := e02.then0 e3
    refine exW.i1 (t := .sl) s3 rfl (VIf.mk (fun hb => ?_) (fun hb => ?_))
    · have hb : 512 < (bytesN n).length := by rw [hl3] at hb; simp at hb; omega
      have hr : encN n = ([], 40) := by unfold encN; rw [if_pos hq, if_pos hb]
      rw [hr]
      exact ⟨⟨none, 0, 0⟩, rfl, Own.nil _ _, e03⟩
    · have hb : ¬ 512 < (bytesN n).length := by rw [hl3] at hb; simp at hb; omega
      have hr : encN n = (bytesN n, 0) := by unfold encN; rw [if_pos hq, if_neg hb]
      rw [hr]
      exact ⟨s3, rfl, h3.mono e02.size, e03⟩
theorem xSize_any (c k : Sl) (n : Nd) (w : World) (h : NIn w c k n) (hsc : n.cs.length ≤ 1000) (hsk : n.ks.length ≤ 1000) : Calls Try.prog 26 #[.agg (nhC n.leaf c k).toArray] w fun e w' => e = .returned (.int .i64 ((sizeN n : Nat) : Int)) ∧ Ext [] w w' := by
  refine sh_butteryref06_Size_ok _ _ _ _ _ ?_
  unfold sh_butteryref06_Size
  refine VNw.i fun nb w1 hnb hk1 e1 => ?_
  have hk1 : Bk w1 nb (nhC n.leaf c k) 25 := hk1
  refine VLd.nh n.leaf c k (Rd.of_bk hk1 rfl) (VCall.i (xCheck_spec c k n w1 (h.ext0 e1) (by omega)) ?_)
  rintro e w2 ⟨rfl, e2⟩
  have e02 := e1.then0 e2
  refine exW.i1 (t := .bool) _ rfl (VIf.mk (fun hq => ⟨?_, e02⟩) (fun hq => ?_))
  · have hq : okN n = false := by simpa using hq
    unfold sizeN
    rw [hq]; rfl
  · have hq : okN n = true := by simpa using hq
    refine VLd.nh n.leaf c k (Rd.of_bk (hk1.ext e2) rfl) (VCall.i (xbytes_spec c k n w2 (h.ext0 e02) (okN_smallA hq hsc hsk)) ?_)
    rintro e w3 ⟨s3, rfl, h3, e3⟩
    refine exW.i1 (t := .sl) s3 rfl (VSet.i ⟨?_, e02.then0 e3⟩)
    unfold sizeN
    rw [if_pos hq, h3.len]
end Go.Proofs.Ytknohdgcigcmdaa
