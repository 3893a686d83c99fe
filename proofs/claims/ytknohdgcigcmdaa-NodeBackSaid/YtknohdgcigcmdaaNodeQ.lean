/-
  Package node: which nodes are looked at; two nodes that are the same.
-/
import Derived.Test.YtknohdgcigcmdaaNodeP
namespace Go.Proofs.Ytknohdgcigcmdaa
open Go.RowKit
set_option maxRecDepth 100000

/-- a node of which no statement says more than an input's bulk allows -/
structure Bulk (n : Nd) : Prop where
  c : n.cs.length ≤ 2000000
  k : n.ks.length ≤ 2000000
  t : ∀ c ∈ n.cs, c.key.size ≤ 2000000 ∧ c.val.size ≤ 2000000
theorem large_spec (c k : Sl) (n : Nd) (w : World) (h : NIn w c k n) (hb : Bulk n) : Calls Try.prog 8 #[.agg (nhC n.leaf c k).toArray] w fun e w' => ∃ r : Bool, e = .returned (.bool r) ∧ (r = false → n.cs.length ≤ 100 ∧ n.ks.length ≤ 100 ∧ ∀ c ∈ n.cs, c.key.size ≤ 8000 ∧ c.val.size ≤ 8000) ∧ Ext [] w w' := by
  refine sh_butterylaw06_large_ok _ _ _ _ _ ?_
  unfold sh_butterylaw06_large
  have hl := h.ci.1.rlen
  have hkl := h.ki.1.rlen
  have hb1 := hb.c
  have hb2 := hb.k
  refine VNw.i fun nb w1 hnb hk1 e1 => ?_
  have hk1 : Bk w1 nb (nhC n.leaf c k) 25 := hk1
  refine VLd.s c (Rd.of_bk hk1 rfl) (VLd.s k (Rd.of_bk hk1 rfl) (VSet.i ?_))
  rw [hl, hkl, w64 (n := ((n.cs.length : Nat) : Int) + ((n.ks.length : Nat) : Int)) (by omega)]
  refine ⟨fun kk many i W => ∃ m : Nat, i = (m : Int) ∧ m ≤ n.cs.length ∧ m ≤ 200 ∧ kk = 200 - m ∧ 0 ≤ many ∧ many ≤ 4000000 + 4000000 * (m : Int) ∧ (∀ j (hj : j < n.cs.length), j < m → (((n.cs[j]).key.size : Int) + ((n.cs[j]).val.size : Int) ≤ many)) ∧ Bk W nb (nhC n.leaf c k) 25 ∧ Ext [] w W,
    ⟨_, 0, rfl, by omega, by omega, rfl, by omega, by omega, fun j _ hj => absurd hj (by omega), hk1, e1⟩, ?_⟩
  rintro kk many i w2 ⟨m, rfl, hm, hm2, rfl, hp, hq, hall, hk2, e2⟩
  refine VLd.s c (Rd.of_bk hk2 rfl) (VIf.mk (fun hd => ?_) (fun hd => ?_))
  · have hd : m < n.cs.length ∧ m < 200 := by
      rw [hl] at hd
      simp only [Bool.and_eq_true, decide_eq_true_eq] at hd
      omega
    obtain ⟨hm', hm3⟩ := hd
    intro w3 hw3
    have ed := Ext.drew' hw3
    have hk3 := hk2.ext ed
    have e03 := e2.then0 ed
    have h3 := h.ext0 e03
    have ht := hb.t _ (List.getElem_mem hm')
    refine VLd.s c (Rd.of_bk hk3 rfl) (VIx.i' (r := ceR) h3.ci.1 hm' fun a hr => VLd.i1 (t := .str) (n.cs[m]).key (hr.fld0 rfl) ?_)
    refine VLd.s c (Rd.of_bk hk3 rfl) (VIx.i' (r := ceR) h3.ci.1 hm' fun a2 hr2 => VLd.i1 (t := .str) (n.cs[m]).val (hr2.fld 1 rfl) (VSet.i ?_))
    rw [w64 (n := many + (((n.cs[m]).key.size : Nat) : Int)) (by omega), w64 (n := many + (((n.cs[m]).key.size : Nat) : Int) + (((n.cs[m]).val.size : Nat) : Int)) (by omega), w64 (n := (m : Int) + 1) (by omega)]
    refine VSet.i ⟨_, (show 200 - (m + 1) < 200 - m by omega), m + 1, rfl, by omega, by omega, rfl, by omega, by omega, fun j hj hlt => ?_, hk3, e03⟩
    by_cases hjm : j = m
    · subst hjm; omega
    · have := hall j hj (by omega)
      omega
  · have hd : m < n.cs.length → ¬ m < 200 := by
      intro h1 h2
      rw [hl] at hd
      have : (decide (((m : Nat) : Int) < ((n.cs.length : Nat) : Int)) && decide (((m : Nat) : Int) < 200)) = true := by simp only [Bool.and_eq_true, decide_eq_true_eq]; omega
      rw [this] at hd
      cases hd
    refine VLd.s c (Rd.of_bk hk2 rfl) (VLd.s k (Rd.of_bk hk2 rfl) ⟨_, rfl, fun hr => ?_, e2⟩)
    rw [hl, hkl] at hr
    simp only [Bool.or_eq_false_iff, decide_eq_false_iff_not] at hr
    obtain ⟨⟨r1, r2⟩, r3⟩ := hr
    refine ⟨by omega, by omega, fun x hx => ?_⟩
    obtain ⟨j, hj, rfl⟩ := List.mem_iff_getElem.1 hx
    have := hall j hj (by omega)
    omega
theorem strSame (x : ByteArray) : (x.toList == x.toList) = true := by simp
theorem Same_spec (c k c' k' : Sl) (n : Nd) (w : World) (h : NIn w c k n) (h' : NIn w c' k' n) (hs : n.cs.length ≤ 1000000 ∧ n.ks.length ≤ 1000000) : Calls Try.prog 16 #[.agg (nhC n.leaf c k).toArray, .agg (nhC n.leaf c' k').toArray] w fun e w' => e = .returned (.bool true) ∧ Ext [] w w' := by
  refine sh_butteryref06_Same_ok _ _ _ _ _ _ _ _ ?_
  unfold sh_butteryref06_Same
  have hl := h.ci.1.rlen
  have hkl := h.ki.1.rlen
  have hl' := h'.ci.1.rlen
  have hkl' := h'.ki.1.rlen
  refine VNw.i fun ab w1 hab hk1 e1 => VNw.i fun bb w2 hbb hk2 e2 => ?_
  have ha2 : Bk w2 ab (nhC n.leaf c k) 25 := hk1.ext e2
  have hb2 : Bk w2 bb (nhC n.leaf c' k') 25 := hk2
  have e02 := e1.then0 e2
  refine VLd.i1 (t := .bool) n.leaf (Rd.of_bk ha2 rfl) (VLd.i1 (t := .bool) n.leaf (Rd.of_bk hb2 rfl) (VLd.s c (Rd.of_bk ha2 rfl) (VLd.s c' (Rd.of_bk hb2 rfl) (VLd.s k (Rd.of_bk ha2 rfl) (VLd.s k' (Rd.of_bk hb2 rfl) (VIf.f ?_ ?_))))))
  · rw [hl, hl', hkl, hkl']; simp
  refine ⟨fun kk i W => ∃ m : Nat, i = (m : Int) ∧ m ≤ n.cs.length ∧ kk = n.cs.length - m ∧ Bk W ab (nhC n.leaf c k) 25 ∧ Bk W bb (nhC n.leaf c' k') 25 ∧ Ext [] w W, ⟨_, 0, rfl, by omega, rfl, ha2, hb2, e02⟩, ?_⟩
  rintro kk i w3 ⟨m, rfl, hm, rfl, ha3, hb3, e03⟩
  refine VLd.s c (Rd.of_bk ha3 rfl) (VIf.mk (fun hd => ?_) (fun hd => ?_))
  · have hm' : m < n.cs.length := by rw [hl] at hd; simp at hd; omega
    intro w4 hw4
    have ed := Ext.drew' hw4
    have ha4 := ha3.ext ed
    have hb4 := hb3.ext ed
    have e04 := e03.then0 ed
    refine VLd.s c (Rd.of_bk ha4 rfl) (VIx.i' (r := ceR) (h.ext0 e04).ci.1 hm' fun a hr => VLd.ce (n.cs[m]) hr ?_)
    refine VLd.s c' (Rd.of_bk hb4 rfl) (VIx.i' (r := ceR) (h'.ext0 e04).ci.1 hm' fun a2 hr2 => VLd.ce (n.cs[m]) hr2 (VIf.f ?_ ?_))
    · simp
    · rw [w64 (n := (m : Int) + 1) (by omega)]
      exact VSet.i ⟨_, (show n.cs.length - (m + 1) < n.cs.length - m by omega), m + 1, rfl, by omega, rfl, ha4, hb4, e04⟩
  · refine ⟨fun kk i W => ∃ m : Nat, i = (m : Int) ∧ m ≤ n.ks.length ∧ kk = n.ks.length - m ∧ Bk W ab (nhC n.leaf c k) 25 ∧ Bk W bb (nhC n.leaf c' k') 25 ∧ Ext [] w W, ⟨_, 0, rfl, by omega, rfl, ha3, hb3, e03⟩, ?_⟩
    rintro kk i w5 ⟨m, rfl, hm, rfl, ha5, hb5, e05⟩
    refine VLd.s k (Rd.of_bk ha5 rfl) (VIf.mk (fun hd => ?_) (fun hd => ⟨rfl, e05⟩))
    have hm' : m < n.ks.length := by rw [hkl] at hd; simp at hd; omega
    intro w6 hw6
    have ed := Ext.drew' hw6
    have ha6 := ha5.ext ed
    have hb6 := hb5.ext ed
    have e06 := e05.then0 ed
    refine VLd.s k (Rd.of_bk ha6 rfl) (VIx.i' (r := itR) (h.ext0 e06).ki.1 hm' fun a hr => VLd.i1 (t := .int .i64) (n.ks[m]) hr ?_)
    refine VLd.s k' (Rd.of_bk hb6 rfl) (VIx.i' (r := itR) (h'.ext0 e06).ki.1 hm' fun a2 hr2 => VLd.i1 (t := .int .i64) (n.ks[m]) hr2 (VIf.f ?_ ?_))
    · simp
    · rw [w64 (n := (m : Int) + 1) (by omega)]
      exact VSet.i ⟨_, (show n.ks.length - (m + 1) < n.ks.length - m by omega), m + 1, rfl, by omega, rfl, ha6, hb6, e06⟩
end Go.Proofs.Ytknohdgcigcmdaa
