/-
  Package node, the document's: a node's bytes, its size, written.
-/
import Derived.Test.YtknohdgcigcmdaaNodeD
namespace Go.Proofs.Ytknohdgcigcmdaa
open Go.RowKit
set_option maxRecDepth 100000

set_option maxHeartbeats 1000000 in
theorem xbytes_spec (c k : Sl) (n : Nd) (w : World) (h : NIn w c k n) (hs : Small n) : Calls Try.prog 38 #[.agg (nhC n.leaf c k).toArray] w fun e w' => ∃ s' : Sl, e = .returned (.slice s'.base s'.len s'.cap) ∧ Own w w' s' (bytesN n) ∧ Ext [] w w' := by
  refine sh_butteryref06_bytes_ok _ _ _ _ _ ?_
  unfold sh_butteryref06_bytes
  have hl := h.ci.1.rlen
  have hkl := h.ki.1.rlen
  have hsc := hs.c
  have hsk := hs.k
  refine VNw.i fun nb w1 hnb hk1 e1 => ?_
  have hk1 : Bk w1 nb (nhC n.leaf c k) 25 := hk1
  have hfl : (enc (if n.leaf then 1 else 0)).length ≤ 10 := enc_len10 (by cases n.leaf <;> simp)
  refine VLd.i1 (t := .bool) n.leaf (Rd.of_bk hk1 rfl) (VCall.i (XFlag_spec ⟨none, 0, 0⟩ [] n.leaf w1 (Seg.nil _ _ _) (by simp)) ?_)
  rintro e w2 ⟨s2, rfl, h2, e2⟩
  rw [List.nil_append] at h2
  have e02 := e1.then0 e2
  refine exW.i1 (t := .sl) s2 rfl (VLd.s c (Rd.of_bk (hk1.ext e2) rfl) ?_)
  rw [hl]
  refine VCall.i (XCount_spec s2 _ (n.cs.length : Int) w2 h2.seg (by omega)) ?_
  rintro e w3 ⟨s3, rfl, h3, e3⟩
  have e03 := e02.then0 e3
  have h3 : Own w w3 s3 (headB n) := h3.mono e02.size
  refine exW.i1 (t := .sl) s3 rfl ?_
  have hhl := headB_len n
  refine ⟨fun kk b' i W => ∃ m : Nat, i = (m : Int) ∧ m ≤ n.cs.length ∧ kk = n.cs.length - m ∧ Own w W b' (headB n ++ (n.cs.take m).flatMap (cellB n.leaf)) ∧ Bk W nb (nhC n.leaf c k) 25 ∧ Ext [] w W, ⟨_, 0, rfl, by omega, rfl, by simpa using h3, (hk1.ext e2).ext e3, e03⟩, ?_⟩
  rintro kk b' i w10 ⟨m, rfl, hm, rfl, h10, hk10, e10⟩
  have htl : ∀ m, m ≤ n.cs.length → (headB n ++ (n.cs.take m).flatMap (cellB n.leaf)).length ≤ 300000000 := fun m hm => by
    have := cellsB_len (leaf := n.leaf) (cs := n.cs.take m) (fun x hx => hs.t x (List.mem_of_mem_take hx))
    rw [List.length_take] at this
    rw [List.length_append]
    omega
  refine VLd.s c (Rd.of_bk hk10 rfl) (VIf.mk (fun hd => ?_) (fun hd => ?_))
  · have hm' : m < n.cs.length := by rw [hl] at hd; simp at hd; omega
    have h10n := h.ext0 e10
    have hlm := htl m hm
    obtain ⟨x, hx⟩ : ∃ x, x = n.cs[m] := ⟨_, rfl⟩
    have hxs := hs.t x (by rw [hx]; exact List.getElem_mem hm')
    have hkey := encS_len x.key
    have hval := encS_len x.val
    refine ⟨fun b2 W => Own w W b2 (headB n ++ (n.cs.take (m + 1)).flatMap (cellB n.leaf)) ∧ Bk W nb (nhC n.leaf c k) 25 ∧ Ext [] w W, ?_, ?_⟩
    · refine VLd.s c (Rd.of_bk hk10 rfl) (VIx.i' (r := ceR) h10n.ci.1 hm' fun a hr => VLd.ce (n.cs[m]) hr ?_)
      rw [← hx]
      refine VNw.i fun cb w11 hcb hk11 e11 => VSt.bk hk11 rfl (by simp) fun w12 hk12 e12 => ?_
      have hk12 : Bk w12 cb (ceC x) 47 := hk12
      have e1012 : Ext [] w10 w12 := e11.then e12 (fun i hi hlt => by simp at hi; omega)
      have ho12 := h10.ext0 e1012
      have hn12 := hk10.ext e1012
      have e012 := e10.then0 e1012
      refine VLd.i1 (t := .str) x.key (Rd.of_bk hk12 rfl) ?_
      refine VCall.i (XStr_spec b' _ x.key w12 ho12.seg (by omega) (by omega)) ?_
      rintro e w13 ⟨s13, rfl, h13, e13⟩
      have h13 := h13.mono e012.size
      have hk13 := hk12.ext e13
      have hn13 := hn12.ext e13
      have e013 := e012.then0 e13
      refine exW.i1 (t := .sl) s13 rfl (VLd.i1 (t := .bool) n.leaf (Rd.of_bk hn13 rfl) (VIf.mk (fun hq => ?_) (fun hq => ?_)))
      · have hq : n.leaf = false := by simpa using hq
        refine ⟨?_, hn13, e013⟩
        have hcb : cellB n.leaf x = encS x.key := by unfold cellB; rw [hq]; simp
        rw [flatMap_take_succ _ _ _ hm', ← hx, hcb]
        simpa using h13
      · have hq : n.leaf = true := by simpa using hq
        refine VLd.i1 (t := .int .i64) x.long (Rd.of_bk hk13 rfl) (VCall.i (XCount_spec s13 _ x.long w13 h13.seg (by rw [List.length_append]; omega)) ?_)
        rintro e w14 ⟨s14, rfl, h14, e14⟩
        have h14 := h14.mono e013.size
        have hk14 := hk13.ext e14
        have hn14 := hn13.ext e14
        have e014 := e013.then0 e14
        have hc1 := encC_len x.long
        refine exW.i1 (t := .sl) s14 rfl (VLd.i1 (t := .int .i64) x.long (Rd.of_bk hk14 rfl) (VIf.mk (fun h0 => ?_) (fun h0 => ?_)))
        · have h0 : x.long = 0 := by simpa using h0
          refine VLd.i1 (t := .str) x.val (Rd.of_bk hk14 rfl) (VCall.i (XStr_spec s14 _ x.val w14 h14.seg (by simp only [List.length_append] at hlm ⊢; omega) (by omega)) ?_)
          rintro e w17 ⟨s17, rfl, h17, e17⟩
          refine exW.i1 (t := .sl) s17 rfl ⟨?_, hn14.ext e17, e014.then0 e17⟩
          have h17 := h17.mono e014.size
          have hcb : cellB n.leaf x = encS x.key ++ (encC x.long ++ encS x.val) := by unfold cellB; rw [hq, if_pos rfl, if_pos h0]
          rw [flatMap_take_succ _ _ _ hm', ← hx, hcb]
          simpa using h17
        · have h0 : ¬ x.long = 0 := by simpa using h0
          refine VLd.i1 (t := .int .i64) x.size (Rd.of_bk hk14 rfl) (VCall.i (XCount_spec s14 _ x.size w14 h14.seg (by simp only [List.length_append] at hlm ⊢; omega)) ?_)
          rintro e w19 ⟨s19, rfl, h19, e19⟩
          refine exW.i1 (t := .sl) s19 rfl ⟨?_, hn14.ext e19, e014.then0 e19⟩
          have h19 := h19.mono e014.size
          have hcb : cellB n.leaf x = encS x.key ++ (encC x.long ++ encC x.size) := by unfold cellB; rw [hq, if_pos rfl, if_neg h0]
          rw [flatMap_take_succ _ _ _ hm', ← hx, hcb]
          simpa using h19
    · rintro b2 w20 ⟨h20, hn20, e20⟩
      rw [w64 (n := (m : Int) + 1) (by omega)]
      exact VSet.i ⟨_, (show n.cs.length - (m + 1) < n.cs.length - m by omega), m + 1, rfl, by omega, rfl, h20, hn20, e20⟩
  · have hmm : m = n.cs.length := by rw [hl] at hd; simp at hd; omega
    subst hmm
    rw [List.take_length] at h10
    have hlm := htl n.cs.length (Nat.le_refl _)
    rw [List.take_length] at hlm
    refine ⟨fun kk b2 i W => ∃ m : Nat, i = (m : Int) ∧ m ≤ n.ks.length ∧ kk = n.ks.length - m ∧ Own w W b2 (headB n ++ n.cs.flatMap (cellB n.leaf) ++ (if n.leaf then [] else (n.ks.take m).flatMap encC)) ∧ Bk W nb (nhC n.leaf c k) 25 ∧ Ext [] w W, ⟨_, 0, rfl, by omega, rfl, by simpa using h10, hk10, e10⟩, ?_⟩
    rintro kk b2 i w12 ⟨m, rfl, hm, rfl, h12, hk12, e12⟩
    have hkb := kidsB_len (n.ks.take m)
    rw [List.length_take] at hkb
    refine VLd.s k (Rd.of_bk hk12 rfl) (VLd.i1 (t := .bool) n.leaf (Rd.of_bk hk12 rfl) (VIf.mk (fun hd => ?_) (fun hd => ?_)))
    · have hd : m < n.ks.length ∧ n.leaf = false := by rw [hkl] at hd; simpa using hd
      obtain ⟨hm', hq⟩ := hd
      rw [if_neg (by simp [hq])] at h12
      refine VLd.s k (Rd.of_bk hk12 rfl) (VIx.i' (r := itR) (h.ext0 e12).ki.1 hm' fun a hr => VLd.i1 (t := .int .i64) (n.ks[m]) hr ?_)
      refine VCall.i (XCount_spec b2 _ (n.ks[m]) w12 h12.seg (by rw [List.length_append]; omega)) ?_
      rintro e w13 ⟨s13, rfl, h13, e13⟩
      refine exW.i1 (t := .sl) s13 rfl ?_
      rw [w64 (n := (m : Int) + 1) (by omega)]
      refine VSet.i ⟨_, (show n.ks.length - (m + 1) < n.ks.length - m by omega), m + 1, rfl, by omega, rfl, ?_, hk12.ext e13, e12.then0 e13⟩
      rw [if_neg (by simp [hq]), flatMap_take_succ _ _ _ hm', ← List.append_assoc]
      exact h13.mono e12.size
    · have hd : m < n.ks.length → n.leaf = true := by rw [hkl] at hd; simpa using hd
      refine ⟨b2, rfl, ?_, e12⟩
      unfold bytesN
      cases hq : n.leaf with
      | true =>
        rw [hq] at h12
        exact h12
      | false =>
        have hmm : m = n.ks.length := by
          rw [hq] at hd
          have : ¬ m < n.ks.length := fun h => by have := hd h; cases this
          omega
        subst hmm
        rw [List.take_length, hq] at h12
        exact h12
theorem xSize_spec (c k : Sl) (n : Nd) (w : World) (h : NIn w c k n) (hs : Small n) : Calls Try.prog 26 #[.agg (nhC n.leaf c k).toArray] w fun e w' => e = .returned (.int .i64 ((sizeN n : Nat) : Int)) ∧ Ext [] w w' := by
  refine sh_butteryref06_Size_ok _ _ _ _ _ ?_
  unfold sh_butteryref06_Size
  have hsc := hs.c
  refine VNw.i fun nb w1 hnb hk1 e1 => ?_
  have hk1 : Bk w1 nb (nhC n.leaf c k) 25 := hk1
  refine VLd.nh n.leaf c k (Rd.of_bk hk1 rfl) (VCall.i (xCheck_spec c k n w1 (h.ext0 e1) (by omega)) ?_)
  rintro e w2 ⟨rfl, e2⟩
  have e02 := e1.then0 e2
  refine exW.i1 (t := .bool) _ rfl (VIf.mk (fun hq => ⟨?_, e02⟩) (fun hq => ?_))
  · have hq : okN n = false := by simpa using hq
    unfold sizeN
    rw [hq]; rfl
  · have hq : okN n = true := by simpa using hq
    refine VLd.nh n.leaf c k (Rd.of_bk (hk1.ext e2) rfl) (VCall.i (xbytes_spec c k n w2 (h.ext0 e02) hs) ?_)
    rintro e w3 ⟨s3, rfl, h3, e3⟩
    refine exW.i1 (t := .sl) s3 rfl (VSet.i ⟨?_, e02.then0 e3⟩)
    unfold sizeN
    rw [if_pos hq, h3.len]
theorem xEncode_spec (c k : Sl) (n : Nd) (w : World) (h : NIn w c k n) (hs : Small n) : Calls Try.prog 23 #[.agg (nhC n.leaf c k).toArray] w fun e w' => ∃ s' : Sl, e = .returned (.tuple #[.slice s'.base s'.len s'.cap, .int .i64 (encN n).2]) ∧ Own w w' s' (encN n).1 ∧ Ext [] w w' := by
  refine sh_butteryref06_Encode_ok _ _ _ _ _ ?_
  unfold sh_butteryref06_Encode
  have hsc := hs.c
  refine VNw.i fun nb w1 hnb hk1 e1 => ?_
  have hk1 : Bk w1 nb (nhC n.leaf c k) 25 := hk1
  refine VLd.nh n.leaf c k (Rd.of_bk hk1 rfl) (VCall.i (xCheck_spec c k n w1 (h.ext0 e1) (by omega)) ?_)
  rintro e w2 ⟨rfl, e2⟩
  have e02 := e1.then0 e2
  refine exW.i1 (t := .bool) _ rfl (VIf.mk (fun hq => ?_) (fun hq => ?_))
  · have hq : okN n = false := by simpa using hq
    have hr : encN n = ([], 4) := by unfold encN; rw [hq]; rfl
    rw [hr]
    exact ⟨⟨none, 0, 0⟩, rfl, Own.nil _ _, e02⟩
  · have hq : okN n = true := by simpa using hq
    refine VLd.nh n.leaf c k (Rd.of_bk (hk1.ext e2) rfl) (VCall.i (xbytes_spec c k n w2 (h.ext0 e02) hs) ?_)
    rintro e w3 ⟨s3, rfl, h3, e3⟩
    have hl3 := h3.len
    have e03 := e02.then0 e3
    refine exW.i1 (t := .sl) s3 rfl (VIf.mk (fun hb => ?_) (fun hb => ?_))
    · have hb : 512 < (bytesN n).length := by rw [hl3] at hb; simp at hb; omega
      have hr : encN n = ([], 40) := by unfold encN; rw [if_pos hq, if_pos hb]
      rw [hr]
      exact ⟨⟨none, 0, 0⟩, rfl, Own.nil _ _, e03⟩
    · have hb : ¬ 512 < (bytesN n).length := by rw [hl3] at hb; simp at hb; omega
      have hr : encN n = (bytesN n, 0) := by unfold encN; rw [if_pos hq, if_neg hb]
      rw [hr]
      exact ⟨s3, rfl, h3.mono e02.size, e03⟩
end Go.Proofs.Ytknohdgcigcmdaa
