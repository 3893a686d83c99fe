/-
  Package node: cut in two.
-/
import Derived.Test.YtknohdgcigcmdaaNodeG
namespace Go.Proofs.Ytknohdgcigcmdaa
open Go.RowKit
set_option maxRecDepth 100000

theorem exW.two {e : Ending} {w : World} {K : ArrW [CT.bool, CT.sl, CT.sl, CT.str, CT.bool, CT.sl, CT.sl]} (b1 : Bool) (c1 k1 : Sl) (x : ByteArray) (b2 : Bool) (c2 k2 : Sl) (he : e = .returned (.tuple #[.agg (nhC b1 c1 k1).toArray, .string x, .agg (nhC b2 c2 k2).toArray])) (k : K b1 c1 k1 x b2 c2 k2 w) :
    exW (flatCT (.tuple #[.agg #[.bool false, .slice none 0 0, .slice none 0 0], .string ByteArray.empty, .agg #[.bool false, .slice none 0 0, .slice none 0 0]])) (fun vs => e = .returned (rebuild (.tuple #[.agg #[.bool false, .slice none 0 0, .slice none 0 0], .string ByteArray.empty, .agg #[.bool false, .slice none 0 0, .slice none 0 0]]) vs)) K w := ⟨b1, c1, k1, x, b2, c2, k2, he, k⟩
theorem atN_leaf (n : Nd) (i : Nat) : (atN n i).1.leaf = n.leaf ∧ (atN n i).2.leaf = n.leaf := by
  unfold atN
  cases h : n.leaf <;> simp
theorem Small.at {n : Nd} (h : Small n) (i : Nat) : Small (atN n i).1 ∧ Small (atN n i).2 := by
  have h1 := h.c
  have h2 := h.k
  unfold atN
  split
  · exact ⟨⟨by simp only [List.length_take]; omega, by simp, fun c hc => h.t c (List.mem_of_mem_take hc)⟩, ⟨by simp only [List.length_drop]; omega, by simp, fun c hc => h.t c (List.mem_of_mem_drop hc)⟩⟩
  · exact ⟨⟨by simp only [List.length_take]; omega, by simp only [List.length_take]; omega, fun c hc => h.t c (List.mem_of_mem_take hc)⟩, ⟨by simp only [List.length_drop]; omega, by simp only [List.length_drop]; omega, fun c hc => h.t c (List.mem_of_mem_drop hc)⟩⟩
theorem bytesN_len {n : Nd} (h : Small n) : (bytesN n).length ≤ 300000000 := by
  have h1 := headB_len n
  have h2 := cellsB_len (leaf := n.leaf) h.t
  have h3 := kidsB_len n.ks
  have := h.c
  have := h.k
  unfold bytesN
  rw [List.length_append, List.length_append]
  split
  · rw [List.length_nil]; omega
  · omega
def subN (n : Nd) (i : Nat) : Int := ((bytesN (atN n i).1).length : Int) - ((bytesN (atN n i).2).length : Int)
def diffN (n : Nd) (i : Nat) : Int := if subN n i < 0 then - subN n i else subN n i
def bestTo (n : Nd) (first : Nat) : Nat → Nat
  | 0 => first
  | j + 1 => if diffN n (first + 1 + j) < diffN n (bestTo n first j) then first + 1 + j else bestTo n first j
theorem bestTo_le (n : Nd) (first : Nat) : ∀ j, bestTo n first j ≤ first + j
  | 0 => Nat.le_refl _
  | j + 1 => by
    unfold bestTo
    have := bestTo_le n first j
    split <;> omega
def firstN (n : Nd) : Nat := if n.leaf then 1 else 0
def cutN (n : Nd) : Nd × ByteArray × Nd :=
  if n.cs.length ≤ firstN n then (n, ByteArray.mk #[], ⟨false, [], []⟩)
  else ((atN n (bestTo n (firstN n) (n.cs.length - firstN n - 1))).1, (n.cs.getD (bestTo n (firstN n) (n.cs.length - firstN n - 1)) zCe).key, (atN n (bestTo n (firstN n) (n.cs.length - firstN n - 1))).2)
theorem unlike_spec (c k : Sl) (n : Nd) (w : World) (nb i : Nat) (hi : i < n.cs.length) (hk : Bk w nb (nhC n.leaf c k) 30) (h : NIn w c k n) (hs : Small n) :
    Calls Try.prog 33 #[.int .i64 (i : Int), .pointer (some ⟨nb, 0, none⟩)] w fun e w' => e = .returned (.int .i64 (diffN n i)) ∧ Ext [] w w' := by
  refine sh_node_Cut_1_ok _ _ _ _ ?_
  unfold sh_node_Cut_1
  have hsc := hs.c
  have hsk := hs.k
  refine VLd.nh n.leaf c k (Rd.of_bk hk rfl) (VCall.i (at_spec c k n w i hi h ⟨hsc, hsk⟩) ?_)
  rintro e w1 ⟨c1, k1, c2, k2, rfl, h1, h2, _, e1⟩
  refine exW.two n.leaf c1 k1 _ n.leaf c2 k2 rfl ?_
  refine VNw.i fun ab w2 hab hk2 e2 => VNw.i fun bb w3 hbb hk3 e3 => ?_
  refine VSt.bk (hk2.ext e3) rfl (by simp) fun w4 hk4 e4 => ?_
  have z2 := e2.size
  have la := hk2.lt
  refine VSt.bk (hk3.ext e4 (by simp; omega)) rfl (by simp) fun w5 hk5 e5 => ?_
  intro w6 hw6
  have ed := Ext.drew' hw6
  have e35 : Ext [ab, bb] w3 w5 := (e4.mono (N := [ab, bb]) (by simp)).then e5 (fun i hi _ => by simp at hi; subst hi; simp)
  have e15 : Ext [] w1 w6 := ((e2.then0 e3).then e35 (fun i hi hlt => by simp at hi; omega)).then0 ed
  have hk4 : Bk w6 ab (nhC n.leaf c1 k1) 30 := (hk4.ext e5 (by simp; omega)).ext ed
  have hk5 : Bk w6 bb (nhC n.leaf c2 k2) 30 := hk5.ext ed
  obtain ⟨f1, f2⟩ := atN_leaf n i
  obtain ⟨s1, s2⟩ := hs.at i
  refine VLd.nh n.leaf c1 k1 (Rd.of_bk hk4 rfl) (VLd.nh n.leaf c2 k2 (Rd.of_bk hk5 rfl) ?_)
  have b1 := bytes_spec c1 k1 (atN n i).1 w6 (h1.ext0 e15).nin s1
  rw [f1] at b1
  refine VCall.i b1 ?_
  rintro e w7 ⟨x1, rfl, g1, e7⟩
  refine exW.i1 (t := .sl) x1 rfl ⟨Rd.of_bk (hk5.ext e7) rfl, ?_⟩
  have b2 := bytes_spec c2 k2 (atN n i).2 w7 ((h2.ext0 e15).ext0 e7).nin s2
  rw [f2] at b2
  refine VCall.i b2 ?_
  rintro e w8 ⟨x2, rfl, g2, e8⟩
  refine exW.i1 (t := .sl) x2 rfl ?_
  rw [g1.len, g2.len]
  have l1 := bytesN_len s1
  have l2 := bytesN_len s2
  rw [w64 (n := (((bytesN (atN n i).1).length : Nat) : Int) - (((bytesN (atN n i).2).length : Nat) : Int)) (by omega)]
  refine VSet.i (VSet.i ⟨?_, ((e1.then0 e15).then0 e7).then0 e8⟩)
  show _ = Ending.returned (Value.int .i64 (diffN n i))
  have : (if IntKind.wrap .i64 (0 - subN n i) > subN n i then IntKind.wrap .i64 (0 - subN n i) else subN n i) = diffN n i := by
    have hb : -300000000 ≤ subN n i ∧ subN n i ≤ 300000000 := by unfold subN; omega
    rw [w64 (by omega)]
    unfold diffN
    split <;> split <;> omega
  rw [← this]
  rfl
theorem askUnlike {c k : Sl} {n : Nd} {w : World} {nb i : Nat} (hi : i < n.cs.length) (hk : Bk w nb (nhC n.leaf c k) 30) (h : NIn w c k n) (hs : Small n) {K : Int → World → Prop} (kk : ∀ w', Ext [] w w' → K (diffN n i) w') :
    VDyn none Try.prog (.func (.func 33) #[] #[.pointer (some ⟨nb, 0, none⟩)]) #[.int .i64 (i : Int)] w (.int .i64 0) fun (r : Int) (w' : World) => K r w' := by
  refine VDyn.i (by kernel_rfl) (VCall.i (unlike_spec c k n w nb i hi hk h hs) ?_)
  rintro e w' ⟨rfl, e'⟩
  exact exW.i1 (t := .int .i64) _ rfl (kk w' e')
theorem OwnN.nil (T : TypeId) (w0 w : World) (b : Bool) : OwnN T w0 w ⟨none, 0, 0⟩ ⟨none, 0, 0⟩ ⟨b, [], []⟩ := ⟨OwnR.nil _ _ _ _, OwnR.nil _ _ _ _⟩
set_option maxHeartbeats 1000000 in
theorem Cut_spec (c k : Sl) (n : Nd) (w : World) (h : NIn w c k n) (hs : Small n) : Calls Try.prog 13 #[.agg (nhC n.leaf c k).toArray] w fun e w' =>
      ∃ c1 k1 c2 k2 : Sl, e = .returned (.tuple #[.agg (nhC (cutN n).1.leaf c1 k1).toArray, .string (cutN n).2.1, .agg (nhC (cutN n).2.2.leaf c2 k2).toArray]) ∧ OwnN 48 w w' c1 k1 (cutN n).1 ∧ OwnN 48 w w' c2 k2 (cutN n).2.2 ∧ (∀ b ∈ nodeB c1 k1, b ∉ nodeB c2 k2) ∧ Ext [] w w' := by
  refine sh_node_Cut_ok _ _ _ _ _ ?_
  unfold sh_node_Cut
  have hl := h.ci.1.rlen
  have hsc := hs.c
  have hsk := hs.k
  refine VNw.i fun nb w1 hnb hk1 e1 => VNw.i fun b2 w2 hb2 hr2 e2 => VNw.i fun b4 w3 hb4 hs3 e3 => ?_
  have hk3 : Bk w3 nb (nhC n.leaf c k) 30 := (hk1.ext e2).ext e3
  have hr3 := hr2.ext e3
  have e03 := (e1.then0 e2).then0 e3
  have z1 := e1.size
  have z2 := e2.size
  have z3 := e03.size
  have lb2 := hr2.lt
  have lnb := hk1.lt
  have l6 : b2 < w3.heap.size ∧ b4 < w3.heap.size := ⟨hr3.lt, hs3.lt⟩
  refine ⟨fun x W => x = ((firstN n : Nat) : Int) ∧ W = w3, ?_, ?_⟩
  · refine VLd.i1 (t := .bool) n.leaf (Rd.of_bk hk3 rfl) (VIf.mk (fun hq => ⟨?_, rfl⟩) (fun hq => ⟨?_, rfl⟩))
    · unfold firstN; rw [if_pos hq]; rfl
    · unfold firstN; rw [if_neg (by simp [hq])]; rfl
  rintro x w4 ⟨rfl, rfl⟩
  have hf1 : firstN n ≤ 1 := by unfold firstN; split <;> omega
  refine VLd.s c (Rd.of_bk hk3 rfl) (VIf.mk (fun hd => ?_) (fun hd => ?_))
  · have hd : n.cs.length ≤ firstN n := by rw [hl] at hd; simp at hd; omega
    have hcut : cutN n = (n, ByteArray.mk #[], ⟨false, [], []⟩) := by unfold cutN; rw [if_pos hd]
    rw [hcut]
    refine VLd.nh n.leaf c k (Rd.of_bk hk3 rfl) (VCall.i (twin_spec c k n w4 (h.ext0 e03) ⟨hsc, hsk⟩) ?_)
    rintro e w5 ⟨c', k', rfl, h5, e5⟩
    refine exW.i3 (t := .bool) (u := .sl) (v := .sl) n.leaf c' k' rfl ?_
    refine VSt.bk (hr3.ext e5) rfl (by simp) fun w6 hr6 e6 => ?_
    have hr6 : Bk w6 b2 (nhC n.leaf c' k') 30 := hr6
    refine VSt.bk ((hs3.ext e5).ext e6 (by simp; omega)) rfl (by simp) fun w7 hs7 e7 => ?_
    have hs7 : Bk w7 b4 (nhC false ⟨none, 0, 0⟩ ⟨none, 0, 0⟩) 30 := hs7
    have hr7 := hr6.ext e7 (by simp; omega)
    have g5 := h5.ge
    refine VLd.nh n.leaf c' k' (Rd.of_bk hr7 rfl) (VLd.nh false ⟨none, 0, 0⟩ ⟨none, 0, 0⟩ (Rd.of_bk hs7 rfl) ⟨c', k', ⟨none, 0, 0⟩, ⟨none, 0, 0⟩, rfl, ?_, OwnN.nil _ _ _ _, fun b _ hb => by simp [nodeB, rowB] at hb, ?_⟩)
    · exact ((h5.mono z3).ext e6 (fun b hb hm => by have := g5 b hb; simp at hm; omega)).ext e7 (fun b hb hm => by have := g5 b hb; simp at hm; omega)
    · exact ((e03.then0 e5).then e6 (fun i hi hlt => by simp at hi; omega)).then e7 (fun i hi hlt => by simp at hi; omega)
  have hd : firstN n < n.cs.length := by rw [hl] at hd; simp at hd; omega
  refine VSet.i (VSet.i ?_)
  rw [w64 (n := ((firstN n : Nat) : Int) + 1) (by omega)]
  refine ⟨fun kk best i W => ∃ j : Nat, i = ((firstN n + 1 + j : Nat) : Int) ∧ best = ((bestTo n (firstN n) j : Nat) : Int) ∧ j ≤ n.cs.length - firstN n - 1 ∧ kk = n.cs.length - j ∧ Bk W nb (nhC n.leaf c k) 30 ∧ Ext [] w4 W, ⟨_, 0, by omega, rfl, by omega, rfl, hk3, Ext.refl _ _⟩, ?_⟩
  rintro kk best i w8 ⟨j, rfl, rfl, hj, rfl, hk8, e8⟩
  have hbl := bestTo_le n (firstN n) j
  refine VLd.s c (Rd.of_bk hk8 rfl) (VIf.mk (fun hd2 => ?_) (fun hd2 => ?_))
  · have hd2 : firstN n + 1 + j < n.cs.length := by rw [hl] at hd2; simp at hd2; omega
    refine ⟨fun b W => b = ((bestTo n (firstN n) (j + 1) : Nat) : Int) ∧ Bk W nb (nhC n.leaf c k) 30 ∧ Ext [] w4 W, ?_, ?_⟩
    · have e08 := e03.then0 e8
      refine askUnlike hd2 hk8 (h.ext0 e08) hs fun w9 e9 => ?_
      refine askUnlike (i := bestTo n (firstN n) j) (by omega) (hk8.ext e9) (h.ext0 (e08.then0 e9)) hs fun w10 e10 => ?_
      have hk10 := (hk8.ext e9).ext e10
      refine VIf.mk (fun hq => VSet.i ⟨?_, hk10, (e8.then0 e9).then0 e10⟩) (fun hq => ⟨?_, hk10, (e8.then0 e9).then0 e10⟩)
      · have hq := of_decide_eq_true hq
        unfold bestTo
        rw [if_pos hq]
      · have hq := of_decide_eq_false hq
        conv => rhs; unfold bestTo
        rw [if_neg hq]
    · rintro b w11 ⟨rfl, hk11, e11⟩
      rw [w64 (n := ((firstN n + 1 + j : Nat) : Int) + 1) (by omega)]
      exact VSet.i ⟨_, (show n.cs.length - (j + 1) < n.cs.length - j by omega), j + 1, by omega, rfl, by omega, rfl, hk11, e11⟩
  · have hjj : j = n.cs.length - firstN n - 1 := by rw [hl] at hd2; simp at hd2; omega
    obtain ⟨b, hb⟩ : ∃ b, b = bestTo n (firstN n) j := ⟨_, rfl⟩
    have hbl2 : b < n.cs.length := by omega
    have hcut : cutN n = ((atN n b).1, (n.cs[b]).key, (atN n b).2) := by
      unfold cutN
      rw [if_neg (by omega), ← hjj, ← hb, getD_at hbl2]
    rw [hcut, ← hb]
    have e08 := e03.then0 e8
    refine VLd.nh n.leaf c k (Rd.of_bk hk8 rfl) (VCall.i (at_spec c k n w8 b hbl2 (h.ext0 e08) ⟨hsc, hsk⟩) ?_)
    rintro e w12 ⟨c1, k1, c2, k2, rfl, h1, h2, hap, e12⟩
    refine exW.two n.leaf c1 k1 _ n.leaf c2 k2 rfl ?_
    refine VSt.bk ((hr3.ext e8).ext e12) rfl (by simp) fun w13 hr13 e13 => ?_
    have hr13 : Bk w13 b2 (nhC n.leaf c1 k1) 30 := hr13
    refine VSt.bk (((hs3.ext e8).ext e12).ext e13 (by simp; omega)) rfl (by simp) fun w14 hs14 e14 => ?_
    have hs14 : Bk w14 b4 (nhC n.leaf c2 k2) 30 := hs14
    have hr14 := hr13.ext e14 (by simp; omega)
    have g1 := h1.ge
    have g2 := h2.ge
    have z8 := e8.size
    obtain ⟨f1, f2⟩ := atN_leaf n b
    refine VLd.nh n.leaf c1 k1 (Rd.of_bk hr14 rfl) (VLd.nh n.leaf c2 k2 (Rd.of_bk hs14 rfl) ⟨c1, k1, c2, k2, by rw [f1, f2]; rfl, ?_, ?_, hap, ?_⟩)
    · exact ((h1.mono e08.size).ext e13 (fun b hb hm => by have := g1 b hb; simp at hm; omega)).ext e14 (fun b hb hm => by have := g1 b hb; simp at hm; omega)
    · exact ((h2.mono e08.size).ext e13 (fun b hb hm => by have := g2 b hb; simp at hm; omega)).ext e14 (fun b hb hm => by have := g2 b hb; simp at hm; omega)
    · exact ((e08.then0 e12).then e13 (fun i hi hlt => by simp at hi; omega)).then e14 (fun i hi hlt => by simp at hi; omega)
end Go.Proofs.Ytknohdgcigcmdaa
