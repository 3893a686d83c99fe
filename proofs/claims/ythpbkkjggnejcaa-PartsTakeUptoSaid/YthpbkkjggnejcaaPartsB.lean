/-
  Package parts: the document's packets and Cut.
-/
import Derived.Test.YthpbkkjggnejcaaPartsA
namespace Go.Proofs.Ythpbkkjggnejcaa
open Go.RowKit
set_option maxRecDepth 100000

theorem Packet_spec (n p c : Int) (x : ByteArray) (w : World) (hx : x.size ≤ 8000) :
    Calls Try.prog 14 #[.int .i64 n, .int .i64 p, .int .i64 c, .string x] w fun e w' => ∃ s : Sl, e = .returned (.slice s.base s.len s.cap) ∧ Own w w' s (pkt n p c x.data.toList) ∧ Ext [] w w' := by
  refine sh_butteryref11_Packet_ok _ _ _ _ _ _ ?_
  unfold sh_butteryref11_Packet
  refine VCall.i (XCount_spec ⟨none, 0, 0⟩ [] n w (Seg.nil _ _ _) (by simp)) ?_
  rintro e w3 ⟨s3, rfl, h3, e3⟩
  have z1 := encC_len n
  refine exW.i1 (t := .sl) s3 rfl (VCall.i (XCount_spec s3 _ p w3 h3.seg (by simp; omega)) ?_)
  rintro e w4 ⟨s4, rfl, h4, e4⟩
  have z2 := encC_len p
  refine exW.i1 (t := .sl) s4 rfl (VCall.i (XCount_spec s4 _ c w4 h4.seg (by simp; omega)) ?_)
  rintro e w5 ⟨s5, rfl, h5, e5⟩
  have z3 := encC_len c
  refine exW.i1 (t := .sl) s5 rfl ?_
  refine VCall.i (XStr_spec s5 _ x w5 h5.seg (by simp; omega) (by omega)) ?_
  rintro e w6 ⟨s6, rfl, h6, e6⟩
  have h6 : Own w5 w6 s6 (bodyP n p c x.data.toList) := by
    have : bodyP n p c x.data.toList = [] ++ encC n ++ encC p ++ encC c ++ encS x := by
      rw [encS_encB (by omega)]; rfl
    rw [this]
    exact h6
  refine exW.i1 (t := .sl) s6 rfl ?_
  have hl : x.data.toList.length = x.size := Array.length_toList
  obtain ⟨q1, q2⟩ := seal_pkt n p c (d := x.data.toList) (by omega)
  refine VCall.i (XSeal_spec 1 s6 _ w6 h6.seg) ?_
  rintro e w7 ⟨s7, rfl, h7, e7⟩
  rw [q1, q2] at *
  have e06 := ((e3.then0 e4).then0 e5).then0 e6
  exact exW.i2 (t := .sl) (u := .int .i64) s7 0 rfl (VSet.i ⟨s7, rfl, h7.mono e06.size, e06.then0 e7⟩)
theorem ext_list (x : ByteArray) (i j : Nat) : (ByteArray.extract x i j).data.toList = (x.data.toList.drop i).take (j - i) := by
  rw [ByteArray.data_extract, Array.toList_extract, List.extract_eq_take_drop]
theorem ba_size (x : ByteArray) : x.size = x.data.toList.length := Array.length_toList.symm
def strR : Rec ByteArray := ⟨fun s => [.string s], 1, fun _ => rfl, fun _ => rfl, by omega⟩
theorem take_map_range (n m : Nat) (f : Nat → List UInt8) (h : m ≤ n) : ((List.range n).map f).take m = (List.range m).map f := by
  rw [← List.map_take, List.take_range, Nat.min_eq_left h]
theorem cnt_pos (n : Nat) : 0 < cnt n := by unfold cnt; split <;> omega
theorem refCut_spec (n : Int) (x : ByteArray) (w : World) :
    Calls Try.prog 11 #[.int .i64 n, .string x] w fun e w' => ∃ (t : Sl) (X : List (Sl × List UInt8)), e = .returned (.tuple #[.slice t.base t.len t.cap, .int .i64 (cutP n x.data.toList).1]) ∧ X.map (·.2) = (cutP n x.data.toList).2 ∧ OwnSS w w' t X ∧ Ext [] w w' := by
  refine sh_butteryref11_Cut_ok _ _ _ _ ?_
  unfold sh_butteryref11_Cut
  obtain ⟨l, hl⟩ : ∃ l, l = x.data.toList := ⟨_, rfl⟩
  rw [← hl]
  have hxs : x.size = l.length := by rw [hl]; exact ba_size x
  refine VIf.mk (fun hd => ?_) (fun hd => ?_)
  · have hd : n < 0 ∨ 2147483647 < n := by simpa using hd
    have : cutP n l = (1, []) := by unfold cutP; rw [if_pos hd]
    rw [this]
    exact ⟨⟨none, 0, 0⟩, [], rfl, rfl, OwnSS.nil _ _, Ext.refl _ _⟩
  have hd : ¬ (n < 0 ∨ 2147483647 < n) := by simp at hd; omega
  refine VIf.mk (fun hz => ?_) (fun hz => ?_)
  · have hz : 8192 < l.length := by simp at hz; omega
    have : cutP n l = (40, []) := by unfold cutP; rw [if_neg hd, if_pos hz]
    rw [this]
    exact ⟨⟨none, 0, 0⟩, [], rfl, rfl, OwnSS.nil _ _, Ext.refl _ _⟩
  have hz : ¬ 8192 < l.length := by simp at hz; omega
  have hcP : cutP n l = (0, cutL n l) := by unfold cutP; rw [if_neg hd, if_neg hz]
  rw [hcP]
  have hcb : cnt l.length ≤ 22 := by unfold cnt; split <;> omega
  refine ⟨fun k y (ps : Sl) W => ∃ (m : Nat) (P : List ByteArray), k = l.length - 380 * m ∧ 380 * m ≤ l.length ∧ (0 < m → 380 * m < l.length) ∧ y.data.toList = l.drop (380 * m) ∧ P.length = m ∧ (∀ j (hj : j < P.length), (P[j]).data.toList = chunk l j) ∧ OwnR strR 9 w W ps P ∧ Ext [] w W,
    ⟨_, 0, [], rfl, by omega, fun h => (by omega), by rw [hl]; rfl, rfl, fun j hj => absurd hj (by simp), OwnR.nil _ _ _ _, Ext.refl _ _⟩, ?_⟩
  rintro k y ps w1 ⟨m, P, rfl, hm, hm0, hy, hPl, hP, ho, e1⟩
  have hys : y.size = l.length - 380 * m := by rw [ba_size, hy, List.length_drop]
  have hml : m ≤ 22 := by omega
  refine VIf.mk (fun hc => ?_) (fun hc => ?_)
  · have hc : 380 < y.size := by simp at hc; omega
    refine VCk.i (by omega) ?_
    refine VNw.i fun b2 w2 hb2 hk2 e2 => ?_
    have ho2 := ho.ext0 e2
    refine VApp.recA (r := strR) (news := [ByteArray.extract y 0 380]) ho2 (e1.then0 e2).size (Seg.of_bk hk2 rfl rfl) rfl rfl (by omega) (by omega) fun s3 w3 ho3 e3 => ?_
    have hrow : ∀ i ∈ rowB ps, w.heap.size ≤ i := ho.2
    refine VCk.i (by omega) ⟨_, ?_, m + 1, P ++ [ByteArray.extract y 0 380], rfl, by omega, fun _ => by omega, ?_, by simp; omega, fun j hj => ?_, ho3, (e1.then0 e2).then e3 (fun i hi hlt => by have := hrow i hi; omega)⟩
    · omega
    · rw [ext_list, hy, List.drop_drop, show 380 * m + 380 = 380 * (m + 1) by omega]
      exact List.take_of_length_le (by rw [List.length_drop]; omega)
    · rw [List.length_append] at hj
      by_cases hjm : j < P.length
      · rw [List.getElem_append_left hjm]
        exact hP j hjm
      · have : j = P.length := by simp at hj; omega
        subst this
        rw [List.getElem_append_right (Nat.le_refl _)]
        simp only [Nat.sub_self, List.getElem_cons_zero]
        rw [ext_list, hy, hPl]
        rfl
  · have hc : y.size ≤ 380 := by simp at hc; omega
    have hps := ho.len
    -- the last piece is always put behind
    have hlast : (decide (((y.size : Nat) : Int) > 0) || (((ps.len : Nat) : Int) == 0)) = true := by
      by_cases h0 : 0 < m
      · have := hm0 h0
        simp; omega
      · have : ps.len = 0 := by omega
        simp [this]
    have hcn : cnt l.length = m + 1 := by
      unfold cnt
      split
      · rename_i h1
        by_cases h0 : 0 < m
        · have := hm0 h0
          omega
        · omega
      · omega
    refine ⟨fun (ps' : Sl) W => ∃ P : List ByteArray, P.length = m + 1 ∧ (∀ j (hj : j < P.length), (P[j]).data.toList = chunk l j) ∧ OwnR strR 9 w W ps' P ∧ Ext [] w W, VIf.t hlast ?_, ?_⟩
    · refine VNw.i fun b4 w4 hb4 hk4 e4 => ?_
      have ho4 := ho.ext0 e4
      refine VApp.recA (r := strR) (news := [y]) ho4 (e1.then0 e4).size (Seg.of_bk hk4 rfl rfl) rfl rfl (by omega) (by omega) fun s5 w5 ho5 e5 => ?_
      have hrow : ∀ i ∈ rowB ps, w.heap.size ≤ i := ho.2
      refine ⟨P ++ [y], by simp; omega, fun j hj => ?_, ho5, (e1.then0 e4).then e5 (fun i hi hlt => by have := hrow i hi; omega)⟩
      rw [List.length_append] at hj
      by_cases hjm : j < P.length
      · rw [List.getElem_append_left hjm]
        exact hP j hjm
      · have : j = P.length := by simp at hj; omega
        subst this
        rw [List.getElem_append_right (Nat.le_refl _)]
        simp only [Nat.sub_self, List.getElem_cons_zero]
        rw [hy, hPl]
        unfold chunk
        rw [List.take_of_length_le (by rw [List.length_drop]; omega)]
    · rintro ps' w6 ⟨P, hPl, hP, ho6, e6⟩
      have hpl := ho6.len
      rw [hpl, hPl]
      refine ⟨fun k (out : Sl) i W => ∃ (j : Nat) (X : List (Sl × List UInt8)), i = (j : Int) ∧ j ≤ m + 1 ∧ k = m + 1 - j ∧ X.length = j ∧ X.map (·.2) = (cutL n l).take j ∧ OwnSS w6 W out X ∧ Ext [] w6 W,
        ⟨_, 0, [], rfl, by omega, rfl, rfl, rfl, OwnSS.nil _ _, Ext.refl _ _⟩, ?_⟩
      rintro k out i w7 ⟨j, X, rfl, hj, rfl, hX, hXm, hout, e7⟩
      refine VIf.mk (fun hd => ?_) (fun hd => ?_)
      · have hj' : j < m + 1 := by simp at hd; omega
        have ho7 := (ho6.ext0 e7).in_.1
        rw [hpl, hPl] at ho7
        refine VIx.i' (L := P) (r := strR) ho7 (by omega) fun a hr => VLd.i1 (t := .str) (P[j]'(by omega)) hr ?_
        have hPj := hP j (by omega)
        have hcl := chunk_len l j
        refine VCall.i (Packet_spec n (j : Int) ((m + 1 : Nat) : Int) (P[j]'(by omega)) w7 (by rw [ba_size, hPj]; omega)) ?_
        rintro e w8 ⟨s8, rfl, h8, e8⟩
        rw [hPj] at h8
        refine exW.i1 (t := .sl) s8 rfl ?_
        refine VNw.i fun b9 w9 hb9 hk9 e9 => ?_
        have e79 := e8.then0 e9
        have e09 := (e6.then0 e7).then0 e79
        refine (hout.ext0 e79).push (x := (s8, pkt n (j : Int) ((m + 1 : Nat) : Int) (chunk l j))) (h8.ext0 e9) (fun k hk b hb => (hout.ea k hk).lt b hb) e7.size (e7.then0 e79).size hk9 (by omega) fun s' W' ho' e' => ?_
        rw [w64 (n := (j : Int) + 1) (by omega)]
        have hrow : ∀ i ∈ rowB out, w6.heap.size ≤ i := hout.er.2
        refine VSet.i ⟨_, (show m + 1 - (j + 1) < m + 1 - j by omega), j + 1, X ++ [(s8, pkt n (j : Int) ((m + 1 : Nat) : Int) (chunk l j))], rfl, by omega, rfl, by simp; omega, ?_, ho', ?_⟩
        · have hlen2 : j < (cutL n l).length := by rw [cutL_len]; omega
          rw [List.take_succ_eq_append_getElem hlen2, List.map_append, hXm, cutL_get, hcn]
          rfl
        · exact (e7.then0 e79).then e' (fun i hi hlt => by have := hrow i hi; omega)
      · have hjj : j = m + 1 := by simp at hd; omega
        refine ⟨out, X, rfl, ?_, hout.mono e6.size, e6.then0 e7⟩
        rw [hXm, List.take_of_length_le]
        rw [cutL_len]; omega
end Go.Proofs.Ythpbkkjggnejcaa
