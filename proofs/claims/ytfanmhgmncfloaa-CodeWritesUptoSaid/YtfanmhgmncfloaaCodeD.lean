/-
  Package code, outright: works, CodeBack, CodeOnly, CodeRow, CodeNames.
-/
import Derived.Test.YtfanmhgmncfloaaCodeC
import Derived.ChangeKeysEq
namespace Go.Proofs.Ytfanmhgmncfloaa
open Go.RowKit
set_option maxRecDepth 100000

theorem strEq (a b : ByteArray) : (a.toList == b.toList) = (a.data.toList == b.data.toList) := by simp [ByteArray.toList_eq]
/-- a slice told as a text -/
theorem VStr.i {g : Option Bool} {w : World} {base : Option Addr} {n : Nat} {K : ByteArray → Prop} (l : List UInt8) (h : Seg w base n 1 (bc l)) (k : ∀ s : ByteArray, s.data.toList = l → K s) : VStr g w base n K :=
  ⟨⟨l.toArray⟩, gd.i h, k _ rfl⟩
theorem VStr.off {c : Bool} {w : World} {base : Option Addr} {n : Nat} {K : ByteArray → Prop} (hc : c = false) (k : ∀ s : ByteArray, K s) : VStr (some c) w base n K :=
  ⟨⟨#[]⟩, fun e => absurd (hc.symm.trans e) (by simp), k _⟩

theorem enc_0 : enc 0 = [0] := by rw [enc_small (by omega)]; rfl
theorem enc_1 : enc 1 = [1] := by rw [enc_small (by omega)]; rfl
theorem enc_2 : enc 2 = [2] := by rw [enc_small (by omega)]; rfl
theorem enc_128 : enc 128 = [128, 1] := by rw [enc_big (by omega), show 128 / 128 = 1 by omega, enc_1]; rfl

theorem works_bytes : ((([] ++ encC 128) ++ enc (zz (-1))) ++ encS ⟨#[97, 98]⟩) ++ enc (if true then 1 else 0) = [128, 1, 1, 2, 97, 98, 1] := by
  have h1 : encC 128 = [128, 1] := by unfold encC; rw [if_pos (by omega)]; exact enc_128
  have h2 : encS ⟨#[97, 98]⟩ = [2, 97, 98] := by
    unfold encS
    rw [if_pos (by decide)]
    show enc 2 ++ [97, 98] = _
    rw [enc_2]; rfl
  rw [h1, h2, show zz (-1) = 1 from rfl, if_pos rfl, enc_1]; rfl

theorem works_spec (w : World) : Calls Try.prog 29 #[] w fun e w' => e = .returned (.bool true) ∧ Ext [] w w' := by
  refine sh_butterylaw01_works_ok _ _ ?_
  unfold sh_butterylaw01_works
  refine VCall.i (Count_spec ⟨none, 0, 0⟩ [] 128 w (Seg.nil _ _ _) (by simp)) ?_
  rintro e w1 ⟨s1, rfl, h1, e1⟩
  refine exW.i1 (t := .sl) s1 rfl ?_
  have l1 := encC_len 128
  refine VCall.i (Num_spec s1 _ (-1) w1 h1.seg (by simp; omega) (by omega)) ?_
  rintro e w2 ⟨s2, rfl, h2, e2⟩
  refine exW.i1 (t := .sl) s2 rfl ?_
  have l2 := enc_len10 (zz_lt (n := -1) (by omega))
  refine VCall.i (Str_spec s2 _ _ w2 h2.seg (by simp; omega)) ?_
  rintro e w3 ⟨s3, rfl, h3, e3⟩
  refine exW.i1 (t := .sl) s3 rfl ?_
  have hw := works_bytes
  have hl : (((([] : List UInt8) ++ encC 128) ++ enc (zz (-1))) ++ encS ⟨#[97, 98]⟩).length ≤ 7 := by
    have := congrArg List.length hw
    simp only [List.length_append, List.length_cons, List.length_nil] at this ⊢
    omega
  refine VCall.i (Flag_spec s3 _ true w3 h3.seg (by omega)) ?_
  rintro e w4 ⟨s4, rfl, h4, e4⟩
  refine exW.i1 (t := .sl) s4 rfl ?_
  have hassoc : (((([] : List UInt8) ++ encC 128) ++ enc (zz (-1))) ++ encS ⟨#[97, 98]⟩) ++ enc (if true then 1 else 0) = encC 128 ++ (enc (zz (-1)) ++ (encS ⟨#[97, 98]⟩ ++ (encC 1 ++ []))) := by
    simp only [List.nil_append, List.append_assoc, List.append_nil]; rfl
  refine VCall.i (NewReader_spec s4 _ w4 h4.seg (by rw [hw]; simp)) ?_
  rintro e w5 ⟨r, q, d, rfl, h5, e5, hr, hq, hd⟩
  refine exW.i1 (t := .ptr) _ rfl ?_
  have E4 := ((e1.then0 e2).then0 e3).then0 e4
  have E5 := E4.then0 e5
  have z4 := E4.size
  refine VStr.i _ (h4.ext0 e5).seg fun s hs => ?_
  rw [hw] at hs
  have hsv : (s.toList == (ByteArray.mk #[128, 1, 1, 2, 97, 98, 1]).toList) = true := by rw [strEq, hs]; rfl
  rw [hsv]
  rw [hassoc] at h5
  clear hw hl hassoc h1 h2 h3 h4 e1 e2 e3 e4 e5
  refine VCall.on rfl (VCall.i (rCount_spec r q d 200 _ w5 h5) ?_)
  rintro e w6 ⟨rfl, h6, e6⟩
  rw [rCount_enc 200 128 (by omega) (by omega) (by omega)] at h6 ⊢
  refine exW.i1 _ rfl ?_
  refine VCall.on rfl (VCall.i (rNum_spec r q d _ w6 h6) ?_)
  rintro e w7 ⟨rfl, h7, e7⟩
  rw [rNum_enc (-1) (by omega)] at h7 ⊢
  refine exW.i1 _ rfl ?_
  refine VCall.on rfl (VCall.i (rStr_spec r q d 2 _ w7 h7) ?_)
  rintro e w8 ⟨rfl, h8, e8⟩
  rw [rStr_enc 2 ⟨#[97, 98]⟩ (by decide) (by decide)] at h8 ⊢
  refine exW.i1 (t := .str) _ rfl ?_
  have hsv : ((ByteArray.mk #[97, 98]).toList == (ByteArray.mk #[97, 98]).toList) = true := by simp
  simp only
  rw [hsv]
  refine VCall.on rfl (VCall.i (rDone_spec r q d _ w8 h8) ?_)
  rintro e w9 ⟨rfl, rfl⟩
  refine exW.i1 _ rfl ?_
  have hnd : rDone (some (encC 1 ++ [])) = false := by
    have : encC 1 = [1] := by unfold encC; rw [if_pos (by omega)]; exact enc_1
    rw [this]; rfl
  rw [hnd]
  refine VCall.on rfl (VCall.i (rFlag_spec r q d _ w9 h8) ?_)
  rintro e w10 ⟨rfl, h10, e10⟩
  rw [rCount_enc 1 1 (by omega) (by omega) (by omega)] at h10 ⊢
  refine exW.i1 _ rfl ?_
  refine VCall.on rfl (VCall.i (rDone_spec r q d _ w10 h10) ?_)
  rintro e w11 ⟨rfl, rfl⟩
  refine exW.i1 _ rfl ⟨rfl, ?_⟩
  exact (((E5.then e6 (by simp; omega)).then e7 (by simp; omega)).then e8 (by simp; omega)).then e10 (by simp; omega)

/-! CodeRow -/
def encs (L : List Int) : List UInt8 := L.flatMap fun n => enc (zz n)
theorem encs_len (L : List Int) (h : ∀ x ∈ L, -9223372036854775808 ≤ x ∧ x ≤ 9223372036854775807) : (encs L).length ≤ 10 * L.length := by
  induction L with
  | nil => simp [encs]
  | cons x L ih =>
    have h1 := enc_len10 (zz_lt (h x (by simp)))
    have h2 := ih (fun y hy => h y (by simp [hy]))
    simp only [encs, List.flatMap_cons, List.length_append, List.length_cons] at h2 ⊢
    omega
theorem CodeRow_law (l tl : Sl) (L : List Int) (t : List UInt8) (w : World) (hl : Seg w l.base l.len 1 (L.map (.int .i64))) (hL : ∀ x ∈ L, -9223372036854775808 ≤ x ∧ x ≤ 9223372036854775807)
    (ht : Seg w tl.base tl.len 1 (bc t)) : Calls Try.prog 8 #[.slice l.base l.len l.cap, .slice tl.base tl.len tl.cap] w fun e w' => e = .returned (.bool true) ∧ Ext [] w w' := by
  refine sh_butterylaw01_CodeRow_ok _ _ _ _ ?_
  unfold sh_butterylaw01_CodeRow
  refine VCall.i (works_spec _) ?_
  rintro e w1 ⟨rfl, e1⟩
  refine exW.i1 _ rfl (VIf.mk (fun hc => ?_) (fun hc => ?_))
  · refine VCall.i (works_spec _) ?_
    rintro e w2 ⟨rfl, e2⟩
    exact exW.i1 _ rfl ⟨rfl, e1.then0 e2⟩
  simp at hc
  have hn : l.len = L.length := by have := hl.1; simp at this; omega
  have htn := ht.blen
  have hat : ∀ i, (hi : i < L.length) → ∃ a, l.base = some a ∧ Rd w (a.add (i * 1)) [.int .i64 L[i]] := by
    intro i hi
    obtain ⟨a, ha, hrd⟩ := hl.at_ (i := i) (by omega)
    refine ⟨a, ha, ?_⟩
    have : ((L.map (Value.int .i64)).drop (i * 1)).take 1 = [.int .i64 L[i]] := by
      rw [Nat.mul_one, ← List.map_drop, List.drop_eq_getElem_cons hi]; rfl
    rw [this] at hrd
    exact hrd
  have hsplit : ∀ i, (hi : i < L.length) → encs (L.take (i + 1)) = encs (L.take i) ++ enc (zz L[i]) := by
    intro i hi
    unfold encs
    rw [List.take_succ_eq_append_getElem hi, List.flatMap_append, List.flatMap_cons, List.flatMap_nil, List.append_nil]
  refine ⟨fun k b i W => ∃ j : Nat, i = (j : Int) ∧ j ≤ L.length ∧ k = L.length - j ∧ Own w W b (encs (L.take j)) ∧ Ext [] w W, ⟨_, 0, rfl, by omega, rfl, Own.nil _ _, e1⟩, ?_⟩
  clear e1
  rintro k b i w3 ⟨j, rfl, hj, rfl, h3, e3⟩
  have hjl := encs_len (L.take j) (fun x hx => hL x (List.mem_of_mem_take hx))
  rw [List.length_take] at hjl
  refine VIf.mk (fun hc1 => ?_) (fun hc1 => ?_)
  · simp at hc1
    obtain ⟨a, ha, hrd⟩ := hat j (by omega)
    rw [ha]
    refine VIx.i (by omega) (by omega) (VLd.i1 (L[j]'(by omega)) (hrd.ext e3 (by simp)) ?_)
    refine VCall.i (Num_spec b _ _ w3 h3.seg (by omega) (hL _ (List.getElem_mem _))) ?_
    rintro e w4 ⟨s4, rfl, h4, e4⟩
    refine exW.i1 (t := .sl) s4 rfl ?_
    rw [w64 (show -9223372036854775808 ≤ (j : Int) + 1 ∧ (j : Int) + 1 ≤ 9223372036854775807 by omega)]
    exact VSet.i ⟨_, by omega, j + 1, by omega, by omega, rfl, by rw [hsplit j (by omega)]; exact h4.mono e3.size, e3.then0 e4⟩
  · simp at hc1
    obtain rfl : j = L.length := by omega
    rw [List.take_length] at h3
    rw [Nat.min_self] at hjl
    rw [List.take_length] at hjl
    refine VNw.i fun nb w5 hnb hk5 e5 => ?_
    have E5 := e3.then0 e5
    have ho : Own w w5 ⟨some ⟨nb, 0, none⟩, 0, 0⟩ [] := ⟨Row.of_bk (size := 1) hk5 rfl (by omega), by have := e3.size; simp [rowB]; omega⟩
    have h3l := h3.len
    refine VApp.own (s := ⟨some ⟨nb, 0, none⟩, 0, 0⟩) ho E5 (h3.ext0 e5).seg (by omega) (by simp; omega) fun s6 w6 h6 E6 _ => ?_
    refine VApp.own h6 E6 (ht.ext0 E6) (by omega) (by simp; omega) fun s7 w7 h7 E7 _ => ?_
    refine VCall.i (NewReader_spec s7 _ w7 h7.seg (by simp; omega)) ?_
    rintro e w8 ⟨r, q, d, rfl, h8, e8, hr, hq, hd⟩
    refine exW.i1 (t := .ptr) _ rfl ?_
    have z7 := E7.size
    have E8 := E7.then0 e8
    refine ⟨fun k i W => ∃ j : Nat, i = (j : Int) ∧ j ≤ L.length ∧ k = L.length - j ∧ RepC W r q d (some (encs (L.drop j) ++ t)) ∧ Ext [] w W, ⟨_, 0, rfl, by omega, rfl, by simpa using h8, E8⟩, ?_⟩
    clear h3 e3 e5 E5 ho h6 h7 E6 E7 e8 h8 E8 hk5
    rintro k i w9 ⟨j, rfl, hj, rfl, h9, e9⟩
    refine VIf.mk (fun hc2 => ?_) (fun hc2 => ?_)
    · simp at hc2
      intro w10 hw10
      have e10 := Ext.drew' hw10
      obtain ⟨a, ha, hrd⟩ := hat j (by omega)
      have E10 := e9.then0 e10
      have hlt := hrd.ext E10 (by simp)
      rw [ha]
      refine VIx.i (by omega) (by omega) (VLd.i1 (L[j]'(by omega)) hlt ?_)
      refine VCall.i (rNum_spec r q d _ w10 (h9.ext0 e10)) ?_
      rintro e w11 ⟨rfl, h11, e11⟩
      have hst : encs (L.drop j) ++ t = enc (zz (L[j]'(by omega))) ++ (encs (L.drop (j + 1)) ++ t) := by
        unfold encs
        rw [List.drop_eq_getElem_cons (show j < L.length by omega), List.flatMap_cons, List.append_assoc]
      rw [hst, rNum_enc _ (hL _ (List.getElem_mem _))] at h11 ⊢
      refine exW.i1 _ rfl ?_
      have hblk : a.block < w.heap.size := by
        have := hrd 0 _ rfl
        have h0 := this
        unfold World.cell? at h0
        cases hb : w.heap[((a.add (j * 1)).add 0).block]? with
        | none => rw [hb] at h0; simp at h0
        | some o => simpa using (Array.getElem?_eq_some_iff.1 hb).1
      refine ⟨hlt.ext e11 (by simp; omega), VIf.f (by simp) ?_⟩
      rw [w64 (show -9223372036854775808 ≤ (j : Int) + 1 ∧ (j : Int) + 1 ≤ 9223372036854775807 by omega)]
      exact VSet.i ⟨_, by omega, j + 1, by omega, by omega, rfl, h11, E10.then e11 (by simp; omega)⟩
    · simp at hc2
      obtain rfl : j = L.length := by omega
      rw [List.drop_length] at h9
      have hz : encs [] ++ t = t := rfl
      rw [hz] at h9
      refine VCall.i (rOK_spec r q d _ w9 h9) ?_
      rintro e w10 ⟨rfl, rfl⟩
      refine exW.i1 _ rfl (VCall.on rfl (VCall.i (rLeft_spec r q d _ w10 h9) ?_))
      rintro e w11 ⟨rfl, rfl⟩
      refine exW.i1 _ rfl ⟨?_, e9⟩
      rw [w64 (show -9223372036854775808 ≤ 10 * (l.len : Int) ∧ 10 * (l.len : Int) ≤ 9223372036854775807 by omega)]
      have h1 : ((((some t : Option (List UInt8)).getD []).length : Nat) : Int) = ((tl.len : Nat) : Int) := by rw [htn]; rfl
      rw [h1]
      simp
      omega
end Go.Proofs.Ytfanmhgmncfloaa
