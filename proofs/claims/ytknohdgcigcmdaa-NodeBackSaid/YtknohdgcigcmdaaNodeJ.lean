/-
  Package node: the examples that each statement asks.
-/
import Derived.Test.YtknohdgcigcmdaaNodeI
namespace Go.Proofs.Ytknohdgcigcmdaa
open Go.RowKit
set_option maxRecDepth 100000

theorem encC_sm (k : Nat) (h : k < 128) : encC ((k : Nat) : Int) = [UInt8.ofNat k] := by
  unfold encC
  rw [if_pos (by omega), Int.toNat_natCast, enc_small h]
theorem encS_sm (x : ByteArray) (h : x.size < 128) : encS x = UInt8.ofNat x.size :: x.data.toList := by
  unfold encS
  rw [if_pos (by omega), enc_small h]; rfl
theorem ltB_l (a b : ByteArray) : ltB a b = Op.bytesLess a.data.toList b.data.toList := by unfold ltB; simp [ByteArray.toList_eq]
def awN : Nd := ⟨true, [⟨⟨#[97]⟩, ⟨#[49]⟩, 0, 0⟩, ⟨⟨#[98]⟩, ByteArray.empty, 7, 100⟩], []⟩
def awM : Nd := ⟨false, [⟨⟨#[107]⟩, ByteArray.empty, 0, 0⟩, ⟨⟨#[109]⟩, ByteArray.empty, 0, 0⟩], [3, 4, 5]⟩
theorem Small.of {n : Nd} (h1 : n.cs.length ≤ 1000) (h2 : n.ks.length ≤ 1000) (h3 : ∀ c ∈ n.cs, c.key.size ≤ 100000 ∧ c.val.size ≤ 100000) : Small n := ⟨h1, h2, h3⟩
theorem awN_small : Small awN := by
  refine ⟨by decide, by decide, ?_⟩
  intro c hc
  simp only [awN, List.mem_cons, List.not_mem_nil, or_false] at hc
  rcases hc with rfl | rfl <;> exact ⟨by decide, by decide⟩
theorem awM_small : Small awM := by
  refine ⟨by decide, by decide, ?_⟩
  intro c hc
  simp only [awM, List.mem_cons, List.not_mem_nil, or_false] at hc
  rcases hc with rfl | rfl <;> exact ⟨by decide, by decide⟩
theorem awN_ok : okN awN = true := by
  have h : stepC true awN.cs 0 = true ∧ stepC true awN.cs 1 = true := by
    unfold stepC
    rw [ltB_l, ltB_l]
    exact ⟨by decide, by decide⟩
  have : okC true awN.cs = true := okC_yes (fun j hj => by
    have : j = 0 ∨ j = 1 := by have : j < 2 := hj; omega
    rcases this with rfl | rfl
    · exact h.1
    · exact h.2)
  unfold okN
  show (okC true awN.cs && _) = true
  rw [this]; rfl
theorem awM_ok : okN awM = true := by
  have h : stepC false awM.cs 0 = true ∧ stepC false awM.cs 1 = true := by
    unfold stepC
    rw [ltB_l, ltB_l]
    exact ⟨by decide, by decide⟩
  have : okC false awM.cs = true := okC_yes (fun j hj => by
    have : j = 0 ∨ j = 1 := by have : j < 2 := hj; omega
    rcases this with rfl | rfl
    · exact h.1
    · exact h.2)
  unfold okN
  show (okC false awM.cs && _) = true
  rw [this]; rfl
theorem awN_bytes : bytesN awN = [1, 2, 1, 97, 0, 1, 49, 1, 98, 7, 100] := by
  have c0 : encC 0 = [0] := encC_sm 0 (by omega)
  have c2 : encC 2 = [2] := encC_sm 2 (by omega)
  have c7 : encC 7 = [7] := encC_sm 7 (by omega)
  have c100 : encC 100 = [100] := encC_sm 100 (by omega)
  have sa : encS ⟨#[97]⟩ = [1, 97] := encS_sm ⟨#[97]⟩ (by decide)
  have s1 : encS ⟨#[49]⟩ = [1, 49] := encS_sm ⟨#[49]⟩ (by decide)
  have sb : encS ⟨#[98]⟩ = [1, 98] := encS_sm ⟨#[98]⟩ (by decide)
  have e1 : enc 1 = [1] := enc_small (by omega)
  show (enc 1 ++ encC 2) ++ ((encS ⟨#[97]⟩ ++ (encC 0 ++ encS ⟨#[49]⟩)) ++ ((encS ⟨#[98]⟩ ++ (encC 7 ++ encC 100)) ++ [])) ++ [] = _
  rw [c0, c2, c7, c100, sa, s1, sb, e1]
  rfl
theorem awM_bytes : bytesN awM = [0, 2, 1, 107, 1, 109, 3, 4, 5] := by
  have c2 : encC 2 = [2] := encC_sm 2 (by omega)
  have c3 : encC 3 = [3] := encC_sm 3 (by omega)
  have c4 : encC 4 = [4] := encC_sm 4 (by omega)
  have c5 : encC 5 = [5] := encC_sm 5 (by omega)
  have sk : encS ⟨#[107]⟩ = [1, 107] := encS_sm ⟨#[107]⟩ (by decide)
  have sm : encS ⟨#[109]⟩ = [1, 109] := encS_sm ⟨#[109]⟩ (by decide)
  have e0 : enc 0 = [0] := enc_small (by omega)
  show (enc 0 ++ encC 2) ++ ((encS ⟨#[107]⟩ ++ []) ++ ((encS ⟨#[109]⟩ ++ []) ++ [])) ++ (encC 3 ++ (encC 4 ++ (encC 5 ++ []))) = _
  rw [c2, c3, c4, c5, sk, sm, e0]
  rfl
theorem awN_enc : encN awN = ([1, 2, 1, 97, 0, 1, 49, 1, 98, 7, 100], 0) := by unfold encN; rw [if_pos awN_ok, awN_bytes]; rfl
theorem awM_enc : encN awM = ([0, 2, 1, 107, 1, 109, 3, 4, 5], 0) := by unfold encN; rw [if_pos awM_ok, awM_bytes]; rfl
theorem awN_size : sizeN awN = 11 := by unfold sizeN; rw [if_pos awN_ok, awN_bytes]; rfl
theorem awN_b : findI awN ⟨#[98]⟩ = 1 ∧ findB awN ⟨#[98]⟩ = true := by
  have h : findI awN ⟨#[98]⟩ = 1 := by
    unfold findI
    simp only [ltB_l]
    rfl
  refine ⟨h, ?_⟩
  unfold findB
  rw [h, strEq]
  rfl
theorem awN_aa : findI awN ⟨#[97, 97]⟩ = 1 ∧ findB awN ⟨#[97, 97]⟩ = false := by
  have h : findI awN ⟨#[97, 97]⟩ = 1 := by
    unfold findI
    simp only [ltB_l]
    rfl
  refine ⟨h, ?_⟩
  unfold findB
  rw [h, strEq]
  rfl
theorem awN_cut : cutN awN = (⟨true, [⟨⟨#[97]⟩, ⟨#[49]⟩, 0, 0⟩], []⟩, ⟨#[98]⟩, ⟨true, [⟨⟨#[98]⟩, ByteArray.empty, 7, 100⟩], []⟩) := rfl
theorem cells_in {w : World} {b n : Nat} {L : List Ce} {t : TypeId} (h : Bk w b (ceR.cells L) t) (hn : L.length = n) (h2 : n ≤ 100000) : InR ceR w ⟨some ⟨b, 0, none⟩, n, n⟩ L := ⟨Seg.of_bk h (by rw [List.drop_zero]; exact List.take_of_length_le (by rw [Rec.cells_len, hn]; exact Nat.le_refl _)) (by rw [Rec.cells_len, hn]), Nat.le_refl _, by simp only; omega⟩
set_option maxHeartbeats 2000000 in
theorem awake_spec (w : World) : Calls Try.prog 9 #[] w fun e w' => e = .returned (.bool true) ∧ Ext [] w w' := by
  refine sh_butterylaw06_awake_ok _ _ ?_
  unfold sh_butterylaw06_awake
  refine VNw.i fun b16 w1 hb16 hk16 e1 => VNw.i fun nb w2 hnb hk2 e2 => VSt.bk hk2 rfl (by simp) fun w3 hk3 e3 => ?_
  have hk16 : Bk w1 b16 (ceR.cells awN.cs) 48 := hk16
  have hk3 : Bk w3 nb (nhC awN.leaf ⟨some ⟨b16, 0, none⟩, 2, 2⟩ ⟨none, 0, 0⟩) 30 := hk3
  have e13 : Ext [] w1 w3 := e2.then e3 (fun i hi hlt => by simp at hi; omega)
  have e03 := e1.then0 e13
  have hN3 : NIn w3 ⟨some ⟨b16, 0, none⟩, 2, 2⟩ ⟨none, 0, 0⟩ awN := ⟨cells_in (hk16.ext e13) rfl (by omega), InR.nil _⟩
  refine VLd.nh awN.leaf _ _ (Rd.of_bk hk3 rfl) (VCall.i (Encode_spec _ _ awN w3 hN3 awN_small) ?_)
  rintro e w4 ⟨s4, rfl, h4, e4⟩
  rw [awN_enc] at h4 ⊢
  refine exW.i2 (t := .sl) (u := .int .i64) s4 0 rfl (VSet.i ?_)
  have hN4 := hN3.ext0 e4
  have hk4 := hk3.ext e4
  refine VLd.nh awN.leaf _ _ (Rd.of_bk hk4 rfl) (VCall.i (Find_spec _ _ awN ⟨#[98]⟩ w4 hN4) ?_)
  rintro e w5 ⟨rfl, e5⟩
  rw [awN_b.1, awN_b.2]
  refine exW.i2 (t := .int .i64) (u := .bool) _ _ rfl (VSet.i ?_)
  have hN5 := hN4.ext0 e5
  have hk5 := hk4.ext e5
  refine VLd.nh awN.leaf _ _ (Rd.of_bk hk5 rfl) (VCall.i (Find_spec _ _ awN ⟨#[97, 97]⟩ w5 hN5) ?_)
  rintro e w6 ⟨rfl, e6⟩
  rw [awN_aa.1, awN_aa.2]
  refine exW.i2 (t := .int .i64) (u := .bool) _ _ rfl (VSet.i ?_)
  have hN6 := hN5.ext0 e6
  have hk6 := hk5.ext e6
  have e06 := ((e03.then0 e4).then0 e5).then0 e6
  refine VLd.nh awN.leaf _ _ (Rd.of_bk hk6 rfl) (VCall.i (Cut_spec _ _ awN w6 hN6 awN_small) ?_)
  rintro e w7 ⟨c1, k1, c2, k2, rfl, g1, g2, _, e7⟩
  rw [awN_cut] at g1 g2 ⊢
  refine exW.two true c1 k1 _ true c2 k2 rfl ?_
  refine VNw.i fun xb w8 hxb hk8 e8 => VNw.i fun yb w9 hyb hk9 e9 => ?_
  have lx := hk8.lt
  refine VSt.bk (hk8.ext e9) rfl (by simp) fun w10 hk10 e10 => VSt.bk (hk9.ext e10 (by simp; omega)) rfl (by simp) fun w11 hk11 e11 => ?_
  have hx11 : Bk w11 xb (nhC true c1 k1) 30 := hk10.ext e11 (by simp; omega)
  have hy11 : Bk w11 yb (nhC true c2 k2) 30 := hk11
  have e911 : Ext [xb, yb] w9 w11 := (e10.mono (N := [xb, yb]) (by simp)).then e11 (fun i hi _ => by simp at hi; subst hi; simp)
  have z8 := e8.size
  have e711 : Ext [] w7 w11 := (e8.then0 e9).then e911 (fun i hi hlt => by simp at hi; omega)
  refine VNw.i fun b41 w12 hb41 hk41 e12 => VNw.i fun b42 w13 hb42 hk42 e13' => VNw.i fun mb w14 hmb hk14 e14 => VSt.bk hk14 rfl (by simp) fun w15 hk15 e15 => ?_
  have z12 := e12.size
  have z13 := e13'.size
  have e1115 : Ext [] w11 w15 := ((e12.then0 e13').then0 e14).then e15 (fun i hi hlt => by simp at hi; omega)
  have hk41 : Bk w12 b41 (ceR.cells awM.cs) 48 := hk41
  have hk42 : Bk w13 b42 (itR.cells awM.ks) 3 := hk42
  have l41 := hk41.lt
  have l42 := hk42.lt
  have hk15 : Bk w15 mb (nhC awM.leaf ⟨some ⟨b41, 0, none⟩, 2, 2⟩ ⟨some ⟨b42, 0, none⟩, 3, 3⟩) 30 := hk15
  have h41 := ((hk41.ext e13').ext e14).ext e15 (by simp; omega)
  have h42 := (hk42.ext e14).ext e15 (by simp; omega)
  have hM15 : NIn w15 ⟨some ⟨b41, 0, none⟩, 2, 2⟩ ⟨some ⟨b42, 0, none⟩, 3, 3⟩ awM := ⟨cells_in h41 rfl (by omega), ints_in h42 rfl (by omega)⟩
  refine VLd.nh awM.leaf _ _ (Rd.of_bk hk15 rfl) (VCall.i (Encode_spec _ _ awM w15 hM15 awM_small) ?_)
  rintro e w16 ⟨s16, rfl, h16, e16⟩
  rw [awM_enc] at h16 ⊢
  refine exW.i2 (t := .sl) (u := .int .i64) s16 0 rfl (VSet.i ?_)
  have e616 := ((e7.then0 e711).then0 e1115).then0 e16
  have h4f := ((h4.ext0 e5).ext0 e6).ext0 e616
  have e016 := e06.then0 e616
  have hk16f := hk6.ext e616
  have hx16 := (hx11.ext e1115).ext e16
  have hy16 := (hy11.ext e1115).ext e16
  refine VStr.i _ h4f.seg fun y1 hy1 => ?_
  have hyy : (y1.toList == (ByteArray.mk #[1, 2, 1, 97, 0, 1, 49, 1, 98, 7, 100]).toList) = true := by rw [strEq, hy1]; rfl
  refine VLd.nh awN.leaf _ _ (Rd.of_bk hk16f rfl) ?_
  rw [hyy]
  refine VCall.on rfl (VCall.i (Size_spec _ _ awN w16 (hN6.ext0 e616) awN_small) ?_)
  rintro e w17 ⟨rfl, e17⟩
  rw [awN_size]
  refine exW.i1 (t := .int .i64) 11 rfl ?_
  have hc1 : c1.len = 1 := g1.co.len
  have hc2 : c2.len = 1 := g2.co.len
  refine VLd.s c1 (Rd.of_bk (hx16.ext e17) rfl) (VLd.s c2 (Rd.of_bk (hy16.ext e17) rfl) (VStr.i _ (h16.ext0 e17).seg fun y2 hy2 => ⟨?_, e016.then0 e17⟩))
  have hyz : (y2.toList == (ByteArray.mk #[0, 2, 1, 107, 1, 109, 3, 4, 5]).toList) = true := by rw [strEq, hy2]; rfl
  have h98 : ((ByteArray.mk #[98]).toList == (ByteArray.mk #[98]).toList) = true := by simp
  rw [hyz, hc1, hc2, h98]
  rfl
end Go.Proofs.Ytknohdgcigcmdaa
