/-
  Package code against the document: CodeWrites.
-/
import Derived.Test.YtfanmhgmncfloaaCodeF
namespace Go.Proofs.Ytfanmhgmncfloaa
open Go.RowKit
set_option maxRecDepth 100000

theorem Row.put {g : Option Bool} {W : World} {s : Sl} {m : List UInt8} {q : Nat} {v : UInt8} {K : World → Prop} (h : Row W 5 1 s (bc m)) (hq : q < s.len)
    (k : ∀ W', Row W' 5 1 s (bc (m.set q v)) → Ext (rowB s) W W' → K W') :
    VIx g s.base s.len (q : Int) fun (a : Addr) => VSt none W (Addr.add a ((Int.toNat (q : Int)) * 1)) [.int .u8 ((v.toNat : Nat) : Int)] K := by
  obtain ⟨g1, g2, g3, g4⟩ := h
  rw [bc_len] at g1
  rcases g4 with ⟨_, h6⟩ | ⟨b, rest, hb, hk, hl⟩
  · omega
  · rw [hb]
    refine VIx.i (by omega) (by omega) ?_
    simp only [add_blk, Int.toNat_natCast, Nat.zero_add, Nat.mul_one]
    refine VSt.bk hk rfl (by simp only [List.length_append, bc_len, List.length_singleton]; omega) fun w5 hk5 e5 => ?_
    have hset : (bc m ++ rest).take q ++ [Value.int .u8 ((v.toNat : Nat) : Int)] ++ (bc m ++ rest).drop (q + [Value.int .u8 ((v.toNat : Nat) : Int)].length) = bc (m.set q v) ++ rest := by
      rw [List.take_append_of_le_length (by rw [bc_len]; omega), List.drop_append_of_le_length (by rw [bc_len]; simp; omega), bc_take, bc_drop]
      rw [List.set_eq_take_append_cons_drop, if_pos (by omega)]
      simp [bc]
    rw [hset] at hk5
    refine k w5 ⟨by rw [bc_len, List.length_set]; exact g1, g2, g3, .inr ⟨b, rest, hb, hk5, by rw [bc_len, List.length_set, ← bc_len]; exact hl⟩⟩ (by rw [show rowB s = [b] by simp [rowB, hb]]; exact e5)

theorem CodeWrites_law (b : Sl) (n c : Int) (s : ByteArray) (l : List UInt8) (w : World) (hb : Seg w b.base b.len 1 (bc l)) (hl : l.length ≤ 1048576) (hn : -9223372036854775808 ≤ n ∧ n ≤ 9223372036854775807) (hs : s.size ≤ 1048576) :
    Calls Try.prog 3 #[.slice b.base b.len b.cap, .int .i64 n, .int .i64 c, .string s] w fun e w' => e = .returned (.bool true) ∧ Ext [] w w' := by
  refine sh_butterylaw01_CodeWrites_ok _ _ _ _ _ _ ?_
  unfold sh_butterylaw01_CodeWrites
  have hbn := hb.blen
  refine VNw.i fun nb w1 hnb hk1 e1 => ?_
  have ho : Own w w1 ⟨some ⟨nb, 0, none⟩, 0, 0⟩ [] := ⟨Row.of_bk (size := 1) hk1 rfl (by omega), by simp [rowB]; omega⟩
  refine VApp.own (s := ⟨some ⟨nb, 0, none⟩, 0, 0⟩) ho e1 (hb.ext0 e1) hbn.symm (by simp; omega) fun si w2 hi e2 _ => ?_
  rw [List.nil_append] at hi
  have hilt := hi.1.lt
  refine VCall.i (Num_spec si l n w2 hi.seg (by omega) hn) ?_
  rintro e w3 ⟨s0, rfl, h0, e3⟩
  refine exW.i1 (t := .sl) s0 rfl ?_
  refine VCall.i (Count_spec si l c w3 (hi.ext0 e3).seg (by omega)) ?_
  rintro e w4 ⟨s1, rfl, h1, e4⟩
  refine exW.i1 (t := .sl) s1 rfl ?_
  refine VCall.i (Str_spec si l s w4 ((hi.ext0 e3).ext0 e4).seg (by omega)) ?_
  rintro e w5 ⟨s2, rfl, h2, e5⟩
  refine exW.i1 (t := .sl) s2 rfl ?_
  refine VCall.i (Flag_spec si l true w5 (((hi.ext0 e3).ext0 e4).ext0 e5).seg (by omega)) ?_
  rintro e w6 ⟨s3, rfl, h3, e6⟩
  refine exW.i1 (t := .sl) s3 rfl ?_
  refine VCall.i (Flag_spec si l false w6 ((((hi.ext0 e3).ext0 e4).ext0 e5).ext0 e6).seg (by omega)) ?_
  rintro e w7 ⟨s4, rfl, h4, e7⟩
  refine exW.i1 (t := .sl) s4 rfl ?_
  refine VNw.i fun lb w8 hlb hk8 e8 => ?_
  have E8 := ((((((e2.then0 e3).then0 e4).then0 e5).then0 e6).then0 e7).then0 e8)
  refine VCall.i (XNum_spec b l n w8 (hb.ext0 E8) (by omega) hn) ?_
  rintro e w9 ⟨x0, rfl, k0, e9⟩
  refine exW.i1 (t := .sl) x0 rfl ?_
  have E9 := E8.then0 e9
  refine VCall.i (XCount_spec b l c w9 (hb.ext0 E9) (by omega)) ?_
  rintro e w10 ⟨x1, rfl, k1, e10⟩
  refine exW.i1 (t := .sl) x1 rfl ?_
  have E10 := E9.then0 e10
  refine VCall.i (XStr_spec b l s w10 (hb.ext0 E10) (by omega) (by omega)) ?_
  rintro e w11 ⟨x2, rfl, k2, e11⟩
  refine exW.i1 (t := .sl) x2 rfl ?_
  have E11 := E10.then0 e11
  refine VCall.i (XFlag_spec b l true w11 (hb.ext0 E11) (by omega)) ?_
  rintro e w12 ⟨x3, rfl, k3, e12⟩
  refine exW.i1 (t := .sl) x3 rfl ?_
  have E12 := E11.then0 e12
  refine VCall.i (XFlag_spec b l false w12 (hb.ext0 E12) (by omega)) ?_
  rintro e w13 ⟨x4, rfl, k4, e13⟩
  refine exW.i1 (t := .sl) x4 rfl ?_
  have E13 := E12.then0 e13
  refine VNw.i fun mb w14 hmb hk14 e14 => ?_
  have E14 := E13.then0 e14
  -- sizes
  have z2 := e2.size
  have z3 := e3.size
  have z4 := e4.size
  have z5 := e5.size
  have z6 := e6.size
  have z7 := e7.size
  have z8 := e8.size
  have z9 := e9.size
  have z10 := e10.size
  have z11 := e11.size
  have z12 := e12.size
  have z13 := e13.size
  have g3 := e3
  have lt0 := h0.1.lt
  have lt1 := h1.1.lt
  have lt2 := h2.1.lt
  have lt3 := h3.1.lt
  have lt4 := h4.1.lt
  have hlbl := hk8.lt
  have ltx0 := k0.1.lt
  have ltx1 := k1.1.lt
  have ltx2 := k2.1.lt
  have ltx3 := k3.1.lt
  have ltx4 := k4.1.lt
  have f12 := e13.then0 e14
  have f11 := e12.then0 f12
  have f10 := e11.then0 f11
  have f9 := e10.then0 f10
  have f8 := e9.then0 f9
  have f7 := e8.then0 f8
  have f6 := e7.then0 f7
  have f5 := e6.then0 f6
  have f4 := e5.then0 f5
  have f3 := e4.then0 f4
  have f2 := e3.then0 f3
  let S : Nat → Sl := fun t => match t with | 0 => s0 | 1 => s1 | 2 => s2 | 3 => s3 | _ => s4
  let X : Nat → Sl := fun t => match t with | 0 => x0 | 1 => x1 | 2 => x2 | 3 => x3 | _ => x4
  let B : Nat → List UInt8 := fun t => match t with | 0 => l ++ enc (zz n) | 1 => l ++ encC c | 2 => l ++ encS s | 3 => l ++ enc (if true then 1 else 0) | _ => l ++ enc (if false then 1 else 0)
  let L : Nat → Nat := fun t => match t with | 0 => w2.heap.size | 1 => w3.heap.size | 2 => w4.heap.size | 3 => w5.heap.size | 4 => w6.heap.size | _ => w7.heap.size
  have five : ∀ t, t < 5 → t = 0 ∨ t = 1 ∨ t = 2 ∨ t = 3 ∨ t = 4 := fun t h => by omega
  have hS : ∀ t, t < 5 → Row w14 5 1 (S t) (bc (B t)) ∧ ∀ b ∈ rowB (S t), L t ≤ b ∧ b < L (t + 1) := by
    intro t ht
    rcases five t ht with rfl | rfl | rfl | rfl | rfl
    · exact ⟨h0.1.ext0 f3, fun b hb => ⟨h0.2 b hb, lt0 b hb⟩⟩
    · exact ⟨h1.1.ext0 f4, fun b hb => ⟨h1.2 b hb, lt1 b hb⟩⟩
    · exact ⟨h2.1.ext0 f5, fun b hb => ⟨h2.2 b hb, lt2 b hb⟩⟩
    · exact ⟨h3.1.ext0 f6, fun b hb => ⟨h3.2 b hb, lt3 b hb⟩⟩
    · exact ⟨h4.1.ext0 f7, fun b hb => ⟨h4.2 b hb, lt4 b hb⟩⟩
  have hX : ∀ t, t < 5 → Row w14 5 1 (X t) (bc (B t)) ∧ ∀ b ∈ rowB (X t), w8.heap.size ≤ b ∧ b < w13.heap.size := by
    intro t ht
    rcases five t ht with rfl | rfl | rfl | rfl | rfl
    · exact ⟨k0.1.ext0 f9, fun b hb => ⟨k0.2 b hb, by have := ltx0 b hb; omega⟩⟩
    · exact ⟨k1.1.ext0 f10, fun b hb => ⟨by have := k1.2 b hb; omega, by have := ltx1 b hb; omega⟩⟩
    · exact ⟨k2.1.ext0 f11, fun b hb => ⟨by have := k2.2 b hb; omega, by have := ltx2 b hb; omega⟩⟩
    · exact ⟨k3.1.ext0 f12, fun b hb => ⟨by have := k3.2 b hb; omega, by have := ltx3 b hb; omega⟩⟩
    · exact ⟨k4.1.ext0 e14, fun b hb => ⟨by have := k4.2 b hb; omega, ltx4 b hb⟩⟩
  have hLm : ∀ t u, t < u → u ≤ 5 → L (t + 1) ≤ L u := by
    intro t u htu hu
    have h1 : u = 1 ∨ u = 2 ∨ u = 3 ∨ u = 4 ∨ u = 5 := by omega
    have h2 : t = 0 ∨ t = 1 ∨ t = 2 ∨ t = 3 ∨ t = 4 := by omega
    rcases h1 with rfl | rfl | rfl | rfl | rfl <;> rcases h2 with rfl | rfl | rfl | rfl | rfl <;> first | omega | (simp only [L]; omega)
  have hL0 : ∀ t, t < 5 → w2.heap.size ≤ L t ∧ L (t + 1) ≤ w7.heap.size := by
    intro t ht
    rcases five t ht with rfl | rfl | rfl | rfl | rfl <;> simp only [L] <;> omega
  have hlS : ∀ (W : World) t, t < 5 → Bk W lb [.slice s0.base s0.len s0.cap, .slice s1.base s1.len s1.cap, .slice s2.base s2.len s2.cap, .slice s3.base s3.len s3.cap, .slice s4.base s4.len s4.cap] 22 → Rd W ⟨lb, t, none⟩ [.slice (S t).base (S t).len (S t).cap] := by
    intro W t ht h
    rcases five t ht with rfl | rfl | rfl | rfl | rfl <;> exact Rd.of_bk h rfl
  have hlX : ∀ (W : World) t, t < 5 → Bk W mb [.slice x0.base x0.len x0.cap, .slice x1.base x1.len x1.cap, .slice x2.base x2.len x2.cap, .slice x3.base x3.len x3.cap, .slice x4.base x4.len x4.cap] 22 → Rd W ⟨mb, t, none⟩ [.slice (X t).base (X t).len (X t).cap] := by
    intro W t ht h
    rcases five t ht with rfl | rfl | rfl | rfl | rfl <;> exact Rd.of_bk h rfl
  have hi14 := hi.1.ext0 f2
  have hk814 := hk8.ext f8
  clear_value S X B L
  refine ⟨fun k i W => ∃ j : Nat, i = (j : Int) ∧ j ≤ 5 ∧ k = 5 - j ∧ Ext [] w W ∧ (∀ t, j ≤ t → t < 5 → Row W 5 1 (S t) (bc (B t))) ∧ (∀ t, t < 5 → Row W 5 1 (X t) (bc (B t))) ∧
    Bk W lb [.slice s0.base s0.len s0.cap, .slice s1.base s1.len s1.cap, .slice s2.base s2.len s2.cap, .slice s3.base s3.len s3.cap, .slice s4.base s4.len s4.cap] 22 ∧
    Bk W mb [.slice x0.base x0.len x0.cap, .slice x1.base x1.len x1.cap, .slice x2.base x2.len x2.cap, .slice x3.base x3.len x3.cap, .slice x4.base x4.len x4.cap] 22 ∧ Row W 5 1 si (bc l),
    ⟨_, 0, rfl, by omega, rfl, E14, fun t _ ht => (hS t ht).1, fun t ht => (hX t ht).1, hk814, hk14, hi14⟩, ?_⟩
  have hSb : ∀ t, t < 5 → ∀ b ∈ rowB (S t), L t ≤ b ∧ b < L (t + 1) := fun t ht => (hS t ht).2
  have hXb : ∀ t, t < 5 → ∀ b ∈ rowB (X t), w8.heap.size ≤ b ∧ b < w13.heap.size := fun t ht => (hX t ht).2
  clear hS hX h0 h1 h2 h3 h4 k0 k1 k2 k3 k4 f2 f3 f4 f5 f6 f7 f8 f9 f10 f11 f12 hi14 hk814 hk14 hk8 e14 e13 e12 e11 e10 e9 e8 e7 e6 e5 e4 e3 lt0 lt1 lt2 lt3 lt4 ltx0 ltx1 ltx2 ltx3 ltx4 E9 E10 E11 E12 E13 E14
  rintro k i w15 ⟨j, rfl, hj, rfl, E15, hS, hX, hlb15, hmb15, hi15⟩
  refine VIf.mk (fun hc => ?_) (fun hc => ?_)
  · have hc : j < 5 := by simp at hc; omega
    intro w16 hw16
    have e16 := Ext.drew' hw16
    have E16 := E15.then0 e16
    have hlb16 := hlb15.ext e16
    have hmb16 := hmb15.ext e16
    refine VIx.i (by omega) (by omega) ?_
    simp only [add_blk, Int.toNat_natCast, Nat.zero_add, Nat.mul_one]
    refine VLd.sl _ _ _ (hlS _ j hc hlb16) ?_
    refine VStr.i (B j) ((hS j (Nat.le_refl _) hc).ext0 e16).seg fun sa hsa => ?_
    refine VIx.i (by omega) (by omega) ?_
    simp only [add_blk, Int.toNat_natCast, Nat.zero_add, Nat.mul_one]
    refine VLd.sl _ _ _ (hlX _ j hc hmb16) ?_
    refine VStr.i (B j) ((hX j hc).ext0 e16).seg fun sb hsb => ?_
    refine VIf.f (by rw [strEq, hsa, hsb]; simp) ?_
    have hb0 := hL0 j hc
    have hz2 := z2
    have hlbn : lb ∉ rowB (S j) := fun h => by have := hSb j hc lb h; omega
    have hmbn : mb ∉ rowB (S j) := fun h => by have := hSb j hc mb h; omega
    refine ⟨fun k i W => ∃ (q : Nat) (m : List UInt8), i = (q : Int) ∧ q ≤ (S j).len ∧ k = (S j).len - q ∧ Row W 5 1 (S j) (bc m) ∧ Ext (rowB (S j)) w16 W, ⟨_, 0, B j, rfl, by omega, rfl, (hS j (Nat.le_refl _) hc).ext0 e16, Ext.refl _ _⟩, ?_⟩
    rintro k i w17 ⟨q, m, rfl, hq, rfl, hr17, e17⟩
    have hlb17 := hlb16.ext e17 hlbn
    refine VIx.i (by omega) (by omega) ?_
    simp only [add_blk, Int.toNat_natCast, Nat.zero_add, Nat.mul_one]
    refine VLd.sl _ _ _ (hlS _ j hc hlb17) ?_
    refine VIf.mk (fun hc2 => ?_) (fun hc2 => ?_)
    · have hc2 : q < (S j).len := by simpa using hc2
      refine VIx.i (by omega) (by omega) ?_
      simp only [add_blk, Nat.zero_add]
      refine VLd.sl _ _ _ (hlS _ j hc hlb17) ?_
      have := Row.put (g := none) (v := 99) (q := q) hr17 hc2 (K := fun w18 => VSet (IntKind.wrap .i64 ((q : Int) + 1)) fun (k_13' : Int) => ∃ k', k' < (S j).len - q ∧ (∃ (q' : Nat) (m : List UInt8), k_13' = (q' : Int) ∧ q' ≤ (S j).len ∧ k' = (S j).len - q' ∧ Row w18 5 1 (S j) (bc m) ∧ Ext (rowB (S j)) w16 w18)) (fun w18 hr18 e18 => by
        have hcp := hr18.2.1
        have hcp2 := hr18.2.2.1
        rw [w64 (show -9223372036854775808 ≤ (q : Int) + 1 ∧ (q : Int) + 1 ≤ 9223372036854775807 by omega)]
        exact VSet.i ⟨_, by omega, q + 1, _, by omega, by omega, rfl, hr18, e17.then e18 (fun i hi _ => hi)⟩)
      simpa using this
    · rw [w64 (show -9223372036854775808 ≤ (j : Int) + 1 ∧ (j : Int) + 1 ≤ 9223372036854775807 by omega)]
      refine VSet.i ⟨_, by omega, j + 1, by omega, by omega, rfl, ?_, ?_, ?_, hlb17, hmb16.ext e17 hmbn, ?_⟩
      · exact E16.then e17 (fun i hi hlt => by have := hSb j hc i hi; have := e2.size; omega)
      · intro t ht ht5
        refine ((hS t (by omega) ht5).ext0 e16).ext e17 (fun b hb hb' => ?_)
        have h1 := hSb t ht5 b hb
        have h2 := hSb j hc b hb'
        have h3 := hLm j t (by omega) (by omega)
        omega
      · intro t ht5
        refine ((hX t ht5).ext0 e16).ext e17 (fun b hb hb' => ?_)
        have h1 := hXb t ht5 b hb
        have h2 := hSb j hc b hb'
        omega
      · refine (hi15.ext0 e16).ext e17 (fun b hb hb' => ?_)
        have h1 := hilt b hb
        have h2 := hSb j hc b hb'
        omega
  · refine VStr.i l hi15.seg fun sa hsa => ?_
    refine VStr.i l (hb.ext0 E15) fun sb hsb => ?_
    exact ⟨by rw [strEq, hsa, hsb]; simp, E15⟩
end Go.Proofs.Ytfanmhgmncfloaa
