/-
  Package node: NodeNames, the walk.
-/
import Derived.Test.YtknohdgcigcmdaaNodeN
namespace Go.Proofs.Ytknohdgcigcmdaa
open Go.RowKit
set_option maxRecDepth 100000

theorem one_in {w : World} {b : Nat} {c : Ce} {t : TypeId} (h : Bk w b (ceC c) t) : InR ceR w ⟨some ⟨b, 0, none⟩, 1, 1⟩ [c] := ⟨Seg.of_bk h rfl rfl, Nat.le_refl _, by simp⟩
theorem small1 {c : Ce} (h1 : c.key.size ≤ 100000) (h2 : c.val.size ≤ 100000) : Small ⟨true, [c], []⟩ := ⟨by simp, by simp, fun x hx => by simp at hx; subst hx; exact ⟨h1, h2⟩⟩
theorem page_in {w : World} {b n : Nat} {l : List UInt8} (h : Bk w b (bc l) 5) (hn : l.length = n) (h2 : n ≤ 100000) : In w ⟨some ⟨b, 0, none⟩, n, n⟩ l :=
  ⟨Seg.of_bk h (by rw [List.drop_zero, List.take_of_length_le (Nat.le_refl _)]) (by rw [bc_len, hn]; exact (Nat.mul_one n).symm), Nat.le_refl _, by simp only; omega⟩
set_option maxHeartbeats 2000000 in
theorem NodeNames_law (w : World) : Calls Try.prog 6 #[] w fun e w' => e = .returned (.bool true) ∧ Ext [] w w' := by
  refine sh_butterylaw06_NodeNames_ok _ _ ?_
  unfold sh_butterylaw06_NodeNames
  obtain ⟨z, hz⟩ : ∃ z : List UInt8, z = List.replicate 64 0 := ⟨_, rfl⟩
  have hzl : z.length = 64 := by rw [hz, List.length_replicate]
  have hz47 : z.take 47 = List.replicate 47 0 := by rw [hz, List.take_replicate]; rfl
  have hz63 : z.take 63 = List.replicate 63 0 := by rw [hz, List.take_replicate]; rfl
  refine VMk.i (by omega) (by omega) (by omega) (by omega) fun b28 w1 hb28 hk1 e1 => ?_
  have hk1 : Bk w1 b28 (bc (0 :: z)) 5 := by
    have h1 : (0 : UInt8) :: z = List.replicate 65 0 := by rw [hz]; exact (List.replicate_succ).symm
    rw [h1, ← made8]
    exact hk1
  -- what the buffer tells
  have cut : ∀ {W : World} {x : UInt8} (n : Nat), n ≤ 65 → Bk W b28 (bc (x :: z)) 5 → Seg W (cutB (some ⟨b28, 0, none⟩) 65 1 0) (n - 0) 1 (bc ((x :: z).take n)) := fun n hn hb => by
    have h1 := (page_in hb (by rw [List.length_cons, hzl]) (by omega)).cut 0 n (by omega) (by rw [List.length_cons, hzl]; omega)
    rw [List.drop_zero] at h1
    exact h1.1
  -- two cells, not rising
  refine VNw.i fun b33 w2 hb33 hk33 e2 => ?_
  have hk33 : Bk w2 b33 (ceR.cells [⟨⟨#[98]⟩, ByteArray.empty, 0, 0⟩, ⟨⟨#[97]⟩, ByteArray.empty, 0, 0⟩]) 48 := hk33
  refine leafEnc (c := ⟨some ⟨b33, 0, none⟩, 2, 2⟩) (cells_in (n := 2) hk33 rfl (by omega)) ⟨by simp, by simp, fun c hc => by
    simp only [List.mem_cons, List.not_mem_nil, or_false] at hc
    rcases hc with rfl | rfl <;> exact ⟨by decide, by decide⟩⟩ fun w4 e4 => ?_
  have ha : (encN ⟨true, [⟨⟨#[98]⟩, ByteArray.empty, 0, 0⟩, ⟨⟨#[97]⟩, ByteArray.empty, 0, 0⟩], []⟩).2 = 4 := by
    rw [enc_no]
    have : okC true [⟨⟨#[98]⟩, ByteArray.empty, 0, 0⟩, ⟨⟨#[97]⟩, ByteArray.empty, 0, 0⟩] = false := okC_no (m := 1) (by simp) (by unfold stepC; rw [ltB_l]; decide)
    unfold okN
    show (okC true _ && _) = false
    rw [this]; rfl
  rw [ha]
  have e04 := (e1.then0 e2).then0 e4
  have hk4 := (hk1.ext e2).ext e4
  -- a value of 65 bytes
  refine VStr.i _ (page_in hk4 (by rw [List.length_cons, hzl]) (by omega)).1 fun s41 hs41 => ?_
  have hs41l : s41.size = 65 := by rw [ba_size, hs41, List.length_cons, hzl]
  refine VNw.i fun b43 w5 hb43 hk43 e5 => ?_
  have hk43 : Bk w5 b43 (ceC ⟨⟨#[97]⟩, s41, 0, 0⟩) 48 := hk43
  refine leafEnc (one_in hk43) (small1 (show (ByteArray.mk #[97]).size ≤ 100000 by decide) (by show s41.size ≤ 100000; omega)) fun w7 e7 => ?_
  have hbb : (encN ⟨true, [⟨⟨#[97]⟩, s41, 0, 0⟩], []⟩).2 = 4 := one_no (by
    unfold mayC
    rw [if_neg (show ¬ 48 < (ByteArray.mk #[97]).size by decide), if_neg (by simp), if_pos rfl]
    show (true && decide (s41.size ≤ 64)) = false
    rw [hs41l]; rfl)
  rw [hbb]
  have e07 := (e04.then0 e5).then0 e7
  have hk7 := (hk4.ext e5).ext e7
  intro w8 hw8
  have ed8 := Ext.drew' hw8
  have hk8 := hk7.ext ed8
  have e08 := e07.then0 ed8
  -- a cell of the greatest size
  refine VCk.i (by omega) (VStr.i _ (cut 48 (by omega) hk8) fun s52 hs52 => VCk.i (by omega) (VStr.i _ (cut 64 (by omega) hk8) fun s55 hs55 => ?_))
  have hL0 : Lz 0 ⟨s52, s55, 0, 0⟩ := ⟨by rw [hs52, List.take_succ_cons, hz47]; rfl, by rw [hs55, List.take_succ_cons, hz63]; rfl, rfl, rfl⟩
  have hLL : ∀ j (hj : j < [(⟨s52, s55, 0, 0⟩ : Ce)].length), Lz j ([(⟨s52, s55, 0, 0⟩ : Ce)][j]) := fun j hj => by
    have : j = 0 := by simpa using hj
    subst this; exact hL0
  refine VNw.i fun b57 w9 hb57 hk57 e9 => ?_
  have hk57 : Bk w9 b57 (ceC ⟨s52, s55, 0, 0⟩) 48 := hk57
  refine leafEnc (one_in hk57) (zs_small hLL (by simp)) fun w11 e11 => ?_
  have hcc : (encN ⟨true, [⟨s52, s55, 0, 0⟩], []⟩).2 = 0 := by rw [zs_enc hLL (by simp)]; rfl
  rw [hcc]
  have e011 := (e08.then0 e9).then0 e11
  have hk11 := (hk8.ext e9).ext e11
  -- a key of 49 bytes
  refine VCk.i (by omega) (VStr.i _ (cut 49 (by omega) hk11) fun s66 hs66 => ?_)
  have hs66l : s66.size = 49 := by rw [ba_size, hs66, List.length_take, List.length_cons, hzl]; rfl
  refine VNw.i fun b68 w12 hb68 hk68 e12 => ?_
  have hk68 : Bk w12 b68 (ceC ⟨s66, ByteArray.empty, 0, 0⟩) 48 := hk68
  refine leafEnc (one_in hk68) (small1 (by show s66.size ≤ 100000; omega) (show ByteArray.empty.size ≤ 100000 by decide)) fun w14 e14 => ?_
  have hdd : (encN ⟨true, [⟨s66, ByteArray.empty, 0, 0⟩], []⟩).2 = 4 := one_no (by unfold mayC; rw [if_pos (show 48 < s66.size by omega)])
  rw [hdd]
  have e014 := (e011.then0 e12).then0 e14
  have hk14 := (hk11.ext e12).ext e14
  -- nine cells
  refine ⟨fun kk c i W => ∃ (m : Nat) (X : List Ce) (x : UInt8), i = (m : Int) ∧ m ≤ 9 ∧ kk = 9 - m ∧ X.length = m ∧ (∀ j (hj : j < X.length), Lz j X[j]) ∧ OwnR ceR 48 w W c X ∧ Bk W b28 (bc (x :: z)) 5 ∧ Ext [] w W,
    ⟨_, 0, [], 0, rfl, by omega, rfl, rfl, fun j hj => absurd hj (by simp), OwnR.nil _ _ _ _, hk14, e014⟩, ?_⟩
  rintro kk c i w15 ⟨m, X, x, rfl, hm, rfl, hXl, hX, ho15, hk15, e15⟩
  refine VIf.mk (fun hd => ?_) (fun hd => ?_)
  · have hm' : m < 9 := by simp at hd; omega
    rw [wrap8_nat]
    refine VIx.i (by omega) (by omega) (VSt.bk hk15 rfl (by rw [bc_len]; simp [hzl]) fun w16 hk16 e16 => ?_)
    have hk16 : Bk w16 b28 (bc (UInt8.ofNat (m % 256) :: z)) 5 := hk16
    intro w17 hw17
    have ed := Ext.drew' hw17
    have e1517 : Ext [b28] w15 w17 := e16.then0 ed
    have hk17 := hk16.ext ed
    have ho17 := ho15.ext e1517 (fun b hb hm => by
      simp at hm; subst hm
      obtain ⟨_, hzz⟩ := ho15.1.bk_of hb
      exact hk15.neT hzz (by decide) rfl)
    have e017 : Ext [] w w17 := e15.then e1517 (fun i hi hlt => by simp at hi; omega)
    refine VCk.i (by omega) (VStr.i _ (cut 48 (by omega) hk17) fun s84 hs84 => VCk.i (by omega) (VStr.i _ (cut 64 (by omega) hk17) fun s87 hs87 => ?_))
    have hLm : Lz m ⟨s84, s87, 0, 0⟩ := ⟨by rw [hs84, List.take_succ_cons, hz47], by rw [hs87, List.take_succ_cons, hz63], rfl, rfl⟩
    refine VNw.i fun b89 w18 hb89 hk89 e18 => ?_
    have hk89 : Bk w18 b89 (ceC ⟨s84, s87, 0, 0⟩) 48 := hk89
    have e018 := e017.then0 e18
    refine VApp.rec (r := ceR) (news := [⟨s84, s87, 0, 0⟩]) (ho17.ext0 e18) e018 (Seg.of_bk hk89 rfl rfl) rfl rfl (by omega) (by omega) fun c' w19 ho19 e019 e19 hbl => ?_
    rw [w64 (n := (m : Int) + 1) (by omega)]
    refine VSet.i ⟨_, (show 9 - (m + 1) < 9 - m by omega), m + 1, X ++ [⟨s84, s87, 0, 0⟩], UInt8.ofNat (m % 256), rfl, by omega, rfl, by rw [List.length_append, hXl]; rfl, fun j hj => ?_, ho19, (hk17.ext e18).ext e19 (fun hi => by
      obtain ⟨_, hzz⟩ := (ho17.ext0 e18).1.bk_of hi
      exact (hk17.ext e18).neT hzz (by decide) rfl), e019⟩
    by_cases hj2 : j < X.length
    · rw [List.getElem_append_left hj2]; exact hX j hj2
    · have : j = m := by rw [List.length_append, hXl] at hj; simp at hj; omega
      subst this
      rw [List.getElem_append_right (by omega)]
      simp only [hXl, Nat.sub_self, List.getElem_cons_zero]
      exact hLm
  have hmm : m = 9 := by simp at hd; omega
  subst hmm
  have hcl := ho15.len
  have hcc15 := ho15.cap
  refine leafEnc ho15.in_ (zs_small hX (by omega)) fun w21 e21 => ?_
  have hee : (encN ⟨true, X, []⟩).2 = 40 := by rw [zs_enc hX (by omega), hXl]; rfl
  rw [hee]
  have e021 := e15.then0 e21
  -- four of them
  refine VCk.i (by omega) ?_
  have h4c := (ho15.ext0 e21).in_.cut 0 4 (by omega) (by omega)
  rw [List.drop_zero] at h4c
  have hX4 : ∀ j (hj : j < (X.take 4).length), Lz j (X.take 4)[j] := fun j hj => by rw [List.getElem_take]; exact hX j (by rw [List.length_take] at hj; omega)
  refine leafEnc (c := ⟨cutB c.base c.cap 4 0, 4 - 0, c.cap - 0⟩) h4c (zs_small hX4 (by rw [List.length_take]; omega)) fun w23 e23 => ?_
  have hff : (encN ⟨true, X.take 4, []⟩).2 = 0 := by rw [zs_enc hX4 (by rw [List.length_take]; omega), List.length_take, hXl]; rfl
  rw [hff]
  have e023 := e021.then0 e23
  -- nothing is read
  refine decGo (s := ⟨none, 0, 0⟩) (In.nil w23) fun dc dk w24 _ e24 => ?_
  rw [dec_nil]
  refine VNw.i fun b17 w25 hb17 hk17 e25 => VSt.bk hk17 rfl (by simp) fun w26 hk26 e26 => VSet.i ?_
  have e026 : Ext [] w w26 := ((e023.then0 e24).then0 e25).then e26 (fun i hi hlt => by have := (e023.then0 e24).size; simp at hi; omega)
  -- a page
  refine VMk.i (by omega) (by omega) (by omega) (by omega) fun pb w27 hpb hk27 e27 => ?_
  obtain ⟨t, ht⟩ : ∃ t : List UInt8, t = List.replicate 510 0 := ⟨_, rfl⟩
  have htl : t.length = 510 := by rw [ht, List.length_replicate]
  have hta : t.any (fun x => x != 0) = false := by rw [ht, List.any_replicate]; rfl
  have hk27 : Bk w27 pb (bc (0 :: 0 :: (t ++ [0]))) 5 := by
    have h1 : (0 : UInt8) :: 0 :: (t ++ [0]) = List.replicate 513 0 := by
      rw [ht, ← List.replicate_succ' (n := 510), ← List.replicate_succ, ← List.replicate_succ]
    rw [h1, ← made8]
    exact hk27
  have hlen : ∀ (a b d : UInt8), (a :: b :: (t ++ [d]) : List UInt8).length = 513 := fun a b d => by simp [htl]
  refine VIx.i (by omega) (by omega) (VSt.bk hk27 rfl (by rw [bc_len, hlen]; simp) fun w28 hk28 e28 => ?_)
  have hk28 : Bk w28 pb (bc (1 :: 0 :: (t ++ [0]))) 5 := hk28
  have z26 := e026.size
  have e028 : Ext [] w w28 := (e026.then0 e27).then e28 (fun i hi hlt => by simp at hi; omega)
  have cutP : ∀ {W : World} {d : UInt8}, Bk W pb (bc (1 :: 0 :: (t ++ [d]))) 5 → In W ⟨cutB (some ⟨pb, 0, none⟩) 513 1 0, 512 - 0, 513 - 0⟩ (1 :: 0 :: t) := fun hb => by
    have h1 := (page_in hb (hlen _ _ _) (by omega)).cut 0 512 (by omega) (by rw [hlen]; omega)
    rw [List.drop_zero] at h1
    have h2 : ∀ d : UInt8, (1 :: 0 :: (t ++ [d]) : List UInt8).take 512 = 1 :: 0 :: t := fun d => by
      rw [List.take_succ_cons, List.take_succ_cons, ← htl, List.take_left]
    rw [h2] at h1
    exact h1
  refine VCk.i (by omega) (decGo (s := ⟨cutB (some ⟨pb, 0, none⟩) 513 1 0, 512 - 0, 513 - 0⟩) (cutP hk28) fun nc nk w29 ho29 e29 => ?_)
  have hdp : decN (1 :: 0 :: t) = (⟨true, [], []⟩, 0) := by rw [dec_page t htl, hta]; rfl
  rw [hdp] at ho29 ⊢
  have hnc : nc.len = 0 := ho29.co.len
  refine VNw.i fun nb w30 hnb hk30 e30 => VSt.bk hk30 rfl (by simp) fun w31 hk31 e31 => VSet.i ?_
  have hk31 : Bk w31 nb (nhC true nc nk) 30 := hk31
  have z29 := e29.size
  have lp := hk28.lt
  have e2931 : Ext [] w29 w31 := e30.then e31 (fun i hi hlt => by simp at hi; omega)
  have e031 := (e028.then0 e29).then0 e2931
  have hp31 := (hk28.ext e29).ext e2931
  -- all 513
  refine decGo (s := ⟨some ⟨pb, 0, none⟩, 513, 513⟩) (page_in hp31 (hlen _ _ _) (by omega)) fun uc uk w32 _ e32 => ?_
  have hdi : decN (1 :: 0 :: (t ++ [0])) = (zNd, 4) := by unfold decN; rw [if_pos (by rw [hlen]; omega)]
  rw [hdi]
  refine VNw.i fun b22 w33 hb22 hk33' e33 => VSt.bk hk33' rfl (by simp) fun w34 hk34 e34 => VSet.i ?_
  have e3134 : Ext [] w31 w34 := (e32.then0 e33).then e34 (fun i hi hlt => by have := e32.size; simp at hi; omega)
  have hp34 := hp31.ext e3134
  have hn34 := hk31.ext e3134
  have e034 := e031.then0 e3134
  refine VIx.i (by omega) (by omega) ?_
  simp only [add_blk]
  refine VSt.bk hp34 rfl (by rw [bc_len, hlen]; simp) fun w35 hk35 e35 => ?_
  have hp35 : Bk w35 pb (bc (1 :: 0 :: (t.take 509 ++ [1] ++ [0]))) 5 := by
    have h1 : (bc (1 :: 0 :: (t ++ [0]))).take (0 + 511) ++ [Value.int .u8 1] ++ (bc (1 :: 0 :: (t ++ [0]))).drop (0 + 511 + [Value.int .u8 1].length) = bc (1 :: 0 :: (t.take 509 ++ [1] ++ [0])) := by
      rw [bc_take, bc_drop]
      have a1 : (1 :: 0 :: (t ++ [0]) : List UInt8).take (0 + 511) = 1 :: 0 :: t.take 509 := by
        show (1 :: 0 :: (t ++ [0]) : List UInt8).take (509 + 1 + 1) = _
        rw [List.take_succ_cons, List.take_succ_cons, List.take_append_of_le_length (by omega)]
      have a2 : (1 :: 0 :: (t ++ [0]) : List UInt8).drop (0 + 511 + [Value.int .u8 1].length) = [0] := by
        show (1 :: 0 :: (t ++ [0]) : List UInt8).drop (510 + 1 + 1) = _
        rw [List.drop_succ_cons, List.drop_succ_cons, ← htl, List.drop_left]
      rw [a1, a2]
      show bc (1 :: 0 :: t.take 509) ++ bc [1] ++ bc [0] = _
      rw [← bc_app, ← bc_app]
      rfl
    rw [h1] at hk35
    exact hk35
  have lnp : nb ≠ pb := by
    have := (hk28.ext e29).lt
    have := e30.size
    omega
  have hn35 := hn34.ext e35 (by simpa using lnp)
  have e035 : Ext [] w w35 := e034.then e35 (fun i hi hlt => by simp at hi; omega)
  have ht2l : (t.take 509 ++ [1] : List UInt8).length = 510 := by rw [List.length_append, List.length_take, htl]; rfl
  have cutQ : In w35 ⟨cutB (some ⟨pb, 0, none⟩) 513 1 0, 512 - 0, 513 - 0⟩ (1 :: 0 :: (t.take 509 ++ [1])) := by
    have h1 := (page_in (n := 513) hp35 (by simp [htl]) (by omega)).cut 0 512 (by omega) (by simp [htl])
    rw [List.drop_zero, List.take_succ_cons, List.take_succ_cons, ← ht2l, List.take_left] at h1
    exact h1
  refine VCk.i (by omega) (decGo (s := ⟨cutB (some ⟨pb, 0, none⟩) 513 1 0, 512 - 0, 513 - 0⟩) cutQ fun vc vk w36 _ e36 => ?_)
  have hdj : decN (1 :: 0 :: (t.take 509 ++ [1])) = (zNd, 4) := by
    rw [dec_page _ ht2l]
    have : (t.take 509 ++ [1] : List UInt8).any (fun x => x != 0) = true := by rw [List.any_append]; simp
    rw [this]; rfl
  rw [hdj]
  refine VNw.i fun b24 w37 hb24 hk37 e37 => VSt.bk hk37 rfl (by simp) fun w38 hk38 e38 => VSet.i ?_
  have e3538 : Ext [] w35 w38 := (e36.then0 e37).then e38 (fun i hi hlt => by have := e36.size; simp at hi; omega)
  -- a kid too great
  refine VNw.i fun b133 w39 hb133 hk133 e39 => ?_
  have hk133 : Bk w39 b133 (itR.cells [2147483648]) 3 := hk133
  refine VCall.i (Encode_spec ⟨none, 0, 0⟩ ⟨some ⟨b133, 0, none⟩, 1, 1⟩ ⟨false, [], [2147483648]⟩ w39 ⟨InR.nil _, ints_in hk133 rfl (by omega)⟩ ⟨by simp, by simp, fun c hc => by simp at hc⟩) ?_
  rintro e w40 ⟨s40, rfl, h40, e40⟩
  have hkk : (encN ⟨false, [], [2147483648]⟩).2 = 4 := by rw [enc_no]; rfl
  rw [hkk]
  refine exW.i2 (t := .sl) (u := .int .i64) s40 4 rfl (VSet.i ?_)
  have e040 := ((e035.then0 e3538).then0 e39).then0 e40
  have hn40 := ((hn35.ext e3538).ext e39).ext e40
  refine VLd.i1 (t := .bool) true (Rd.of_bk hn40 rfl) (VLd.s nc (Rd.of_bk hn40 rfl) ?_)
  rw [hnc]
  refine VCall.on rfl (VCall.i (awake_spec w40) ?_)
  rintro e w41 ⟨rfl, e41⟩
  exact exW.i1 (t := .bool) true rfl ⟨rfl, e040.then0 e41⟩
end Go.Proofs.Ytknohdgcigcmdaa
