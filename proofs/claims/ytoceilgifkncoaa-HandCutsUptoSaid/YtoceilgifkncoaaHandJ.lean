/-
  Package hand: the first example.
-/
import Derived.Test.YtoceilgifkncoaaHandI
import Derived.Test.YtoceilgifkncoaaCodeI
namespace Go.Proofs.Ytoceilgifkncoaa
open Go.RowKit
set_option maxRecDepth 100000

theorem VMk.s {w : World} {K : Nat → World → Prop} {l c : Int} {n : Nat} (hl : l = (n : Int)) (hc : c = (n : Int)) (hn : n ≤ 1000000) (k : ∀ b w' (Z : List UInt8), b = w.heap.size → Z.length = n → Bk w' b (bc Z) 5 → Ext [] w w' → K b w') : VMk none w 5 1 1 #[.int .u8 0] l c K := by
  subst hl hc
  refine VMk.i (by omega) (by omega) (by omega) (by omega) fun b w' hb hk e => ?_
  rw [Int.toNat_natCast, made8] at hk
  exact k b w' _ hb (List.length_replicate ..) hk e
theorem VStr.s {w : World} {b n : Nat} {Z : List UInt8} {K : ByteArray → Prop} (hk : Bk w b (bc Z) 5) (hZ : Z.length = n) (k : ∀ y : ByteArray, y.data.toList = Z → y.size = n → K y) : VStr none w (some ⟨b, 0, none⟩) n K := by
  refine VStr.i Z (Seg.of_bk hk (by rw [List.drop_zero, List.take_length]) (by rw [bc_len, hZ, Nat.mul_one])) fun y hy => k y hy ?_
  show y.data.size = n
  rw [← hZ, ← hy]; simp
theorem Seg.s {w : World} {b n : Nat} {Z : List UInt8} {y : ByteArray} (hk : Bk w b (bc Z) 5) (hZ : Z.length = n) (hy : y.data.toList = Z) : Seg w (some ⟨b, 0, none⟩) n 1 (strCells y) := by
  rw [bc_str, hy]
  exact Seg.of_bk hk (by rw [List.drop_zero, List.take_length]) (by rw [bc_len, hZ, Nat.mul_one])
def pA (y : ByteArray) : Pr := (ByteArray.mk #[97], y)
def pB (y : ByteArray) : Pr := (ByteArray.mk #[98], y)
def pC : Pr := (ByteArray.mk #[99], ByteArray.mk #[49, 50, 51, 52, 53])
def lA : Ls := (201, 5, 0, false, ByteArray.empty)
def twoL (y z : ByteArray) : List Pt := [⟨[pA y], [], false⟩, ⟨[pB z, pC], [lA], true⟩]
theorem add_in {c : Cu} {n : Int} {f : Pt → Pt} (h : ¬ c.full n) : c.add n f = ⟨addLast c.L f, IntKind.wrap .i64 (c.size + n), c.many + 1⟩ := by unfold Cu.add Cu.room; rw [if_neg h]
theorem add_new {c : Cu} {n : Int} {f : Pt → Pt} (h : c.full n) : c.add n f = ⟨addLast (c.L ++ [ptE]) f, IntKind.wrap .i64 (0 + n), 0 + 1⟩ := by unfold Cu.add Cu.room; rw [if_pos h]
theorem two_cut (y z : ByteArray) (hy : y.size = 2000) (hz : z.size = 2000) : cutI [pA y, pB z, pC] [lA] = twoL y z := by
  have s1 : szP (pA y) = 2009 := by
    unfold szP pA; simp only; rw [hy, show (ByteArray.mk #[97]).size = 1 from rfl, w64 (n := ((1 : Nat) : Int) + ((2000 : Nat) : Int)) (by omega), w64 (by omega)]; rfl
  have s2 : szP (pB z) = 2009 := by
    unfold szP pB; simp only; rw [hz, show (ByteArray.mk #[98]).size = 1 from rfl, w64 (n := ((1 : Nat) : Int) + ((2000 : Nat) : Int)) (by omega), w64 (by omega)]; rfl
  have s3 : szP pC = 14 := by
    unfold szP pC; simp only; rw [show (ByteArray.mk #[99]).size = 1 from rfl, show (ByteArray.mk #[49, 50, 51, 52, 53]).size = 5 from rfl, w64 (n := ((1 : Nat) : Int) + ((5 : Nat) : Int)) (by omega), w64 (by omega)]; rfl
  have s4 : szQ lA = 32 := by
    unfold szQ lA; simp only; rw [show (ByteArray.empty).size = 0 from rfl, w64 (by omega)]; rfl
  have c1 : Cu.addP ⟨[ptE], 0, 0⟩ (pA y) = ⟨[⟨[pA y], [], false⟩], 2009, 1⟩ := by
    unfold Cu.addP
    rw [s1, add_in (by unfold Cu.full; simp)]
    simp only
    rw [w64 (n := 0 + 2009) (by omega)]; rfl
  have c2 : Cu.addP ⟨[⟨[pA y], [], false⟩], 2009, 1⟩ (pB z) = ⟨[⟨[pA y], [], false⟩, ⟨[pB z], [], false⟩], 2009, 1⟩ := by
    unfold Cu.addP
    rw [s2, add_new (by unfold Cu.full; simp only; rw [w64 (n := 2009 + 2009) (by omega)]; omega)]
    simp only
    rw [w64 (n := 0 + 2009) (by omega)]; rfl
  have c3 : Cu.addP ⟨[⟨[pA y], [], false⟩, ⟨[pB z], [], false⟩], 2009, 1⟩ pC = ⟨[⟨[pA y], [], false⟩, ⟨[pB z, pC], [], false⟩], 2023, 2⟩ := by
    unfold Cu.addP
    rw [s3, add_in (by unfold Cu.full; simp only; rw [w64 (n := 2009 + 14) (by omega)]; omega)]
    simp only
    rw [w64 (n := 2009 + 14) (by omega)]; rfl
  have c4 : Cu.addQ ⟨[⟨[pA y], [], false⟩, ⟨[pB z, pC], [], false⟩], 2023, 2⟩ lA = ⟨[⟨[pA y], [], false⟩, ⟨[pB z, pC], [lA], false⟩], 2055, 3⟩ := by
    unfold Cu.addQ
    rw [s4, add_in (by unfold Cu.full; simp only; rw [w64 (n := 2023 + 32) (by omega)]; omega)]
    simp only
    rw [w64 (n := 2023 + 32) (by omega)]; rfl
  unfold cutI cutL
  simp only [List.foldl_cons, List.foldl_nil]
  rw [c1, c2, c3, c4]; rfl
theorem two_spec (w : World) : Calls Try.prog 27 #[] w fun e w' => ∃ (s : Sl) (X : List PX) (y z : ByteArray), e = .returned (.slice s.base s.len s.cap) ∧ PtsO w w' s X ∧ pts X = twoL y z ∧ Ext [] w w' := by
  refine sh_butterylaw23_two_ok _ _ ?_
  unfold sh_butterylaw23_two
  refine ⟨fun s W => ∃ (X : List PX) (y z : ByteArray), PtsO w W s X ∧ pts X = twoL y z ∧ Ext [] w W, ?_, ?_⟩
  · intro w1 hw1
    have e1 := Ext.drew' hw1
    have fin : ∀ (W : World) (b8 b10 : Nat) (y z : ByteArray), Bk W b8 (prR.cells [pA y, pB z, pC]) 37 → Bk W b10 (lsR.cells [lA]) 68 → y.size = 2000 → z.size = 2000 → Ext [] w W →
        VCall none Try.prog 11 #[.slice (some ⟨b8, 0, none⟩) 3 3, .slice (some ⟨b10, 0, none⟩) 1 1] W (.slice none 0 0) fun (r11 : Sl) (w6 : World) =>
          ∃ (X : List PX) (y z : ByteArray), PtsO w w6 r11 X ∧ pts X = twoL y z ∧ Ext [] w w6 := by
      intro W b8 b10 y z k8 k10 hy hz eW
      refine VCall.i (Cut_spec ⟨some ⟨b8, 0, none⟩, 3, 3⟩ ⟨some ⟨b10, 0, none⟩, 1, 1⟩ [pA y, pB z, pC] [lA] W ⟨Seg.of_bk k8 rfl rfl, by simp⟩ ⟨Seg.of_bk k10 rfl rfl, by simp⟩ (by simp)) ?_
      rintro e w6 ⟨s, X, rfl, hX, hp, _, e6⟩
      exact exW.i1 (t := .sl) s rfl ⟨X, y, z, hX.mono eW.size, by rw [hp, two_cut y z hy hz], eW.then0 e6⟩
    refine ⟨?_, ?_, ?_⟩
    · refine VMk.s (n := 2000) rfl rfl (by omega) fun b1 w2 Z1 _ hZ1 k1 e2 => VStr.s k1 hZ1 fun s2 hs2 z2 => ⟨?_, ?_⟩
      · refine VMk.s (n := 2000) rfl rfl (by omega) fun b4 w3 Z4 _ hZ4 k4 e3 => ⟨Seg.s (k1.ext e3) hZ1 hs2, VStr.s k4 hZ4 fun s5 hs5 z5 => ⟨?_, ?_⟩⟩
        · exact VNw.i fun b8 w4 _ k8 e4 => VNw.i fun b10 w5 _ k10 e5 => fin w5 b8 b10 s2 s5 (k8.ext e5) k10 z2 z5 ((((e1.then0 e2).then0 e3).then0 e4).then0 e5)
        · exact VNw.i fun b10 w4 _ k10 e4 => ⟨Seg.s (k4.ext e4) hZ4 hs5, Seg.s ((k1.ext e3).ext e4) hZ1 hs2, VNw.i fun b8 w5 _ k8 e5 => fin w5 b8 b10 s2 s5 k8 (k10.ext e5) z2 z5 ((((e1.then0 e2).then0 e3).then0 e4).then0 e5)⟩
      · refine VNw.i fun b10 w3 _ k10 e3 => ⟨Seg.s (k1.ext e3) hZ1 hs2, VMk.s (n := 2000) rfl rfl (by omega) fun b4 w4 Z4 _ hZ4 k4 e4 => ⟨Seg.s ((k1.ext e3).ext e4) hZ1 hs2, VStr.s k4 hZ4 fun s5 hs5 z5 => ?_⟩⟩
        exact VNw.i fun b8 w5 _ k8 e5 => fin w5 b8 b10 s2 s5 k8 ((k10.ext e4).ext e5) z2 z5 ((((e1.then0 e2).then0 e3).then0 e4).then0 e5)
    · refine VMk.s (n := 2000) rfl rfl (by omega) fun b4 w2 Z4 _ hZ4 k4 e2 => VStr.s k4 hZ4 fun s5 hs5 z5 => ⟨?_, ?_⟩
      · refine VMk.s (n := 2000) rfl rfl (by omega) fun b1 w3 Z1 _ hZ1 k1 e3 => ⟨Seg.s (k4.ext e3) hZ4 hs5, VStr.s k1 hZ1 fun s2 hs2 z2 => ⟨?_, ?_⟩⟩
        · exact VNw.i fun b8 w4 _ k8 e4 => VNw.i fun b10 w5 _ k10 e5 => fin w5 b8 b10 s2 s5 (k8.ext e5) k10 z2 z5 ((((e1.then0 e2).then0 e3).then0 e4).then0 e5)
        · exact VNw.i fun b10 w4 _ k10 e4 => ⟨Seg.s (k1.ext e4) hZ1 hs2, Seg.s ((k4.ext e3).ext e4) hZ4 hs5, VNw.i fun b8 w5 _ k8 e5 => fin w5 b8 b10 s2 s5 k8 (k10.ext e5) z2 z5 ((((e1.then0 e2).then0 e3).then0 e4).then0 e5)⟩
      · refine VNw.i fun b10 w3 _ k10 e3 => ⟨Seg.s (k4.ext e3) hZ4 hs5, VMk.s (n := 2000) rfl rfl (by omega) fun b1 w4 Z1 _ hZ1 k1 e4 => ⟨Seg.s ((k4.ext e3).ext e4) hZ4 hs5, VStr.s k1 hZ1 fun s2 hs2 z2 => ?_⟩⟩
        exact VNw.i fun b8 w5 _ k8 e5 => fin w5 b8 b10 s2 s5 k8 ((k10.ext e4).ext e5) z2 z5 ((((e1.then0 e2).then0 e3).then0 e4).then0 e5)
    · refine VNw.i fun b10 w2 _ k10 e2 => ⟨?_, ?_⟩
      · refine VMk.s (n := 2000) rfl rfl (by omega) fun b1 w3 Z1 _ hZ1 k1 e3 => VStr.s k1 hZ1 fun s2 hs2 z2 => VMk.s (n := 2000) rfl rfl (by omega) fun b4 w4 Z4 _ hZ4 k4 e4 => ⟨Seg.s (k1.ext e4) hZ1 hs2, VStr.s k4 hZ4 fun s5 hs5 z5 => ?_⟩
        exact VNw.i fun b8 w5 _ k8 e5 => fin w5 b8 b10 s2 s5 k8 (((k10.ext e3).ext e4).ext e5) z2 z5 ((((e1.then0 e2).then0 e3).then0 e4).then0 e5)
      · refine VMk.s (n := 2000) rfl rfl (by omega) fun b4 w3 Z4 _ hZ4 k4 e3 => VStr.s k4 hZ4 fun s5 hs5 z5 => VMk.s (n := 2000) rfl rfl (by omega) fun b1 w4 Z1 _ hZ1 k1 e4 => ⟨Seg.s (k4.ext e4) hZ4 hs5, VStr.s k1 hZ1 fun s2 hs2 z2 => ?_⟩
        exact VNw.i fun b8 w5 _ k8 e5 => fin w5 b8 b10 s2 s5 k8 (((k10.ext e3).ext e4).ext e5) z2 z5 ((((e1.then0 e2).then0 e3).then0 e4).then0 e5)
  · rintro s w35 ⟨X, y, z, hX, hp, e⟩
    exact ⟨s, X, y, z, rfl, hX, hp, e⟩
end Go.Proofs.Ytoceilgifkncoaa
