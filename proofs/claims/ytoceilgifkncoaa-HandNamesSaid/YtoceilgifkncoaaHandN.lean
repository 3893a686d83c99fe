/-
  Package hand: the examples' cuts.
-/
import Derived.Test.YtoceilgifkncoaaHandM
namespace Go.Proofs.Ytoceilgifkncoaa
open Go.RowKit
set_option maxRecDepth 100000

def lsV (y : ByteArray) : Ls := (0, 0, 0, false, y)
theorem szV {y : ByteArray} {n : Nat} (h : y.size = n) (hn : n ≤ 1000000) : szQ (lsV y) = (n : Int) + 32 := by
  unfold szQ lsV; simp only; rw [h, w64 (by omega)]
theorem addQ_in {c : Cu} {x : Ls} {n : Int} (hx : szQ x = n) (h1 : c.many ≠ 4) (h0 : -9223372036854775808 ≤ c.size + n ∧ c.size + n ≤ 9223372036854775807) (h2 : c.many ≤ 0 ∨ c.size + n ≤ 4000) : c.addQ x = ⟨addLast c.L (Pt.putQ x), c.size + n, c.many + 1⟩ := by
  unfold Cu.addQ
  rw [hx, add_in (by unfold Cu.full; rw [w64 h0]; omega), w64 h0]
theorem addQ_new {c : Cu} {x : Ls} {n : Int} (hx : szQ x = n) (hn : 0 ≤ n ∧ n ≤ 1000000) (h0 : -9223372036854775808 ≤ c.size + n ∧ c.size + n ≤ 9223372036854775807) (h : c.many = 4 ∨ (0 < c.many ∧ 4000 < c.size + n)) : c.addQ x = ⟨addLast (c.L ++ [ptE]) (Pt.putQ x), n, 1⟩ := by
  unfold Cu.addQ
  rw [hx, add_new (by unfold Cu.full; rw [w64 h0]; exact h), w64 (n := 0 + n) (by omega)]
  simp
theorem len_cutI (Q : List Ls) : (cutI [] Q).length = (Q.foldl Cu.addQ ⟨[ptE], 0, 0⟩).L.length := by rw [cutI_len]; rfl
theorem addLast_len (L : List Pt) (f : Pt → Pt) : (addLast L f).length = L.length := by unfold addLast; rw [List.length_set]
theorem cut_heavy {y z : ByteArray} (hy : y.size = 1969) (hz : z.size = 1968) : (cutI [] [lsV y, lsV z]).length = 2 := by
  rw [len_cutI]
  simp only [List.foldl_cons, List.foldl_nil]
  rw [addQ_in (c := ⟨[ptE], 0, 0⟩) (szV hy (by omega)) (by simp) (by simp only; omega) (by simp only; omega)]
  rw [addQ_new (szV hz (by omega)) (by omega) (by simp only; omega) (by simp only; omega)]
  rw [addLast_len, List.length_append, addLast_len]; rfl
theorem cut_light {y z : ByteArray} (hy : y.size = 1968) (hz : z.size = 1968) : (cutI [] [lsV y, lsV z]).length = 1 := by
  rw [len_cutI]
  simp only [List.foldl_cons, List.foldl_nil]
  rw [addQ_in (c := ⟨[ptE], 0, 0⟩) (szV hy (by omega)) (by simp) (by simp only; omega) (by simp only; omega)]
  rw [addQ_in (szV hz (by omega)) (by simp) (by simp only; omega) (by simp only; omega)]
  rw [addLast_len, addLast_len]; rfl
theorem lsZ_sz : szQ lsZ = 32 := szV (y := ByteArray.empty) (n := 0) rfl (by omega)
theorem addZ (L : List Pt) (s m : Int) (h : m ≠ 4) (hs : 0 ≤ s ∧ s ≤ 3000) : Cu.addQ ⟨L, s, m⟩ lsZ = ⟨addLast L (Pt.putQ lsZ), s + 32, m + 1⟩ := addQ_in lsZ_sz h (by simp only; omega) (by simp only; omega)
theorem addZ4 (L : List Pt) (s : Int) (hs : 0 ≤ s ∧ s ≤ 3000) : Cu.addQ ⟨L, s, 4⟩ lsZ = ⟨addLast (L ++ [ptE]) (Pt.putQ lsZ), 32, 1⟩ := addQ_new lsZ_sz (by omega) (by simp only; omega) (.inl rfl)
theorem cut_four : (Cu.addQ (Cu.addQ (Cu.addQ (Cu.addQ ⟨[ptE], 0, 0⟩ lsZ) lsZ) lsZ) lsZ).L.length = 1 ∧ (Cu.addQ (Cu.addQ (Cu.addQ (Cu.addQ (Cu.addQ ⟨[ptE], 0, 0⟩ lsZ) lsZ) lsZ) lsZ) lsZ).L.length = 2 := by
  obtain ⟨L1, h1⟩ : ∃ L, L = addLast [ptE] (Pt.putQ lsZ) := ⟨_, rfl⟩
  obtain ⟨L2, h2⟩ : ∃ L, L = addLast L1 (Pt.putQ lsZ) := ⟨_, rfl⟩
  obtain ⟨L3, h3⟩ : ∃ L, L = addLast L2 (Pt.putQ lsZ) := ⟨_, rfl⟩
  obtain ⟨L4, h4⟩ : ∃ L, L = addLast L3 (Pt.putQ lsZ) := ⟨_, rfl⟩
  have a1 : Cu.addQ ⟨[ptE], 0, 0⟩ lsZ = ⟨L1, 32, 1⟩ := by rw [h1]; exact addZ _ 0 0 (by omega) (by omega)
  have a2 : Cu.addQ ⟨L1, 32, 1⟩ lsZ = ⟨L2, 64, 2⟩ := by rw [h2]; exact addZ _ 32 1 (by omega) (by omega)
  have a3 : Cu.addQ ⟨L2, 64, 2⟩ lsZ = ⟨L3, 96, 3⟩ := by rw [h3]; exact addZ _ 64 2 (by omega) (by omega)
  have a4 : Cu.addQ ⟨L3, 96, 3⟩ lsZ = ⟨L4, 128, 4⟩ := by rw [h4]; exact addZ _ 96 3 (by omega) (by omega)
  have a5 := addZ4 L4 128 (by omega)
  have hl : L4.length = 1 := by rw [h4, addLast_len, h3, addLast_len, h2, addLast_len, h1, addLast_len]; rfl
  rw [a1, a2, a3, a4, a5]
  simp only [addLast_len, List.length_append, hl]
  exact ⟨trivial, rfl⟩
theorem cut_4 : (cutI [] (List.replicate 4 lsZ)).length = 1 := by rw [len_cutI]; exact cut_four.1
theorem cut_5 : (cutI [] (List.replicate 5 lsZ)).length = 2 := by rw [len_cutI]; exact cut_four.2
theorem cut_0 : cutI [] [] = [⟨[], [], true⟩] := rfl
end Go.Proofs.Ytoceilgifkncoaa
