/-
  Package seal: held against each other, copied.
-/
import Derived.Test.YthpbkkjggnejcaaSealC
namespace Go.Proofs.Ythpbkkjggnejcaa
open Go.RowKit
set_option maxRecDepth 100000

theorem bytes_ne {a b : List UInt8} (hl : a.length = b.length) {j : Nat} (ha : j < a.length) (hb : j < b.length) (h : ((a[j].toNat : Nat) : Int) ≠ ((b[j].toNat : Nat) : Int)) : a ≠ b := by
  rintro rfl; exact h rfl
theorem bytes_eq {a b : List UInt8} (hl : a.length = b.length) (h : a.take a.length = b.take a.length) : a = b := by
  rw [List.take_length, hl, List.take_length] at h; exact h

theorem Equal_spec (s t : Sl) (l m : List UInt8) (w : World) (h : Seg w s.base s.len 1 (bc l)) (k : Seg w t.base t.len 1 (bc m)) (hl : l.length < 9223372036854775807) :
    Calls Try.prog 52 #[.slice s.base s.len s.cap, .slice t.base t.len t.cap] w fun e w' => e = .returned (.bool (l == m)) ∧ Ext [] w w' := by
  refine sh_slices_Equal_ok _ _ _ _ ?_
  unfold sh_slices_Equal
  have hn := h.blen
  have km := k.blen
  refine VIf.mk (fun hc => ⟨?_, Ext.refl _ _⟩) (fun hc => ?_)
  · have : l ≠ m := by rintro rfl; simp at hc; omega
    simp [this]
  have hlm : l.length = m.length := by simp at hc; omega
  refine ⟨fun k x W => ∃ j : Nat, x = (j : Int) ∧ j ≤ l.length ∧ k = l.length - j ∧ Ext [] w W ∧ l.take j = m.take j, ⟨_, 0, rfl, by omega, rfl, Ext.refl _ _, rfl⟩, ?_⟩
  rintro k' x w1 ⟨j, rfl, hj, rfl, e1, htk⟩
  refine VIf.mk (fun hc2 => ?_) (fun hc2 => ?_)
  · have hjl : j < l.length := by simp at hc2; omega
    refine VSet.i ?_
    intro w2 hw2
    have e2 := e1.then0 (Ext.drew' hw2)
    obtain ⟨a, ha, hra⟩ := seg_byte (h.ext0 e2) hjl
    obtain ⟨b, hb, hrb⟩ := seg_byte (k.ext0 e2) (show j < m.length by omega)
    rw [ha, hb]
    refine VIx.i (by omega) (by omega) (VLd.i1 _ hra (VIx.i (by omega) (by omega) (VLd.i1 _ hrb ?_)))
    refine VIf.mk (fun hc3 => ⟨?_, e2⟩) (fun hc3 => ?_)
    · have : l ≠ m := bytes_ne hlm hjl (by omega) (by simpa using hc3)
      simp [this]
    · rw [w64 (show -9223372036854775808 ≤ (j : Int) + 1 ∧ (j : Int) + 1 ≤ 9223372036854775807 by omega)]
      refine ⟨_, by omega, j + 1, by omega, by omega, rfl, e2, ?_⟩
      rw [List.take_succ_eq_append_getElem hjl, List.take_succ_eq_append_getElem (show j < m.length by omega), htk]
      have : l[j] = m[j]'(by omega) := UInt8.toNat_inj.1 (by simp at hc3; omega)
      rw [this]
  · have : j = l.length := by simp at hc2; omega
    subst this
    refine ⟨?_, e1⟩
    rw [bytes_eq hlm htk]; simp

end Go.Proofs.Ythpbkkjggnejcaa
