/-
  The document's sums, told.
-/
import Derived.Test.YthpbkkjggnejcaaSealB
import Derived.Test.YthpbkkjggnejcaaCodeO
namespace Go.Proofs.Ythpbkkjggnejcaa
open Go.RowKit
set_option maxRecDepth 100000

theorem XSum_spec (s : Sl) (l : List UInt8) (w : World) (h : Seg w s.base s.len 1 (bc l)) (hl : l.length < 9223372036854775807) :
    Calls Try.prog 29 #[.slice s.base s.len s.cap] w fun e w' => e = .returned (.int .u32 (((sum32 0#32 l).toNat : Nat) : Int)) ∧ w' = w := by
  refine sh_butteryref02_Sum_ok _ _ _ ?_
  unfold sh_butteryref02_Sum
  refine VCall.i (on_spec (~~~ 0#32) s l w h hl) ?_
  rintro e w1 ⟨rfl, rfl⟩
  refine exW.i1 _ rfl ?_
  rw [max_xor]
  exact VSet.i ⟨rfl, rfl⟩
/-! four bytes -/
def le4 (r : BitVec 32) : List UInt8 := [UInt8.ofNat (r.toNat % 256), UInt8.ofNat (r.toNat / 256 % 256), UInt8.ofNat (r.toNat / 65536 % 256), UInt8.ofNat (r.toNat / 16777216 % 256)]
theorem ofNat8' {n : Nat} (h : n < 256) : (UInt8.ofNat n).toNat = n := by simp; omega
theorem four_byte (r : BitVec 32) (i : Nat) (hi : i < 4) : IntKind.wrap .u8 (Int.fdiv ((r.toNat : Nat) : Int) (2 ^ (8 * i))) = (((le4 r)[i]'(by simpa [le4] using hi)).toNat : Int) := by
  have hr := r.isLt
  have : i = 0 ∨ i = 1 ∨ i = 2 ∨ i = 3 := by omega
  rcases this with rfl | rfl | rfl | rfl <;> simp only [le4, List.getElem_cons_zero, List.getElem_cons_succ] <;> rw [ofNat8' (by omega), Int.fdiv_eq_ediv_of_nonneg _ (by decide), wrap8]
  · rw [show ((2 : Int) ^ (8 * 0)) = 1 by rfl]; omega
  · rw [show ((2 : Int) ^ (8 * 1)) = 256 by rfl]; omega
  · rw [show ((2 : Int) ^ (8 * 2)) = 65536 by rfl]; omega
  · rw [show ((2 : Int) ^ (8 * 3)) = 16777216 by rfl]; omega
theorem le4_len (r : BitVec 32) : (le4 r).length = 4 := rfl

theorem four_spec (r : BitVec 32) (w : World) : Calls Try.prog 34 #[.int .u32 ((r.toNat : Nat) : Int)] w fun e w' => ∃ s' : Sl, e = .returned (.slice s'.base s'.len s'.cap) ∧ Own w w' s' (le4 r) ∧ Ext [] w w' := by
  refine sh_seal_four_ok _ _ _ ?_
  unfold sh_seal_four
  refine ⟨fun k o x W => ∃ j : Nat, x = (j : Int) ∧ j ≤ 4 ∧ k = 4 - j ∧ Own w W o ((le4 r).take j) ∧ Ext [] w W, ⟨_, 0, rfl, by omega, rfl, Own.nil _ _, Ext.refl _ _⟩, ?_⟩
  rintro k o x w1 ⟨j, rfl, hj, rfl, h1, e1⟩
  refine VIf.mk (fun hc => ?_) (fun hc => ?_)
  · have hj4 : j < 4 := by simp at hc; omega
    refine VSet.i ?_
    rw [w64 (show -9223372036854775808 ≤ 8 * (j : Int) ∧ 8 * (j : Int) ≤ 9223372036854775807 by omega), w64 (show -9223372036854775808 ≤ (j : Int) + 1 ∧ (j : Int) + 1 ≤ 9223372036854775807 by omega)]
    refine VCk.i (by omega) ?_
    have hb : min (Int.toNat (8 * (j : Int))) (IntKind.bits .u32) = 8 * j := by
      have : IntKind.bits .u32 = 32 := rfl
      omega
    rw [hb, four_byte r j hj4]
    refine VNw.i fun b w2 hb2 hk e2 => ?_
    have hk : Bk w2 b (bc [(le4 r)[j]'(by simpa [le4] using hj4)]) 5 := hk
    refine VApp.own (h1.ext0 e2) (e1.then0 e2) (news := [(le4 r)[j]'(by simpa [le4] using hj4)]) (Seg.of_bk hk (by simp [bc]) (by simp [bc])) rfl (by simp; omega) fun s' w' h' e' _ => ?_
    refine ⟨_, by omega, j + 1, by omega, by omega, rfl, ?_, e'⟩
    rw [List.take_succ_eq_append_getElem (show j < (le4 r).length by simpa [le4] using hj4)]
    exact h'
  · have : j = 4 := by simp at hc; omega
    subst this
    exact ⟨o, rfl, h1, e1⟩
end Go.Proofs.Ythpbkkjggnejcaa
