/-
  Package code, outright: works, CodeBack, CodeOnly, CodeRow, CodeNames.
-/
import Derived.Test.YtknohdgcigcmdaaCodeC
import Derived.ChangeKeysEq
namespace Go.Proofs.Ytknohdgcigcmdaa
open Go.RowKit
set_option maxRecDepth 100000

theorem enc_0 : enc 0 = [0] := by rw [enc_small (by omega)]; rfl
theorem enc_1 : enc 1 = [1] := by rw [enc_small (by omega)]; rfl
theorem enc_2 : enc 2 = [2] := by rw [enc_small (by omega)]; rfl
theorem enc_128 : enc 128 = [128, 1] := by rw [enc_big (by omega), show 128 / 128 = 1 by omega, enc_1]; rfl

theorem works_bytes : ((([] ++ encC 128) ++ enc (zz (-1))) ++ encS ⟨#[97, 98]⟩) ++ enc (if true then 1 else 0) = [128, 1, 1, 2, 97, 98, 1] := by
  have h1 : encC 128 = [128, 1] := by unfold encC; rw [if_pos (by omega)]; exact enc_128
  have h2 : encS ⟨#[97, 98]⟩ = [2, 97, 98] := by
    unfold encS
    rw [if_pos (by decide)]
    show enc 2 ++ [97, 98] = _
    rw [enc_2]; rfl
  rw [h1, h2, show zz (-1) = 1 from rfl, if_pos rfl, enc_1]; rfl

/-! CodeRow -/
def encs (L : List Int) : List UInt8 := L.flatMap fun n => enc (zz n)
theorem encs_len (L : List Int) (h : ∀ x ∈ L, -9223372036854775808 ≤ x ∧ x ≤ 9223372036854775807) : (encs L).length ≤ 10 * L.length := by
  induction L with
  | nil => simp [encs]
  | cons x L ih =>
    have h1 := enc_len10 (zz_lt (h x (by simp)))
    have h2 := ih (fun y hy => h y (by simp [hy]))
    simp only [encs, List.flatMap_cons, List.length_append, List.length_cons] at h2 ⊢
    omega
end Go.Proofs.Ytknohdgcigcmdaa
