/-
  Package hand: the law of the cut.
-/
import Derived.Test.YtoceilgifkncoaaHandS
namespace Go.Proofs.Ytoceilgifkncoaa
open Go.RowKit
set_option maxRecDepth 100000

/-- what is true of each part of a cut, and of the next one -/
structure Good (LL : List Pt) : Prop where
  ne : 1 ≤ LL.length
  last : ∀ i (h : i < LL.length), (LL[i]).last = decide (i + 1 = LL.length)
  some_ : ∀ i (h : i < LL.length), 1 < LL.length → 1 ≤ cnt (LL[i])
  four : ∀ i (h : i < LL.length), cnt (LL[i]) ≤ 4
  most : ∀ i (h : i < LL.length), 1 < cnt (LL[i]) → IntKind.wrap .i64 (zs (LL[i])) ≤ 4000
  next : ∀ i (h : i + 1 < LL.length), cnt (LL[i]) < 4 → 4000 < IntKind.wrap .i64 (zs (LL[i]) + fst1 (LL[i + 1]))
theorem good_cut (P : List Pr) (Q : List Ls) : Good (cutI P Q) := by
  obtain ⟨A, p, hL, hk, ho⟩ := cutI_kp P Q
  rw [hL]
  have hlen : (A ++ [p.end_]).length = A.length + 1 := by simp
  have hat : ∀ i (h : i < (A ++ [p.end_]).length), (∃ hi : i < A.length, (A ++ [p.end_])[i] = A[i]) ∨ (i = A.length ∧ (A ++ [p.end_])[i] = p.end_) := by
    intro i h
    by_cases hi : i < A.length
    · exact .inl ⟨hi, List.getElem_append_left hi⟩
    · have : i = A.length := by omega
      subst this
      exact .inr ⟨rfl, by simp⟩
  refine ⟨by omega, ?_, ?_, ?_, ?_, ?_⟩
  · intro i h
    rcases hat i h with ⟨hi, e⟩ | ⟨hi, e⟩
    · rw [e, ho _ (List.getElem_mem hi), decide_eq_false (by omega)]
    · rw [e, decide_eq_true (by omega)]; rfl
  · intro i h h1
    rcases hat i h with ⟨hi, e⟩ | ⟨hi, e⟩
    · rw [e]; exact (hk.each _ (List.getElem_mem hi)).1.1
    · rw [e]; exact hk.last.2.2 (by intro e0; rw [e0] at hlen; simp at hlen; rw [e0] at h1; simp at h1)
  · intro i h
    rcases hat i h with ⟨hi, e⟩ | ⟨hi, e⟩
    · rw [e]; exact (hk.each _ (List.getElem_mem hi)).1.2
    · rw [e]; exact hk.last.1
  · intro i h
    rcases hat i h with ⟨hi, e⟩ | ⟨hi, e⟩
    · rw [e]; exact (hk.each _ (List.getElem_mem hi)).2
    · rw [e]; exact hk.last.2.1
  · intro i h hc
    have hi : i < A.length := by omega
    have e : (A ++ [p.end_])[i] = A[i] := List.getElem_append_left hi
    rw [e] at hc ⊢
    have h5 := hk.next i hi hc
    have : fst1 ((A ++ [p.end_])[i + 1]) = fst1 ((A ++ [p])[i + 1]'(by simp; omega)) := by
      by_cases h2 : i + 1 < A.length
      · rw [List.getElem_append_left h2, List.getElem_append_left h2]
      · have h3 : i + 1 = A.length := by omega
        simp only [h3]
        simp
        rfl
    rw [this]; exact h5
end Go.Proofs.Ytoceilgifkncoaa
