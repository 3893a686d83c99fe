/-
  Package node: what was written is read, and what is read was written. Plain.
-/
import Derived.Test.YtknohdgcigcmdaaNodeT
namespace Go.Proofs.Ytknohdgcigcmdaa
open Go.RowKit
set_option maxRecDepth 100000

theorem getD_mem' {L : List Ce} {i : Nat} (h : i < L.length) : L.getD i zCe = L[i] := by simp [h]
theorem okN_ce {n : Nd} (h : okN n = true) : ∀ c ∈ n.cs, mayC n.leaf c = true := by
  intro c hc
  unfold okN okC at h
  simp only [Bool.and_eq_true, List.all_eq_true, List.mem_range] at h
  obtain ⟨i, hi, rfl⟩ := List.mem_iff_getElem.1 hc
  have := h.1 i hi
  unfold stepC at this
  simp only [Bool.and_eq_true] at this
  rw [getD_mem' hi] at this
  exact this.1
theorem okN_kid {n : Nd} (h : okN n = true) : ∀ k ∈ n.ks, 0 ≤ k ∧ k ≤ 2147483647 := by
  intro k hk
  unfold okN at h
  simp only [Bool.and_eq_true, List.all_eq_true] at h
  have := h.2.2 k hk
  unfold kidOk at this
  simp only [Bool.and_eq_true, decide_eq_true_eq] at this
  omega
theorem okN_kids {n : Nd} (h : okN n = true) : n.ks.length = if n.leaf then 0 else n.cs.length + 1 := by
  unfold okN at h
  simp only [Bool.and_eq_true, decide_eq_true_eq] at h
  exact h.2.1
theorem ba_empty {x : ByteArray} (h : x.size = 0) : x = ByteArray.empty := by
  obtain ⟨⟨l⟩⟩ := x
  have : l.length = 0 := h
  rw [List.eq_nil_of_length_eq_zero this]; rfl
theorem rCe_enc {leaf : Bool} {c : Ce} (h : mayC leaf c = true) (t : List UInt8) : rCe leaf (some (cellB leaf c ++ t)) = (c, some t) := by
  obtain ⟨k, v, a, s⟩ := c
  unfold mayC at h
  simp only at h
  split at h
  · cases h
  rename_i h48
  unfold rCe cellB
  simp only
  split at h
  · rename_i hl
    subst hl
    simp only [Bool.and_eq_true, decide_eq_true_eq] at h
    obtain ⟨h1, rfl, rfl⟩ := h
    rw [if_pos rfl]
    simp only [Bool.false_eq_true, if_false, List.append_nil]
    rw [rStr_enc 48 k (by omega) (by omega), ba_empty h1]
  · rename_i hl
    have hl : leaf = true := by simpa using hl
    subst hl
    simp only [Bool.true_eq_false, if_false, if_true]
    rw [List.append_assoc, rStr_enc 48 k (by omega) (by omega)]
    simp only
    split at h
    · rename_i h0
      subst h0
      simp only [Bool.and_eq_true, decide_eq_true_eq] at h
      obtain ⟨rfl, h2⟩ := h
      rw [if_pos rfl, List.append_assoc, rCount_enc 2147483647 0 (by omega) (by omega) (by omega)]
      simp only [if_true]
      rw [rStr_enc 64 v (by omega) (by omega)]
    · rename_i h0
      simp only [Bool.and_eq_true, decide_eq_true_eq] at h
      obtain ⟨⟨h1, h2, h3⟩, h4, h5⟩ := h
      rw [if_neg h0, List.append_assoc, rCount_enc 2147483647 a (by omega) (by omega) (by omega)]
      simp only
      rw [if_neg h0, rCount_enc 2147483647 s (by omega) (by omega) (by omega), ba_empty h1]
theorem rCes_enc {leaf : Bool} (t : List UInt8) : ∀ (L : List Ce), (∀ c ∈ L, mayC leaf c = true) → rCes leaf L.length (some (L.flatMap (cellB leaf) ++ t)) = (L, some t)
  | [], _ => rfl
  | c :: L, h => by
    simp only [List.length_cons, List.flatMap_cons, List.append_assoc, rCes]
    rw [rCe_enc (h c (by simp)), rCes_enc t L (fun x hx => h x (by simp [hx]))]
theorem rKs_enc (t : List UInt8) : ∀ (L : List Int), (∀ k ∈ L, 0 ≤ k ∧ k ≤ 2147483647) → rKs L.length (some (L.flatMap encC ++ t)) = (L, some t)
  | [], _ => rfl
  | c :: L, h => by
    simp only [List.length_cons, List.flatMap_cons, List.append_assoc, rKs]
    have := h c (by simp)
    rw [rCount_enc 2147483647 c (by omega) (by omega) (by omega), rKs_enc t L (fun x hx => h x (by simp [hx]))]
theorem cellB_pos {leaf : Bool} {c : Ce} (h : mayC leaf c = true) : 1 ≤ (cellB leaf c).length := by
  have h48 : c.key.size ≤ 48 := by
    unfold mayC at h
    split at h
    · cases h
    · omega
  unfold cellB encS
  rw [if_pos (by omega)]
  have := enc_pos c.key.size
  simp only [List.length_append]; omega
theorem cellsB_pos {leaf : Bool} : ∀ (L : List Ce), (∀ c ∈ L, mayC leaf c = true) → L.length ≤ (L.flatMap (cellB leaf)).length
  | [], _ => Nat.le_refl _
  | c :: L, h => by
    rw [List.flatMap_cons, List.length_append, List.length_cons]
    have := cellB_pos (h c (by simp))
    have := cellsB_pos L (fun x hx => h x (by simp [hx]))
    omega
theorem enc_flag (b : Bool) : enc (if b then 1 else 0) = encC (if b then 1 else 0) := by cases b <;> rfl
/-- what was written is read, with noughts behind -/
theorem decN_enc {n : Nd} (h : okN n = true) (z : List UInt8) (hz : ∀ x ∈ z, x = 0) (hl : (bytesN n ++ z).length ≤ 512) : decN (bytesN n ++ z) = (n, 0) := by
  have hc := okN_ce h
  have hk := okN_kid h
  have hkl := okN_kids h
  obtain ⟨leaf, cs, ks⟩ := n
  simp only at hc hk hkl
  have hcl : cs.length ≤ 512 := by
    have h1 := cellsB_pos cs hc
    unfold bytesN headB at hl
    simp only [List.length_append] at hl
    omega
  have h1 : rCount 1 (some (bytesN ⟨leaf, cs, ks⟩ ++ z)) = ((if leaf then 1 else 0), some (encC (cs.length : Int) ++ (cs.flatMap (cellB leaf) ++ ((if leaf then [] else ks.flatMap encC) ++ z)))) := by
    unfold bytesN headB
    simp only [List.append_assoc]
    rw [enc_flag, rCount_enc 1 (if leaf then 1 else 0) (by cases leaf <;> simp) (by cases leaf <;> simp) (by cases leaf <;> simp)]
  have hlf : leafR (bytesN ⟨leaf, cs, ks⟩ ++ z) = leaf := by unfold leafR; rw [h1]; cases leaf <;> rfl
  have h2 : rCount 512 (rCount 1 (some (bytesN ⟨leaf, cs, ks⟩ ++ z))).2 = ((cs.length : Int), some (cs.flatMap (cellB leaf) ++ ((if leaf then [] else ks.flatMap encC) ++ z))) := by
    rw [h1, rCount_enc 512 _ (by omega) (by omega) (by omega)]
  have h3 : csR (bytesN ⟨leaf, cs, ks⟩ ++ z) = (cs, some ((if leaf then [] else ks.flatMap encC) ++ z)) := by
    unfold csR cntR
    rw [hlf, h2]
    simp only [Int.toNat_natCast]
    rw [rCes_enc _ cs hc]
  have h4 : ksR (bytesN ⟨leaf, cs, ks⟩ ++ z) = (ks, some z) := by
    unfold ksR
    rw [hlf, h3]
    cases leaf with
    | true =>
      have : ks = [] := List.eq_nil_of_length_eq_zero (by simpa using hkl)
      rw [this]; rfl
    | false =>
      have hkl : ks.length = cs.length + 1 := by simpa using hkl
      simp only [Bool.false_eq_true, if_false]
      rw [← hkl, rKs_enc _ ks hk]
  have h5 : rawN (bytesN ⟨leaf, cs, ks⟩ ++ z) = ⟨leaf, cs, ks⟩ := by unfold rawN; rw [hlf, h3, h4]
  have h6 : tailR (bytesN ⟨leaf, cs, ks⟩ ++ z) = z := by
    unfold tailR
    rw [h4]
    show List.drop (_ - z.length) _ = z
    rw [List.length_append, Nat.add_sub_cancel, List.drop_left]
  have h7 : goodR (bytesN ⟨leaf, cs, ks⟩ ++ z) = true := by
    unfold goodR
    rw [h4, h5, h6, h]
    simp only [Option.isSome_some, Bool.true_and, Bool.not_eq_true', List.any_eq_false]
    intro x hx
    rw [hz x hx]; decide
  unfold decN
  rw [if_neg (by omega), if_pos h7, h5]
theorem only_ce {leaf : Bool} {l t : List UInt8} {c : Ce} (h : rCe leaf (some l) = (c, some t)) : l = cellB leaf c ++ t := by
  unfold rCe at h
  cases h1 : rStr 48 (some l) with
  | mk s s1 =>
    rw [h1] at h
    split at h
    · rename_i hl
      subst hl
      simp only [Prod.mk.injEq] at h
      obtain ⟨rfl, rfl⟩ := h
      rw [(only_str h1).2.2]
      unfold cellB
      simp
    · rename_i hl
      have hl : leaf = true := by simpa using hl
      subst hl
      cases s1 with
      | none =>
        rw [rCount_none] at h
        simp only [if_true, rStr_none] at h
        simp at h
      | some t1 =>
        cases h2 : rCount 2147483647 (some t1) with
        | mk a s2 =>
          rw [h2] at h
          simp only at h
          split at h
          · rename_i h0
            subst h0
            cases s2 with
            | none =>
              rw [rStr_none] at h
              simp at h
            | some t2 =>
              cases h3 : rStr 64 (some t2) with
              | mk v s3 =>
                rw [h3] at h
                simp only [Prod.mk.injEq] at h
                obtain ⟨rfl, rfl⟩ := h
                have g2 := only_count h2
                have : encC 0 = enc 0 := rfl
                unfold cellB
                simp only [if_true]
                rw [(only_str h1).2.2, g2.2.2.2, (only_str h3).2.2, this]
                simp
          · rename_i h0
            cases s2 with
            | none =>
              rw [rCount_none] at h
              simp at h
            | some t2 =>
              cases h3 : rCount 2147483647 (some t2) with
              | mk v s3 =>
                rw [h3] at h
                simp only [Prod.mk.injEq] at h
                obtain ⟨rfl, rfl⟩ := h
                have g2 := only_count h2
                have g3 := only_count h3
                have e2 : encC a = enc a.toNat := by unfold encC; rw [if_pos ⟨g2.1, g2.2.1⟩]
                have e3 : encC v = enc v.toNat := by unfold encC; rw [if_pos ⟨g3.1, g3.2.1⟩]
                unfold cellB
                simp only [if_true]
                rw [if_neg h0, (only_str h1).2.2, g2.2.2.2, g3.2.2.2, e2, e3]
                simp
theorem only_ces {leaf : Bool} : ∀ {m : Nat} {l t : List UInt8} {L : List Ce}, rCes leaf m (some l) = (L, some t) → l = L.flatMap (cellB leaf) ++ t ∧ L.length = m
  | 0, l, t, L, h => by
    simp only [rCes, Prod.mk.injEq, Option.some.injEq] at h
    obtain ⟨rfl, rfl⟩ := h
    simp
  | m + 1, l, t, L, h => by
    simp only [rCes] at h
    cases h1 : rCe leaf (some l) with
    | mk c s1 =>
      rw [h1] at h
      cases s1 with
      | none => rw [rCes_none] at h; simp at h
      | some t1 =>
        cases h2 : rCes leaf m (some t1) with
        | mk L2 s2 =>
          rw [h2] at h
          simp only [Prod.mk.injEq] at h
          obtain ⟨rfl, rfl⟩ := h
          obtain ⟨g1, g2⟩ := only_ces h2
          rw [only_ce h1, g1]
          simp [g2]
theorem only_ks : ∀ {m : Nat} {l t : List UInt8} {L : List Int}, rKs m (some l) = (L, some t) → l = L.flatMap encC ++ t
  | 0, l, t, L, h => by
    simp only [rKs, Prod.mk.injEq, Option.some.injEq] at h
    obtain ⟨rfl, rfl⟩ := h
    simp
  | m + 1, l, t, L, h => by
    simp only [rKs] at h
    cases h1 : rCount 2147483647 (some l) with
    | mk c s1 =>
      rw [h1] at h
      cases s1 with
      | none => rw [rKs_none] at h; simp at h
      | some t1 =>
        cases h2 : rKs m (some t1) with
        | mk L2 s2 =>
          rw [h2] at h
          simp only [Prod.mk.injEq] at h
          obtain ⟨rfl, rfl⟩ := h
          have g := only_count h1
          have e : encC c = enc c.toNat := by unfold encC; rw [if_pos ⟨g.1, g.2.1⟩]
          rw [g.2.2.2, only_ks h2]
          simp [e]
/-- what is read was written, and noughts -/
theorem decN_only {l : List UInt8} (h : (decN l).2 = 0) : okN (decN l).1 = true ∧ l.length ≤ 512 ∧ ∃ z : List UInt8, (∀ x ∈ z, x = 0) ∧ l = bytesN (decN l).1 ++ z := by
  unfold decN at h ⊢
  split
  · rename_i h5; rw [if_pos h5] at h; simp at h
  rename_i h5
  rw [if_neg h5] at h
  split
  · rename_i hg
    unfold goodR at hg
    simp only [Bool.and_eq_true] at hg
    obtain ⟨g1, g2, g3⟩ := hg
    refine ⟨g2, by omega, tailR l, ?_, ?_⟩
    · intro x hx
      simp only [Bool.not_eq_true', List.any_eq_false] at g3
      simpa using g3 x hx
    · obtain ⟨t, ht⟩ := Option.isSome_iff_exists.1 g1
      have hks : (if leafR l then (([] : List Int), (csR l).2) else rKs ((csR l).1.length + 1) (csR l).2) = (ksR l) := rfl
      cases h1 : rCount 1 (some l) with
      | mk f s1 =>
        cases s1 with
        | none =>
          exfalso
          have h2 : (csR l).2 = none := by
            unfold csR cntR
            rw [h1, rCount_none]
            cases leafR l <;> rfl
          rw [h2] at hks
          have : (ksR l).2 = none := by
            rw [← hks]
            split
            · rfl
            · rw [rKs_none]
          rw [this] at ht; cases ht
        | some t1 =>
          obtain ⟨f0, f1, f2, f3⟩ := only_count h1
          cases h2 : rCount 512 (some t1) with
          | mk c s2 =>
            cases s2 with
            | none =>
              exfalso
              have h2 : (csR l).2 = none := by
                unfold csR cntR
                rw [h1, h2, rCes_none]
              rw [h2] at hks
              have : (ksR l).2 = none := by
                rw [← hks]
                split
                · rfl
                · rw [rKs_none]
              rw [this] at ht; cases ht
            | some t2 =>
              obtain ⟨c0, c1, c2, c3⟩ := only_count h2
              cases h3 : csR l with
              | mk L s3 =>
                have h3' := h3
                unfold csR cntR at h3
                rw [h1, h2] at h3
                simp only at h3
                rw [h3'] at hks
                cases s3 with
                | none =>
                  exfalso
                  have : (ksR l).2 = none := by
                    rw [← hks]
                    split
                    · rfl
                    · rw [rKs_none]
                  rw [this] at ht; cases ht
                | some t3 =>
                  obtain ⟨d1, d2⟩ := only_ces h3
                  have hcnt : encC (L.length : Int) = enc c.toNat := by
                    unfold encC
                    rw [if_pos (by omega), d2]
                    rfl
                  have hfl : enc (if leafR l then 1 else 0) = enc f.toNat := by
                    unfold leafR
                    rw [h1]
                    simp only
                    congr 1
                    by_cases hf : f = 1
                    · subst hf; rfl
                    · have : f = 0 := by omega
                      subst this; rfl
                  have hraw : bytesN (rawN l) ++ t = l := by
                    unfold rawN bytesN headB
                    rw [h3']
                    simp only
                    cases hlf : leafR l with
                    | true =>
                      rw [hlf] at hks d1 hfl
                      simp only [if_true] at hks ⊢ hfl
                      rw [← hks] at ht
                      simp only [Option.some.injEq] at ht
                      rw [hcnt, hfl, f3, c3, d1, ht]
                      simp
                    | false =>
                      rw [hlf] at hks d1 hfl
                      simp only [Bool.false_eq_true, if_false] at hks ⊢ hfl
                      cases h4 : rKs (L.length + 1) (some t3) with
                      | mk K s4 =>
                        rw [h4] at hks
                        rw [← hks] at ht ⊢
                        simp only at ht
                        subst ht
                        rw [hcnt, hfl, f3, c3, d1, only_ks h4]
                        simp
                  have htl : tailR l = t := by
                    unfold tailR
                    rw [ht]
                    show List.drop (_ - t.length) _ = t
                    conv => lhs; rw [← hraw]
                    rw [List.length_append, Nat.add_sub_cancel, List.drop_left]
                  rw [htl, hraw]
  · rename_i hg; rw [if_neg hg] at h; simp at h
end Go.Proofs.Ytknohdgcigcmdaa
