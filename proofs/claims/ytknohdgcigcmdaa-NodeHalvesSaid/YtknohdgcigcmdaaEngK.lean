/-
  Engine, part K: a region that draws its order.
-/
import Derived.Test.YtknohdgcigcmdaaEngH
import Derived.OrdersHeld
namespace Go.Proofs.Ytknohdgcigcmdaa
open Go.RowKit

section
variable {P : Program} {ops : Array Oper} {Q : Exit → Act → World → Prop} {md : Region.Mode} {G G' : Array Bool → World → Prop}

/-- whatever order is picked, and 'G' holds of what has come up and the world behind every operation -/
def wpAnyG (P : Program) (md : Region.Mode) (ops : Array Oper) (Q : Exit → Act → World → Prop) (G : Array Bool → World → Prop) : Nat → Array Bool → Act → World → Prop
  | 0, listed, a, w => Region.ready md ops listed = [] ∧ Q .normal a w
  | fuel + 1, listed, a, w =>
    (Region.ready md ops listed = [] → Q .normal a w) ∧
    ∀ i ∈ Region.ready md ops listed, wpOp P ops Q i (fun a' w' => G (listed.setIfInBounds i true) w' ∧ wpAnyG P md ops Q G fuel (listed.setIfInBounds i true) a' w') a w
theorem wpAny_of_G : ∀ (fuel : Nat) (listed : Array Bool) (a : Act) (w : World), wpAnyG P md ops Q G fuel listed a w → wpAny P md ops Q fuel listed a w
  | 0, _, _, _, h => h
  | fuel + 1, _, _, _, h => ⟨h.1, fun i hi => wpOp_mono (fun a' w' h' => wpAny_of_G fuel _ a' w' h'.2) (h.2 i hi)⟩
theorem wpAnyG_mono (hG : ∀ l w, G' l w → G l w) : ∀ (fuel : Nat) (listed : Array Bool) (a : Act) (w : World), wpAnyG P md ops Q G' fuel listed a w → wpAnyG P md ops Q G fuel listed a w
  | 0, _, _, _, h => h
  | fuel + 1, _, _, _, h => ⟨h.1, fun i hi => wpOp_mono (fun a' w' h' => ⟨hG _ _ h'.1, wpAnyG_mono hG fuel _ a' w' h'.2⟩) (h.2 i hi)⟩

theorem wpAnyG_mono' {i : Nat} (hG : ∀ l w, l.getD i false = true → G' l w → G l w) : ∀ (fuel : Nat) (listed : Array Bool) (a : Act) (w : World), listed.getD i false = true → wpAnyG P md ops Q G' fuel listed a w → wpAnyG P md ops Q G fuel listed a w
  | 0, _, _, _, _, h => h
  | fuel + 1, _, _, _, hi, h => ⟨h.1, fun j hj => wpOp_mono (fun a' w' h' => ⟨hG _ _ (getD_set_true hi) h'.1, wpAnyG_mono' hG fuel _ a' w' (getD_set_true hi) h'.2⟩) (h.2 j hj)⟩

/-- what has come up is closed under 'waits for' -/
def Closed (md : Region.Mode) (ops : Array Oper) (listed : Array Bool) : Prop :=
  ∀ k o, listed.getD k false = true → ops[k]? = some o → ∀ e ∈ o.after, Region.binds md e = true → listed.getD e.on false = true
theorem Closed.next {listed : Array Bool} {j : Nat} (h : Closed md ops listed) (hj : j ∈ Region.ready md ops listed) : Closed md ops (listed.setIfInBounds j true) := by
  obtain ⟨h0, o, ho, hall⟩ := mem_ready.1 hj
  intro k ok hk hok e he hb
  refine getD_set_true ?_
  by_cases hkj : k = j
  · subst hkj
    rw [ho] at hok; cases hok
    exact hall e he hb
  · rw [getD_set_ne false (Ne.symm hkj)] at hk
    exact h k ok hk hok e he hb

theorem wpAnyG_first {i : Nat} {oi : Oper} {v : Value} {S : World → Prop} (hi : ops[i]? = some oi) (hsel : ∀ (j : Nat) (o : Oper) cs b, ops[j]? = some o → o.op ≠ .select cs b)
    (hQ : ∀ c a w, Q (.panic c) (a.put oi.dst v) w → Q (.panic c) a w)
    (hG1 : ∀ l w, l.getD i true = false → G (l.setIfInBounds i true) w → G l w)
    (hG2 : ∀ l w, Closed md ops l → l.getD i true = false → G l w → S w) :
    ∀ (fuel : Nat) (listed : Array Bool) (a : Act) (w : World), Closed md ops listed →
      (∀ j oj, ops[j]? = some oj → j ≠ i → listed.getD j true = false → (∀ e ∈ oj.after, Region.binds md e = true → e.on ≠ i) → oi.apart ops oj = true) →
      i ∈ Region.ready md ops listed → YieldsIf P ops S oi v a → G listed w → G (listed.setIfInBounds i true) w →
      wpAnyG P md ops Q G fuel (listed.setIfInBounds i true) (a.put oi.dst v) w → wpAnyG P md ops Q G (fuel + 1) listed a w := by
  intro fuel
  induction fuel with
  | zero =>
    intro listed a w hcl _ hr hy hg hg' H
    have hS : S w := hG2 _ _ hcl (mem_ready.1 hr).1 hg
    refine ⟨fun h => (by rw [h] at hr; cases hr), fun j hj => ?_⟩
    by_cases hji : j = i
    · subst hji; exact hy.wpOp hi hS ⟨hg', H⟩
    · have := ready_mono hj hji
      rw [H.1] at this
      cases this
  | succ fuel ih =>
    intro listed a w hcl hfree hr hy hg hg' H
    have hiun := (mem_ready.1 hr).1
    have hS : S w := hG2 _ _ hcl hiun hg
    refine ⟨fun h => (by rw [h] at hr; cases hr), fun j hj => ?_⟩
    by_cases hji : j = i
    · subst hji; exact hy.wpOp hi hS ⟨hg', H⟩
    · have h1 := H.2 j (ready_mono hj hji)
      obtain ⟨hjun, oj, hoj, hall⟩ := mem_ready.1 hj
      have hnot : ∀ e ∈ oj.after, Region.binds md e = true → e.on ≠ i := fun e he hb heq => by
        have h1 := hall e he hb
        rw [heq] at h1
        rcases Nat.lt_or_ge i listed.size with h' | h'
        · simp [h'] at hiun h1; rw [hiun] at h1; cases h1
        · simp [Array.getElem?_eq_none h'] at h1
      have h2 := wpOp_putIf hoj (hfree j oj hoj hji hjun hnot) (fun cs b => hsel i oi cs b hi) (fun cs b => hsel j oj cs b hoj) hQ hy h1
      have hcomm : (listed.setIfInBounds i true).setIfInBounds j true = (listed.setIfInBounds j true).setIfInBounds i true := Array.setIfInBounds_comm _ _ (Ne.symm hji)
      have hcl' := hcl.next hj
      have hun' : (listed.setIfInBounds j true).getD i true = false := by rw [getD_set_ne true hji]; exact hiun
      refine wpOp_mono (fun a' w' h' => ?_) h2
      obtain ⟨hy', hgn, hn⟩ := h'
      rw [hcomm] at hgn hn
      have hgj : G (listed.setIfInBounds j true) w' := hG1 _ _ hun' hgn
      refine ⟨hgj, ih _ a' w' hcl' ?_ (ready_mono hr (Ne.symm hji)) hy' hgj hgn hn⟩
      intro k ok hk hki hkun hno
      refine hfree k ok hk hki ?_ hno
      by_cases hkj : k = j
      · subst hkj
        rcases Nat.lt_or_ge k listed.size with h' | h'
        · simp [h'] at hkun
        · simp [Array.getElem?_eq_none h'] at hjun
      · rw [getD_set_ne true (Ne.symm hkj)] at hkun; exact hkun
end
end Go.Proofs.Ytknohdgcigcmdaa
