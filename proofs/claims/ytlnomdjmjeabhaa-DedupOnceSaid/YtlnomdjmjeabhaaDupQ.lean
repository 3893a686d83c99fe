/-
  Package dedup: what is kept of requests, plain (DedupOnce).
-/
import Derived.Test.YtlnomdjmjeabhaaDupM
namespace Go.Proofs.Ytlnomdjmjeabhaa
open Go.RowKit
set_option maxRecDepth 100000

/-- a request that was done -/
structure Was where
  who : Int
  id : Int
  op : Wo
  r : Rs
def waR : Rec Was := ⟨fun x => [.int .i64 x.who, .int .i64 x.id, .int .u8 x.op.kind, .string x.op.key, .string x.op.value, .string x.op.old, .bool x.op.had, .int .u8 x.r.1, .bool x.r.2.1, .string x.r.2.2], 10, fun _ => rfl, fun _ => rfl, by omega⟩
/-- a request -/
structure As where
  who : Int
  again : Int
  late : Bool
  op : Wo
def asR : Rec As := ⟨fun x => [.int .i64 x.who, .int .i64 x.again, .bool x.late, .int .u8 x.op.kind, .string x.op.key, .string x.op.value, .string x.op.old, .bool x.op.had], 8, fun _ => rfl, fun _ => rfl, by omega⟩
def nuR : Rec Int := ⟨fun x => [.int .i64 x], 1, fun _ => rfl, fun _ => rfl, by omega⟩
def idD (D : List Int) (c : Nat) : Int := D.getD c 0
structure OI (D : List Int) (A : List Was) (M : List Pr) (S : List Ls) (j : Nat) : Prop where
  d3 : D.length = 3
  am : A.length ≤ j
  mm : M.length ≤ j
  sm : S.length ≤ j
  ir : ∀ c : Nat, c < 3 → 0 ≤ idD D c ∧ idD D c ≤ (j : Int)
  s0 : ∀ c : Nat, c < 3 → idD D c = 0 → fstL S (c : Int) = none
  s1 : ∀ c : Nat, c < 3 → 0 < idD D c → ∃ r, fstL S (c : Int) = some ((c : Int), idD D c, r)
  ra : ∀ x ∈ A, ∃ c : Nat, c < 3 ∧ x.who = (c : Int) ∧ 1 ≤ x.id ∧ x.id ≤ idD D c ∧ checkO x.op = 0 ∧ ¬ x.op.kind = 1 ∧ (0 ≤ x.op.kind ∧ x.op.kind ≤ 255) ∧ (x.id = idD D c → fstL S (c : Int) = some ((c : Int), x.id, x.r))
theorem OI.z : OI [0, 0, 0] [] [] [] 0 := by
  refine ⟨rfl, Nat.le_refl _, Nat.le_refl _, Nat.le_refl _, fun c hc => ?_, fun c hc _ => rfl, fun c hc h => ?_, fun x hx => by cases hx⟩
  · unfold idD; match c, hc with
    | 0, _ => decide
    | 1, _ => decide
    | 2, _ => decide
  · exfalso; revert h; unfold idD; match c, hc with
    | 0, _ => decide
    | 1, _ => decide
    | 2, _ => decide
section
variable {D : List Int} {A : List Was} {M : List Pr} {S : List Ls} {j : Nat}
theorem OI.up (h : OI D A M S j) : OI D A M S (j + 1) := ⟨h.d3, by have := h.am; omega, by have := h.mm; omega, by have := h.sm; omega, fun c hc => by have := h.ir c hc; omega, h.s0, h.s1, h.ra⟩
/-- one that comes again -/
theorem OI.late (h : OI D A M S j) {x : Was} (hx : x ∈ A) : ∃ c : Nat, c < 3 ∧ x.who = (c : Int) ∧ ((x.id = idD D c ∧ stepO M S x.who x.id x.op = (M, S, x.r, 0)) ∨ (¬ x.id = idD D c ∧ stepO M S x.who x.id x.op = ([], [], (0, false, eB), 6))) := by
  obtain ⟨c, hc, hw, h1, h2, h3, h4, _, h5⟩ := h.ra x hx
  refine ⟨c, hc, hw, ?_⟩
  by_cases he : x.id = idD D c
  · left
    have hf := h5 he
    have hs : seenO S x.who x.id = (x.r, 0) := by
      unfold seenO
      rw [hw, hf]
      simp only
      rw [if_neg (by omega), if_neg (by omega)]
    refine ⟨he, ?_⟩
    rw [step_old h3 h4 (by rw [hs]), hs]
  · right
    obtain ⟨r, hf⟩ := h.s1 c hc (by omega)
    have hs : (seenO S x.who x.id).2 = 6 := by
      unfold seenO
      rw [hw, hf]
      simp only
      rw [if_neg (by omega), if_pos (by omega)]
    exact ⟨he, step_late h3 h4 hs⟩
/-- one by the next number -/
theorem OI.next (h : OI D A M S j) {c : Nat} (hc : c < 3) (o : Wo) : (seenO S (c : Int) (idD D c + 1)).2 = 5 := by
  by_cases h0 : idD D c = 0
  · unfold seenO
    rw [h.s0 c hc h0]
  · have := h.ir c hc
    obtain ⟨r, hf⟩ := h.s1 c hc (by omega)
    unfold seenO
    rw [hf]
    simp only
    rw [if_pos (by omega)]
theorem OI.step (h : OI D A M S j) {c : Nat} (hc : c < 3) (o : Wo) (h1 : checkO o = 0) (h2 : ¬ o.kind = 1) : stepO M S (c : Int) (idD D c + 1) o = (doM M o, putN S ((c : Int), idD D c + 1, doR M o), doR M o, 0) := by
  have := h.next hc o
  exact step_new h1 h2 (by omega) (by omega)
theorem idD_set {c d : Nat} (hD : D.length = 3) (hc : c < 3) (v : Int) : idD (D.set c v) d = if c = d then v else idD D d := by
  unfold idD
  rw [List.getD_eq_getElem?_getD, List.getD_eq_getElem?_getD, List.getElem?_set]
  by_cases h : c = d
  · subst h; rw [if_pos rfl, if_pos rfl, if_pos (by omega)]; rfl
  · rw [if_neg h, if_neg h]
theorem OI.add (h : OI D A M S j) {c : Nat} (hc : c < 3) (o : Wo) (h1 : checkO o = 0) (h2 : ¬ o.kind = 1) (hk : 0 ≤ o.kind ∧ o.kind ≤ 255) :
    OI (D.set c (idD D c + 1)) (A ++ [⟨(c : Int), idD D c + 1, o, doR M o⟩]) (doM M o) (putN S ((c : Int), idD D c + 1, doR M o)) (j + 1) := by
  have hid : ∀ d, idD (D.set c (idD D c + 1)) d = if c = d then idD D c + 1 else idD D d := fun d => idD_set h.d3 hc _
  have hf : ∀ d : Nat, fstL (putN S ((c : Int), idD D c + 1, doR M o)) (d : Int) = if c = d then some ((c : Int), idD D c + 1, doR M o) else fstL S (d : Int) := fun d => by
    rw [fstL_put]
    by_cases hcd : c = d
    · subst hcd; rw [if_pos rfl, if_pos rfl]
    · rw [if_neg hcd, if_neg (by simp only; omega)]
  have hic := h.ir c hc
  refine ⟨by rw [List.length_set]; exact h.d3, by rw [List.length_append, List.length_singleton]; have := h.am; omega, by have := do_len M o; have := h.mm; omega, by have := putN_len S ((c : Int), idD D c + 1, doR M o); have := h.sm; omega, fun d hd => ?_, fun d hd h0 => ?_, fun d hd h0 => ?_, fun x hx => ?_⟩
  · rw [hid]
    have := h.ir d hd
    split <;> omega
  · rw [hid] at h0
    rw [hf]
    split at h0
    · omega
    · rename_i hcd; rw [if_neg hcd]; exact h.s0 d hd h0
  · rw [hid] at h0 ⊢
    rw [hf]
    by_cases hcd : c = d
    · subst hcd; rw [if_pos rfl, if_pos rfl]; exact ⟨_, rfl⟩
    · rw [if_neg hcd, if_neg hcd]; rw [if_neg hcd] at h0; exact h.s1 d hd h0
  · rcases List.mem_append.1 hx with hx | hx
    · obtain ⟨d, hd, g1, g2, g3, g4, g5, g6, g7⟩ := h.ra x hx
      refine ⟨d, hd, g1, g2, ?_, g4, g5, g6, fun he => ?_⟩
      · rw [hid]; split
        · rename_i hcd; subst hcd; omega
        · exact g3
      · rw [hid] at he
        rw [hf]
        by_cases hcd : c = d
        · subst hcd; rw [if_pos rfl] at he; omega
        · rw [if_neg hcd] at he ⊢; exact g7 he
    · simp only [List.mem_singleton] at hx
      subst hx
      refine ⟨c, hc, rfl, by simp only; omega, by rw [hid, if_pos rfl]; exact Int.le_refl _, h1, h2, hk, fun _ => ?_⟩
      rw [hf, if_pos rfl]
end
end Go.Proofs.Ytlnomdjmjeabhaa
