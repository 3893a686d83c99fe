/-
  Package hand: what the cutter keeps. Plain: no program in sight.
-/
import Derived.Test.YtoceilgifkncoaaHandM
namespace Go.Proofs.Ytoceilgifkncoaa
open Go.RowKit
set_option maxRecDepth 100000

def cnt (p : Pt) : Nat := p.P.length + p.Q.length
theorem sumQ_add (L : List Ls) : ∀ n m, sumQ (n + m) L = sumQ n L + m := by
  induction L with
  | nil => intro n m; rfl
  | cons x L ih =>
    intro n m
    show sumQ (n + m + eQ x) L = sumQ (n + eQ x) L + m
    rw [← ih]; congr 1; omega
theorem zs_putQ (p : Pt) (x : Ls) : zs (p.putQ x) = zs p + eQ x := by
  unfold zs Pt.putQ sumQ
  simp only [List.foldl_append, List.foldl_cons, List.foldl_nil]
theorem zs_putP (p : Pt) (x : Pr) : zs (p.putP x) = zs p + eP x := by
  unfold zs Pt.putP
  rw [← sumQ_add]
  congr 1
  unfold sumP
  simp only [List.foldl_append, List.foldl_cons, List.foldl_nil]
/-- the size of a part's first thing -/
def fst1 (p : Pt) : Int := match p.P with
  | x :: _ => eP x
  | [] => match p.Q with
    | x :: _ => eQ x
    | [] => 0
structure Cu.keep (c : Cu) : Prop where
  ne : 1 ≤ c.L.length
  many : c.many = (cnt (c.L.getD (c.L.length - 1) ptE) : Int)
  size : c.size = IntKind.wrap .i64 (zs (c.L.getD (c.L.length - 1) ptE))
  each : ∀ p ∈ c.L, cnt p ≤ 4 ∧ (1 < cnt p → IntKind.wrap .i64 (zs p) ≤ 4000)
  some_ : 1 < c.L.length → ∀ p ∈ c.L, 1 ≤ cnt p
  next : ∀ i (h : i + 1 < c.L.length), cnt (c.L[i]) < 4 → 4000 < IntKind.wrap .i64 (zs (c.L[i]) + fst1 (c.L[i + 1]))
theorem keep0 : Cu.keep ⟨[ptE], 0, 0⟩ := by
  refine ⟨by simp, rfl, (w64 (n := 0) (by omega)).symm, ?_, by simp, ?_⟩
  · intro p hp
    rw [List.mem_singleton.1 hp]
    exact ⟨by simp [cnt, ptE], by simp [cnt, ptE]⟩
  · intro i h; simp at h
theorem getD_last (L : List Pt) (p : Pt) : (L ++ [p]).getD ((L ++ [p]).length - 1) ptE = p := by
  rw [List.length_append, List.length_singleton, Nat.add_sub_cancel, List.getD_eq_getElem?_getD, List.getElem?_append_right (Nat.le_refl _)]
  simp
theorem addLast_app (L : List Pt) (p : Pt) (f : Pt → Pt) : addLast (L ++ [p]) f = L ++ [f p] := by
  unfold addLast
  rw [getD_last, List.length_append, List.length_singleton, Nat.add_sub_cancel, List.set_append_right _ _ (Nat.le_refl _), Nat.sub_self]
  rfl
theorem split_last {L : List Pt} (h : 1 ≤ L.length) : ∃ A p, L = A ++ [p] := by
  refine ⟨L.dropLast, L.getLast (by intro e; rw [e] at h; simp at h), ?_⟩
  exact (List.dropLast_concat_getLast _).symm
/-- what a cutter keeps, by the parts ahead and the last one -/
structure Kp (A : List Pt) (p : Pt) : Prop where
  each : ∀ x ∈ A, (1 ≤ cnt x ∧ cnt x ≤ 4) ∧ (1 < cnt x → IntKind.wrap .i64 (zs x) ≤ 4000)
  last : cnt p ≤ 4 ∧ (1 < cnt p → IntKind.wrap .i64 (zs p) ≤ 4000) ∧ (A ≠ [] → 1 ≤ cnt p)
  next : ∀ i (h : i < A.length), cnt (A[i]) < 4 → 4000 < IntKind.wrap .i64 (zs (A[i]) + fst1 ((A ++ [p])[i + 1]'(by simp; omega)))
def Cu.kp (c : Cu) : Prop := ∃ A p, c.L = A ++ [p] ∧ Kp A p ∧ c.many = (cnt p : Int) ∧ c.size = IntKind.wrap .i64 (zs p)
theorem kp0 : Cu.kp ⟨[ptE], 0, 0⟩ := ⟨[], ptE, rfl, ⟨by simp, by simp [cnt, ptE], by intro i h; simp at h⟩, rfl, (w64 (n := 0) (by omega)).symm⟩
theorem Kp.new {A : List Pt} {p g : Pt} {e : Int} (h : Kp A p) (hf : cnt p = 4 ∨ (0 < cnt p ∧ 4000 < IntKind.wrap .i64 (zs p + e))) (h1 : cnt g = 1) (h2 : fst1 g = e) : Kp (A ++ [p]) g := by
  refine ⟨?_, ⟨by omega, fun hh => by omega, fun _ => by omega⟩, ?_⟩
  · intro x hx
    rcases List.mem_append.1 hx with hx | hx
    · exact h.each x hx
    · rw [List.mem_singleton.1 hx]
      exact ⟨by have := h.last.1; omega, h.last.2.1⟩
  · intro i hi hc
    rw [List.length_append, List.length_singleton] at hi
    by_cases hl : i < A.length
    · have h3 := h.next i hl
      rw [List.getElem_append_left hl] at hc ⊢
      rw [List.getElem_append_left (by simp; omega)]
      exact h3 hc
    · have : i = A.length := by omega
      subst this
      simp at hc ⊢
      rw [h2]
      omega
theorem Kp.add {A : List Pt} {p g : Pt} {e : Int} (h : Kp A p) (hf : ¬ (cnt p = 4 ∨ (0 < cnt p ∧ 4000 < IntKind.wrap .i64 (zs p + e)))) (h1 : cnt g = cnt p + 1) (h2 : zs g = zs p + e) (h3 : cnt p ≠ 0 → fst1 g = fst1 p) : Kp A g := by
  have h4 := h.last.1
  refine ⟨h.each, ⟨by omega, fun hh => by rw [h2]; omega, fun _ => by omega⟩, ?_⟩
  intro i hi hc
  have hne : A ≠ [] := by intro e; rw [e] at hi; simp at hi
  have hp := h.last.2.2 hne
  have h5 := h.next i hi hc
  by_cases hl : i + 1 < A.length
  · rw [List.getElem_append_left hl] at h5 ⊢
    exact h5
  · have : i + 1 = A.length := by omega
    simp only [this] at h5 ⊢
    simp at h5 ⊢
    rw [h3 (by omega)]
    exact h5
theorem add_in' {c : Cu} {n : Int} {f : Pt → Pt} (h : ¬ c.full n) : c.add n f = ⟨addLast c.L f, IntKind.wrap .i64 (c.size + n), c.many + 1⟩ := by unfold Cu.add Cu.room; rw [if_neg h]
theorem add_new' {c : Cu} {n : Int} {f : Pt → Pt} (h : c.full n) : c.add n f = ⟨addLast (c.L ++ [ptE]) f, IntKind.wrap .i64 (0 + n), 0 + 1⟩ := by unfold Cu.add Cu.room; rw [if_pos h]
theorem zs_E : zs ptE = 0 := rfl
theorem kp_add {c : Cu} (h : c.kp) (e : Int) (f : Pt → Pt) (h1 : ∀ p, cnt (f p) = cnt p + 1) (h2 : ∀ p, zs (f p) = zs p + e) (h3 : ∀ p ∈ c.L, cnt p ≠ 0 → fst1 (f p) = fst1 p) (h4 : fst1 (f ptE) = e) : (c.add (IntKind.wrap .i64 e) f).kp := by
  obtain ⟨A, p, hL, hk, hm, hs⟩ := h
  have hfull : c.full (IntKind.wrap .i64 e) ↔ (cnt p = 4 ∨ (0 < cnt p ∧ 4000 < IntKind.wrap .i64 (zs p + e))) := by
    unfold Cu.full
    rw [hs, wrap_add2, wrap_add, hm]
    omega
  by_cases hf : c.full (IntKind.wrap .i64 e)
  · rw [add_new' hf]
    refine ⟨A ++ [p], f ptE, ?_, hk.new (hfull.1 hf) (by rw [h1]; rfl) h4, by rw [h1]; rfl, ?_⟩
    · show addLast (c.L ++ [ptE]) f = _
      rw [addLast_app, hL]
    · show IntKind.wrap .i64 (0 + IntKind.wrap .i64 e) = _
      rw [wrap_add2, h2, zs_E]
  · rw [add_in' hf]
    refine ⟨A, f p, ?_, hk.add (fun hh => hf (hfull.2 hh)) (h1 p) (h2 p) (h3 p (by rw [hL]; simp)), ?_, ?_⟩
    · show addLast c.L f = _
      rw [hL, addLast_app]
    · show c.many + 1 = _
      rw [hm, h1]; rfl
    · show IntKind.wrap .i64 (c.size + IntKind.wrap .i64 e) = _
      rw [hs, wrap_add2, wrap_add, h2]
theorem addP_kp {c : Cu} (h : c.kp) (hq : ∀ p ∈ c.L, p.Q = []) (x : Pr) : (c.addP x).kp ∧ ∀ p ∈ (c.addP x).L, p.Q = [] := by
  have hroom : ∀ p ∈ (c.room (szP x)).L, p.Q = [] := by
    unfold Cu.room
    split
    · intro p hp
      rcases List.mem_append.1 hp with hp | hp
      · exact hq p hp
      · rw [List.mem_singleton.1 hp]; rfl
    · exact hq
  refine ⟨?_, ?_⟩
  · unfold Cu.addP
    rw [szP_eq]
    refine kp_add h (eP x) (Pt.putP x) (fun p => ?_) (fun p => zs_putP p x) (fun p hp hc => ?_) rfl
    · simp [cnt, Pt.putP]; omega
    · have := hq p hp
      obtain ⟨P, Q, l⟩ := p
      simp only at this
      subst this
      cases P with
      | nil => simp [cnt] at hc
      | cons a P => rfl
  · intro p hp
    simp only [Cu.addP, Cu.add, addLast] at hp
    rcases List.mem_or_eq_of_mem_set hp with hp | rfl
    · exact hroom p hp
    · show ((c.room (szP x)).L.getD ((c.room (szP x)).L.length - 1) ptE).Q = []
      rw [List.getD_eq_getElem?_getD]
      cases hz : (c.room (szP x)).L[(c.room (szP x)).L.length - 1]? with
      | none => rfl
      | some q => exact hroom q (List.mem_of_getElem? hz)
theorem addQ_kp {c : Cu} (h : c.kp) (x : Ls) : (c.addQ x).kp := by
  unfold Cu.addQ
  rw [szQ_eq]
  refine kp_add h (eQ x) (Pt.putQ x) (fun p => ?_) (fun p => zs_putQ p x) (fun p hp hc => ?_) rfl
  · simp [cnt, Pt.putQ]; omega
  · obtain ⟨P, Q, l⟩ := p
    cases P with
    | cons a P => rfl
    | nil =>
      cases Q with
      | nil => simp [cnt] at hc
      | cons a Q => rfl
theorem foldP_kp : ∀ (L : List Pr) (c : Cu), c.kp → (∀ p ∈ c.L, p.Q = []) → (L.foldl Cu.addP c).kp
  | [], _, h, _ => h
  | x :: L, c, h, hq => foldP_kp L _ (addP_kp h hq x).1 (addP_kp h hq x).2
theorem foldQ_kp : ∀ (L : List Ls) (c : Cu), c.kp → (L.foldl Cu.addQ c).kp
  | [], _, h => h
  | x :: L, c, h => foldQ_kp L _ (addQ_kp h x)
theorem cutL_kp (P : List Pr) (Q : List Ls) : (cutL P Q).kp := foldQ_kp Q _ (foldP_kp P _ kp0 (by intro p hp; rw [List.mem_singleton.1 hp]; rfl))
theorem cutI_kp (P : List Pr) (Q : List Ls) : ∃ A p, cutI P Q = A ++ [p.end_] ∧ Kp A p ∧ ∀ x ∈ A, x.last = false := by
  obtain ⟨A, p, hL, hk, _, _⟩ := cutL_kp P Q
  have ho := cutL_open P Q
  refine ⟨A, p, ?_, hk, fun x hx => ho x (by rw [hL]; simp [hx])⟩
  unfold cutI
  rw [hL, addLast_app]
end Go.Proofs.Ytoceilgifkncoaa
