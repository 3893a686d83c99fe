/-
  Package node: where a key belongs.
-/
import Derived.Test.YtknohdgcigcmdaaNodeH
namespace Go.Proofs.Ytknohdgcigcmdaa
open Go.RowKit
set_option maxRecDepth 100000

theorem findIdx_of {α : Type} {p : α → Bool} : ∀ {L : List α} {i : Nat}, i ≤ L.length → (∀ j (hj : j < L.length), j < i → p L[j] = false) → (∀ hi : i < L.length, p L[i] = true) → i = L.findIdx p
  | [], i, hi, _, _ => by simp at hi ⊢; exact hi
  | a :: L, i, hi, hno, hyes => by
    rw [List.findIdx_cons]
    cases hp : p a with
    | true =>
      simp only [cond_true]
      cases i with
      | zero => rfl
      | succ i =>
        have := hno 0 (by simp) (by omega)
        simp only [List.getElem_cons_zero] at this
        rw [hp] at this; cases this
    | false =>
      simp only [cond_false]
      cases i with
      | zero =>
        have := hyes (by simp)
        simp only [List.getElem_cons_zero] at this
        rw [hp] at this; cases this
      | succ i =>
        have := findIdx_of (L := L) (i := i) (by simpa using hi) (fun j hj hlt => by have := hno (j + 1) (by simpa using hj) (by omega); simpa using this) (fun h => by have := hyes (by simpa using h); simpa using this)
        omega
def findI (n : Nd) (key : ByteArray) : Nat := n.cs.findIdx fun c => !ltB c.key key
def findB (n : Nd) (key : ByteArray) : Bool := decide (findI n key < n.cs.length) && ((n.cs.getD (findI n key) zCe).key.toList == key.toList)
theorem askGe {w : World} {b : Nat} {key : ByteArray} {t : TypeId} (hb : Bk w b [.string key] t) (x : Ce) {K : Bool → World → Prop} (k : ∀ w', Ext [] w w' → K (!ltB x.key key) w') :
    VDyn none Try.prog (.func (.func 31) #[] #[.pointer (some ⟨b, 0, none⟩)]) #[.agg (ceC x).toArray] w (.bool false) fun (r : Bool) (w' : World) => K r w' := by
  refine VDyn.i (by kernel_rfl) (VCall.i (R0 := fun e w' => e = .returned (.bool (!ltB x.key key)) ∧ Ext [] w w') ?_ ?_)
  · refine sh_node_Find_1_ok _ _ _ _ _ _ _ ?_
    unfold sh_node_Find_1
    refine VNw.i fun cb w1 hcb hk1 e1 => ?_
    have hk1 : Bk w1 cb (ceC x) 48 := hk1
    exact VLd.i1 (t := .str) x.key (Rd.of_bk hk1 rfl) (VLd.i1 (t := .str) key (Rd.of_bk (hb.ext e1) rfl) ⟨rfl, e1⟩)
  rintro e w' ⟨rfl, e'⟩
  exact exW.i1 (t := .bool) _ rfl (k w' e')
theorem Find_spec (c k : Sl) (n : Nd) (key : ByteArray) (w : World) (h : NIn w c k n) : Calls Try.prog 11 #[.agg (nhC n.leaf c k).toArray, .string key] w fun e w' => e = .returned (.tuple #[.int .i64 ((findI n key : Nat) : Int), .bool (findB n key)]) ∧ Ext [] w w' := by
  refine sh_node_Find_ok _ _ _ _ _ _ ?_
  unfold sh_node_Find
  have hl := h.ci.1.rlen
  refine VNw.i fun nb w1 hnb hk1 e1 => VNw.i fun kb w2 hkb hk2 e2 => ?_
  have hk1 : Bk w2 nb (nhC n.leaf c k) 30 := hk1.ext e2
  have hk2 : Bk w2 kb [.string key] 9 := hk2
  have e02 := e1.then0 e2
  refine VLd.s c (Rd.of_bk hk1 rfl) ?_
  refine VCall.i (IxC_spec _ (fun x => !ltB x.key key) c n.cs w2 (h.ext0 e02).ci (fun x W e K kk => askGe (hk2.ext e) x kk)) ?_
  rintro e w3 ⟨i, hi, hno, hyes, rfl, e3⟩
  have hii : i = findI n key := findIdx_of hi hno hyes
  refine exW.i1 (t := .int .i64) _ rfl (VSet.i (VIf.mk (fun hd => ?_) (fun hd => ?_)))
  · have hlt : ¬ i < n.cs.length := fun hlt => by rw [if_pos hlt] at hd; have := of_decide_eq_true hd; omega
    refine VLd.s c (Rd.of_bk (hk1.ext e3) rfl) (VSet.i ⟨?_, e02.then0 e3⟩)
    unfold findB
    rw [← hii, hl]
    have : i = n.cs.length := by omega
    subst this
    simp
  · have hlt : i < n.cs.length := Classical.byContradiction fun hlt => by rw [if_neg hlt] at hd; exact absurd hd (by decide)
    rw [if_pos hlt]
    intro w4 hw4
    have ed := Ext.drew' hw4
    have e04 := (e02.then0 e3).then0 ed
    have hk4 := (hk1.ext e3).ext ed
    refine VLd.s c (Rd.of_bk hk4 rfl) (VIx.i' (r := ceR) (h.ext0 e04).ci.1 hlt fun a hr => VLd.i1 (t := .str) (n.cs[i]).key (hr.fld0 rfl) (VLd.i1 (t := .str) key (Rd.of_bk ((hk2.ext e3).ext ed) rfl) (VSet.i ⟨?_, e04⟩)))
    unfold findB
    rw [← hii, getD_at hlt]
    simp [hlt]
theorem xFind_spec (c k : Sl) (n : Nd) (key : ByteArray) (w : World) (h : NIn w c k n) : Calls Try.prog 12 #[.agg (nhC n.leaf c k).toArray, .string key] w fun e w' => e = .returned (.tuple #[.int .i64 ((findI n key : Nat) : Int), .bool (findB n key)]) ∧ Ext [] w w' := by
  refine sh_butteryref06_Find_ok _ _ _ _ _ _ ?_
  unfold sh_butteryref06_Find
  have hl := h.ci.1.rlen
  have hcap := h.ci.2
  refine VNw.i fun nb w1 hnb hk1 e1 => ?_
  have hk1 : Bk w1 nb (nhC n.leaf c k) 25 := hk1
  refine ⟨fun kk i W => ∃ m : Nat, i = (m : Int) ∧ m ≤ n.cs.length ∧ kk = n.cs.length - m ∧ (∀ j (hj : j < n.cs.length), j < m → (!ltB (n.cs[j]).key key) = false) ∧ W = w1, ⟨_, 0, rfl, by omega, rfl, fun j _ h => absurd h (by omega), rfl⟩, ?_⟩
  rintro kk i w2 ⟨m, rfl, hm, rfl, hno, rfl⟩
  have h2 := h.ext0 e1
  refine VLd.s c (Rd.of_bk hk1 rfl) (VIf.mk (fun hd => ?_) (fun hd => ?_))
  · have hm' : m < n.cs.length := by rw [hl] at hd; simp at hd; omega
    refine VLd.s c (Rd.of_bk hk1 rfl) (VIx.i' (r := ceR) h2.ci.1 hm' fun a hr => VLd.i1 (t := .str) (n.cs[m]).key (hr.fld0 rfl) (VIf.mk (fun hq => ?_) (fun hq => ?_)))
    · have hii : m = findI n key := findIdx_of hm hno (fun _ => hq)
      intro w3 hw3
      have ed := Ext.drew' hw3
      have e03 := e1.then0 ed
      refine VLd.s c (Rd.of_bk (hk1.ext ed) rfl) (VIx.i' (r := ceR) (h.ext0 e03).ci.1 hm' fun a hr => VLd.i1 (t := .str) (n.cs[m]).key (hr.fld0 rfl) (VSet.i ⟨?_, e03⟩))
      unfold findB
      rw [← hii, getD_at hm']
      simp [hm']
    · rw [w64 (n := (m : Int) + 1) (by omega)]
      refine VSet.i ⟨_, (show n.cs.length - (m + 1) < n.cs.length - m by omega), m + 1, rfl, by omega, rfl, fun j hj hlt => ?_, rfl⟩
      by_cases hjm : j = m
      · subst hjm; exact hq
      · exact hno j hj (by omega)
  · have hmm : m = n.cs.length := by rw [hl] at hd; simp at hd; omega
    have hii : m = findI n key := findIdx_of hm hno (fun h => by omega)
    refine VLd.s c (Rd.of_bk hk1 rfl) (VSet.i ⟨?_, e1⟩)
    unfold findB
    rw [← hii, hl, hmm]
    simp
end Go.Proofs.Ytknohdgcigcmdaa
