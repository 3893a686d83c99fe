/-
  Package node: a node in new memory; cut at a place.
-/
import Derived.Test.YtknohdgcigcmdaaNodeE
namespace Go.Proofs.Ytknohdgcigcmdaa
open Go.RowKit
set_option maxRecDepth 100000

/-- a node in memory of its own -/
structure OwnN (T : TypeId) (w0 W : World) (c k : Sl) (n : Nd) : Prop where
  co : OwnR ceR T w0 W c n.cs
  ko : OwnR itR 3 w0 W k n.ks
theorem OwnN.nin {T : TypeId} {w0 W : World} {c k : Sl} {n : Nd} (h : OwnN T w0 W c k n) : NIn W c k n := ⟨h.co.in_, h.ko.in_⟩
theorem OwnN.ext0 {T : TypeId} {w0 W W' : World} {c k : Sl} {n : Nd} (h : OwnN T w0 W c k n) (e : Ext [] W W') : OwnN T w0 W' c k n := ⟨h.co.ext0 e, h.ko.ext0 e⟩
theorem OwnN.mono {T : TypeId} {w0 w1 W : World} {c k : Sl} {n : Nd} (h : OwnN T w1 W c k n) (e : w0.heap.size ≤ w1.heap.size) : OwnN T w0 W c k n := ⟨h.co.mono e, h.ko.mono e⟩
def nodeB (c k : Sl) : List Nat := rowB c ++ rowB k
theorem OwnN.lt {T : TypeId} {w0 W : World} {c k : Sl} {n : Nd} (h : OwnN T w0 W c k n) : ∀ b ∈ nodeB c k, b < W.heap.size := fun b hb => by
  rcases List.mem_append.1 hb with hb | hb
  · exact h.co.1.lt b hb
  · exact h.ko.1.lt b hb
theorem OwnN.ge {T : TypeId} {w0 W : World} {c k : Sl} {n : Nd} (h : OwnN T w0 W c k n) : ∀ b ∈ nodeB c k, w0.heap.size ≤ b := fun b hb => by
  rcases List.mem_append.1 hb with hb | hb
  · exact h.co.2 b hb
  · exact h.ko.2 b hb
theorem OwnN.ext {T : TypeId} {w0 W W' : World} {c k : Sl} {n : Nd} {M : List Nat} (h : OwnN T w0 W c k n) (e : Ext M W W') (hm : ∀ b ∈ nodeB c k, b ∉ M) : OwnN T w0 W' c k n :=
  ⟨h.co.ext e fun b hb => hm b (List.mem_append_left _ hb), h.ko.ext e fun b hb => hm b (List.mem_append_right _ hb)⟩
theorem CloneC_spec (s : Sl) (L : List Ce) (w : World) (h : InR ceR w s L) (hL : L.length ≤ 100000) : Calls Try.prog 60 #[.slice s.base s.len s.cap] w fun e w' => ∃ s' : Sl, e = .returned (.slice s'.base s'.len s'.cap) ∧ OwnR ceR 48 w w' s' L ∧ Ext [] w w' := by
  refine sh_slices_Clone_ok _ _ _ ?_
  unfold sh_slices_Clone
  have hl := h.1.rlen
  refine VIf.mk (fun hc => ?_) (fun hc => ?_)
  · have h0 : L = [] := by
      have hb : s.base = none := by simpa using hc
      rcases h.1.2 with h0 | ⟨a, ha, _⟩
      · exact List.eq_nil_of_length_eq_zero (by omega)
      · rw [hb] at ha; cases ha
    subst h0
    exact ⟨⟨none, 0, 0⟩, rfl, OwnR.nil _ _ _ _, Ext.refl _ _⟩
  · refine VNw.i fun b w1 hb hk e1 => ?_
    exact VApp.rclone (r := ceR) hb hk e1 h.1 rfl (by omega) (by omega) fun s' w' h' e' => ⟨s', rfl, h', e'⟩
theorem CloneI_spec (s : Sl) (L : List Int) (w : World) (h : InR itR w s L) (hL : L.length ≤ 100000) : Calls Try.prog 61 #[.slice s.base s.len s.cap] w fun e w' => ∃ s' : Sl, e = .returned (.slice s'.base s'.len s'.cap) ∧ OwnR itR 3 w w' s' L ∧ Ext [] w w' := by
  refine sh_slices_Clone'_ok _ _ _ ?_
  unfold sh_slices_Clone'
  have hl := h.1.rlen
  refine VIf.mk (fun hc => ?_) (fun hc => ?_)
  · have h0 : L = [] := by
      have hb : s.base = none := by simpa using hc
      rcases h.1.2 with h0 | ⟨a, ha, _⟩
      · exact List.eq_nil_of_length_eq_zero (by omega)
      · rw [hb] at ha; cases ha
    subst h0
    exact ⟨⟨none, 0, 0⟩, rfl, OwnR.nil _ _ _ _, Ext.refl _ _⟩
  · refine VNw.i fun b w1 hb hk e1 => ?_
    exact VApp.rclone (r := itR) hb hk e1 h.1 rfl (by omega) (by omega) fun s' w' h' e' => ⟨s', rfl, h', e'⟩
theorem twin_spec (c k : Sl) (n : Nd) (w : World) (h : NIn w c k n) (hs : n.cs.length ≤ 1000 ∧ n.ks.length ≤ 1000) : Calls Try.prog 32 #[.agg (nhC n.leaf c k).toArray] w fun e w' => ∃ c' k' : Sl, e = .returned (.agg (nhC n.leaf c' k').toArray) ∧ OwnN 48 w w' c' k' n ∧ Ext [] w w' := by
  refine sh_node_twin_ok _ _ _ _ _ ?_
  unfold sh_node_twin
  refine VNw.i fun nb w1 hnb hk1 e1 => ?_
  have hk1 : Bk w1 nb (nhC n.leaf c k) 30 := hk1
  refine VNw.i fun rb w2 hrb hr2 e2 => ?_
  intro w3 hw3
  have ed := Ext.drew' hw3
  have hk3 := (hk1.ext e2).ext ed
  have hr3 := hr2.ext ed
  have e03 := (e1.then0 e2).then0 ed
  have h3 := h.ext0 e03
  refine VLd.i1 (t := .bool) n.leaf (Rd.of_bk hk3 rfl) (VLd.s c (Rd.of_bk hk3 rfl) (VLd.s k (Rd.of_bk hk3 rfl) ?_))
  refine VCall.i (CloneC_spec c n.cs w3 h3.ci (by omega)) ?_
  rintro e w4 ⟨c', rfl, hc4, e4⟩
  refine exW.i1 (t := .sl) c' rfl ⟨Rd.of_bk (hk3.ext e4) rfl, Rd.of_bk (hk3.ext e4) rfl, ?_⟩
  refine VCall.i (CloneI_spec k n.ks w4 (h3.ext0 e4).ki (by omega)) ?_
  rintro e w5 ⟨k', rfl, hk5, e5⟩
  refine exW.i1 (t := .sl) k' rfl ⟨Rd.of_bk ((hk3.ext e4).ext e5) rfl, ?_⟩
  refine VSt.bk ((hr3.ext e4).ext e5) rfl (by simp) fun w6 hr6 e6 => ?_
  have hr6 : Bk w6 rb (nhC n.leaf c' k') 30 := hr6
  have e05 := (e03.then0 e4).then0 e5
  have z3 := e03.size
  have z4 := e4.size
  have lr := hr3.lt
  refine VLd.nh n.leaf c' k' (Rd.of_bk hr6 rfl) ⟨c', k', rfl, ⟨?_, ?_⟩, e05.then e6 (fun i hi hlt => by have := e1.size; simp at hi; omega)⟩
  · exact ((hc4.mono z3).ext0 e5).ext e6 fun b hb hm => by have := hc4.2 b hb; simp at hm; omega
  · exact (hk5.mono (by omega)).ext e6 fun b hb hm => by have := hk5.2 b hb; simp at hm; omega
def atN (n : Nd) (i : Nat) : Nd × Nd :=
  if n.leaf then (⟨true, n.cs.take i, []⟩, ⟨true, n.cs.drop i, []⟩)
  else (⟨false, n.cs.take i, n.ks.take (min (i + 1) n.ks.length)⟩, ⟨false, n.cs.drop (i + 1), n.ks.drop (min (i + 1) n.ks.length)⟩)
end Go.Proofs.Ytknohdgcigcmdaa
