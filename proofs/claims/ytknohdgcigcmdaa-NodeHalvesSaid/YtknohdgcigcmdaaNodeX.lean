/-
  Package node: lists put behind one another (printed by walks/concat.py).
-/
import Derived.Test.YtknohdgcigcmdaaNodeQ
import Derived.Test.YtknohdgcigcmdaaWalkA
import Derived.Test.YtknohdgcigcmdaaRecM
namespace Go.Proofs.Ytknohdgcigcmdaa
open Go.RowKit
set_option maxRecDepth 100000

theorem OwnR.zero {α : Type} {r : Rec α} {e : TypeId} {w0 w : World} {s : Sl} {L : List α} {k : Nat} (h : OwnR r e w0 w s L) : OwnR r e w0 w ⟨cutB s.base s.cap k 0, 0 - 0, s.cap - 0⟩ [] := by
  rw [cutB_zero]
  obtain ⟨⟨h1, h2, h3, h4⟩, h5⟩ := h
  refine ⟨⟨by simp [Rec.cells], Nat.zero_le _, h3, h4.imp id ?_⟩, h5⟩
  rintro ⟨b, rest, hb, hk, hl⟩
  refine ⟨b, r.cells L ++ rest, hb, hk, ?_⟩
  show 0 + (r.cells L ++ rest).length = s.cap * r.k
  rw [List.length_append]; omega
theorem zeroRec {α : Type} (r : Rec α) (z : α) {zc : Array Value} (hz : zc.toList = r.f z) (n : Nat) : (Builtin.zeroCells zc n).toList = r.cells (List.replicate n z) := by
  have hk : zc.size = r.k := by rw [← Array.length_toList, hz, r.len]
  have h : Builtin.zeroCells zc n = madeCells zc (n * zc.size) := rfl
  rw [h, hk, madeR r z zc hz]
def slR : Rec Sl := ⟨fun s => [.slice s.base s.len s.cap], 1, fun _ => rfl, fun _ => rfl, by omega⟩
theorem flat_take_succ {α β : Type} (f : α → List β) (L : List α) (m : Nat) (h : m < L.length) : (L.take (m + 1)).flatMap f = (L.take m).flatMap f ++ f L[m] := by
  rw [List.take_succ_eq_append_getElem h, List.flatMap_append]
  simp
theorem flat_take_le {α β : Type} (f : α → List β) (L : List α) (m : Nat) : ((L.take m).flatMap f).length ≤ (L.flatMap f).length := by
  conv => rhs; rw [← List.take_append_drop m L, List.flatMap_append, List.length_append]
  omega

theorem GrowC_spec (n : Nat) (w : World) (hn : n ≤ 1000000) : Calls Try.prog 68 #[.slice none 0 0, .int .i64 (n : Int)] w fun e w' => ∃ s' : Sl, e = .returned (.slice s'.base s'.len s'.cap) ∧ OwnR ceR 48 w w' s' [] ∧ Ext [] w w' := by
  refine sh_slices_Grow_ok ⟨none, 0, 0⟩ _ _ _ ?_
  unfold sh_slices_Grow
  refine ⟨fun W => W = w, VIf.f (by simp) rfl, ?_⟩
  rintro w1 rfl
  refine ⟨fun s W => OwnR ceR 48 w1 W s [] ∧ Ext [] w1 W, ?_, ?_⟩
  · refine VSet.eq (m := (n : Int)) (by show IntKind.wrap .i64 ((n : Int) - IntKind.wrap .i64 (0 - 0)) = _; rw [w64 (n := 0 - 0) (by omega), w64 (by omega)]; omega) (VIf.mk (fun hc => ?_) (fun hc => ⟨OwnR.nil _ _ _ _, Ext.refl _ _⟩))
    refine VCk.i (by simp) ?_
    refine VApp.rec (r := ceR) (s := ⟨none, 0, 0⟩) (L := []) (news := List.replicate n zCe) (OwnR.nil _ _ _ _) (Ext.refl _ _) ⟨by omega, by omega, (zeroRec ceR zCe rfl _).symm⟩ (by simp) rfl (by simp; omega) (by simp; omega) fun l22 w2 h2 e02 e2 _ => VCk.i (by simp) ⟨h2.zero, e02⟩
  · rintro s W ⟨h, e⟩
    exact ⟨s, rfl, h, e⟩
theorem ConcatC_spec (t : Sl) (P : List (Sl × List Ce)) (w : World) (ht : InR slR w t (P.map (·.1))) (hP : ∀ p ∈ P, InR ceR w p.1 p.2) (hn : (P.flatMap (·.2)).length ≤ 10000) (hp : P.length ≤ 100) : Calls Try.prog 39 #[.slice t.base t.len t.cap] w fun e w' => ∃ s' : Sl, e = .returned (.slice s'.base s'.len s'.cap) ∧ OwnR ceR 48 w w' s' (P.flatMap (·.2)) ∧ Ext [] w w' := by
  refine sh_slices_Concat_ok _ _ _ ?_
  unfold sh_slices_Concat
  have htl := ht.1.rlen
  rw [List.length_map] at htl
  have hle := flat_take_le (·.2) P
  refine ⟨fun kk size_3 x11 W => ∃ m : Nat, kk = P.length - m ∧ x11 = (m : Int) ∧ m ≤ P.length ∧ size_3 = ((((P.take m).flatMap (·.2)).length : Nat) : Int) ∧ Ext [] w W, ⟨_, 0, rfl, rfl, Nat.zero_le _, rfl, Ext.refl _ _⟩, ?_⟩
  rintro kk size_3 x11 w1 ⟨m, rfl, rfl, hm, rfl, e0_1⟩
  have z1 := e0_1.size
  refine VIf.mk (fun hc => ?_) (fun hc => ?_)
  · have hm' : m < P.length := by rw [htl] at hc; simp at hc; omega
    refine ⟨fun size_3' W => size_3' = ((((P.take (m + 1)).flatMap (·.2)).length : Nat) : Int) ∧ Ext [] w W, ?_, ?_⟩
    · refine VIx.rd (r := slR) ht.1 (by rw [List.length_map]; exact hm') fun a13 hra0 => ?_
      have hra : Rd w (a13.add (m * 1)) [.slice P[m].1.base P[m].1.len P[m].1.cap] := by have := hra0; rw [List.getElem_map] at this; exact this
      have q1 := (hP P[m] (List.getElem_mem _)).1.rlen
      have q3 := hle (m + 1)
      rw [flat_take_succ _ _ _ hm', List.length_append] at q3
      refine VLd.s (P[m].1) ((hra.ext e0_1)) ?_
      refine VSet.eq (m := ((((P.take m).flatMap (·.2)).length : Nat) : Int) + (((P[m].1).len : Nat) : Int)) (w64 (by omega)) ?_
      refine VIf.f (by simp; omega) ?_
      exact ⟨by rw [flat_take_succ _ _ _ hm', List.length_append]; omega, e0_1⟩
    rintro size_3' w2 ⟨hs2, e0_2⟩
    have z2 := e0_2.size
    exact ⟨_, (show P.length - (m + 1) < P.length - m by omega), m + 1, rfl, w64 (n := (m : Int) + 1) (by omega), by omega, hs2, e0_2⟩
  · have hmm : m = P.length := by rw [htl] at hc; simp at hc; omega
    have hfin : P.take m = P := by rw [hmm, List.take_length]
    refine VCall.i (GrowC_spec _ w1 (by have := hle m; omega)) ?_
    rintro e w3 ⟨r24, rfl, hO, e3⟩
    have z3 := e3.size
    refine ⟨r24, rfl, ?_⟩
    have e0_3 := e0_1.then0 e3
    refine ⟨fun kk newslice_6 x27 W => ∃ m : Nat, kk = P.length - m ∧ x27 = (m : Int) ∧ m ≤ P.length ∧ OwnR ceR 48 w W newslice_6 ((P.take m).flatMap (·.2)) ∧ Ext [] w W, ⟨_, 0, rfl, rfl, Nat.zero_le _, by simpa using hO.mono (e0_1.size), e0_3⟩, ?_⟩
    rintro kk newslice_6 x27 w4 ⟨m, rfl, rfl, hm, hO, e0_4⟩
    have z4 := e0_4.size
    refine VIf.mk (fun hc => ?_) (fun hc => ?_)
    · have hm' : m < P.length := by rw [htl] at hc; simp at hc; omega
      refine VIx.rd (r := slR) ht.1 (by rw [List.length_map]; exact hm') fun a29 hra0 => ?_
      have hra : Rd w (a29.add (m * 1)) [.slice P[m].1.base P[m].1.len P[m].1.cap] := by have := hra0; rw [List.getElem_map] at this; exact this
      have q1 := (hP P[m] (List.getElem_mem _)).1.rlen
      have q3 := hle (m + 1)
      rw [flat_take_succ _ _ _ hm', List.length_append] at q3
      refine VLd.s (P[m].1) ((hra.ext e0_4)) ?_
      have hin := (hP P[m] (List.getElem_mem _)).ext0 e0_4
      have q2 := hO.len
      refine VApp.rec (r := ceR) (news := P[m].2) hO e0_4 hin.1 q1.symm rfl (by omega) (by omega) fun l33 w5 hO2 e0_5 e5 hb5 => ?_
      have z5 := e5.size
      have z0_5 := e0_5.size
      exact ⟨_, (show P.length - (m + 1) < P.length - m by omega), m + 1, rfl, w64 (n := (m : Int) + 1) (by omega), by omega, by rw [flat_take_succ _ _ _ hm']; exact hO2, e0_5⟩
    · have hmm : m = P.length := by rw [htl] at hc; simp at hc; omega
      have hfin : P.take m = P := by rw [hmm, List.take_length]
      rw [hfin] at hO
      exact ⟨newslice_6, rfl, hO, e0_4⟩
theorem GrowI_spec (n : Nat) (w : World) (hn : n ≤ 1000000) : Calls Try.prog 69 #[.slice none 0 0, .int .i64 (n : Int)] w fun e w' => ∃ s' : Sl, e = .returned (.slice s'.base s'.len s'.cap) ∧ OwnR itR 3 w w' s' [] ∧ Ext [] w w' := by
  refine sh_slices_Grow'_ok ⟨none, 0, 0⟩ _ _ _ ?_
  unfold sh_slices_Grow'
  refine ⟨fun W => W = w, VIf.f (by simp) rfl, ?_⟩
  rintro w1 rfl
  refine ⟨fun s W => OwnR itR 3 w1 W s [] ∧ Ext [] w1 W, ?_, ?_⟩
  · refine VSet.eq (m := (n : Int)) (by show IntKind.wrap .i64 ((n : Int) - IntKind.wrap .i64 (0 - 0)) = _; rw [w64 (n := 0 - 0) (by omega), w64 (by omega)]; omega) (VIf.mk (fun hc => ?_) (fun hc => ⟨OwnR.nil _ _ _ _, Ext.refl _ _⟩))
    refine VCk.i (by simp) ?_
    refine VApp.rec (r := itR) (s := ⟨none, 0, 0⟩) (L := []) (news := List.replicate n 0) (OwnR.nil _ _ _ _) (Ext.refl _ _) ⟨by omega, by omega, (zeroRec itR 0 rfl _).symm⟩ (by simp) rfl (by simp; omega) (by simp; omega) fun l22 w2 h2 e02 e2 _ => VCk.i (by simp) ⟨h2.zero, e02⟩
  · rintro s W ⟨h, e⟩
    exact ⟨s, rfl, h, e⟩
theorem ConcatI_spec (t : Sl) (P : List (Sl × List Int)) (w : World) (ht : InR slR w t (P.map (·.1))) (hP : ∀ p ∈ P, InR itR w p.1 p.2) (hn : (P.flatMap (·.2)).length ≤ 10000) (hp : P.length ≤ 100) : Calls Try.prog 40 #[.slice t.base t.len t.cap] w fun e w' => ∃ s' : Sl, e = .returned (.slice s'.base s'.len s'.cap) ∧ OwnR itR 3 w w' s' (P.flatMap (·.2)) ∧ Ext [] w w' := by
  refine sh_slices_Concat'_ok _ _ _ ?_
  unfold sh_slices_Concat'
  have htl := ht.1.rlen
  rw [List.length_map] at htl
  have hle := flat_take_le (·.2) P
  refine ⟨fun kk size_3 x11 W => ∃ m : Nat, kk = P.length - m ∧ x11 = (m : Int) ∧ m ≤ P.length ∧ size_3 = ((((P.take m).flatMap (·.2)).length : Nat) : Int) ∧ Ext [] w W, ⟨_, 0, rfl, rfl, Nat.zero_le _, rfl, Ext.refl _ _⟩, ?_⟩
  rintro kk size_3 x11 w1 ⟨m, rfl, rfl, hm, rfl, e0_1⟩
  have z1 := e0_1.size
  refine VIf.mk (fun hc => ?_) (fun hc => ?_)
  · have hm' : m < P.length := by rw [htl] at hc; simp at hc; omega
    refine ⟨fun size_3' W => size_3' = ((((P.take (m + 1)).flatMap (·.2)).length : Nat) : Int) ∧ Ext [] w W, ?_, ?_⟩
    · refine VIx.rd (r := slR) ht.1 (by rw [List.length_map]; exact hm') fun a13 hra0 => ?_
      have hra : Rd w (a13.add (m * 1)) [.slice P[m].1.base P[m].1.len P[m].1.cap] := by have := hra0; rw [List.getElem_map] at this; exact this
      have q1 := (hP P[m] (List.getElem_mem _)).1.rlen
      have q3 := hle (m + 1)
      rw [flat_take_succ _ _ _ hm', List.length_append] at q3
      refine VLd.s (P[m].1) ((hra.ext e0_1)) ?_
      refine VSet.eq (m := ((((P.take m).flatMap (·.2)).length : Nat) : Int) + (((P[m].1).len : Nat) : Int)) (w64 (by omega)) ?_
      refine VIf.f (by simp; omega) ?_
      exact ⟨by rw [flat_take_succ _ _ _ hm', List.length_append]; omega, e0_1⟩
    rintro size_3' w2 ⟨hs2, e0_2⟩
    have z2 := e0_2.size
    exact ⟨_, (show P.length - (m + 1) < P.length - m by omega), m + 1, rfl, w64 (n := (m : Int) + 1) (by omega), by omega, hs2, e0_2⟩
  · have hmm : m = P.length := by rw [htl] at hc; simp at hc; omega
    have hfin : P.take m = P := by rw [hmm, List.take_length]
    refine VCall.i (GrowI_spec _ w1 (by have := hle m; omega)) ?_
    rintro e w3 ⟨r24, rfl, hO, e3⟩
    have z3 := e3.size
    refine ⟨r24, rfl, ?_⟩
    have e0_3 := e0_1.then0 e3
    refine ⟨fun kk newslice_6 x27 W => ∃ m : Nat, kk = P.length - m ∧ x27 = (m : Int) ∧ m ≤ P.length ∧ OwnR itR 3 w W newslice_6 ((P.take m).flatMap (·.2)) ∧ Ext [] w W, ⟨_, 0, rfl, rfl, Nat.zero_le _, by simpa using hO.mono (e0_1.size), e0_3⟩, ?_⟩
    rintro kk newslice_6 x27 w4 ⟨m, rfl, rfl, hm, hO, e0_4⟩
    have z4 := e0_4.size
    refine VIf.mk (fun hc => ?_) (fun hc => ?_)
    · have hm' : m < P.length := by rw [htl] at hc; simp at hc; omega
      refine VIx.rd (r := slR) ht.1 (by rw [List.length_map]; exact hm') fun a29 hra0 => ?_
      have hra : Rd w (a29.add (m * 1)) [.slice P[m].1.base P[m].1.len P[m].1.cap] := by have := hra0; rw [List.getElem_map] at this; exact this
      have q1 := (hP P[m] (List.getElem_mem _)).1.rlen
      have q3 := hle (m + 1)
      rw [flat_take_succ _ _ _ hm', List.length_append] at q3
      refine VLd.s (P[m].1) ((hra.ext e0_4)) ?_
      have hin := (hP P[m] (List.getElem_mem _)).ext0 e0_4
      have q2 := hO.len
      refine VApp.rec (r := itR) (news := P[m].2) hO e0_4 hin.1 q1.symm rfl (by omega) (by omega) fun l33 w5 hO2 e0_5 e5 hb5 => ?_
      have z5 := e5.size
      have z0_5 := e0_5.size
      exact ⟨_, (show P.length - (m + 1) < P.length - m by omega), m + 1, rfl, w64 (n := (m : Int) + 1) (by omega), by omega, by rw [flat_take_succ _ _ _ hm']; exact hO2, e0_5⟩
    · have hmm : m = P.length := by rw [htl] at hc; simp at hc; omega
      have hfin : P.take m = P := by rw [hmm, List.take_length]
      rw [hfin] at hO
      exact ⟨newslice_6, rfl, hO, e0_4⟩
end Go.Proofs.Ytknohdgcigcmdaa
