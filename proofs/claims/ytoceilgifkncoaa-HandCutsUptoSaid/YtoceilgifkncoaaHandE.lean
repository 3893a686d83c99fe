/-
  Package hand: a thing is put into a part.
-/
import Derived.Test.YtoceilgifkncoaaHandD
namespace Go.Proofs.Ytoceilgifkncoaa
open Go.RowKit
set_option maxRecDepth 100000

theorem PtsO.apart {w0 w : World} {s : Sl} {X : List PX} (h : PtsO w0 w s X) {i j : Nat} (hi : i < X.length) (hj : j < X.length) (hne : i ≠ j) : ∀ b ∈ fpt (X[i]).1, b ∉ fpt (X[j]).1 := by
  have hp := List.pairwise_iff_getElem.1 h.sep
  rcases Nat.lt_or_gt_of_ne hne with hlt | hgt
  · exact hp i j hi hj hlt
  · intro b hb hb'
    exact hp j i hj hi hgt b hb' hb
theorem PtsO.put {w0 w1 w2 w3 : World} {s : Sl} {X : List PX} {i : Nat} {y : PX} (h : PtsO w0 w1 s X) (hi : i < X.length) (hy : PtO w0 w2 y.1 y.2) (hnew : ∀ b ∈ fpt y.1, b ∈ fpt (X[i]).1 ∨ w1.heap.size ≤ b)
    (e2 : Ext (fpt (X[i]).1) w1 w2) (hr : Row w3 33 ptR.k s (ptR.cells ((X.map (·.1)).set i y.1))) (e3 : Ext (rowB s) w2 w3) (hrow2 : OwnR ptR 33 w0 w2 s (X.map (·.1))) : PtsO w0 w3 s (X.set i y) := by
  have hap : ∀ j (hj : j < X.length), j ≠ i → ∀ b ∈ fpt (X[j]).1, b ∉ fpt y.1 := by
    intro j hj hne b hb hb'
    rcases hnew b hb' with h1 | h1
    · exact h.apart hj hi hne b hb h1
    · have := (h.all _ (List.getElem_mem hj)).lt b hb
      omega
  refine ⟨⟨by rw [List.map_set]; exact hr, h.row.2⟩, ?_, ?_⟩
  · intro x hx
    obtain ⟨j, hj, rfl⟩ := List.getElem_of_mem hx
    rw [List.length_set] at hj
    rw [List.getElem_set]
    by_cases hij : i = j
    · rw [if_pos hij]
      exact hy.ext e3 (hy.noT hrow2)
    · rw [if_neg hij]
      have hq := (h.all _ (List.getElem_mem hj)).ext e2 (h.apart hj hi (Ne.symm hij))
      exact hq.ext e3 (hq.noT hrow2)
  · rw [List.pairwise_iff_getElem]
    intro a b ha hb hab
    rw [List.length_set] at ha hb
    rw [List.getElem_set, List.getElem_set]
    by_cases h1 : i = a
    · subst h1
      rw [if_pos rfl, if_neg (by omega)]
      intro c hc hc'
      exact hap b hb (by omega) c hc' hc
    · rw [if_neg h1]
      by_cases h2 : i = b
      · subst h2
        rw [if_pos rfl]
        exact hap a ha (by omega)
      · rw [if_neg h2]
        exact h.apart ha hb (by omega)

theorem putP_spec (w0 w : World) (s : Sl) (X : List PX) (i : Nat) (hi : i < X.length) (h : PtsO w0 w s X) (e0 : Ext [] w0 w) (a0 : Addr) (hb : s.base = some a0) (x : Pr) (hl : (X[i]).2.P.length ≤ 1000000) (A : Addr) (hA : A = a0.add (i * 3)) :
    Calls Try.prog 31 #[.pointer (some A), .agg #[.string x.1, .string x.2]] w fun e w' => e = .returned (.tuple #[]) ∧ ∃ v' : PtV, PtsO w0 w' s (X.set i (v', (X[i]).2.putP x)) ∧ Ext [] w0 w' ∧ Ext (rowB s ++ fpt (X[i]).1) w w' := by
  refine sh_hand_Cut_2_ok _ _ _ _ _ ?_
  unfold sh_hand_Cut_2
  refine VNw.i fun b1 w1 hb1 hk1 e1 => ?_
  intro w2 hw2
  have e2 := e1.then0 (Ext.drew' hw2)
  have hk2 := hk1.ext (Ext.drew' hw2)
  have hrd : ∀ W, Ext [] w W → Rd W A (ptR.f (X[i]).1) := fun W eW => by
    obtain ⟨a', ha', hr⟩ := (h.ext0 eW).row.seg.rec_at (i := i) (by simpa using hi)
    rw [hb] at ha'
    cases ha'
    rw [hA]
    rw [List.getElem_map] at hr
    exact hr
  have hx := h.all _ (List.getElem_mem hi)
  refine VNN.i (VLd.s (X[i]).1.1 ((hrd w2 e2).fld0 rfl) (VLd.i2 (t := .str) (u := .str) x.1 x.2 (Rd.of_bk hk2 rfl) ?_))
  refine VNw.i fun b3 w3 hb3 hk3 e3 => ?_
  have e3 := e2.then0 e3
  refine ⟨(hrd w3 e3).fld0 rfl, ?_⟩
  have hx3 := hx.ext0 e3
  have h3 := h.ext0 e3
  refine VApp.rec (r := prR) hx3.P (e0.then0 e3) (news := [x]) (Seg.of_bk hk3 rfl rfl) rfl rfl (by omega) (by omega) fun s4 w4 h4 e4 ea4 hbl => VNN.i ?_
  have hin : ∀ b ∈ rowB (X[i]).1.1, b ∈ fpt (X[i]).1 := fun b hb => by simp [fpt, hb]
  have hrow4 : OwnR ptR 33 w0 w4 s (X.map (·.1)) := h3.row.ext ea4 (fun b hb hb' => hx3.noT h3.row b (hin b hb') hb)
  have hQ4 := hx3.Q.ext ea4 (hx3.Q.sepT hx3.P (by decide))
  refine VSt.put (r := ptR) (i := i) (j := 0) (x := (s4, (X[i]).1.2.1, (X[i]).1.2.2)) hb hrow4.1 (by simpa using hi) (by show 0 + 1 ≤ 3; omega) rfl (by rw [List.getElem_map]; rfl) (by rw [hA]; exact (add_zero _).symm) fun w5 h5 e5 => ?_
  refine ⟨rfl, (s4, (X[i]).1.2.1, (X[i]).1.2.2), ?_, e4.then e5 (fun b hb hlt => by have := h.row.2 b hb; omega), ?_⟩
  · refine h3.put hi (y := ((s4, (X[i]).1.2.1, (X[i]).1.2.2), (X[i]).2.putP x)) ⟨h4, hQ4, hx.last⟩ ?_ (ea4.mono fun k hk _ => hin k hk) h5 e5 hrow4
    intro b hb
    simp only [fpt, List.mem_append] at hb ⊢
    rcases hb with hb | hb
    · rcases hbl b hb with hb | hb
      · exact .inl (.inl hb)
      · exact .inr (by omega)
    · exact .inl (.inr hb)
  · exact ((Ext.refl _ _ : Ext (rowB s ++ fpt (X[i]).1) w w).then e3 (by simp)).then ea4 (fun b hb _ => by simp [fpt, hb]) |>.then e5 (fun b hb _ => by simp [hb])
theorem putQ_spec (w0 w : World) (s : Sl) (X : List PX) (i : Nat) (hi : i < X.length) (h : PtsO w0 w s X) (e0 : Ext [] w0 w) (a0 : Addr) (hb : s.base = some a0) (x : Ls) (hl : (X[i]).2.Q.length ≤ 1000000) (A : Addr) (hA : A = a0.add (i * 3)) :
    Calls Try.prog 34 #[.pointer (some A), .agg #[.int .i64 x.1, .int .i64 x.2.1, .int .u8 x.2.2.1, .bool x.2.2.2.1, .string x.2.2.2.2]] w fun e w' => e = .returned (.tuple #[]) ∧ ∃ v' : PtV, PtsO w0 w' s (X.set i (v', (X[i]).2.putQ x)) ∧ Ext [] w0 w' ∧ Ext (rowB s ++ fpt (X[i]).1) w w' := by
  refine sh_hand_Cut_4_ok _ _ _ _ _ _ _ _ ?_
  unfold sh_hand_Cut_4
  refine VNw.i fun b1 w1 hb1 hk1 e1 => ?_
  intro w2 hw2
  have e2 := e1.then0 (Ext.drew' hw2)
  have hk2 := hk1.ext (Ext.drew' hw2)
  have hrd : ∀ W, Ext [] w W → Rd W A (ptR.f (X[i]).1) := fun W eW => by
    obtain ⟨a', ha', hr⟩ := (h.ext0 eW).row.seg.rec_at (i := i) (by simpa using hi)
    rw [hb] at ha'
    cases ha'
    rw [hA]
    rw [List.getElem_map] at hr
    exact hr
  have hx := h.all _ (List.getElem_mem hi)
  refine VNN.i (VLd.s (X[i]).1.2.1 ((hrd w2 e2).fld 1 rfl) ⟨(x.1 : Int), (x.2.1 : Int), (x.2.2.1 : Int), (x.2.2.2.1 : Bool), (x.2.2.2.2 : ByteArray), gd.i (Rd.of_bk hk2 rfl), ?_⟩)
  refine VNw.i fun b3 w3 hb3 hk3 e3 => ?_
  have e3 := e2.then0 e3
  refine ⟨(hrd w3 e3).fld 1 rfl, ?_⟩
  have hx3 := hx.ext0 e3
  have h3 := h.ext0 e3
  refine VApp.rec (r := lsR) hx3.Q (e0.then0 e3) (news := [x]) (Seg.of_bk hk3 rfl rfl) rfl rfl (by omega) (by omega) fun s4 w4 h4 e4 ea4 hbl => VNN.i ?_
  have hin : ∀ b ∈ rowB (X[i]).1.2.1, b ∈ fpt (X[i]).1 := fun b hb => by simp [fpt, hb]
  have hrow4 : OwnR ptR 33 w0 w4 s (X.map (·.1)) := h3.row.ext ea4 (fun b hb hb' => hx3.noT h3.row b (hin b hb') hb)
  have hQ4 := hx3.P.ext ea4 (hx3.P.sepT hx3.Q (by decide))
  refine VSt.put (r := ptR) (i := i) (j := 1) (x := ((X[i]).1.1, s4, (X[i]).1.2.2)) hb hrow4.1 (by simpa using hi) (by show 1 + 1 ≤ 3; omega) rfl (by rw [List.getElem_map]; rfl) (by rw [hA]; rfl) fun w5 h5 e5 => ?_
  refine ⟨rfl, ((X[i]).1.1, s4, (X[i]).1.2.2), ?_, e4.then e5 (fun b hb hlt => by have := h.row.2 b hb; omega), ?_⟩
  · refine h3.put hi (y := (((X[i]).1.1, s4, (X[i]).1.2.2), (X[i]).2.putQ x)) ⟨hQ4, h4, hx.last⟩ ?_ (ea4.mono fun k hk _ => hin k hk) h5 e5 hrow4
    intro b hb
    simp only [fpt, List.mem_append] at hb ⊢
    rcases hb with hb | hb
    · exact .inl (.inl hb)
    · rcases hbl b hb with hb | hb
      · exact .inl (.inr hb)
      · exact .inr (by omega)
  · exact ((Ext.refl _ _ : Ext (rowB s ++ fpt (X[i]).1) w w).then e3 (by simp)).then ea4 (fun b hb _ => by simp [fpt, hb]) |>.then e5 (fun b hb _ => by simp [hb])
end Go.Proofs.Ytoceilgifkncoaa
