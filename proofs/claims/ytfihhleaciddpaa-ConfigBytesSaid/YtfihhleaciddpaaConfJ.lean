/-
  Package config: does one stand as the document's; the document's reading.
-/
import Derived.Test.YtfihhleaciddpaaConfH
namespace Go.Proofs.Ytfihhleaciddpaa
open Go.RowKit
set_option maxRecDepth 100000

theorem VIx.rec {α : Type} {r : Rec α} {g : Option Bool} {w : World} {base : Option Addr} {n j : Nat} {i : Int} {L : List α} {K : Addr → Prop} (h : Seg w base n r.k (r.cells L)) (hi : j < L.length) (hj : i = (j : Int)) (k : ∀ a, Rd w (a.add (j * r.k)) (r.f L[j]) → K a) : VIx g base n i K := by
  obtain ⟨a, ha, hrd⟩ := h.rec_at hi
  have := h.rlen
  subst ha hj
  exact VIx.i (by omega) (by omega) (k a hrd)
theorem OwnR.sepT {α β : Type} {r : Rec α} {q : Rec β} {e e' : TypeId} {w0 w1 w : World} {s t : Sl} {L : List α} {T : List β} (h : OwnR r e w0 w s L) (k : OwnR q e' w1 w t T) (hne : e ≠ e') : ∀ b ∈ rowB s, b ∉ rowB t := by
  intro b hb hb'
  obtain ⟨_, k1⟩ := h.1.bk_of hb
  obtain ⟨_, k2⟩ := k.1.bk_of hb'
  exact k1.neT k2 hne rfl

theorem stands_spec (w0 w0' w : World) (q q2 : Nat) (s d s2 d2 : Sl) (c : CM) (h : CfgO 52 w0 w q s d c) (g : CfgO 69 w0' w q2 s2 d2 c) :
    Calls Try.prog 14 #[.pointer (some ⟨q, 0, none⟩), .pointer (some ⟨q2, 0, none⟩)] w fun e w' => e = .returned (.bool true) ∧ Ext [] w w' := by
  refine sh_butterylaw17_stands_ok _ _ _ _ ?_
  unfold sh_butterylaw17_stands
  have hd5 := h.ok.d
  have hp4 := h.ok.p
  have hsl := g.p.len
  have hdl := g.d.len
  have hdn := dnl_len c.D c.D.length
  refine VCall.i (Places_spec w0 w q s d c h) ?_
  rintro e w1 ⟨l, rfl, l1, e1⟩
  refine exW.i1 (t := .sl) l rfl ?_
  refine VCall.i (Downs_spec w0 w1 q s d c (h.ext0 e1)) ?_
  rintro e w2 ⟨dn, rfl, d2', e2⟩
  refine exW.i1 (t := .sl) dn rfl ?_
  have e12 := e1.then0 e2
  refine VCall.i (XDowns_spec w0' w2 q2 s2 d2 c (g.ext0 e12)) ?_
  rintro e w3 ⟨en, rfl, n3, e3⟩
  refine exW.i1 (t := .sl) en rfl ?_
  have hap := d2'.apart (Nat.le_refl _) n3
  have hap' : ∀ b ∈ rowB en, b ∉ rowB dn := fun b hb hb' => hap b hb' hb
  have e13 := e12.then0 e3
  have l3 := (l1.ext0 e2).ext0 e3
  have d3 := (d2'.ext0 e3).mono (w0 := w) e1.size
  have n3 := n3.mono (w0 := w) e12.size
  have hll := l3.len
  have hdll := d3.len
  have hnl := n3.len
  intro w4 hw4
  have e34 := Ext.drew' hw4
  have e4 := e13.then0 e34
  have g4 := g.ext0 e4
  have l4 := l3.ext0 e34
  have d4 := d3.ext0 e34
  have n4 := n3.ext0 e34
  refine VNN.i (VLd.s s2 g4.rd0 (VNN.i (VLd.s d2 g4.rd1 ?_)))
  have hc1 : (!((((l.len : Nat) : Int) != ((s2.len : Nat) : Int)) || (((dn.len : Nat) : Int) != ((en.len : Nat) : Int)))) = true := by
    rw [hll, hsl, hdll, hnl]; simp
  refine VCall.on hc1 (VCall.i (Stores_spec w0 w4 q s d c (h.ext0 e4)) ?_)
  rintro e w5 ⟨rfl, hw5⟩
  subst hw5
  refine exW.i1 (t := .int .i64) _ rfl ⟨fun _ => g4.rd1, ?_⟩
  have hc2 : (!(((((l.len : Nat) : Int) != ((s2.len : Nat) : Int)) || (((dn.len : Nat) : Int) != ((en.len : Nat) : Int))) || (((c.D.length : Nat) : Int) != ((d2.len : Nat) : Int)))) = true := by
    rw [hll, hsl, hdll, hnl, hdl]; simp
  refine VCall.on hc2 (VCall.i (Encode_spec w0 w5 q s d c (h.ext0 e4)) ?_)
  rintro e w6 ⟨b6, rfl, hb6, e56⟩
  refine exW.i1 (t := .str) b6 rfl (VCall.on hc2 (VCall.i (XEncode_spec w0' w6 q2 s2 d2 c (g4.ext0 e56)) ?_))
  rintro e w7 ⟨b7, rfl, hb7, e67⟩
  refine exW.i1 (t := .str) b7 rfl (VIf.f (by rw [strEq, hb6, hb7, hll, hsl, hdll, hnl, hdl]; simp) ?_)
  have e57 := e56.then0 e67
  have e7 := e4.then0 e57
  refine ⟨fun k i W => ∃ (m : Nat) (A : List Pl), i = (m : Int) ∧ m ≤ c.P.length ∧ k = c.P.length - m ∧ A.length = m ∧ OwnR plR 35 w W l (A ++ c.P.drop m) ∧ OwnR inR 3 w W dn (dnl c.D c.D.length) ∧ OwnR inR 3 w W en (dnl c.D c.D.length) ∧ Ext [] w W,
    ⟨_, 0, [], rfl, by omega, rfl, rfl, l4.ext0 e57, d4.ext0 e57, n4.ext0 e57, e7⟩, ?_⟩
  rintro k i w8 ⟨m, A, rfl, hm, rfl, hA, l8, d8, n8, e8⟩
  refine VIf.mk (fun hc => ?_) (fun hc => ?_)
  · have hm' : m < c.P.length := by simp at hc; omega
    intro w9 hw9
    have e89 := Ext.drew' hw9
    have l9 := l8.ext0 e89
    have d9 := d8.ext0 e89
    have n9 := n8.ext0 e89
    have e9 := e8.then0 e89
    have g9 := g.ext0 e9
    have hlt : m < (A ++ c.P.drop m).length := by simp; omega
    have hget : (A ++ c.P.drop m)[m] = c.P[m] := by
      rw [List.getElem_append_right (by omega), List.getElem_drop]
      congr 1; omega
    refine VIx.rec l9.seg hlt rfl fun a hrd => ?_
    rw [hget] at hrd
    refine VLd.i3 _ _ _ hrd (VNN.i (VLd.s s2 g9.rd0 ?_))
    refine VIx.rec g9.p.seg hm' rfl fun a2 hrd2 => ?_
    refine VLd.i3 _ _ _ hrd2 (VIf.f (by simp) ?_)
    refine Row.putR (r := plR) (j := 1) (vs := [.int .i64 9]) (x := ((c.P[m]).1, 9, (c.P[m]).2.2)) l9.1 hlt (by show 1 + 1 ≤ 3; omega) rfl (by rw [hget]; rfl) (fun a => rfl) fun w10 r10 e910 => ?_
    rw [take_set_drop _ _ _ _ (by simpa using hm') hA] at r10
    have hl10 : OwnR plR 35 w w10 l ((A ++ [((c.P[m]).1, 9, (c.P[m]).2.2)]) ++ c.P.drop (m + 1)) := ⟨r10, l9.2⟩
    rw [w64 (n := (m : Int) + 1) (by omega)]
    refine VSet.i ⟨_, by omega, m + 1, _, rfl, by omega, rfl, by simp [hA], hl10, d9.ext e910 (d9.sepT l9 (by decide)), n9.ext e910 (n9.sepT l9 (by decide)), ?_⟩
    exact e9.then e910 (fun i hi hlt => by have := l9.2 i hi; omega)
  · refine ⟨fun k i W => ∃ (m : Nat) (A : List Int), i = (m : Int) ∧ m ≤ (dnl c.D c.D.length).length ∧ k = (dnl c.D c.D.length).length - m ∧ A.length = m ∧ OwnR inR 3 w W dn (A ++ (dnl c.D c.D.length).drop m) ∧ OwnR inR 3 w W en (dnl c.D c.D.length) ∧ Ext [] w W,
      ⟨_, 0, [], rfl, by omega, rfl, rfl, d8, n8, e8⟩, ?_⟩
    rintro k i w11 ⟨m, A, rfl, hm, rfl, hA, d11, n11, e11⟩
    refine VIf.mk (fun hc2 => ?_) (fun hc2 => ⟨rfl, e11⟩)
    have hm' : m < (dnl c.D c.D.length).length := by simp at hc2; omega
    intro w12 hw12
    have e112 := Ext.drew' hw12
    have d12 := d11.ext0 e112
    have n12 := n11.ext0 e112
    have e12 := e11.then0 e112
    have hlt : m < (A ++ (dnl c.D c.D.length).drop m).length := by simp; omega
    have hget : (A ++ (dnl c.D c.D.length).drop m)[m] = (dnl c.D c.D.length)[m] := by
      rw [List.getElem_append_right (by omega), List.getElem_drop]
      congr 1; omega
    refine VIx.rec d12.seg hlt rfl fun a hrd => ?_
    rw [hget] at hrd
    refine VLd.i1 _ hrd (VIx.rec n12.seg hm' rfl fun a2 hrd2 => VLd.i1 _ hrd2 (VIf.f (by simp) ?_))
    refine Row.putR (r := inR) (j := 0) (vs := [.int .i64 (-1)]) (x := -1) d12.1 hlt (by show 0 + 1 ≤ 1; omega) rfl rfl (fun a => (add_zero _).symm) fun w13 r13 e1213 => ?_
    rw [take_set_drop _ _ _ _ (by simpa using hm') hA] at r13
    have hl13 : OwnR inR 3 w w13 dn ((A ++ [-1]) ++ (dnl c.D c.D.length).drop (m + 1)) := ⟨r13, d12.2⟩
    rw [w64 (n := (m : Int) + 1) (by omega)]
    refine VSet.i ⟨_, by omega, m + 1, _, rfl, by omega, rfl, by simp [hA], hl13, n12.ext e1213 hap', ?_⟩
    exact e12.then e1213 (fun i hi hlt => by have := d12.2 i hi; omega)

theorem bad_iff (n E O T : Int) : (((((decide (O > n)) || (decide (T > n))) || (!((E == 0) == (O == 0)))) || ((O == 0) && (T != 0))) || ((T != 0) && (T == O))) = !decide (stOk n (E, O, T)) := by
  have hb : ((E == 0) == (O == 0)) = decide (E = 0 ↔ O = 0) := by
    by_cases h1 : E = 0 <;> by_cases h2 : O = 0 <;> simp only [h1, h2, beq_self_eq_true, iff_self, decide_true, iff_false, false_iff, not_false_eq_true]
    · rw [beq_eq_false_iff_ne.2 h2]; simp
    · rw [beq_eq_false_iff_ne.2 h1]; simp
    · rw [beq_eq_false_iff_ne.2 h1, beq_eq_false_iff_ne.2 h2]; rfl
  rw [hb, Bool.eq_iff_iff]
  simp only [Bool.or_eq_true, Bool.and_eq_true, decide_eq_true_eq, Bool.not_eq_true', decide_eq_false_iff_not, beq_iff_eq, bne_iff_ne, ne_eq]
  unfold stOk may
  simp only
  omega
theorem rPls_len (M : Int) (st : St) : ∀ k, (rPls M k st).1.length = k
  | 0 => rfl
  | k + 1 => by simp only [rPls, List.length_append, rPls_len M st k, List.length_singleton]
theorem rPls_pre (M : Int) (st : St) (m : Nat) : ∀ j, ∃ t, (rPls M (m + j) st).1 = (rPls M m st).1 ++ t
  | 0 => ⟨[], by simp⟩
  | j + 1 => by
    obtain ⟨t, ht⟩ := rPls_pre M st m j
    refine ⟨t ++ [(rPl M (rPls M (m + j) st).2).1], ?_⟩
    rw [← Nat.add_assoc]
    simp only [rPls]
    rw [ht, List.append_assoc]
theorem CfgR.lt {T : TypeId} {w0 w : World} {q : Nat} {s d : Sl} {c : CM} (h : CfgR T w0 w q s d c) : ∀ b ∈ fpc q s d, b < w.heap.size := by
  intro b hb
  simp only [fpc, List.mem_cons, List.mem_append] at hb
  rcases hb with rfl | hb | hb
  · exact h.bk.lt
  · exact h.p.1.lt b hb
  · exact h.d.1.lt b hb
theorem RepX.no {w0 w : World} {x rd_ : Nat} {st : St} {q : Nat} {s d : Sl} {c : CM} (h : RepX w x rd_ st) (k : CfgR 69 w0 w q s d c) : ∀ b ∈ fpc q s d, b ∉ [x] := by
  intro b hb
  simp only [fpc, List.mem_cons, List.mem_append] at hb
  rcases hb with rfl | hb | hb
  · exact h.ne k.bk (by decide)
  · obtain ⟨_, k1⟩ := k.p.1.bk_of hb
    exact h.ne k1 (by decide)
  · obtain ⟨_, k1⟩ := k.d.1.bk_of hb
    exact h.ne k1 (by decide)
end Go.Proofs.Ytfihhleaciddpaa
