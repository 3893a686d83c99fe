import Derived.Test.YtknohdgcigcmdaaEngY
import Derived.Test.YtknohdgcigcmdaaNodeTa
namespace Go.Proofs.Ytknohdgcigcmdaa
open Go.ChangeShapes Go.WideShapes Go.ChangeAt Go.RowKit Go.WideElems Go.Deep
set_option maxRecDepth 100000

theorem sumTo_get (f : Nat → Nat) : ∀ n i, i < n → f i ≤ sumTo f n
  | 0, i, h => absurd h (by omega)
  | n + 1, i, h => by
    unfold sumTo
    by_cases e : i = n
    · subst e; omega
    · have := sumTo_get f n i (by omega)
      omega
theorem it_cells (L : List Int) : itR.cells L = L.map (Value.int .i64) := by
  unfold Rec.cells
  induction L with
  | nil => rfl
  | cons x L ih => rw [List.flatMap_cons, List.map_cons, ih]; rfl

theorem NodeTurns_lifted (os : Os) (started : os.Started) (H : Type) (enc : TypeId × Value → H) (F : Stop.Interp) :
    ReturnsInHanded {} Try.checked os 3 .any ((Rows.OpenSpec.upto Rows.nodeTurnsSpec).pre6 enc Try.prog Try.f3 Rows.nodeTurnsUptoRow.domain false) (((Rows.OpenSpec.upto Rows.nodeTurnsSpec).at F).post enc Try.prog Try.f3 false true false false) := by
  refine returnsInHanded_of_cond (C := Try.checked) (s := Rows.OpenSpec.upto Rows.nodeTurnsSpec) (k := Rows.uptoSmall) rfl Try.own started (by kernel_rfl) Try.func3
    (OpenSpec.witness (enc := enc) (C := Try.checked) (s := Rows.OpenSpec.upto Rows.nodeTurnsSpec) (k := Rows.uptoSmall) rfl false ⟨#[], #[.agg #[.bool false, .slice none 0 0, .slice none 0 0], .agg #[.bool false, .slice none 0 0, .slice none 0 0], .string ⟨#[]⟩], []⟩ 8 (by kernel_rfl) (by kernel_rfl) (by kernel_rfl)
      (x := ([.agg [.lit (.bool false), .nil, .nil], .agg [.lit (.bool false), .nil, .nil], .lit (.string [])], [], [])) (by kernel_rfl) rfl (by kernel_rfl)) ?_
  intro W base args ds gs before hval0 hW _ hk _
  have hval : ∀ (j : Nat) t v, Try.f3.params[j]? = some t → args[j]? = some v → Value.okWide Try.prog W .any base t v := hval0
  have hW' := hW
  obtain ⟨p, q, hA0, hV, rfl, hfz, hnd⟩ := hW
  have hA : DataW.TrodAll enc Try.prog W 0 (fun _ => true) true Try.f3.params.toList args.toList ds p := hA0
  rw [Try.params3] at hA hval
  obtain ⟨rfl, rfl⟩ := trodVars_none hV
  clear hA0 hval0
  obtain ⟨v0, vs0, d0, ds0, p0, q0, hv0, hd0, hp0, h0, hA0⟩ := trodAll_cons hA
  obtain ⟨v1, vs1, d1, ds1, p1, q1, hv1, hd1, hp1, h1, hA1⟩ := trodAll_cons hA0
  obtain ⟨v2, vs2, d2, ds2, p2, q2, hv2, hd2, hp2, h2, hA2⟩ := trodAll_cons hA1
  obtain ⟨hvE, hdE⟩ := trodAll_nil hA2
  subst hvE hdE
  subst hv2 hd2
  subst hv1 hd1
  subst hd0
  obtain ⟨args⟩ := args
  simp only [] at hv0; subst hv0
  obtain ⟨cs0, rfl, H0⟩ := hold_agg (s := [.bool, .sl [.str, .str, .int .i64, .int .i64], .sl [.int .i64]]) 8 (by kernel_rfl) Try.underlying25 (hval 0 _ v0 rfl rfl) h0
  simp only [HoldL] at H0
  obtain ⟨_, _, B00, R00, rfl, q00, ⟨_, _, B01, R01, rfl, q01, ⟨_, _, B02, R02, rfl, q02, rfl, z02⟩, z01⟩, z00⟩ := H0
  simp only [HoldV] at q00 q01 q02
  obtain ⟨f0, rfl⟩ := q00
  obtain ⟨ca0, cn0, cc0, cb0, rfl, cl0, cm0, cz0, ⟨cg0, cgg0⟩, cr0⟩ := q01
  obtain ⟨ka0, kn0, kc0, kb0, rfl, kl0, km0, kz0, ⟨kg0, kgg0⟩, kr0⟩ := q02
  obtain ⟨cs1, rfl, H1⟩ := hold_agg (s := [.bool, .sl [.str, .str, .int .i64, .int .i64], .sl [.int .i64]]) 8 (by kernel_rfl) Try.underlying25 (hval 1 _ v1 rfl rfl) h1
  simp only [HoldL] at H1
  obtain ⟨_, _, B10, R10, rfl, q10, ⟨_, _, B11, R11, rfl, q11, ⟨_, _, B12, R12, rfl, q12, rfl, z12⟩, z11⟩, z10⟩ := H1
  simp only [HoldV] at q10 q11 q12
  obtain ⟨f1, rfl⟩ := q10
  obtain ⟨ca1, cn1, cc1, cb1, rfl, cl1, cm1, cz1, ⟨cg1, cgg1⟩, cr1⟩ := q11
  obtain ⟨ka1, kn1, kc1, kb1, rfl, kl1, km1, kz1, ⟨kg1, kgg1⟩, kr1⟩ := q12
  have H2 := hold_one (s := .str) 6 (by kernel_rfl) (by kernel_rfl) (hval 2 _ v2 rfl rfl) h2
  simp only [HoldV] at H2
  obtain ⟨x2, rfl, w2⟩ := H2
  have hk2 : Rows.uptoBulkAll _ ≤ 1048576 := of_decide_eq_true hk
  simp only [Rows.uptoBulkAll, List.append_nil, List.nil_append, List.cons_append] at hk2
  have hrow0 : ∀ i, i < cn0 → ∃ x : Ce, (x.key.size ≤ 2000000 ∧ x.val.size ≤ 2000000) ∧ ∃ a0, ca0 = some a0 ∧ Rd W (a0.add (i * ceR.k)) (ceR.f x) := by
    intro i hi
    obtain ⟨q0, ys, hq0, hl, hrd, hh⟩ := cr0 i hi
    simp only [HoldL, HoldV] at hh
    obtain ⟨_, _, _, _, rfl, ⟨a0, rfl, wa0⟩, ⟨_, _, _, _, rfl, ⟨a1, rfl, wa1⟩, ⟨_, _, _, _, rfl, ⟨a2, rfl, wa2⟩, ⟨_, _, _, _, rfl, ⟨a3, rfl, wa3⟩, rfl, y3⟩, y2⟩, y1⟩, y0⟩ := hh
    have hsum := sumTo_get cb0 cn0 i hi
    exact ⟨⟨a0, a1, a2, a3⟩, ⟨by show a0.size ≤ 2000000; omega, by show a1.size ≤ 2000000; omega⟩, q0, hq0, hrd⟩
  obtain ⟨LC0, hLC0, hPC0, hSC0⟩ := seg_recs ceR hrow0
  have hinC0 : InR ceR W ⟨ca0, cn0, cc0⟩ LC0 := ⟨hSC0, cl0, by unfold maxLen at cm0; exact cm0⟩
  obtain ⟨LK0, hLK0, hRK0, hSK0⟩ := seg_ints kr0
  have hinK0 : InR itR W ⟨ka0, kn0, kc0⟩ LK0 := ⟨by rw [it_cells]; exact hSK0, kl0, by unfold maxLen at km0; exact km0⟩
  have hB0 : Bulk ⟨f0, LC0, LK0⟩ := ⟨by show LC0.length ≤ 2000000; omega, by show LK0.length ≤ 2000000; omega, hPC0⟩
  have hrow1 : ∀ i, i < cn1 → ∃ x : Ce, (x.key.size ≤ 2000000 ∧ x.val.size ≤ 2000000) ∧ ∃ a0, ca1 = some a0 ∧ Rd W (a0.add (i * ceR.k)) (ceR.f x) := by
    intro i hi
    obtain ⟨q0, ys, hq0, hl, hrd, hh⟩ := cr1 i hi
    simp only [HoldL, HoldV] at hh
    obtain ⟨_, _, _, _, rfl, ⟨a0, rfl, wa0⟩, ⟨_, _, _, _, rfl, ⟨a1, rfl, wa1⟩, ⟨_, _, _, _, rfl, ⟨a2, rfl, wa2⟩, ⟨_, _, _, _, rfl, ⟨a3, rfl, wa3⟩, rfl, y3⟩, y2⟩, y1⟩, y0⟩ := hh
    have hsum := sumTo_get cb1 cn1 i hi
    exact ⟨⟨a0, a1, a2, a3⟩, ⟨by show a0.size ≤ 2000000; omega, by show a1.size ≤ 2000000; omega⟩, q0, hq0, hrd⟩
  obtain ⟨LC1, hLC1, hPC1, hSC1⟩ := seg_recs ceR hrow1
  have hinC1 : InR ceR W ⟨ca1, cn1, cc1⟩ LC1 := ⟨hSC1, cl1, by unfold maxLen at cm1; exact cm1⟩
  obtain ⟨LK1, hLK1, hRK1, hSK1⟩ := seg_ints kr1
  have hinK1 : InR itR W ⟨ka1, kn1, kc1⟩ LK1 := ⟨by rw [it_cells]; exact hSK1, kl1, by unfold maxLen at km1; exact km1⟩
  have hB1 : Bulk ⟨f1, LC1, LK1⟩ := ⟨by show LC1.length ≤ 2000000; omega, by show LK1.length ≤ 2000000; omega, hPC1⟩
  refine (NodeTurns_law ⟨ca0, cn0, cc0⟩ ⟨ka0, kn0, kc0⟩ ⟨ca1, cn1, cc1⟩ ⟨ka1, kn1, kc1⟩ ⟨f0, LC0, LK0⟩ ⟨f1, LC1, LK1⟩ x2 W ⟨hinC0, hinK0⟩ ⟨hinC1, hinK1⟩ hB0 hB1).mono fun e W' ⟨he, hw⟩ => ?_
  subst he
  exact ⟨_, rfl, post_true Try.laidOut (by kernel_rfl) rfl rfl (tb := 4) Try.underlying4 hW' rfl hw⟩

theorem NodeTurns_holds : Rows.NodeTurnsUptoSaid :=
  OpenClaim.holds_of_cond 3 Try.f3 rfl rfl rfl rfl rfl rfl rfl ⟨rfl, rfl, rfl, rfl, rfl⟩ rfl rfl rfl rfl rfl (by kernel_rfl) Try.func3 (by kernel_rfl)
    (of_decide_eq_true (by kernel_rfl)) (by unfold Func.isWrapper; first | (rw [if_pos (by decide +kernel)]; kernel_rfl) | (rw [if_neg (by decide +kernel)]; exact ⟨rfl, rfl⟩))
    (fun os started H enc _ F => NodeTurns_lifted os started H enc F)

#print axioms NodeTurns_holds
end Go.Proofs.Ytknohdgcigcmdaa
