import Derived.Test.YtknohdgcigcmdaaEngY
import Derived.Test.YtknohdgcigcmdaaNodeVx
namespace Go.Proofs.Ytknohdgcigcmdaa
open Go.ChangeShapes Go.WideShapes Go.ChangeAt Go.RowKit Go.WideElems Go.Deep
set_option maxRecDepth 100000

theorem sumTo_get (f : Nat → Nat) : ∀ n i, i < n → f i ≤ sumTo f n
  | 0, i, h => absurd h (by omega)
  | n + 1, i, h => by
    unfold sumTo
    by_cases e : i = n
    · subst e; omega
    · have := sumTo_get f n i (by omega)
      omega
theorem it_cells (L : List Int) : itR.cells L = L.map (Value.int .i64) := by
  unfold Rec.cells
  induction L with
  | nil => rfl
  | cons x L ih => rw [List.flatMap_cons, List.map_cons, ih]; rfl

theorem NodeBack_lifted (os : Os) (started : os.Started) (H : Type) (enc : TypeId × Value → H) :
    ReturnsInHanded {} Try.checked os 7 .any (Rows.nodeBackSpec.pre6 enc Try.prog Try.f7 Rows.nodeBackRow.domain false) (Rows.nodeBackSpec.post enc Try.prog Try.f7 false true false false) := by
  refine returnsInHanded_of_change (C := Try.checked) Try.own started (by kernel_rfl) Try.func7
    (ChangeSpec.witness6 (enc := enc) (C := Try.checked) false ⟨#[], #[.agg #[.bool false, .slice none 0 0, .slice none 0 0], .int .i64 0, .slice none 0 0], []⟩ 8 (by kernel_rfl) (by kernel_rfl) (by kernel_rfl) (by kernel_rfl)) ?_
  intro W base args ds gs before hval0 hW hcnd _
  have hval : ∀ (j : Nat) t v, Try.f7.params[j]? = some t → args[j]? = some v → Value.okWide Try.prog W .any base t v := hval0
  have hW' := hW
  obtain ⟨p, q, hA0, hV, rfl, hfz, hnd⟩ := hW
  have hA : DataW.TrodAll enc Try.prog W 0 (fun _ => true) true Try.f7.params.toList args.toList ds p := hA0
  rw [Try.params7] at hA hval
  obtain ⟨rfl, rfl⟩ := trodVars_none hV
  clear hA0 hval0
  obtain ⟨v0, vs0, d0, ds0, p0, q0, hv0, hd0, hp0, h0, hA0⟩ := trodAll_cons hA
  obtain ⟨v1, vs1, d1, ds1, p1, q1, hv1, hd1, hp1, h1, hA1⟩ := trodAll_cons hA0
  obtain ⟨v2, vs2, d2, ds2, p2, q2, hv2, hd2, hp2, h2, hA2⟩ := trodAll_cons hA1
  obtain ⟨hvE, hdE⟩ := trodAll_nil hA2
  subst hvE hdE
  subst hv2 hd2
  subst hv1 hd1
  subst hd0
  obtain ⟨args⟩ := args
  simp only [] at hv0; subst hv0
  obtain ⟨cs0, rfl, H0⟩ := hold_agg (s := [.bool, .sl [.str, .str, .int .i64, .int .i64], .sl [.int .i64]]) 8 (by kernel_rfl) Try.underlying25 (hval 0 _ v0 rfl rfl) h0
  simp only [HoldL] at H0
  obtain ⟨_, _, B00, R00, rfl, q00, ⟨_, _, B01, R01, rfl, q01, ⟨_, _, B02, R02, rfl, q02, rfl, z02⟩, z01⟩, z00⟩ := H0
  simp only [HoldV] at q00 q01 q02
  obtain ⟨f0, rfl⟩ := q00
  obtain ⟨ca0, cn0, cc0, cb0, rfl, cl0, cm0, cz0, ⟨cg0, cgg0⟩, cr0⟩ := q01
  obtain ⟨ka0, kn0, kc0, kb0, rfl, kl0, km0, kz0, ⟨kg0, kgg0⟩, kr0⟩ := q02
  have H1 := hold_one (s := (.int .i64)) 6 (by kernel_rfl) (by kernel_rfl) (hval 1 _ v1 rfl rfl) h1
  simp only [HoldV] at H1
  obtain ⟨x1, rfl, w1⟩ := H1
  have H2 := hold_one (s := (.sl [(.int .u8)])) 6 (by kernel_rfl) (by kernel_rfl) (hval 2 _ v2 rfl rfl) h2
  simp only [HoldV] at H2
  obtain ⟨x2a, x2n, x2c, x2b, rfl, x2l, x2m, x2z, ⟨x2g, x2g2⟩, x2r⟩ := H2
  have hrow0 : ∀ i, i < cn0 → ∃ x : Ce, True ∧ ∃ a0, ca0 = some a0 ∧ Rd W (a0.add (i * ceR.k)) (ceR.f x) := by
    intro i hi
    obtain ⟨q0, ys, hq0, hl, hrd, hh⟩ := cr0 i hi
    simp only [HoldL, HoldV] at hh
    obtain ⟨_, _, _, _, rfl, ⟨a0, rfl, wa0⟩, ⟨_, _, _, _, rfl, ⟨a1, rfl, wa1⟩, ⟨_, _, _, _, rfl, ⟨a2, rfl, wa2⟩, ⟨_, _, _, _, rfl, ⟨a3, rfl, wa3⟩, rfl, y3⟩, y2⟩, y1⟩, y0⟩ := hh
    exact ⟨⟨a0, a1, a2, a3⟩, trivial, q0, hq0, hrd⟩
  obtain ⟨LC0, hLC0, hPC0, hSC0⟩ := seg_recs ceR hrow0
  have hinC0 : InR ceR W ⟨ca0, cn0, cc0⟩ LC0 := ⟨hSC0, cl0, by unfold maxLen at cm0; exact cm0⟩
  obtain ⟨LK0, hLK0, hRK0, hSK0⟩ := seg_ints kr0
  have hinK0 : InR itR W ⟨ka0, kn0, kc0⟩ LK0 := ⟨by rw [it_cells]; exact hSK0, kl0, by unfold maxLen at km0; exact km0⟩
  obtain ⟨T2, hT2l, hT2r, hT2s⟩ := seg_ints x2r
  obtain ⟨t2, ht2l, hte2⟩ := ints_bc T2 hT2r
  rw [hte2] at hT2s
  have hin2 : In W ⟨x2a, x2n, x2c⟩ t2 := ⟨hT2s, x2l, by unfold maxLen at x2m; exact x2m⟩
  refine (NodeBack_any ⟨ca0, cn0, cc0⟩ ⟨ka0, kn0, kc0⟩ ⟨x2a, x2n, x2c⟩ ⟨f0, LC0, LK0⟩ x1 t2 W ⟨hinC0, hinK0⟩ hin2).mono fun e W' ⟨he, hw⟩ => ?_
  subst he
  exact ⟨_, rfl, post_true Try.laidOut (by kernel_rfl) rfl rfl (tb := 4) Try.underlying4 hW' rfl hw⟩

theorem NodeBack_holds : Rows.NodeBackSaid :=
  OpenClaim.holds_of_wide 7 Try.f7 rfl rfl rfl rfl rfl rfl rfl ⟨rfl, rfl, rfl, rfl, rfl⟩ rfl rfl rfl rfl rfl (by kernel_rfl) Try.func7 (by kernel_rfl)
    (of_decide_eq_true (by kernel_rfl)) (by unfold Func.isWrapper; first | (rw [if_pos (by decide +kernel)]; kernel_rfl) | (rw [if_neg (by decide +kernel)]; exact ⟨rfl, rfl⟩))
    (fun os started H enc _ => NodeBack_lifted os started H enc)

#print axioms NodeBack_holds
end Go.Proofs.Ytknohdgcigcmdaa
