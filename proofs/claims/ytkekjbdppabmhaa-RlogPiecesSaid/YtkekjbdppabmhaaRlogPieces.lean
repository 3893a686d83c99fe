import Derived.Test.YtkekjbdppabmhaaEngY
import Derived.Test.YtkekjbdppabmhaaRlogR
namespace Go.Proofs.Ytkekjbdppabmhaa
open Go.ChangeShapes Go.WideShapes Go.ChangeAt Go.RowKit Go.WideElems Go.Deep
set_option maxRecDepth 100000


theorem RlogPieces_lifted (os : Os) (started : os.Started) (H : Type) (enc : TypeId × Value → H) :
    ReturnsInHanded {} Try.checked os 3 .any (Rows.rlogPiecesSpec.pre6 enc Try.prog Try.f3 Rows.rlogPiecesRow.domain false) (Rows.rlogPiecesSpec.post enc Try.prog Try.f3 false true false false) := by
  refine returnsInHanded_of_change (C := Try.checked) Try.own started (by kernel_rfl) Try.func3
    (ChangeSpec.witness6 (enc := enc) (C := Try.checked) false ⟨#[], #[.slice none 0 0, .int .i64 0, .slice none 0 0, .int .i64 0, .slice none 0 0], []⟩ 8 (by kernel_rfl) (by kernel_rfl) (by kernel_rfl) (by kernel_rfl)) ?_
  intro W base args ds gs before hval0 hW hcnd _
  have hval : ∀ (j : Nat) t v, Try.f3.params[j]? = some t → args[j]? = some v → Value.okWide Try.prog W .any base t v := hval0
  have hW' := hW
  obtain ⟨p, q, hA0, hV, rfl, hfz, hnd⟩ := hW
  have hA : DataW.TrodAll enc Try.prog W 0 (fun _ => true) true Try.f3.params.toList args.toList ds p := hA0
  rw [Try.params3] at hA hval
  obtain ⟨rfl, rfl⟩ := trodVars_none hV
  clear hA0 hval0
  obtain ⟨v0, vs0, d0, ds0, p0, q0, hv0, hd0, hp0, h0, hA0⟩ := trodAll_cons hA
  obtain ⟨v1, vs1, d1, ds1, p1, q1, hv1, hd1, hp1, h1, hA1⟩ := trodAll_cons hA0
  obtain ⟨v2, vs2, d2, ds2, p2, q2, hv2, hd2, hp2, h2, hA2⟩ := trodAll_cons hA1
  obtain ⟨v3, vs3, d3, ds3, p3, q3, hv3, hd3, hp3, h3, hA3⟩ := trodAll_cons hA2
  obtain ⟨v4, vs4, d4, ds4, p4, q4, hv4, hd4, hp4, h4, hA4⟩ := trodAll_cons hA3
  obtain ⟨hvE, hdE⟩ := trodAll_nil hA4
  subst hvE hdE
  subst hv4 hd4
  subst hv3 hd3
  subst hv2 hd2
  subst hv1 hd1
  subst hd0
  obtain ⟨args⟩ := args
  simp only [] at hv0; subst hv0
  have H0 := hold_one (s := (.sl [(.int .u8)])) 6 (by kernel_rfl) (by kernel_rfl) (hval 0 _ v0 rfl rfl) h0
  simp only [HoldV] at H0
  obtain ⟨x0a, x0n, x0c, x0b, rfl, x0l, x0m, x0z, ⟨x0g, x0g2⟩, x0r⟩ := H0
  have H1 := hold_one (s := (.int .i64)) 6 (by kernel_rfl) (by kernel_rfl) (hval 1 _ v1 rfl rfl) h1
  simp only [HoldV] at H1
  obtain ⟨x1, rfl, w1⟩ := H1
  have H2 := hold_one (s := (.sl [(.int .u8)])) 6 (by kernel_rfl) (by kernel_rfl) (hval 2 _ v2 rfl rfl) h2
  simp only [HoldV] at H2
  obtain ⟨x2a, x2n, x2c, x2b, rfl, x2l, x2m, x2z, ⟨x2g, x2g2⟩, x2r⟩ := H2
  have H3 := hold_one (s := (.int .i64)) 6 (by kernel_rfl) (by kernel_rfl) (hval 3 _ v3 rfl rfl) h3
  simp only [HoldV] at H3
  obtain ⟨x3, rfl, w3⟩ := H3
  have H4 := hold_one (s := (.sl [(.int .i64), (.int .i64)])) 6 (by kernel_rfl) (by kernel_rfl) (hval 4 _ v4 rfl rfl) h4
  simp only [HoldV] at H4
  obtain ⟨x4a, x4n, x4c, x4b, rfl, x4l, x4m, x4z, ⟨x4g, x4g2⟩, x4r⟩ := H4
  obtain ⟨T0, hT0l, hT0r, hT0s⟩ := seg_ints x0r
  obtain ⟨t0, ht0l, hte0⟩ := ints_bc T0 hT0r
  rw [hte0] at hT0s
  have hin0 : In W ⟨x0a, x0n, x0c⟩ t0 := ⟨hT0s, x0l, by unfold maxLen at x0m; exact x0m⟩
  obtain ⟨T2, hT2l, hT2r, hT2s⟩ := seg_ints x2r
  obtain ⟨t2, ht2l, hte2⟩ := ints_bc T2 hT2r
  rw [hte2] at hT2s
  have hin2 : In W ⟨x2a, x2n, x2c⟩ t2 := ⟨hT2s, x2l, by unfold maxLen at x2m; exact x2m⟩
  have hrow4 : ∀ i, i < x4n → ∃ x, (fun _ => True) x ∧ ∃ a0, x4a = some a0 ∧ Rd W (a0.add (i * (plR).k)) ((plR).f x) := by
    intro i hi
    obtain ⟨q0, ys, hq0, hl, hrd, hh⟩ := x4r i hi
    simp only [HoldL, HoldV] at hh
    obtain ⟨_, _, _, _, rfl, ⟨a0, rfl, wa0⟩, ⟨_, _, _, _, rfl, ⟨a1, rfl, wa1⟩, rfl, _⟩, _⟩ := hh
    exact ⟨⟨a0, a1⟩, trivial, q0, hq0, hrd⟩
  obtain ⟨L4, hL4l, hP4, hS4⟩ := seg_recs (plR) hrow4
  have hin4 : InR (plR) W ⟨x4a, x4n, x4c⟩ L4 := ⟨hS4, x4l, by unfold maxLen at x4m; exact x4m⟩
  refine (Pieces_law ⟨x0a, x0n, x0c⟩ ⟨x2a, x2n, x2c⟩ ⟨x4a, x4n, x4c⟩ t0 t2 L4 x1 x3 W hin0 hin2 hin4).mono fun e W' ⟨he, hw⟩ => ?_
  subst he
  exact ⟨_, rfl, post_true Try.laidOut (by kernel_rfl) rfl rfl (tb := 4) Try.underlying4 hW' rfl hw⟩

theorem RlogPieces_holds : Rows.RlogPiecesSaid :=
  OpenClaim.holds_of_wide 3 Try.f3 rfl rfl rfl rfl rfl rfl rfl ⟨rfl, rfl, rfl, rfl, rfl⟩ rfl rfl rfl rfl rfl (by kernel_rfl) Try.func3 (by kernel_rfl)
    (of_decide_eq_true (by kernel_rfl)) (by unfold Func.isWrapper; first | (rw [if_pos (by decide +kernel)]; kernel_rfl) | (rw [if_neg (by decide +kernel)]; exact ⟨rfl, rfl⟩))
    (fun os started H enc _ => RlogPieces_lifted os started H enc)

#print axioms RlogPieces_holds
end Go.Proofs.Ytkekjbdppabmhaa
