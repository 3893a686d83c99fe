import Derived.Test.YthpbkkjggnejcaaEngY
import Derived.Test.YthpbkkjggnejcaaCodeI
import Derived.Test.YthpbkkjggnejcaaPartsO
namespace Go.Proofs.Ythpbkkjggnejcaa
open Go.ChangeShapes Go.WideShapes Go.ChangeAt Go.RowKit Go.WideElems Go.Deep
set_option maxRecDepth 100000


theorem PartsWhole_lifted (os : Os) (started : os.Started) (H : Type) (enc : TypeId × Value → H) :
    ReturnsInHanded {} Try.checked os 7 .any (Rows.partsWholeSpec.pre6 enc Try.prog Try.f7 Rows.partsWholeRow.domain false) (Rows.partsWholeSpec.post enc Try.prog Try.f7 false true false false) := by
  refine returnsInHanded_of_change (C := Try.checked) Try.own started (by kernel_rfl) Try.func7
    (ChangeSpec.witness6 (enc := enc) (C := Try.checked) false ⟨#[], #[.slice none 0 0, .slice none 0 0, .slice none 0 0], []⟩ 8 (by kernel_rfl) (by kernel_rfl) (by kernel_rfl) (by kernel_rfl)) ?_
  intro W base args ds gs before hval0 hW hcnd _
  have hval : ∀ (j : Nat) t v, Try.f7.params[j]? = some t → args[j]? = some v → Value.okWide Try.prog W .any base t v := hval0
  have hW' := hW
  obtain ⟨p, q, hA0, hV, rfl, hfz, hnd⟩ := hW
  have hA : DataW.TrodAll enc Try.prog W 0 (fun _ => true) true Try.f7.params.toList args.toList ds p := hA0
  rw [Try.params7] at hA hval
  obtain ⟨rfl, rfl⟩ := trodVars_none hV
  clear hA0 hval0
  obtain ⟨v0, vs0, d0, ds0, p0, q0, hv0, hd0, hp0, h0, hA0⟩ := trodAll_cons hA
  obtain ⟨v1, vs1, d1, ds1, p1, q1, hv1, hd1, hp1, h1, hA1⟩ := trodAll_cons hA0
  obtain ⟨v2, vs2, d2, ds2, p2, q2, hv2, hd2, hp2, h2, hA2⟩ := trodAll_cons hA1
  obtain ⟨hvE, hdE⟩ := trodAll_nil hA2
  subst hvE hdE
  subst hv2 hd2
  subst hv1 hd1
  subst hd0
  obtain ⟨args⟩ := args
  simp only [] at hv0; subst hv0
  have H0 := hold_one (s := (.sl [(.int .u8)])) 6 (by kernel_rfl) (by kernel_rfl) (hval 0 _ v0 rfl rfl) h0
  simp only [HoldV] at H0
  obtain ⟨x0a, x0n, x0c, x0b, rfl, x0l, x0m, x0z, ⟨x0g, x0g2⟩, x0r⟩ := H0
  have H1 := hold_one (s := (.sl [(.int .u8)])) 6 (by kernel_rfl) (by kernel_rfl) (hval 1 _ v1 rfl rfl) h1
  simp only [HoldV] at H1
  obtain ⟨x1a, x1n, x1c, x1b, rfl, x1l, x1m, x1z, ⟨x1g, x1g2⟩, x1r⟩ := H1
  have H2 := hold_one (s := (.sl [(.int .i64)])) 6 (by kernel_rfl) (by kernel_rfl) (hval 2 _ v2 rfl rfl) h2
  simp only [HoldV] at H2
  obtain ⟨x2a, x2n, x2c, x2b, rfl, x2l, x2m, x2z, ⟨x2g, x2g2⟩, x2r⟩ := H2
  obtain ⟨T0, hT0l, hT0r, hT0s⟩ := seg_ints x0r
  obtain ⟨t0, ht0l, hte0⟩ := ints_bc T0 hT0r
  rw [hte0] at hT0s
  have hin0 : In W ⟨x0a, x0n, x0c⟩ t0 := ⟨hT0s, x0l, by unfold maxLen at x0m; exact x0m⟩
  obtain ⟨T1, hT1l, hT1r, hT1s⟩ := seg_ints x1r
  obtain ⟨t1, ht1l, hte1⟩ := ints_bc T1 hT1r
  rw [hte1] at hT1s
  have hin1 : In W ⟨x1a, x1n, x1c⟩ t1 := ⟨hT1s, x1l, by unfold maxLen at x1m; exact x1m⟩
  have hrow2 : ∀ i, i < x2n → ∃ x, (fun _ => True) x ∧ ∃ a0, x2a = some a0 ∧ Rd W (a0.add (i * (intR).k)) ((intR).f x) := by
    intro i hi
    obtain ⟨q0, ys, hq0, hl, hrd, hh⟩ := x2r i hi
    simp only [HoldL, HoldV] at hh
    obtain ⟨_, _, _, _, rfl, ⟨a0, rfl, wa0⟩, rfl, _⟩ := hh
    exact ⟨a0, trivial, q0, hq0, hrd⟩
  obtain ⟨L2, hL2l, hP2, hS2⟩ := seg_recs (intR) hrow2
  have hin2 : InR (intR) W ⟨x2a, x2n, x2c⟩ L2 := ⟨hS2, x2l, by unfold maxLen at x2m; exact x2m⟩
  refine (PartsWhole_law ⟨x0a, x0n, x0c⟩ ⟨x1a, x1n, x1c⟩ ⟨x2a, x2n, x2c⟩ t0 t1 L2 W hin0 hin1 hin2).mono fun e W' ⟨he, hw⟩ => ?_
  subst he
  exact ⟨_, rfl, post_true Try.laidOut (by kernel_rfl) rfl rfl (tb := 4) Try.underlying4 hW' rfl hw⟩

theorem PartsWhole_holds : Rows.PartsWholeSaid :=
  OpenClaim.holds_of_wide 7 Try.f7 rfl rfl rfl rfl rfl rfl rfl ⟨rfl, rfl, rfl, rfl, rfl⟩ rfl rfl rfl rfl rfl (by kernel_rfl) Try.func7 (by kernel_rfl)
    (of_decide_eq_true (by kernel_rfl)) (by unfold Func.isWrapper; first | (rw [if_pos (by decide +kernel)]; kernel_rfl) | (rw [if_neg (by decide +kernel)]; exact ⟨rfl, rfl⟩))
    (fun os started H enc _ => PartsWhole_lifted os started H enc)

#print axioms PartsWhole_holds
end Go.Proofs.Ythpbkkjggnejcaa
