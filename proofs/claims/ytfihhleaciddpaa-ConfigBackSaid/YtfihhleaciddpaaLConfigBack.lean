import Derived.Test.YtfihhleaciddpaaEngY
import Derived.Test.YtfihhleaciddpaaConfG
namespace Go.Proofs.Ytfihhleaciddpaa
open Go.ChangeShapes Go.WideShapes Go.ChangeAt Go.RowKit Go.WideElems Go.Deep
set_option maxRecDepth 100000


theorem ConfigBack_lifted (os : Os) (started : os.Started) (H : Type) (enc : TypeId × Value → H) :
    ReturnsInHanded {} Try.checked os 6 .any (Rows.configBackSpec.pre6 enc Try.prog Try.f6 Rows.configBackRow.domain false) (Rows.configBackSpec.post enc Try.prog Try.f6 false true false false) := by
  refine returnsInHanded_of_change (C := Try.checked) Try.own started (by kernel_rfl) Try.func6
    (ChangeSpec.witness6 (enc := enc) (C := Try.checked) false ⟨#[], #[.int .i64 0, .int .i64 0, .slice none 0 0, .slice none 0 0, .string ⟨#[]⟩], []⟩ 8 (by kernel_rfl) (by kernel_rfl) (by kernel_rfl) (by kernel_rfl)) ?_
  intro W base args ds gs before hval0 hW hcnd _
  have hval : ∀ (j : Nat) t v, Try.f6.params[j]? = some t → args[j]? = some v → Value.okWide Try.prog W .any base t v := hval0
  have hW' := hW
  obtain ⟨p, q, hA0, hV, rfl, hfz, hnd⟩ := hW
  have hA : DataW.TrodAll enc Try.prog W 0 (fun _ => true) true Try.f6.params.toList args.toList ds p := hA0
  rw [Try.params6] at hA hval
  obtain ⟨rfl, rfl⟩ := trodVars_none hV
  clear hA0 hval0
  obtain ⟨v0, vs0, d0, ds0, p0, q0, hv0, hd0, hp0, h0, hA0⟩ := trodAll_cons hA
  obtain ⟨v1, vs1, d1, ds1, p1, q1, hv1, hd1, hp1, h1, hA1⟩ := trodAll_cons hA0
  obtain ⟨v2, vs2, d2, ds2, p2, q2, hv2, hd2, hp2, h2, hA2⟩ := trodAll_cons hA1
  obtain ⟨v3, vs3, d3, ds3, p3, q3, hv3, hd3, hp3, h3, hA3⟩ := trodAll_cons hA2
  obtain ⟨v4, vs4, d4, ds4, p4, q4, hv4, hd4, hp4, h4, hA4⟩ := trodAll_cons hA3
  obtain ⟨hvE, hdE⟩ := trodAll_nil hA4
  subst hvE hdE
  subst hv4 hd4
  subst hv3 hd3
  subst hv2 hd2
  subst hv1 hd1
  subst hd0
  obtain ⟨args⟩ := args
  simp only [] at hv0; subst hv0
  have H0 := hold_one (s := (.int .i64)) 6 (by kernel_rfl) (by kernel_rfl) (hval 0 _ v0 rfl rfl) h0
  simp only [HoldV] at H0
  obtain ⟨x0, rfl, w0⟩ := H0
  have H1 := hold_one (s := (.int .i64)) 6 (by kernel_rfl) (by kernel_rfl) (hval 1 _ v1 rfl rfl) h1
  simp only [HoldV] at H1
  obtain ⟨x1, rfl, w1⟩ := H1
  have H2 := hold_one (s := (.sl [(.int .u8), (.int .i64), (.int .i64), (.int .i64)])) 6 (by kernel_rfl) (by kernel_rfl) (hval 2 _ v2 rfl rfl) h2
  simp only [HoldV] at H2
  obtain ⟨x2a, x2n, x2c, x2b, rfl, x2l, x2m, x2z, ⟨x2g, x2g2⟩, x2r⟩ := H2
  have H3 := hold_one (s := (.sl [(.int .u8), (.int .i64), (.int .i64), (.int .i64)])) 6 (by kernel_rfl) (by kernel_rfl) (hval 3 _ v3 rfl rfl) h3
  simp only [HoldV] at H3
  obtain ⟨x3a, x3n, x3c, x3b, rfl, x3l, x3m, x3z, ⟨x3g, x3g2⟩, x3r⟩ := H3
  have H4 := hold_one (s := .str) 6 (by kernel_rfl) (by kernel_rfl) (hval 4 _ v4 rfl rfl) h4
  simp only [HoldV] at H4
  obtain ⟨x4, rfl, w4⟩ := H4
  have hrow2 : ∀ i, i < x2n → ∃ x, (fun _ => True) x ∧ ∃ a0, x2a = some a0 ∧ Rd W (a0.add (i * (cmR).k)) ((cmR).f x) := by
    intro i hi
    obtain ⟨q0, ys, hq0, hl, hrd, hh⟩ := x2r i hi
    simp only [HoldL, HoldV] at hh
    obtain ⟨_, _, _, _, rfl, ⟨a0, rfl, wa0⟩, ⟨_, _, _, _, rfl, ⟨a1, rfl, wa1⟩, ⟨_, _, _, _, rfl, ⟨a2, rfl, wa2⟩, ⟨_, _, _, _, rfl, ⟨a3, rfl, wa3⟩, rfl, _⟩, _⟩, _⟩, _⟩ := hh
    exact ⟨⟨a0, a1, a2, a3⟩, trivial, q0, hq0, hrd⟩
  obtain ⟨L2, hL2l, hP2, hS2⟩ := seg_recs (cmR) hrow2
  have hin2 : InR (cmR) W ⟨x2a, x2n, x2c⟩ L2 := ⟨hS2, x2l, by unfold maxLen at x2m; exact x2m⟩
  have hrow3 : ∀ i, i < x3n → ∃ x, (okX) x ∧ ∃ a0, x3a = some a0 ∧ Rd W (a0.add (i * (cmR).k)) ((cmR).f x) := by
    intro i hi
    obtain ⟨q0, ys, hq0, hl, hrd, hh⟩ := x3r i hi
    simp only [HoldL, HoldV] at hh
    obtain ⟨_, _, _, _, rfl, ⟨a0, rfl, wa0⟩, ⟨_, _, _, _, rfl, ⟨a1, rfl, wa1⟩, ⟨_, _, _, _, rfl, ⟨a2, rfl, wa2⟩, ⟨_, _, _, _, rfl, ⟨a3, rfl, wa3⟩, rfl, _⟩, _⟩, _⟩, _⟩ := hh
    exact ⟨⟨a0, a1, a2, a3⟩, okX_of ⟨wa0, wa1, wa2, wa3⟩, q0, hq0, hrd⟩
  obtain ⟨L3, hL3l, hP3, hS3⟩ := seg_recs (cmR) hrow3
  have hin3 : InR (cmR) W ⟨x3a, x3n, x3c⟩ L3 := ⟨hS3, x3l, by unfold maxLen at x3m; exact x3m⟩
  refine (ConfigBack_law x0 x1 ⟨x2a, x2n, x2c⟩ ⟨x3a, x3n, x3c⟩ L2 L3 x4 W hin2 hin3 hP3).mono fun e W' ⟨he, hw⟩ => ?_
  subst he
  exact ⟨_, rfl, post_true Try.laidOut (by kernel_rfl) rfl rfl (tb := 4) Try.underlying4 hW' rfl hw⟩

theorem ConfigBack_holds : Rows.ConfigBackSaid :=
  OpenClaim.holds_of_wide 6 Try.f6 rfl rfl rfl rfl rfl rfl rfl ⟨rfl, rfl, rfl, rfl, rfl⟩ rfl rfl rfl rfl rfl (by kernel_rfl) Try.func6 (by kernel_rfl)
    (of_decide_eq_true (by kernel_rfl)) (by unfold Func.isWrapper; first | (rw [if_pos (by decide +kernel)]; kernel_rfl) | (rw [if_neg (by decide +kernel)]; exact ⟨rfl, rfl⟩))
    (fun os started H enc _ => ConfigBack_lifted os started H enc)

#print axioms ConfigBack_holds
end Go.Proofs.Ytfihhleaciddpaa
