import Derived.Test.YtfihhleaciddpaaEngY
import Derived.Test.YtfihhleaciddpaaConfK
namespace Go.Proofs.Ytfihhleaciddpaa
open Go.ChangeShapes Go.WideShapes Go.ChangeAt Go.RowKit Go.WideElems Go.Deep
set_option maxRecDepth 100000


theorem ConfigBytes_lifted (os : Os) (started : os.Started) (H : Type) (enc : TypeId × Value → H) :
    ReturnsInHanded {} Try.checked os 5 .any (Rows.configBytesSpec.pre6 enc Try.prog Try.f5 Rows.configBytesRow.domain false) (Rows.configBytesSpec.post enc Try.prog Try.f5 false true false false) := by
  refine returnsInHanded_of_change (C := Try.checked) Try.own started (by kernel_rfl) Try.func5
    (ChangeSpec.witness6 (enc := enc) (C := Try.checked) false ⟨#[], #[.string ⟨#[]⟩, .agg #[.int .u8 0, .int .i64 0, .int .i64 0, .int .i64 0]], []⟩ 8 (by kernel_rfl) (by kernel_rfl) (by kernel_rfl) (by kernel_rfl)) ?_
  intro W base args ds gs before hval0 hW hcnd _
  have hval : ∀ (j : Nat) t v, Try.f5.params[j]? = some t → args[j]? = some v → Value.okWide Try.prog W .any base t v := hval0
  have hW' := hW
  obtain ⟨p, q, hA0, hV, rfl, hfz, hnd⟩ := hW
  have hA : DataW.TrodAll enc Try.prog W 0 (fun _ => true) true Try.f5.params.toList args.toList ds p := hA0
  rw [Try.params5] at hA hval
  obtain ⟨rfl, rfl⟩ := trodVars_none hV
  clear hA0 hval0
  obtain ⟨v0, vs0, d0, ds0, p0, q0, hv0, hd0, hp0, h0, hA0⟩ := trodAll_cons hA
  obtain ⟨v1, vs1, d1, ds1, p1, q1, hv1, hd1, hp1, h1, hA1⟩ := trodAll_cons hA0
  obtain ⟨hvE, hdE⟩ := trodAll_nil hA1
  subst hvE hdE
  subst hv1 hd1
  subst hd0
  obtain ⟨args⟩ := args
  simp only [] at hv0; subst hv0
  have H0 := hold_one (s := .str) 6 (by kernel_rfl) (by kernel_rfl) (hval 0 _ v0 rfl rfl) h0
  simp only [HoldV] at H0
  obtain ⟨x0, rfl, w0⟩ := H0
  obtain ⟨cs1, rfl, H1⟩ := hold_agg (s := [(.int .u8), (.int .i64), (.int .i64), (.int .i64)]) 6 (by kernel_rfl) Try.underlying33 (hval 1 _ v1 rfl rfl) h1
  simp only [HoldL, HoldV] at H1
  obtain ⟨_, _, _, _, rfl, ⟨x1_0, rfl, w1_0⟩, ⟨_, _, _, _, rfl, ⟨x1_1, rfl, w1_1⟩, ⟨_, _, _, _, rfl, ⟨x1_2, rfl, w1_2⟩, ⟨_, _, _, _, rfl, ⟨x1_3, rfl, w1_3⟩, rfl, _⟩, _⟩, _⟩, _⟩ := H1

  refine (ConfigBytes_law x0 ⟨x1_0, x1_1, x1_2, x1_3⟩ W (okX_of ⟨w1_0, w1_1, w1_2, w1_3⟩)).mono fun e W' ⟨he, hw⟩ => ?_
  subst he
  exact ⟨_, rfl, post_true Try.laidOut (by kernel_rfl) rfl rfl (tb := 4) Try.underlying4 hW' rfl hw⟩

theorem ConfigBytes_holds : Rows.ConfigBytesSaid :=
  OpenClaim.holds_of_wide 5 Try.f5 rfl rfl rfl rfl rfl rfl rfl ⟨rfl, rfl, rfl, rfl, rfl⟩ rfl rfl rfl rfl rfl (by kernel_rfl) Try.func5 (by kernel_rfl)
    (of_decide_eq_true (by kernel_rfl)) (by unfold Func.isWrapper; first | (rw [if_pos (by decide +kernel)]; kernel_rfl) | (rw [if_neg (by decide +kernel)]; exact ⟨rfl, rfl⟩))
    (fun os started H enc _ => ConfigBytes_lifted os started H enc)

#print axioms ConfigBytes_holds
end Go.Proofs.Ytfihhleaciddpaa
