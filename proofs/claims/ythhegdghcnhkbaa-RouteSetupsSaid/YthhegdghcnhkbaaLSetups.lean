import Derived.Test.YthhegdghcnhkbaaEngY
import Derived.Test.YthhegdghcnhkbaaRouteD
namespace Go.Proofs.Ythhegdghcnhkbaa
open Go.ChangeShapes Go.WideShapes Go.ChangeAt Go.RowKit Go.WideElems Go.Deep
set_option maxRecDepth 100000


theorem RouteSetups_lifted (os : Os) (started : os.Started) (H : Type) (enc : TypeId × Value → H) :
    ReturnsInHanded {} Try.checked os 5 .any (Rows.routeSetupsSpec.pre6 enc Try.prog Try.f5 Rows.routeSetupsRow.domain false) (Rows.routeSetupsSpec.post enc Try.prog Try.f5 false true false false) := by
  refine returnsInHanded_of_change (C := Try.checked) Try.own started (by kernel_rfl) Try.func5
    (ChangeSpec.witness6 (enc := enc) (C := Try.checked) false ⟨#[], #[.agg #[.int .i64 0, .int .i64 0, .int .i64 0, .int .i64 0, .int .i64 0, .int .i64 0, .int .i64 0, .int .i64 0, .int .i64 0, .int .i64 0, .int .i64 0, .int .i64 0, .int .i64 0]], []⟩ 8 (by kernel_rfl) (by kernel_rfl) (by kernel_rfl) (by kernel_rfl)) ?_
  intro W base args ds gs before hval0 hW hcnd _
  have hval : ∀ (j : Nat) t v, Try.f5.params[j]? = some t → args[j]? = some v → Value.okWide Try.prog W .any base t v := hval0
  have hW' := hW
  obtain ⟨p, q, hA0, hV, rfl, hfz, hnd⟩ := hW
  have hA : DataW.TrodAll enc Try.prog W 0 (fun _ => true) true Try.f5.params.toList args.toList ds p := hA0
  rw [Try.params5] at hA hval
  obtain ⟨rfl, rfl⟩ := trodVars_none hV
  clear hA0 hval0
  obtain ⟨v0, vs0, d0, ds0, p0, q0, hv0, hd0, hp0, h0, hA0⟩ := trodAll_cons hA
  obtain ⟨hvE, hdE⟩ := trodAll_nil hA0
  subst hvE hdE
  subst hd0
  obtain ⟨args⟩ := args
  simp only [] at hv0; subst hv0
  obtain ⟨cs0, rfl, H0⟩ := hold_agg (s := [(.int .i64), (.int .i64), (.int .i64), (.int .i64), (.int .i64), (.int .i64), (.int .i64), (.int .i64), (.int .i64), (.int .i64), (.int .i64), (.int .i64), (.int .i64)]) 6 (by kernel_rfl) Try.underlying41 (hval 0 _ v0 rfl rfl) h0
  simp only [HoldL, HoldV] at H0
  obtain ⟨_, _, rfl, ⟨x0_0, rfl, w0_0⟩, ⟨_, _, rfl, ⟨x0_1, rfl, w0_1⟩, ⟨_, _, rfl, ⟨x0_2, rfl, w0_2⟩, ⟨_, _, rfl, ⟨x0_3, rfl, w0_3⟩, ⟨_, _, rfl, ⟨x0_4, rfl, w0_4⟩, ⟨_, _, rfl, ⟨x0_5, rfl, w0_5⟩, ⟨_, _, rfl, ⟨x0_6, rfl, w0_6⟩, ⟨_, _, rfl, ⟨x0_7, rfl, w0_7⟩, ⟨_, _, rfl, ⟨x0_8, rfl, w0_8⟩, ⟨_, _, rfl, ⟨x0_9, rfl, w0_9⟩, ⟨_, _, rfl, ⟨x0_10, rfl, w0_10⟩, ⟨_, _, rfl, ⟨x0_11, rfl, w0_11⟩, ⟨_, _, rfl, ⟨x0_12, rfl, w0_12⟩, rfl⟩⟩⟩⟩⟩⟩⟩⟩⟩⟩⟩⟩⟩ := H0

  refine (RouteSetups_law _ _ _ _ _ _ _ _ _ _ _ _ _ W).mono fun e W' ⟨he, hw⟩ => ?_
  subst he
  exact ⟨_, rfl, post_true Try.laidOut (by kernel_rfl) rfl rfl (tb := 4) Try.underlying4 hW' rfl hw⟩

theorem RouteSetups_holds : Rows.RouteSetupsSaid :=
  OpenClaim.holds_of_wide 5 Try.f5 rfl rfl rfl rfl rfl rfl rfl ⟨rfl, rfl, rfl, rfl, rfl⟩ rfl rfl rfl rfl rfl (by kernel_rfl) Try.func5 (by kernel_rfl)
    (of_decide_eq_true (by kernel_rfl)) (by unfold Func.isWrapper; first | (rw [if_pos (by decide +kernel)]; kernel_rfl) | (rw [if_neg (by decide +kernel)]; exact ⟨rfl, rfl⟩))
    (fun os started H enc _ => RouteSetups_lifted os started H enc)

#print axioms RouteSetups_holds
end Go.Proofs.Ythhegdghcnhkbaa
