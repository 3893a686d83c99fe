import Derived.Test.YtfanmhgmncfloaaEngY
import Derived.Test.YtfanmhgmncfloaaCodeF
namespace Go.Proofs.Ytfanmhgmncfloaa
open Go.ChangeShapes Go.WideShapes Go.ChangeAt Go.RowKit Go.WideElems Go.Deep
set_option maxRecDepth 100000


theorem CodeReads_lifted (os : Os) (started : os.Started) (H : Type) (enc : TypeId × Value → H) (F : Stop.Interp) :
    ReturnsInHanded {} Try.checked os 4 .any ((Rows.OpenSpec.upto Rows.codeReadsSpec).pre6 enc Try.prog Try.f4 Rows.codeReadsUptoRow.domain false) (((Rows.OpenSpec.upto Rows.codeReadsSpec).at F).post enc Try.prog Try.f4 false true false false) := by
  refine returnsInHanded_of_cond (C := Try.checked) (s := Rows.OpenSpec.upto Rows.codeReadsSpec) (k := Rows.uptoSmall) rfl Try.own started (by kernel_rfl) Try.func4
    (OpenSpec.witness (enc := enc) (C := Try.checked) (s := Rows.OpenSpec.upto Rows.codeReadsSpec) (k := Rows.uptoSmall) rfl false ⟨#[], #[.slice none 0 0, .slice none 0 0], []⟩ 8 (by kernel_rfl) (by kernel_rfl) (by kernel_rfl)
      (x := ([.nil, .nil], [], [])) (by kernel_rfl) rfl (by kernel_rfl)) ?_
  intro W base args ds gs before hval0 hW _ hk _
  have hval : ∀ (j : Nat) t v, Try.f4.params[j]? = some t → args[j]? = some v → Value.okWide Try.prog W .any base t v := hval0
  have hW' := hW
  obtain ⟨p, q, hA0, hV, rfl, hfz, hnd⟩ := hW
  have hA : DataW.TrodAll enc Try.prog W 0 (fun _ => true) true Try.f4.params.toList args.toList ds p := hA0
  rw [Try.params4] at hA hval
  obtain ⟨rfl, rfl⟩ := trodVars_none hV
  clear hA0 hval0
  obtain ⟨v0, vs0, d0, ds0, p0, q0, hv0, hd0, hp0, h0, hA0⟩ := trodAll_cons hA
  obtain ⟨v1, vs1, d1, ds1, p1, q1, hv1, hd1, hp1, h1, hA1⟩ := trodAll_cons hA0
  obtain ⟨hvE, hdE⟩ := trodAll_nil hA1
  subst hvE hdE
  subst hv1 hd1
  subst hd0
  obtain ⟨args⟩ := args
  simp only [] at hv0; subst hv0
  have H0 := hold_one (s := (.sl [(.int .u8)])) 6 (by kernel_rfl) (by kernel_rfl) (hval 0 _ v0 rfl rfl) h0
  simp only [HoldV] at H0
  obtain ⟨x0a, x0n, x0c, x0b, rfl, x0l, x0m, x0z, ⟨x0g, x0g2⟩, x0r⟩ := H0
  have H1 := hold_one (s := (.sl [(.int .i64), (.int .i64)])) 6 (by kernel_rfl) (by kernel_rfl) (hval 1 _ v1 rfl rfl) h1
  simp only [HoldV] at H1
  obtain ⟨x1a, x1n, x1c, x1b, rfl, x1l, x1m, x1z, ⟨x1g, x1g2⟩, x1r⟩ := H1
  have hk2 : Rows.uptoBulkAll _ ≤ 1048576 := of_decide_eq_true hk
  simp only [Rows.uptoBulkAll, List.append_nil, List.nil_append, List.cons_append] at hk2
  obtain ⟨T, hTl, hTr, hTs⟩ := seg_ints x0r
  obtain ⟨t, htl, hte⟩ := ints_bc T hTr
  rw [hte] at hTs
  have hr : ∀ i, i < x1n → ∃ q : Int × Int, ∃ a0, x1a = some a0 ∧ Rd W (a0.add (i * 2)) [.int .i64 q.1, .int .i64 q.2] := by
    intro i hi
    obtain ⟨a0, ys, ha0, hl, hrd, hh⟩ := x1r i hi
    simp only [HoldL, HoldV] at hh
    obtain ⟨_, _, _, _, rfl, ⟨a, rfl, _⟩, ⟨_, _, _, _, rfl, ⟨b, rfl, _⟩, rfl, _⟩, _⟩ := hh
    exact ⟨(a, b), a0, ha0, hrd⟩
  obtain ⟨f, hf⟩ := choose_rows hr
  refine (CodeReads_law ⟨x0a, x0n, x0c⟩ ⟨x1a, x1n, x1c⟩ t f W hTs (by omega) hf).mono fun e W' ⟨he, hw⟩ => ?_
  subst he
  exact ⟨_, rfl, post_true Try.laidOut (by kernel_rfl) rfl rfl (tb := 4) Try.underlying4 hW' rfl hw⟩

theorem CodeReads_holds : Rows.CodeReadsUptoSaid :=
  OpenClaim.holds_of_cond 4 Try.f4 rfl rfl rfl rfl rfl rfl rfl ⟨rfl, rfl, rfl, rfl, rfl⟩ rfl rfl rfl rfl rfl (by kernel_rfl) Try.func4 (by kernel_rfl)
    (of_decide_eq_true (by kernel_rfl)) (by unfold Func.isWrapper; first | (rw [if_pos (by decide +kernel)]; kernel_rfl) | (rw [if_neg (by decide +kernel)]; exact ⟨rfl, rfl⟩))
    (fun os started H enc _ F => CodeReads_lifted os started H enc F)

#print axioms CodeReads_holds
end Go.Proofs.Ytfanmhgmncfloaa
