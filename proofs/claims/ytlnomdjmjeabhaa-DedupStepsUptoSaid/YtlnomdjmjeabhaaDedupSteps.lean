import Derived.Test.YtlnomdjmjeabhaaEngY
import Derived.Test.YtlnomdjmjeabhaaDupN
namespace Go.Proofs.Ytlnomdjmjeabhaa
open Go.ChangeShapes Go.WideShapes Go.ChangeAt Go.RowKit Go.WideElems Go.Deep
set_option maxRecDepth 100000


theorem DedupSteps_lifted (os : Os) (started : os.Started) (H : Type) (enc : TypeId × Value → H) (F : Stop.Interp) :
    ReturnsInHanded {} Try.checked os 4 .any ((Rows.OpenSpec.upto Rows.dedupStepsSpec).pre6 enc Try.prog Try.f4 Rows.dedupStepsUptoRow.domain false) (((Rows.OpenSpec.upto Rows.dedupStepsSpec).at F).post enc Try.prog Try.f4 false true false false) := by
  refine returnsInHanded_of_cond (C := Try.checked) (s := Rows.OpenSpec.upto Rows.dedupStepsSpec) (k := Rows.uptoSmall) rfl Try.own started (by kernel_rfl) Try.func4
    (OpenSpec.witness (enc := enc) (C := Try.checked) (s := Rows.OpenSpec.upto Rows.dedupStepsSpec) (k := Rows.uptoSmall) rfl false ⟨#[], #[.slice none 0 0, .slice none 0 0, .int .i64 0, .int .i64 0, .agg #[.int .u8 0, .string ⟨#[]⟩, .string ⟨#[]⟩, .string ⟨#[]⟩, .bool false]], []⟩ 8 (by kernel_rfl) (by kernel_rfl) (by kernel_rfl)
      (x := ([.nil, .nil, .lit (.int .i64 0), .lit (.int .i64 0), .agg [.lit (.int .u8 0), .lit (.string []), .lit (.string []), .lit (.string []), .lit (.bool false)]], [], [])) (by kernel_rfl) rfl (by kernel_rfl)) ?_
  intro W base args ds gs before hval0 hW _ hk _
  have hval : ∀ (j : Nat) t v, Try.f4.params[j]? = some t → args[j]? = some v → Value.okWide Try.prog W .any base t v := hval0
  have hW' := hW
  obtain ⟨p, q, hA0, hV, rfl, hfz, hnd⟩ := hW
  have hA : DataW.TrodAll enc Try.prog W 0 (fun _ => true) true Try.f4.params.toList args.toList ds p := hA0
  rw [Try.params4] at hA hval
  obtain ⟨rfl, rfl⟩ := trodVars_none hV
  clear hA0 hval0
  obtain ⟨v0, vs0, d0, ds0, p0, q0, hv0, hd0, hp0, h0, hA0⟩ := trodAll_cons hA
  obtain ⟨v1, vs1, d1, ds1, p1, q1, hv1, hd1, hp1, h1, hA1⟩ := trodAll_cons hA0
  obtain ⟨v2, vs2, d2, ds2, p2, q2, hv2, hd2, hp2, h2, hA2⟩ := trodAll_cons hA1
  obtain ⟨v3, vs3, d3, ds3, p3, q3, hv3, hd3, hp3, h3, hA3⟩ := trodAll_cons hA2
  obtain ⟨v4, vs4, d4, ds4, p4, q4, hv4, hd4, hp4, h4, hA4⟩ := trodAll_cons hA3
  obtain ⟨hvE, hdE⟩ := trodAll_nil hA4
  subst hvE hdE
  subst hv4 hd4
  subst hv3 hd3
  subst hv2 hd2
  subst hv1 hd1
  subst hd0
  obtain ⟨args⟩ := args
  simp only [] at hv0; subst hv0
  have H0 := hold_one (s := (.sl [.str, .str])) 6 (by kernel_rfl) (by kernel_rfl) (hval 0 _ v0 rfl rfl) h0
  simp only [HoldV] at H0
  obtain ⟨x0a, x0n, x0c, x0b, rfl, x0l, x0m, x0z, ⟨x0g, x0g2⟩, x0r⟩ := H0
  have H1 := hold_one (s := (.sl [(.int .i64), (.int .i64), (.int .u8), .bool, .str])) 6 (by kernel_rfl) (by kernel_rfl) (hval 1 _ v1 rfl rfl) h1
  simp only [HoldV] at H1
  obtain ⟨x1a, x1n, x1c, x1b, rfl, x1l, x1m, x1z, ⟨x1g, x1g2⟩, x1r⟩ := H1
  have H2 := hold_one (s := (.int .i64)) 6 (by kernel_rfl) (by kernel_rfl) (hval 2 _ v2 rfl rfl) h2
  simp only [HoldV] at H2
  obtain ⟨x2, rfl, w2⟩ := H2
  have H3 := hold_one (s := (.int .i64)) 6 (by kernel_rfl) (by kernel_rfl) (hval 3 _ v3 rfl rfl) h3
  simp only [HoldV] at H3
  obtain ⟨x3, rfl, w3⟩ := H3
  obtain ⟨cs4, rfl, H4⟩ := hold_agg (s := [(.int .u8), .str, .str, .str, .bool]) 6 (by kernel_rfl) Try.underlying24 (hval 4 _ v4 rfl rfl) h4
  simp only [HoldL, HoldV] at H4
  obtain ⟨_, _, _, _, rfl, ⟨x4_0, rfl, w4_0⟩, ⟨_, _, _, _, rfl, ⟨x4_1, rfl, w4_1⟩, ⟨_, _, _, _, rfl, ⟨x4_2, rfl, w4_2⟩, ⟨_, _, _, _, rfl, ⟨x4_3, rfl, w4_3⟩, ⟨_, _, _, _, rfl, ⟨x4_4, rfl⟩, rfl, _⟩, _⟩, _⟩, _⟩, _⟩ := H4
  have hk2 : Rows.uptoBulkAll _ ≤ 1048576 := of_decide_eq_true hk
  simp only [Rows.uptoBulkAll, List.append_nil, List.nil_append, List.cons_append] at hk2
  have hrow0 : ∀ i, i < x0n → ∃ x, (fun _ => True) x ∧ ∃ a0, x0a = some a0 ∧ Rd W (a0.add (i * (prR).k)) ((prR).f x) := by
    intro i hi
    obtain ⟨q0, ys, hq0, hl, hrd, hh⟩ := x0r i hi
    simp only [HoldL, HoldV] at hh
    obtain ⟨_, _, _, _, rfl, ⟨a0, rfl, wa0⟩, ⟨_, _, _, _, rfl, ⟨a1, rfl, wa1⟩, rfl, _⟩, _⟩ := hh
    exact ⟨⟨a0, a1⟩, trivial, q0, hq0, hrd⟩
  obtain ⟨L0, hL0l, hP0, hS0⟩ := seg_recs (prR) hrow0
  have hin0 : InR (prR) W ⟨x0a, x0n, x0c⟩ L0 := ⟨hS0, x0l, by unfold maxLen at x0m; exact x0m⟩
  have hrow1 : ∀ i, i < x1n → ∃ x, (fun _ => True) x ∧ ∃ a0, x1a = some a0 ∧ Rd W (a0.add (i * (lsR).k)) ((lsR).f x) := by
    intro i hi
    obtain ⟨q0, ys, hq0, hl, hrd, hh⟩ := x1r i hi
    simp only [HoldL, HoldV] at hh
    obtain ⟨_, _, _, _, rfl, ⟨a0, rfl, wa0⟩, ⟨_, _, _, _, rfl, ⟨a1, rfl, wa1⟩, ⟨_, _, _, _, rfl, ⟨a2, rfl, wa2⟩, ⟨_, _, _, _, rfl, ⟨a3, rfl⟩, ⟨_, _, _, _, rfl, ⟨a4, rfl, wa4⟩, rfl, _⟩, _⟩, _⟩, _⟩, _⟩ := hh
    exact ⟨⟨a0, a1, a2, a3, a4⟩, trivial, q0, hq0, hrd⟩
  obtain ⟨L1, hL1l, hP1, hS1⟩ := seg_recs (lsR) hrow1
  have hin1 : InR (lsR) W ⟨x1a, x1n, x1c⟩ L1 := ⟨hS1, x1l, by unfold maxLen at x1m; exact x1m⟩
  refine (Steps_law ⟨x0a, x0n, x0c⟩ ⟨x1a, x1n, x1c⟩ L0 L1 x2 x3 ⟨x4_0, x4_1, x4_2, x4_3, x4_4⟩ W hin0 hin1 w4_0 (by omega) (by omega)).mono fun e W' ⟨he, hw⟩ => ?_
  subst he
  exact ⟨_, rfl, post_true Try.laidOut (by kernel_rfl) rfl rfl (tb := 4) Try.underlying4 hW' rfl hw⟩

theorem DedupSteps_holds : Rows.DedupStepsUptoSaid :=
  OpenClaim.holds_of_cond 4 Try.f4 rfl rfl rfl rfl rfl rfl rfl ⟨rfl, rfl, rfl, rfl, rfl⟩ rfl rfl rfl rfl rfl (by kernel_rfl) Try.func4 (by kernel_rfl)
    (of_decide_eq_true (by kernel_rfl)) (by unfold Func.isWrapper; first | (rw [if_pos (by decide +kernel)]; kernel_rfl) | (rw [if_neg (by decide +kernel)]; exact ⟨rfl, rfl⟩))
    (fun os started H enc _ F => DedupSteps_lifted os started H enc F)

#print axioms DedupSteps_holds
end Go.Proofs.Ytlnomdjmjeabhaa
