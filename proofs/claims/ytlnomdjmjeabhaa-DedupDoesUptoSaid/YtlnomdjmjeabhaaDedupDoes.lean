import Derived.Test.YtlnomdjmjeabhaaEngY
import Derived.Test.YtlnomdjmjeabhaaDupN
namespace Go.Proofs.Ytlnomdjmjeabhaa
open Go.ChangeShapes Go.WideShapes Go.ChangeAt Go.RowKit Go.WideElems Go.Deep
set_option maxRecDepth 100000


theorem DedupDoes_lifted (os : Os) (started : os.Started) (H : Type) (enc : TypeId × Value → H) (F : Stop.Interp) :
    ReturnsInHanded {} Try.checked os 3 .any ((Rows.OpenSpec.upto Rows.dedupDoesSpec).pre6 enc Try.prog Try.f3 Rows.dedupDoesUptoRow.domain false) (((Rows.OpenSpec.upto Rows.dedupDoesSpec).at F).post enc Try.prog Try.f3 false true false false) := by
  refine returnsInHanded_of_cond (C := Try.checked) (s := Rows.OpenSpec.upto Rows.dedupDoesSpec) (k := Rows.uptoSmall) rfl Try.own started (by kernel_rfl) Try.func3
    (OpenSpec.witness (enc := enc) (C := Try.checked) (s := Rows.OpenSpec.upto Rows.dedupDoesSpec) (k := Rows.uptoSmall) rfl false ⟨#[], #[.slice none 0 0, .agg #[.int .u8 0, .string ⟨#[]⟩, .string ⟨#[]⟩, .string ⟨#[]⟩, .bool false], .int .i64 0], []⟩ 8 (by kernel_rfl) (by kernel_rfl) (by kernel_rfl)
      (x := ([.nil, .agg [.lit (.int .u8 0), .lit (.string []), .lit (.string []), .lit (.string []), .lit (.bool false)], .lit (.int .i64 0)], [], [])) (by kernel_rfl) rfl (by kernel_rfl)) ?_
  intro W base args ds gs before hval0 hW _ hk _
  have hval : ∀ (j : Nat) t v, Try.f3.params[j]? = some t → args[j]? = some v → Value.okWide Try.prog W .any base t v := hval0
  have hW' := hW
  obtain ⟨p, q, hA0, hV, rfl, hfz, hnd⟩ := hW
  have hA : DataW.TrodAll enc Try.prog W 0 (fun _ => true) true Try.f3.params.toList args.toList ds p := hA0
  rw [Try.params3] at hA hval
  obtain ⟨rfl, rfl⟩ := trodVars_none hV
  clear hA0 hval0
  obtain ⟨v0, vs0, d0, ds0, p0, q0, hv0, hd0, hp0, h0, hA0⟩ := trodAll_cons hA
  obtain ⟨v1, vs1, d1, ds1, p1, q1, hv1, hd1, hp1, h1, hA1⟩ := trodAll_cons hA0
  obtain ⟨v2, vs2, d2, ds2, p2, q2, hv2, hd2, hp2, h2, hA2⟩ := trodAll_cons hA1
  obtain ⟨hvE, hdE⟩ := trodAll_nil hA2
  subst hvE hdE
  subst hv2 hd2
  subst hv1 hd1
  subst hd0
  obtain ⟨args⟩ := args
  simp only [] at hv0; subst hv0
  have H0 := hold_one (s := (.sl [.str, .str])) 6 (by kernel_rfl) (by kernel_rfl) (hval 0 _ v0 rfl rfl) h0
  simp only [HoldV] at H0
  obtain ⟨x0a, x0n, x0c, x0b, rfl, x0l, x0m, x0z, ⟨x0g, x0g2⟩, x0r⟩ := H0
  obtain ⟨cs1, rfl, H1⟩ := hold_agg (s := [(.int .u8), .str, .str, .str, .bool]) 6 (by kernel_rfl) Try.underlying24 (hval 1 _ v1 rfl rfl) h1
  simp only [HoldL, HoldV] at H1
  obtain ⟨_, _, _, _, rfl, ⟨x1_0, rfl, w1_0⟩, ⟨_, _, _, _, rfl, ⟨x1_1, rfl, w1_1⟩, ⟨_, _, _, _, rfl, ⟨x1_2, rfl, w1_2⟩, ⟨_, _, _, _, rfl, ⟨x1_3, rfl, w1_3⟩, ⟨_, _, _, _, rfl, ⟨x1_4, rfl⟩, rfl, _⟩, _⟩, _⟩, _⟩, _⟩ := H1
  have H2 := hold_one (s := (.int .i64)) 6 (by kernel_rfl) (by kernel_rfl) (hval 2 _ v2 rfl rfl) h2
  simp only [HoldV] at H2
  obtain ⟨x2, rfl, w2⟩ := H2
  have hk2 : Rows.uptoBulkAll _ ≤ 1048576 := of_decide_eq_true hk
  simp only [Rows.uptoBulkAll, List.append_nil, List.nil_append, List.cons_append] at hk2
  have hrow0 : ∀ i, i < x0n → ∃ x, (fun _ => True) x ∧ ∃ a0, x0a = some a0 ∧ Rd W (a0.add (i * (prR).k)) ((prR).f x) := by
    intro i hi
    obtain ⟨q0, ys, hq0, hl, hrd, hh⟩ := x0r i hi
    simp only [HoldL, HoldV] at hh
    obtain ⟨_, _, _, _, rfl, ⟨a0, rfl, wa0⟩, ⟨_, _, _, _, rfl, ⟨a1, rfl, wa1⟩, rfl, _⟩, _⟩ := hh
    exact ⟨⟨a0, a1⟩, trivial, q0, hq0, hrd⟩
  obtain ⟨L0, hL0l, hP0, hS0⟩ := seg_recs (prR) hrow0
  have hin0 : InR (prR) W ⟨x0a, x0n, x0c⟩ L0 := ⟨hS0, x0l, by unfold maxLen at x0m; exact x0m⟩
  refine (Does_law ⟨x0a, x0n, x0c⟩ L0 ⟨x1_0, x1_1, x1_2, x1_3, x1_4⟩ x2 W hin0 w1_0 (by omega) (by show x1_1.size ≤ 2000000; omega)).mono fun e W' ⟨he, hw⟩ => ?_
  subst he
  exact ⟨_, rfl, post_true Try.laidOut (by kernel_rfl) rfl rfl (tb := 4) Try.underlying4 hW' rfl hw⟩

theorem DedupDoes_holds : Rows.DedupDoesUptoSaid :=
  OpenClaim.holds_of_cond 3 Try.f3 rfl rfl rfl rfl rfl rfl rfl ⟨rfl, rfl, rfl, rfl, rfl⟩ rfl rfl rfl rfl rfl (by kernel_rfl) Try.func3 (by kernel_rfl)
    (of_decide_eq_true (by kernel_rfl)) (by unfold Func.isWrapper; first | (rw [if_pos (by decide +kernel)]; kernel_rfl) | (rw [if_neg (by decide +kernel)]; exact ⟨rfl, rfl⟩))
    (fun os started H enc _ F => DedupDoes_lifted os started H enc F)

#print axioms DedupDoes_holds
end Go.Proofs.Ytlnomdjmjeabhaa
