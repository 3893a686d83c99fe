import Derived.Test.YtlnomdjmjeabhaaEngY
import Derived.Test.YtlnomdjmjeabhaaDupR
namespace Go.Proofs.Ytlnomdjmjeabhaa
open Go.ChangeShapes Go.WideShapes Go.ChangeAt Go.RowKit Go.WideElems Go.Deep
set_option maxRecDepth 100000

instance : Inhabited As := ⟨⟨0, 0, false, ⟨0, ByteArray.empty, ByteArray.empty, ByteArray.empty, false⟩⟩⟩

theorem DedupOnce_lifted (os : Os) (started : os.Started) (H : Type) (enc : TypeId × Value → H) :
    ReturnsInHanded {} Try.checked os 6 .any (Rows.dedupOnceSpec.pre6 enc Try.prog Try.f6 Rows.dedupOnceRow.domain false) (Rows.dedupOnceSpec.post enc Try.prog Try.f6 false true false false) := by
  refine returnsInHanded_of_change (C := Try.checked) Try.own started (by kernel_rfl) Try.func6
    (ChangeSpec.witness6 (enc := enc) (C := Try.checked) false ⟨#[], #[.slice none 0 0], []⟩ 8 (by kernel_rfl) (by kernel_rfl) (by kernel_rfl) (by kernel_rfl)) ?_
  intro W base args ds gs before hval0 hW hcnd _
  have hval : ∀ (j : Nat) t v, Try.f6.params[j]? = some t → args[j]? = some v → Value.okWide Try.prog W .any base t v := hval0
  have hW' := hW
  obtain ⟨p, q, hA0, hV, rfl, hfz, hnd⟩ := hW
  have hA : DataW.TrodAll enc Try.prog W 0 (fun _ => true) true Try.f6.params.toList args.toList ds p := hA0
  rw [Try.params6] at hA hval
  obtain ⟨rfl, rfl⟩ := trodVars_none hV
  clear hA0 hval0
  obtain ⟨v0, vs0, d0, ds0, p0, q0, hv0, hd0, hp0, h0, hA0⟩ := trodAll_cons hA
  obtain ⟨hvE, hdE⟩ := trodAll_nil hA0
  subst hvE hdE
  subst hd0
  obtain ⟨args⟩ := args
  simp only [] at hv0; subst hv0
  have H0 := hold_one (s := (.sl [(.int .i64), (.int .i64), .bool, (.int .u8), .str, .str, .str, .bool])) 6 (by kernel_rfl) (by kernel_rfl) (hval 0 _ v0 rfl rfl) h0
  simp only [HoldV] at H0
  obtain ⟨x0a, x0n, x0c, x0b, rfl, x0l, x0m, x0z, ⟨x0g, x0g2⟩, x0r⟩ := H0
  have hrow0 : ∀ i, i < x0n → ∃ x, (fun x => 0 ≤ x.op.kind ∧ x.op.kind ≤ 255) x ∧ ∃ a0, x0a = some a0 ∧ Rd W (a0.add (i * (asR).k)) ((asR).f x) := by
    intro i hi
    obtain ⟨q0, ys, hq0, hl, hrd, hh⟩ := x0r i hi
    simp only [HoldL, HoldV] at hh
    obtain ⟨_, _, _, _, rfl, ⟨a0, rfl, wa0⟩, ⟨_, _, _, _, rfl, ⟨a1, rfl, wa1⟩, ⟨_, _, _, _, rfl, ⟨a2, rfl⟩, ⟨_, _, _, _, rfl, ⟨a3, rfl, wa3⟩, ⟨_, _, _, _, rfl, ⟨a4, rfl, wa4⟩, ⟨_, _, _, _, rfl, ⟨a5, rfl, wa5⟩, ⟨_, _, _, _, rfl, ⟨a6, rfl, wa6⟩, ⟨_, _, _, _, rfl, ⟨a7, rfl⟩, rfl, _⟩, _⟩, _⟩, _⟩, _⟩, _⟩, _⟩, _⟩ := hh
    exact ⟨⟨a0, a1, a2, ⟨a3, a4, a5, a6, a7⟩⟩, wa3, q0, hq0, hrd⟩
  obtain ⟨L0, hL0l, hP0, hS0⟩ := seg_recs (asR) hrow0
  have hin0 : InR (asR) W ⟨x0a, x0n, x0c⟩ L0 := ⟨hS0, x0l, by unfold maxLen at x0m; exact x0m⟩
  refine (Once_law ⟨x0a, x0n, x0c⟩ L0 W hin0 hP0).mono fun e W' ⟨he, hw⟩ => ?_
  subst he
  exact ⟨_, rfl, post_true Try.laidOut (by kernel_rfl) rfl rfl (tb := 4) Try.underlying4 hW' rfl hw⟩

theorem DedupOnce_holds : Rows.DedupOnceSaid :=
  OpenClaim.holds_of_wide 6 Try.f6 rfl rfl rfl rfl rfl rfl rfl ⟨rfl, rfl, rfl, rfl, rfl⟩ rfl rfl rfl rfl rfl (by kernel_rfl) Try.func6 (by kernel_rfl)
    (of_decide_eq_true (by kernel_rfl)) (by unfold Func.isWrapper; first | (rw [if_pos (by decide +kernel)]; kernel_rfl) | (rw [if_neg (by decide +kernel)]; exact ⟨rfl, rfl⟩))
    (fun os started H enc _ => DedupOnce_lifted os started H enc)

#print axioms DedupOnce_holds
end Go.Proofs.Ytlnomdjmjeabhaa
