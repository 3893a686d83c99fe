import Derived.Test.YthpbkkjggnejcaaEngY
import Derived.Test.YthpbkkjggnejcaaPartsV
namespace Go.Proofs.Ythpbkkjggnejcaa
open Go.ChangeShapes Go.WideShapes Go.ChangeAt Go.RowKit Go.WideElems Go.Deep
set_option maxRecDepth 100000

instance : Inhabited Co := ⟨⟨0, 0, 0, 0, 0, 0, ⟨none, 0, 0⟩⟩⟩
theorem sumTo_get (f : Nat → Nat) : ∀ n i, i < n → f i ≤ sumTo f n
  | 0, i, h => absurd h (by omega)
  | n + 1, i, h => by
    unfold sumTo
    by_cases e : i = n
    · subst e; omega
    · have := sumTo_get f n i (by omega)
      omega

theorem PartsTake_lifted (os : Os) (started : os.Started) (H : Type) (enc : TypeId × Value → H) (F : Stop.Interp) :
    ReturnsInHanded {} Try.checked os 5 .any ((Rows.OpenSpec.upto Rows.partsTakeSpec).pre6 enc Try.prog Try.f5 Rows.partsTakeUptoRow.domain false) (((Rows.OpenSpec.upto Rows.partsTakeSpec).at F).post enc Try.prog Try.f5 false true false false) := by
  refine returnsInHanded_of_cond (C := Try.checked) (s := Rows.OpenSpec.upto Rows.partsTakeSpec) (k := Rows.uptoSmall) rfl Try.own started (by kernel_rfl) Try.func5
    (OpenSpec.witness (enc := enc) (C := Try.checked) (s := Rows.OpenSpec.upto Rows.partsTakeSpec) (k := Rows.uptoSmall) rfl false ⟨#[], #[.slice none 0 0], []⟩ 8 (by kernel_rfl) (by kernel_rfl) (by kernel_rfl)
      (x := ([.nil], [], [])) (by kernel_rfl) rfl (by kernel_rfl)) ?_
  intro W base args ds gs before hval0 hW _ hk _
  have hval : ∀ (j : Nat) t v, Try.f5.params[j]? = some t → args[j]? = some v → Value.okWide Try.prog W .any base t v := hval0
  have hW' := hW
  obtain ⟨p, q, hA0, hV, rfl, hfz, hnd⟩ := hW
  have hA : DataW.TrodAll enc Try.prog W 0 (fun _ => true) true Try.f5.params.toList args.toList ds p := hA0
  rw [Try.params5] at hA hval
  obtain ⟨rfl, rfl⟩ := trodVars_none hV
  clear hA0 hval0
  obtain ⟨v0, vs0, d0, ds0, p0, q0, hv0, hd0, hp0, h0, hA0⟩ := trodAll_cons hA
  obtain ⟨hvE, hdE⟩ := trodAll_nil hA0
  subst hvE hdE
  subst hd0
  obtain ⟨args⟩ := args
  simp only [] at hv0; subst hv0
  have H0 := hold_one (s := (.sl [(.int .i64), (.int .i64), (.int .i64), (.int .i64), (.int .i64), (.int .u8), (.sl [(.int .u8)])])) 6 (by kernel_rfl) (by kernel_rfl) (hval 0 _ v0 rfl rfl) h0
  simp only [HoldV] at H0
  obtain ⟨x0a, x0n, x0c, x0b, rfl, x0l, x0m, x0z, ⟨x0g, x0g2⟩, x0r⟩ := H0
  have hk2 : Rows.uptoBulkAll _ ≤ 1048576 := of_decide_eq_true hk
  simp only [Rows.uptoBulkAll, List.append_nil, List.nil_append, List.cons_append] at hk2
  have hrow0 : ∀ i, i < x0n → ∃ x, (fun c => ∃ (r : List UInt8) (u : UInt8), In W c.raw r ∧ c.wh = ((u.toNat : Nat) : Int) ∧ r.length ≤ 1048576) x ∧ ∃ a0, x0a = some a0 ∧ Rd W (a0.add (i * (coR).k)) ((coR).f x) := by
    intro i hi
    obtain ⟨q0, ys, hq0, hl, hrd, hh⟩ := x0r i hi
    simp only [HoldL] at hh
    obtain ⟨_, _, _, _, rfl, b0, ⟨_, _, _, _, rfl, b1, ⟨_, _, _, _, rfl, b2, ⟨_, _, _, _, rfl, b3, ⟨_, _, _, _, rfl, b4, ⟨_, _, _, _, rfl, b5, ⟨_, _, _, _, rfl, b6, rfl, z6⟩, z5⟩, z4⟩, z3⟩, z2⟩, z1⟩, z0⟩ := hh
    simp only [HoldV] at b0 b1 b2 b3 b4 b5 b6
    obtain ⟨a0, rfl, wa0⟩ := b0
    obtain ⟨a1, rfl, wa1⟩ := b1
    obtain ⟨a2, rfl, wa2⟩ := b2
    obtain ⟨a3, rfl, wa3⟩ := b3
    obtain ⟨a4, rfl, wa4⟩ := b4
    obtain ⟨a5, rfl, wa5⟩ := b5
    obtain ⟨a6a, a6n, a6c, a6b, rfl, a6l, a6m, a6z, ⟨a6g, a6g2⟩, a6r⟩ := b6
    obtain ⟨T6, hT6l, hT6r, hT6s⟩ := seg_ints a6r
    obtain ⟨t6, ht6l, hte6⟩ := ints_bc T6 hT6r
    rw [hte6] at hT6s
    have hin6 : In W ⟨a6a, a6n, a6c⟩ t6 := ⟨hT6s, a6l, by unfold maxLen at a6m; exact a6m⟩
    exact ⟨⟨a0, a1, a2, a3, a4, a5, ⟨a6a, a6n, a6c⟩⟩, ⟨t6, UInt8.ofNat a5.toNat, hin6, (by have h5 : 0 ≤ a5 ∧ a5 ≤ 255 := wa5; show a5 = _; rw [ofNat8 (by omega)]; omega), (by have := sumTo_get x0b x0n i hi; omega)⟩, q0, hq0, hrd⟩
  obtain ⟨L0, hL0l, hP0, hS0⟩ := seg_recs (coR) hrow0
  have hin0 : InR (coR) W ⟨x0a, x0n, x0c⟩ L0 := ⟨hS0, x0l, by unfold maxLen at x0m; exact x0m⟩
  refine (PartsTake_law ⟨x0a, x0n, x0c⟩ L0 W hin0 hP0).mono fun e W' ⟨he, hw⟩ => ?_
  subst he
  exact ⟨_, rfl, post_true Try.laidOut (by kernel_rfl) rfl rfl (tb := 4) Try.underlying4 hW' rfl hw⟩

theorem PartsTake_holds : Rows.PartsTakeUptoSaid :=
  OpenClaim.holds_of_cond 5 Try.f5 rfl rfl rfl rfl rfl rfl rfl ⟨rfl, rfl, rfl, rfl, rfl⟩ rfl rfl rfl rfl rfl (by kernel_rfl) Try.func5 (by kernel_rfl)
    (of_decide_eq_true (by kernel_rfl)) (by unfold Func.isWrapper; first | (rw [if_pos (by decide +kernel)]; kernel_rfl) | (rw [if_neg (by decide +kernel)]; exact ⟨rfl, rfl⟩))
    (fun os started H enc _ F => PartsTake_lifted os started H enc F)

#print axioms PartsTake_holds
end Go.Proofs.Ythpbkkjggnejcaa
