import Derived.Test.YtoleakhomnnfkaaEngY
import Derived.Test.YtoleakhomnnfkaaSealH
namespace Go.Proofs.Ytoleakhomnnfkaa
open Go.ChangeShapes Go.WideShapes Go.ChangeAt Go.RowKit Go.WideElems Go.Deep
set_option maxRecDepth 100000

theorem ex_u8 {n : Int} (h : IntKind.min .u8 ≤ n ∧ n ≤ IntKind.max .u8) : ∃ k : UInt8, n = ((k.toNat : Nat) : Int) := by
  have h' : 0 ≤ n ∧ n ≤ 255 := h
  exact ⟨UInt8.ofNat n.toNat, by rw [ofNat8 (by omega)]; omega⟩
theorem ex_u32 {n : Int} (h : IntKind.min .u32 ≤ n ∧ n ≤ IntKind.max .u32) : ∃ r : BitVec 32, n = ((r.toNat : Nat) : Int) := by
  have h' : 0 ≤ n ∧ n ≤ 4294967295 := h
  exact ⟨BitVec.ofNat 32 n.toNat, by rw [BitVec.toNat_ofNat]; omega⟩

theorem SealBursts_lifted (os : Os) (started : os.Started) (H : Type) (enc : TypeId × Value → H) :
    ReturnsInHanded {} Try.checked os 5 .any (Rows.sealBurstsSpec.pre6 enc Try.prog Try.f5 Rows.sealBurstsRow.domain false) (Rows.sealBurstsSpec.post enc Try.prog Try.f5 false true false false) := by
  refine returnsInHanded_of_change (C := Try.checked) Try.own started (by kernel_rfl) Try.func5
    (ChangeSpec.witness6 (enc := enc) (C := Try.checked) false ⟨#[], #[.int .u8 0, .slice none 0 0, .int .i64 0, .int .u32 0], []⟩ 8 (by kernel_rfl) (by kernel_rfl) (by kernel_rfl) (by kernel_rfl)) ?_
  intro W base args ds gs before hval0 hW hcnd _
  have hval : ∀ (j : Nat) t v, Try.f5.params[j]? = some t → args[j]? = some v → Value.okWide Try.prog W .any base t v := hval0
  have hW' := hW
  obtain ⟨p, q, hA0, hV, rfl, hfz, hnd⟩ := hW
  have hA : DataW.TrodAll enc Try.prog W 0 (fun _ => true) true Try.f5.params.toList args.toList ds p := hA0
  rw [Try.params5] at hA hval
  obtain ⟨rfl, rfl⟩ := trodVars_none hV
  clear hA0 hval0
  obtain ⟨v0, vs0, d0, ds0, p0, q0, hv0, hd0, hp0, h0, hA0⟩ := trodAll_cons hA
  obtain ⟨v1, vs1, d1, ds1, p1, q1, hv1, hd1, hp1, h1, hA1⟩ := trodAll_cons hA0
  obtain ⟨v2, vs2, d2, ds2, p2, q2, hv2, hd2, hp2, h2, hA2⟩ := trodAll_cons hA1
  obtain ⟨v3, vs3, d3, ds3, p3, q3, hv3, hd3, hp3, h3, hA3⟩ := trodAll_cons hA2
  obtain ⟨hvE, hdE⟩ := trodAll_nil hA3
  subst hvE hdE
  subst hv3 hd3
  subst hv2 hd2
  subst hv1 hd1
  subst hd0
  obtain ⟨args⟩ := args
  simp only [] at hv0; subst hv0
  have H0 := hold_one (s := (.int .u8)) 6 (by kernel_rfl) (by kernel_rfl) (hval 0 _ v0 rfl rfl) h0
  simp only [HoldV] at H0
  obtain ⟨x0, rfl, w0⟩ := H0
  have H1 := hold_one (s := (.sl [(.int .u8)])) 6 (by kernel_rfl) (by kernel_rfl) (hval 1 _ v1 rfl rfl) h1
  simp only [HoldV] at H1
  obtain ⟨x1a, x1n, x1c, x1b, rfl, x1l, x1m, x1z, ⟨x1g, x1g2⟩, x1r⟩ := H1
  have H2 := hold_one (s := (.int .i64)) 6 (by kernel_rfl) (by kernel_rfl) (hval 2 _ v2 rfl rfl) h2
  simp only [HoldV] at H2
  obtain ⟨x2, rfl, w2⟩ := H2
  have H3 := hold_one (s := (.int .u32)) 6 (by kernel_rfl) (by kernel_rfl) (hval 3 _ v3 rfl rfl) h3
  simp only [HoldV] at H3
  obtain ⟨x3, rfl, w3⟩ := H3
  obtain ⟨k0, rfl⟩ : ∃ k : UInt8, x0 = ((k.toNat : Nat) : Int) := ex_u8 w0
  obtain ⟨T1, hT1l, hT1r, hT1s⟩ := seg_ints x1r
  obtain ⟨t1, ht1l, hte1⟩ := ints_bc T1 hT1r
  rw [hte1] at hT1s
  have hin1 : In W ⟨x1a, x1n, x1c⟩ t1 := ⟨hT1s, x1l, by unfold maxLen at x1m; exact x1m⟩
  obtain ⟨r3, rfl⟩ : ∃ r : BitVec 32, x3 = ((r.toNat : Nat) : Int) := ex_u32 w3
  refine (SealBursts_law k0 ⟨x1a, x1n, x1c⟩ t1 x2 r3 W hin1).mono fun e W' ⟨he, hw⟩ => ?_
  subst he
  exact ⟨_, rfl, post_true Try.laidOut (by kernel_rfl) rfl rfl (tb := 4) Try.underlying4 hW' rfl hw⟩

theorem SealBursts_holds : Rows.SealBurstsSaid :=
  OpenClaim.holds_of_wide 5 Try.f5 rfl rfl rfl rfl rfl rfl rfl ⟨rfl, rfl, rfl, rfl, rfl⟩ rfl rfl rfl rfl rfl (by kernel_rfl) Try.func5 (by kernel_rfl)
    (of_decide_eq_true (by kernel_rfl)) (by unfold Func.isWrapper; first | (rw [if_pos (by decide +kernel)]; kernel_rfl) | (rw [if_neg (by decide +kernel)]; exact ⟨rfl, rfl⟩))
    (fun os started H enc _ => SealBursts_lifted os started H enc)

#print axioms SealBursts_holds
end Go.Proofs.Ytoleakhomnnfkaa
