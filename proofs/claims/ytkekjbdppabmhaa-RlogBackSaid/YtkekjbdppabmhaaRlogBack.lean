import Derived.Test.YtkekjbdppabmhaaEngY
import Derived.Test.YtkekjbdppabmhaaRlogS
namespace Go.Proofs.Ytkekjbdppabmhaa
open Go.ChangeShapes Go.WideShapes Go.ChangeAt Go.RowKit Go.WideElems Go.Deep
set_option maxRecDepth 100000

theorem it_cells (L : List Int) : itR.cells L = L.map (Value.int .i64) := by
  unfold Rec.cells
  induction L with
  | nil => rfl
  | cons x L ih => rw [List.flatMap_cons, List.map_cons, ih]; rfl

theorem RlogBack_lifted (os : Os) (started : os.Started) (H : Type) (enc : TypeId × Value → H) :
    ReturnsInHanded {} Try.checked os 6 .any (Rows.rlogBackSpec.pre6 enc Try.prog Try.f6 Rows.rlogBackRow.domain false) (Rows.rlogBackSpec.post enc Try.prog Try.f6 false true false false) := by
  refine returnsInHanded_of_change (C := Try.checked) Try.own started (by kernel_rfl) Try.func6
    (ChangeSpec.witness6 (enc := enc) (C := Try.checked) false ⟨#[], #[.agg #[.int .i64 0, .int .u8 0, .string ⟨#[]⟩, .slice none 0 0], .slice none 0 0], []⟩ 8 (by kernel_rfl) (by kernel_rfl) (by kernel_rfl) (by kernel_rfl)) ?_
  intro W base args ds gs before hval0 hW hcnd _
  have hval : ∀ (j : Nat) t v, Try.f6.params[j]? = some t → args[j]? = some v → Value.okWide Try.prog W .any base t v := hval0
  have hW' := hW
  obtain ⟨p, q, hA0, hV, rfl, hfz, hnd⟩ := hW
  have hA : DataW.TrodAll enc Try.prog W 0 (fun _ => true) true Try.f6.params.toList args.toList ds p := hA0
  rw [Try.params6] at hA hval
  obtain ⟨rfl, rfl⟩ := trodVars_none hV
  clear hA0 hval0
  obtain ⟨v0, vs0, d0, ds0, p0, q0, hv0, hd0, hp0, h0, hA0⟩ := trodAll_cons hA
  obtain ⟨v1, vs1, d1, ds1, p1, q1, hv1, hd1, hp1, h1, hA1⟩ := trodAll_cons hA0
  obtain ⟨hvE, hdE⟩ := trodAll_nil hA1
  subst hvE hdE
  subst hv1 hd1
  subst hd0
  obtain ⟨args⟩ := args
  simp only [] at hv0; subst hv0
  obtain ⟨cs0, rfl, H0⟩ := hold_agg (s := [.int .i64, .int .u8, .str, .sl [.int .i64]]) 8 (by kernel_rfl) Try.underlying28 (hval 0 _ v0 rfl rfl) h0
  simp only [HoldL] at H0
  obtain ⟨_, _, B00, R00, rfl, q00, ⟨_, _, B01, R01, rfl, q01, ⟨_, _, B02, R02, rfl, q02, ⟨_, _, B03, R03, rfl, q03, rfl, z03⟩, z02⟩, z01⟩, z00⟩ := H0
  simp only [HoldV] at q00 q01 q02 q03
  obtain ⟨et0, rfl, wt0⟩ := q00
  obtain ⟨ek0, rfl, wk0⟩ := q01
  obtain ⟨ed0, rfl, wd0⟩ := q02
  obtain ⟨ka0, kn0, kc0, kb0, rfl, kl0, km0, kz0, ⟨kg0, kgg0⟩, kr0⟩ := q03
  have H1 := hold_one (s := (.sl [(.int .u8)])) 6 (by kernel_rfl) (by kernel_rfl) (hval 1 _ v1 rfl rfl) h1
  simp only [HoldV] at H1
  obtain ⟨x1a, x1n, x1c, x1b, rfl, x1l, x1m, x1z, ⟨x1g, x1g2⟩, x1r⟩ := H1
  obtain ⟨LK0, hLK0, hRK0, hSK0⟩ := seg_ints kr0
  have hinK0 : InR itR W ⟨ka0, kn0, kc0⟩ LK0 := ⟨by rw [it_cells]; exact hSK0, kl0, by unfold maxLen at km0; exact km0⟩
  obtain ⟨T1, hT1l, hT1r, hT1s⟩ := seg_ints x1r
  obtain ⟨t1, ht1l, hte1⟩ := ints_bc T1 hT1r
  rw [hte1] at hT1s
  have hin1 : In W ⟨x1a, x1n, x1c⟩ t1 := ⟨hT1s, x1l, by unfold maxLen at x1m; exact x1m⟩
  refine (Back_any ⟨et0, ek0, ed0, ⟨ka0, kn0, kc0⟩⟩ ⟨et0, ek0, ed0, LK0⟩ ⟨x1a, x1n, x1c⟩ t1 W ⟨rfl, rfl, rfl, hinK0⟩ hin1).mono fun e W' ⟨he, hw⟩ => ?_
  subst he
  exact ⟨_, rfl, post_true Try.laidOut (by kernel_rfl) rfl rfl (tb := 4) Try.underlying4 hW' rfl hw⟩

theorem RlogBack_holds : Rows.RlogBackSaid :=
  OpenClaim.holds_of_wide 6 Try.f6 rfl rfl rfl rfl rfl rfl rfl ⟨rfl, rfl, rfl, rfl, rfl⟩ rfl rfl rfl rfl rfl (by kernel_rfl) Try.func6 (by kernel_rfl)
    (of_decide_eq_true (by kernel_rfl)) (by unfold Func.isWrapper; first | (rw [if_pos (by decide +kernel)]; kernel_rfl) | (rw [if_neg (by decide +kernel)]; exact ⟨rfl, rfl⟩))
    (fun os started H enc _ => RlogBack_lifted os started H enc)

#print axioms RlogBack_holds
end Go.Proofs.Ytkekjbdppabmhaa
