import Derived.Test.YtkekjbdppabmhaaEngY
import Derived.Test.YtkekjbdppabmhaaRlogS
namespace Go.Proofs.Ytkekjbdppabmhaa
open Go.ChangeShapes Go.WideShapes Go.ChangeAt Go.RowKit Go.WideElems Go.Deep
set_option maxRecDepth 100000

theorem it_cells (L : List Int) : itR.cells L = L.map (Value.int .i64) := by
  unfold Rec.cells
  induction L with
  | nil => rfl
  | cons x L ih => rw [List.flatMap_cons, List.map_cons, ih]; rfl
theorem sumTo_get (f : Nat → Nat) : ∀ n i, i < n → f i ≤ sumTo f n
  | 0, i, h => absurd h (by omega)
  | n + 1, i, h => by
    unfold sumTo
    by_cases e : i = n
    · subst e; omega
    · have := sumTo_get f n i (by omega)
      omega
theorem pick_list {α β : Type} {Q : α → β → Prop} : ∀ (X : List α), (∀ x ∈ X, ∃ e, Q x e) → ∃ L : List β, X.length = L.length ∧ ∀ i (h : i < X.length) (h' : i < L.length), Q X[i] L[i]
  | [], _ => ⟨[], rfl, fun i h => absurd h (by simp)⟩
  | x :: X, h => by
    obtain ⟨e, he⟩ := h x (by simp)
    obtain ⟨L, hl, hL⟩ := pick_list X fun y hy => h y (by simp [hy])
    refine ⟨e :: L, by simp [hl], fun i h1 h2 => ?_⟩
    cases i with
    | zero => exact he
    | succ i => exact hL i (by simpa using h1) (by simpa using h2)

theorem RlogCuts_lifted (os : Os) (started : os.Started) (H : Type) (enc : TypeId × Value → H) :
    ReturnsInHanded {} Try.checked os 4 .any (Rows.rlogCutsSpec.pre6 enc Try.prog Try.f4 Rows.rlogCutsRow.domain false) (Rows.rlogCutsSpec.post enc Try.prog Try.f4 false true false false) := by
  refine returnsInHanded_of_change (C := Try.checked) Try.own started (by kernel_rfl) Try.func4
    (ChangeSpec.witness6 (enc := enc) (C := Try.checked) false ⟨#[], #[.int .i64 0, .int .i64 0, .slice none 0 0, .slice none 0 0], []⟩ 8 (by kernel_rfl) (by kernel_rfl) (by kernel_rfl) (by kernel_rfl)) ?_
  intro W base args ds gs before hval0 hW hcnd _
  have hval : ∀ (j : Nat) t v, Try.f4.params[j]? = some t → args[j]? = some v → Value.okWide Try.prog W .any base t v := hval0
  have hW' := hW
  obtain ⟨p, q, hA0, hV, rfl, hfz, hnd⟩ := hW
  have hA : DataW.TrodAll enc Try.prog W 0 (fun _ => true) true Try.f4.params.toList args.toList ds p := hA0
  rw [Try.params4] at hA hval
  obtain ⟨rfl, rfl⟩ := trodVars_none hV
  clear hA0 hval0
  obtain ⟨v0, vs0, d0, ds0, p0, q0, hv0, hd0, hp0, h0, hA0⟩ := trodAll_cons hA
  obtain ⟨v1, vs1, d1, ds1, p1, q1, hv1, hd1, hp1, h1, hA1⟩ := trodAll_cons hA0
  obtain ⟨v2, vs2, d2, ds2, p2, q2, hv2, hd2, hp2, h2, hA2⟩ := trodAll_cons hA1
  obtain ⟨v3, vs3, d3, ds3, p3, q3, hv3, hd3, hp3, h3, hA3⟩ := trodAll_cons hA2
  obtain ⟨hvE, hdE⟩ := trodAll_nil hA3
  subst hvE hdE
  subst hv3 hd3
  subst hv2 hd2
  subst hv1 hd1
  subst hd0
  obtain ⟨args⟩ := args
  simp only [] at hv0; subst hv0
  have H0 := hold_one (s := (.int .i64)) 6 (by kernel_rfl) (by kernel_rfl) (hval 0 _ v0 rfl rfl) h0
  simp only [HoldV] at H0
  obtain ⟨x0, rfl, w0⟩ := H0
  have H1 := hold_one (s := (.int .i64)) 6 (by kernel_rfl) (by kernel_rfl) (hval 1 _ v1 rfl rfl) h1
  simp only [HoldV] at H1
  obtain ⟨x1, rfl, w1⟩ := H1
  have H2 := hold_one (s := (.sl [(.int .i64), (.int .u8), .str, (.sl [(.int .i64)])])) 6 (by kernel_rfl) (by kernel_rfl) (hval 2 _ v2 rfl rfl) h2
  simp only [HoldV] at H2
  obtain ⟨x2a, x2n, x2c, x2b, rfl, x2l, x2m, x2z, ⟨x2g, x2g2⟩, x2r⟩ := H2
  have H3 := hold_one (s := (.sl [(.int .i64)])) 6 (by kernel_rfl) (by kernel_rfl) (hval 3 _ v3 rfl rfl) h3
  simp only [HoldV] at H3
  obtain ⟨x3a, x3n, x3c, x3b, rfl, x3l, x3m, x3z, ⟨x3g, x3g2⟩, x3r⟩ := H3
  have hrow2 : ∀ i, i < x2n → ∃ x : Er, (∃ e : En, EIn W x e) ∧ ∃ a0, x2a = some a0 ∧ Rd W (a0.add (i * erR.k)) (erR.f x) := by
    intro i hi
    obtain ⟨q0, ys, hq0, hl, hrd, hh⟩ := x2r i hi
    simp only [HoldL] at hh
    obtain ⟨_, _, _, _, rfl, b0, ⟨_, _, _, _, rfl, b1, ⟨_, _, _, _, rfl, b2, ⟨_, _, _, _, rfl, b3, rfl, y3⟩, y2⟩, y1⟩, y0⟩ := hh
    simp only [HoldV] at b0 b1 b2 b3
    obtain ⟨et, rfl, wt⟩ := b0
    obtain ⟨ek, rfl, wk⟩ := b1
    obtain ⟨ed, rfl, wd⟩ := b2
    obtain ⟨ka, kn, kc, kb, rfl, kl, km, kz, ⟨kg, kgg⟩, kr⟩ := b3
    obtain ⟨LK, hLK, hRK, hSK⟩ := seg_ints kr
    exact ⟨⟨et, ek, ed, ⟨ka, kn, kc⟩⟩, ⟨⟨et, ek, ed, LK⟩, ⟨rfl, rfl, rfl, ⟨by rw [it_cells]; exact hSK, kl, by unfold maxLen at km; exact km⟩⟩⟩, q0, hq0, hrd⟩
  obtain ⟨X2, hX2l, hP2, hS2⟩ := seg_recs erR hrow2
  obtain ⟨L2, hL2l, hE2⟩ := pick_list X2 hP2
  have hin2 : LIn W ⟨x2a, x2n, x2c⟩ L2 := ⟨X2, ⟨hS2, x2l, by unfold maxLen at x2m; exact x2m⟩, hL2l, fun i h h' => hE2 i h h'⟩
  have hrow3 : ∀ i, i < x3n → ∃ x, (fun _ => True) x ∧ ∃ a0, x3a = some a0 ∧ Rd W (a0.add (i * (itR).k)) ((itR).f x) := by
    intro i hi
    obtain ⟨q0, ys, hq0, hl, hrd, hh⟩ := x3r i hi
    simp only [HoldL, HoldV] at hh
    obtain ⟨_, _, _, _, rfl, ⟨a0, rfl, wa0⟩, rfl, _⟩ := hh
    exact ⟨a0, trivial, q0, hq0, hrd⟩
  obtain ⟨L3, hL3l, hP3, hS3⟩ := seg_recs (itR) hrow3
  have hin3 : InR (itR) W ⟨x3a, x3n, x3c⟩ L3 := ⟨hS3, x3l, by unfold maxLen at x3m; exact x3m⟩
  refine (Cuts_any x0 x1 ⟨x2a, x2n, x2c⟩ ⟨x3a, x3n, x3c⟩ L2 L3 W hin2 hin3).mono fun e W' ⟨he, hw⟩ => ?_
  subst he
  exact ⟨_, rfl, post_true Try.laidOut (by kernel_rfl) rfl rfl (tb := 4) Try.underlying4 hW' rfl hw⟩

theorem RlogCuts_holds : Rows.RlogCutsSaid :=
  OpenClaim.holds_of_wide 4 Try.f4 rfl rfl rfl rfl rfl rfl rfl ⟨rfl, rfl, rfl, rfl, rfl⟩ rfl rfl rfl rfl rfl (by kernel_rfl) Try.func4 (by kernel_rfl)
    (of_decide_eq_true (by kernel_rfl)) (by unfold Func.isWrapper; first | (rw [if_pos (by decide +kernel)]; kernel_rfl) | (rw [if_neg (by decide +kernel)]; exact ⟨rfl, rfl⟩))
    (fun os started H enc _ => RlogCuts_lifted os started H enc)

#print axioms RlogCuts_holds
end Go.Proofs.Ytkekjbdppabmhaa
