/-
  Package config: the law of late commands.
-/
import Derived.Test.YtfihhleaciddpaaConfD
namespace Go.Proofs.Ytfihhleaciddpaa
open Go.RowKit
set_option maxRecDepth 100000

theorem cfg_sep {w0 w1 w : World} {q : Nat} {s d t : Sl} {c : CM} {Y : List Cmd} (h : CfgO 52 w0 w q s d c) (k : OwnR cmR 33 w1 w t Y) : ∀ b ∈ rowB t, b ∉ fpc q s d := by
  intro b hb hb'
  obtain ⟨cs, hk⟩ := k.1.bk_of hb
  simp only [fpc, List.mem_cons, List.mem_append] at hb'
  rcases hb' with rfl | hb' | hb'
  · exact hk.neT h.bk (by decide) rfl
  · obtain ⟨_, k2⟩ := h.p.1.bk_of hb'
    exact hk.neT k2 (by decide) rfl
  · obtain ⟨_, k2⟩ := h.d.1.bk_of hb'
    exact hk.neT k2 (by decide) rfl
theorem next_none {c : CM} {x : Cmd} (h : c.act x = none) : c.next x = c := by unfold CM.next; rw [h]; rfl

theorem ConfigLate_law (a b : Int) (s : Sl) (L : List Cmd) (w : World) (h : InR cmR w s L) :
    Calls Try.prog 4 #[.int .i64 a, .int .i64 b, .slice s.base s.len s.cap] w (good w) := by
  refine sh_butterylaw17_ConfigLate_ok _ _ _ _ _ ?_
  unfold sh_butterylaw17_ConfigLate
  have hn := h.len
  refine VCall.i (works_spec w) ?_
  rintro e w1 ⟨rfl, e1⟩
  refine exW.i1 (t := .bool) true rfl (VIf.mk (fun hc => ?_) (fun hc => ?_))
  · refine VCall.i (works_spec w1) ?_
    rintro e w2 ⟨rfl, e2⟩
    exact exW.i1 (t := .bool) true rfl ⟨rfl, e1.then0 e2⟩
  have hL : L.length ≤ 300 := by simp at hc; omega
  have m1 := mod_in a 4 (by omega) (by omega)
  have m2 := mod_in b 5 (by omega) (by omega)
  refine VCall.i (New_ok (a := IntKind.wrap .i64 (1 + (IntKind.wrap .i64 (Int.tmod (IntKind.wrap .u64 a) 4)))) (b := IntKind.wrap .i64 (1 + (IntKind.wrap .i64 (Int.tmod (IntKind.wrap .u64 b) 5)))) ⟨m1.1, m1.2, m2.1, m2.2⟩ w1) ?_
  rintro e w2 ⟨q, t, d, rfl, h2', e2'⟩
  have h2 := h2'.mono (w0 := w) e1.size
  have e2 := e1.then0 e2'
  refine exW.i2 (t := .ptr) (u := .int .i64) (some ⟨q, 0, none⟩) 0 rfl (VSet.i (VIf.f rfl ?_))
  generalize (⟨List.replicate _ _, List.replicate _ _⟩ : CM) = c0 at h2
  refine ⟨fun k dn i W => ∃ (j : Nat) (c : CM) (Y : List Cmd), i = (j : Int) ∧ j ≤ L.length ∧ k = L.length - j ∧ CfgO 52 w W q t d c ∧ OwnR cmR 33 w W dn Y ∧ Y.length ≤ j ∧ (∀ y ∈ Y, past c y) ∧ Ext [] w W,
    ⟨_, 0, _, [], rfl, by omega, rfl, h2, OwnR.nil _ _ _ _, by simp, by simp, e2⟩, ?_⟩
  rintro k dn i w4 ⟨j, c, Y, rfl, hj, rfl, h4, y4, hYj, hY, e4⟩
  have hyl := y4.len
  refine VIf.mk (fun hc => ?_) (fun hc => ?_)
  · have hj' : j < L.length := by simp at hc; omega
    refine ⟨fun dn W => ∃ (c : CM) (Y : List Cmd), CfgO 52 w W q t d c ∧ OwnR cmR 33 w W dn Y ∧ Y.length ≤ j + 1 ∧ (∀ y ∈ Y, past c y) ∧ Ext [] w W, ?_, ?_⟩
    · obtain ⟨ad, had, hrd⟩ := (h.1.ext0 e4).rec_at hj'
      rw [had]
      refine VIx.i (by omega) (by omega) ?_
      refine ⟨((L[j]).kind : Int), ((L[j]).shard : Int), ((L[j]).store : Int), ((L[j]).epoch : Int), gd.i hrd, ?_⟩
      refine VCall.i (Do_out L[j] h4 e4) ?_
      rintro e w5 ⟨rfl, h5, ea5, e5⟩
      have y5 := y4.ext ea5 (cfg_sep h4 y4)
      have hY5 : ∀ y ∈ Y, past (c.next L[j]) y := fun y hy => past_next h4.ok (hY y hy) _
      obtain ⟨ad2, had2, hrd2⟩ := (h.1.ext0 e5).rec_at hj'
      obtain rfl : ad2 = ad := by rw [had] at had2; cases had2; rfl
      refine exW.i1 (t := .bool) _ rfl (VIx.i (by omega) (by omega) (VLd.i1 _ (hrd2.fld0 rfl) ?_))
      refine VIf.mk (fun hd => ?_) (fun hd => ?_)
      · have hd1 : (c.act L[j]).isSome = true := by simp at hd; exact Option.isSome_iff_exists.2 (by simpa [Option.isSome_iff_exists] using hd.1)
        have hd2 : (L[j]).kind < 5 := by simp at hd; exact hd.2
        refine VIx.i (by omega) (by omega) ?_
        refine ⟨((L[j]).kind : Int), ((L[j]).shard : Int), ((L[j]).store : Int), ((L[j]).epoch : Int), gd.i hrd2, ?_⟩
        refine VNw.i fun b6 w6 hb6 hk6 e6 => ?_
        refine VApp.rec (r := cmR) (y5.ext0 e6) (e5.then0 e6) (news := [L[j]]) (Seg.of_bk hk6 rfl rfl) rfl rfl (by omega) (by omega) fun s7 w7 y7 e7 ea7 _ => ?_
        refine ⟨c.next L[j], Y ++ [L[j]], (h5.ext0 e6).ext ea7 (fun x hx hx' => cfg_sep h5 y5 x hx' hx), y7, by simp; omega, ?_, e7⟩
        intro y hy
        rcases List.mem_append.1 hy with hy | hy
        · exact hY5 y hy
        · rw [List.mem_singleton.1 hy]
          exact past_done h4.ok hd1 hd2
      · exact ⟨_, Y, h5, y5, by omega, hY5, e5⟩
    · rintro dn' w8 ⟨c, Y, h8, y8, hYj, hY, e8⟩
      rw [w64 (n := (j : Int) + 1) (by omega)]
      exact VSet.i ⟨_, by omega, j + 1, c, Y, rfl, by omega, rfl, h8, y8, hYj, hY, e8⟩
  · refine VCall.i (Encode_spec w w4 q t d c h4) ?_
    rintro e w9 ⟨b9, rfl, hb9, e49⟩
    have e9 := e4.then0 e49
    refine exW.i1 (t := .str) b9 rfl ?_
    refine ⟨fun k i W => ∃ m : Nat, i = (m : Int) ∧ m ≤ Y.length ∧ k = Y.length - m ∧ CfgO 52 w W q t d c ∧ OwnR cmR 33 w W dn Y ∧ Ext [] w W, ⟨_, 0, rfl, by omega, rfl, h4.ext0 e49, y4.ext0 e49, e9⟩, ?_⟩
    rintro k i w10 ⟨m, rfl, hm, rfl, h10, y10, e10⟩
    refine VIf.mk (fun hc2 => ?_) (fun hc2 => ⟨rfl, e10⟩)
    have hm' : m < Y.length := by simp at hc2; omega
    obtain ⟨ad, had, hrd⟩ := y10.seg.rec_at hm'
    rw [had]
    refine VIx.i (by omega) (by omega) ?_
    refine ⟨((Y[m]).kind : Int), ((Y[m]).shard : Int), ((Y[m]).store : Int), ((Y[m]).epoch : Int), gd.i hrd, ?_⟩
    refine VCall.i (Do_out Y[m] h10 e10) ?_
    rintro e w11 ⟨rfl, h11, ea11, e11⟩
    have y11 := y10.ext ea11 (cfg_sep h10 y10)
    have hno := past_none (hY _ (List.getElem_mem hm'))
    rw [next_none hno] at h11
    rw [hno]
    refine exW.i1 (t := .bool) false rfl (VCall.on rfl (VCall.i (Encode_spec w w11 q t d c h11) ?_))
    rintro e w12 ⟨b12, rfl, hb12, e1112⟩
    refine exW.i1 (t := .str) b12 rfl (VIf.f (by rw [strEq, hb9, hb12]; simp) ?_)
    rw [w64 (n := (m : Int) + 1) (by omega)]
    exact VSet.i ⟨_, by omega, m + 1, rfl, by omega, rfl, h11.ext0 e1112, y11.ext0 e1112, e11.then0 e1112⟩
end Go.Proofs.Ytfihhleaciddpaa
