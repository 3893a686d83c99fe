/-
  Package config: the document's written form; the stores that are down; does one stand as the document's.
-/
import Derived.Test.YtfihhleaciddpaaConfQ
namespace Go.Proofs.Ytfihhleaciddpaa
open Go.RowKit
set_option maxRecDepth 100000

theorem XEncode_spec (w0 w : World) (q : Nat) (s d : Sl) (c : CM) (h : CfgO 69 w0 w q s d c) :
    Calls Try.prog 37 #[.pointer (some ⟨q, 0, none⟩)] w fun e w' => ∃ b : ByteArray, e = .returned (.string b) ∧ b.data.toList = encCfg c ∧ Ext [] w w' := by
  refine sh_butteryref17_Config_Encode_ok _ _ _ ?_
  unfold sh_butteryref17_Config_Encode
  have hpl := h.p.len
  have hdl := h.d.len
  have hp4 := h.ok.p
  have hd5 := h.ok.d
  intro w1 hw1
  have e1 := Ext.drew' hw1
  have h1 := h.ext0 e1
  refine VNN.i (VLd.s s h1.rd0 (VNN.i (VLd.s d h1.rd1 ?_)))
  refine VCall.i (XCount_spec ⟨none, 0, 0⟩ [] ((s.len : Nat) : Int) w1 (Seg.nil _ _ _) (by simp)) ?_
  rintro e w2 ⟨b2, rfl, k2, e2⟩
  have h2 := h1.ext0 e2
  have c2 := encC_len ((s.len : Nat) : Int)
  refine exW.i1 (t := .sl) b2 rfl ⟨h2.rd1, ?_⟩
  refine VCall.i (XCount_spec b2 _ ((d.len : Nat) : Int) w2 k2.seg (by simp only [List.nil_append]; omega)) ?_
  rintro e w3 ⟨b3, rfl, k3, e3⟩
  have e03 := (e1.then0 e2).then0 e3
  have h3 := h2.ext0 e3
  have c3 := encC_len ((d.len : Nat) : Int)
  refine exW.i1 (t := .sl) b3 rfl ?_
  rw [List.nil_append, hpl, hdl] at k3
  rw [hpl] at c2
  rw [hdl] at c3
  refine ⟨fun k b i W => ∃ m : Nat, i = (m : Int) ∧ m ≤ c.P.length ∧ k = c.P.length - m ∧ Own w W b (encC c.P.length ++ encC c.D.length ++ encP (c.P.take m)) ∧ Ext [] w W, ⟨_, 0, rfl, by omega, rfl, by simpa [encP] using k3.mono (e1.then0 e2).size, e03⟩, ?_⟩
  rintro k b i w4 ⟨m, rfl, hm, rfl, k4, e4⟩
  have h4 := h.ext0 e4
  refine VNN.i (VLd.s s h4.rd0 ?_)
  refine VIf.mk (fun hc => ?_) (fun hc => ?_)
  · have hm' : m < c.P.length := by simp at hc; omega
    have hlen := encP_len (c.P.take m)
    have htl : (c.P.take m).length ≤ 4 := by rw [List.length_take]; omega
    have q1 := encC_len (c.P[m]).1
    have q2 := encC_len (c.P[m]).2.1
    have q3 := encC_len (c.P[m]).2.2
    have hbase : (encC c.P.length ++ encC c.D.length ++ encP (c.P.take m)).length ≤ 140 := by simp only [List.length_append]; omega
    obtain ⟨a, ha, hrd⟩ := h4.p.seg.rec_at hm'
    have hrd : ∀ W, Ext [] w4 W → Rd W (a.add (m * plR.k)) (plR.f c.P[m]) := fun W eW => by
      obtain ⟨a', ha', hrd'⟩ := (h4.ext0 eW).p.seg.rec_at hm'
      obtain rfl : a' = a := by rw [ha] at ha'; cases ha'; rfl
      exact hrd'
    refine VNN.i (VLd.s s h4.rd0 ?_)
    rw [ha]
    refine VIx.i (by omega) (by omega) (VLd.i1 _ ((hrd w4 (Ext.refl _ _)).fld0 rfl) ?_)
    refine VCall.i (XCount_spec b _ (c.P[m]).1 w4 k4.seg (by omega)) ?_
    rintro e w8 ⟨b8, rfl, k8, e8⟩
    have h8 := h4.ext0 e8
    refine exW.i1 (t := .sl) b8 rfl (VNN.i (VLd.s s h8.rd0 ?_))
    rw [ha]
    refine VIx.i (by omega) (by omega) (VLd.i1 _ ((hrd w8 e8).fld 1 rfl) ?_)
    refine VCall.i (XCount_spec b8 _ (c.P[m]).2.1 w8 k8.seg (by rw [List.length_append]; omega)) ?_
    rintro e w9 ⟨b9, rfl, k9, e9⟩
    have h9 := h8.ext0 e9
    refine exW.i1 (t := .sl) b9 rfl (VNN.i (VLd.s s h9.rd0 ?_))
    rw [ha]
    refine VIx.i (by omega) (by omega) (VLd.i1 _ ((hrd w9 (e8.then0 e9)).fld 2 rfl) ?_)
    refine VCall.i (XCount_spec b9 _ (c.P[m]).2.2 w9 k9.seg (by rw [List.length_append, List.length_append]; omega)) ?_
    rintro e w10 ⟨b10, rfl, k10, e10⟩
    refine exW.i1 (t := .sl) b10 rfl ?_
    rw [w64 (n := (m : Int) + 1) (by omega)]
    have ee := (e4.then0 e8).then0 e9
    refine VSet.i ⟨_, by omega, m + 1, rfl, by omega, rfl, ?_, ee.then0 e10⟩
    have hz : encP (c.P.take (m + 1)) = encP (c.P.take m) ++ (encC (c.P[m]).1 ++ encC (c.P[m]).2.1 ++ encC (c.P[m]).2.2) := by
      rw [List.take_succ_eq_append_getElem hm']; unfold encP; rw [List.flatMap_append]; simp
    rw [hz, ← List.append_assoc, ← List.append_assoc, ← List.append_assoc]
    exact k10.mono ee.size
  · have hmm : m = c.P.length := by simp at hc; omega
    subst hmm
    rw [List.take_length] at k4
    have hlen := encP_len c.P
    have q1 := encC_len c.P.length
    have q2 := encC_len c.D.length
    refine ⟨fun k b i W => ∃ m : Nat, i = (m : Int) ∧ m ≤ c.D.length ∧ k = c.D.length - m ∧ Own w W b (encC c.P.length ++ encC c.D.length ++ encP c.P ++ encD (c.D.take m)) ∧ Ext [] w W, ⟨_, 0, rfl, by omega, rfl, by simpa [encD] using k4, e4⟩, ?_⟩
    rintro k b' i w5 ⟨m, rfl, hm, rfl, k5, e5⟩
    have h5 := h.ext0 e5
    refine VNN.i (VLd.s d h5.rd1 ?_)
    refine VIf.mk (fun hc2 => ?_) (fun hc2 => ?_)
    · have hm' : m < c.D.length := by simp at hc2; omega
      obtain ⟨a, ha, hrd⟩ := h5.d.seg.rec_at hm'
      refine VNN.i (VLd.s d h5.rd1 ?_)
      rw [ha]
      refine VIx.i (by omega) (by omega) (VLd.i1 (t := .bool) (c.D[m]) hrd ?_)
      have hl2 := encD_len (c.D.take m)
      rw [List.length_take] at hl2
      refine VCall.i (XFlag_spec b' _ c.D[m] w5 k5.seg (by simp only [List.length_append]; omega)) ?_
      rintro e w6 ⟨b6, rfl, k6, e6⟩
      refine exW.i1 (t := .sl) b6 rfl ?_
      rw [w64 (n := (m : Int) + 1) (by omega)]
      refine VSet.i ⟨_, by omega, m + 1, rfl, by omega, rfl, ?_, e5.then0 e6⟩
      have hz : encD (c.D.take (m + 1)) = encD (c.D.take m) ++ enc (if c.D[m] then 1 else 0) := by
        rw [List.take_succ_eq_append_getElem hm']; unfold encD; rw [List.flatMap_append]; simp
      rw [hz, ← List.append_assoc]
      exact k6.mono e5.size
    · have hmm : m = c.D.length := by simp at hc2; omega
      subst hmm
      rw [List.take_length] at k5
      refine VStr.i _ k5.seg fun y hy => ⟨y, rfl, ?_, e5⟩
      rw [hy]; rfl

/-! which stores are down -/
def inR : Rec Int := ⟨fun n => [.int .i64 n], 1, fun _ => rfl, fun _ => rfl, by omega⟩
def dnl (D : List Bool) : Nat → List Int
  | 0 => []
  | k + 1 => if D.getD k false then dnl D k ++ [((k : Nat) : Int) + 1] else dnl D k
theorem dnl_len (D : List Bool) : ∀ k, (dnl D k).length ≤ k
  | 0 => Nat.le_refl _
  | k + 1 => by
    have := dnl_len D k
    simp only [dnl]; split
    · simp; omega
    · omega
theorem Stores_spec (w0 w : World) (q : Nat) (s d : Sl) (c : CM) (h : CfgO 52 w0 w q s d c) :
    Calls Try.prog 36 #[.pointer (some ⟨q, 0, none⟩)] w fun e w' => e = .returned (.int .i64 (c.D.length : Int)) ∧ w' = w := by
  refine sh_config_Config_Stores_ok _ _ _ ?_
  unfold sh_config_Config_Stores
  refine VIf.f rfl (VNN.i (VLd.s d h.rd1 (VSet.i ⟨?_, rfl⟩)))
  rw [h.d.len]
theorem Downs_spec (w0 w : World) (q : Nat) (s d : Sl) (c : CM) (h : CfgO 52 w0 w q s d c) :
    Calls Try.prog 34 #[.pointer (some ⟨q, 0, none⟩)] w fun e w' => ∃ t : Sl, e = .returned (.slice t.base t.len t.cap) ∧ OwnR inR 3 w w' t (dnl c.D c.D.length) ∧ Ext [] w w' := by
  refine sh_config_Config_Downs_ok _ _ _ ?_
  unfold sh_config_Config_Downs
  have hd5 := h.ok.d
  have hdl := h.d.len
  refine VCall.i (Stores_spec w0 w q s d c h) ?_
  rintro e w1 ⟨rfl, hw⟩
  subst hw
  refine exW.i1 (t := .int .i64) _ rfl ?_
  refine ⟨fun k t i W => ∃ m : Nat, i = (m : Int) ∧ m ≤ c.D.length ∧ k = c.D.length - m ∧ OwnR inR 3 w1 W t (dnl c.D m) ∧ Ext [] w1 W, ⟨_, 0, rfl, by omega, rfl, OwnR.nil _ _ _ _, Ext.refl _ _⟩, ?_⟩
  rintro k t i w2 ⟨m, rfl, hm, rfl, k2, e2⟩
  have h2 := h.ext0 e2
  have hl := dnl_len c.D m
  refine VIf.mk (fun hc => ?_) (fun hc => ?_)
  · have hm' : m < c.D.length := by simp at hc; omega
    have hg : c.D.getD m false = c.D[m] := by rw [List.getD_eq_getElem?_getD, List.getElem?_eq_getElem hm']; rfl
    refine ⟨fun t W => OwnR inR 3 w1 W t (dnl c.D (m + 1)) ∧ Ext [] w1 W, ?_, ?_⟩
    · refine VSet.i (VNN.i (VLd.s d h2.rd1 ?_))
      obtain ⟨a, ha, hrd⟩ := h2.d.seg.rec_at hm'
      rw [ha]
      refine VIx.i (by omega) (by omega) (VLd.i1 (t := .bool) (c.D[m]) hrd ?_)
      rw [w64 (n := (m : Int) + 1) (by omega)]
      unfold dnl
      rw [hg]
      refine VIf.mk (fun hc2 => ?_) (fun hc2 => ?_)
      · rw [hc2, if_pos rfl]
        refine VNw.i fun b w3 hb hk e3 => ?_
        exact VApp.rec (r := inR) (k2.ext0 e3) (e2.then0 e3) (news := [(m : Int) + 1]) (Seg.of_bk hk rfl rfl) rfl rfl (by omega) (by omega) fun s' w' h' e' _ _ => ⟨h', e'⟩
      · rw [hc2, if_neg (by simp)]
        exact ⟨k2, e2⟩
    · rintro t' w5 ⟨k5, e5⟩
      rw [w64 (n := (m : Int) + 1) (by omega)]
      exact ⟨_, by omega, m + 1, rfl, by omega, rfl, k5, e5⟩
  · have hmm : m = c.D.length := by simp at hc; omega
    subst hmm
    exact ⟨t, rfl, k2, e2⟩
theorem XDowns_spec (w0 w : World) (q : Nat) (s d : Sl) (c : CM) (h : CfgO 69 w0 w q s d c) :
    Calls Try.prog 35 #[.pointer (some ⟨q, 0, none⟩)] w fun e w' => ∃ t : Sl, e = .returned (.slice t.base t.len t.cap) ∧ OwnR inR 3 w w' t (dnl c.D c.D.length) ∧ Ext [] w w' := by
  refine sh_butteryref17_Config_Downs_ok _ _ _ ?_
  unfold sh_butteryref17_Config_Downs
  have hd5 := h.ok.d
  have hdl := h.d.len
  refine ⟨fun k t i W => ∃ m : Nat, i = (m : Int) ∧ m ≤ c.D.length ∧ k = c.D.length - m ∧ OwnR inR 3 w W t (dnl c.D m) ∧ Ext [] w W, ⟨_, 0, rfl, by omega, rfl, OwnR.nil _ _ _ _, Ext.refl _ _⟩, ?_⟩
  rintro k t i w2 ⟨m, rfl, hm, rfl, k2, e2⟩
  have h2 := h.ext0 e2
  have hl := dnl_len c.D m
  refine VNN.i (VLd.s d h2.rd1 ?_)
  refine VIf.mk (fun hc => ?_) (fun hc => ?_)
  · have hm' : m < c.D.length := by simp at hc; omega
    have hg : c.D.getD m false = c.D[m] := by rw [List.getD_eq_getElem?_getD, List.getElem?_eq_getElem hm']; rfl
    refine ⟨fun t W => OwnR inR 3 w W t (dnl c.D (m + 1)) ∧ Ext [] w W, ?_, ?_⟩
    · refine (VNN.i (VLd.s d h2.rd1 ?_))
      obtain ⟨a, ha, hrd⟩ := h2.d.seg.rec_at hm'
      rw [ha]
      refine VIx.i (by omega) (by omega) (VLd.i1 (t := .bool) (c.D[m]) hrd ?_)
      rw [w64 (n := (m : Int) + 1) (by omega)]
      unfold dnl
      rw [hg]
      refine VIf.mk (fun hc2 => ?_) (fun hc2 => ?_)
      · rw [hc2, if_pos rfl]
        refine VNw.i fun b w3 hb hk e3 => ?_
        exact VApp.rec (r := inR) (k2.ext0 e3) (e2.then0 e3) (news := [(m : Int) + 1]) (Seg.of_bk hk rfl rfl) rfl rfl (by omega) (by omega) fun s' w' h' e' _ _ => ⟨h', e'⟩
      · rw [hc2, if_neg (by simp)]
        exact ⟨k2, e2⟩
    · rintro t' w5 ⟨k5, e5⟩
      rw [w64 (n := (m : Int) + 1) (by omega)]
      exact VSet.i ⟨_, by omega, m + 1, rfl, by omega, rfl, k5, e5⟩
  · have hmm : m = c.D.length := by simp at hc; omega
    subst hmm
    exact ⟨t, rfl, k2, e2⟩
end Go.Proofs.Ytfihhleaciddpaa
