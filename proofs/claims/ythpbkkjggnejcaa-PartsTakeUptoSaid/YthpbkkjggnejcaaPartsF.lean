/-
  Package parts: all of one key deleted from a row.
-/
import Derived.Test.YthpbkkjggnejcaaPartsE
namespace Go.Proofs.Ythpbkkjggnejcaa
open Go.RowKit
set_option maxRecDepth 100000

theorem Delete_spec (s : Sl) (L : List Ky) (who : Ky) (b : Nat) (t : TypeId) (w0 w : World) (h : OwnR kyR 69 w0 w s L) (hb : Bk w b [.int .i64 who.1, .int .i64 who.2] t) (hbs : b ∉ rowB s) (hL : L.length ≤ 1000) :
    Calls Try.prog 41 #[.slice s.base s.len s.cap, .func (.func 42) #[] #[.pointer (some ⟨b, 0, none⟩)]] w fun e w' =>
      ∃ s' : Sl, e = .returned (.slice s'.base s'.len s'.cap) ∧ OwnR kyR 69 w0 w' s' (rest1 L who) ∧ Ext (rowB s) w w' ∧ rowB s' = rowB s := by
  refine sh_slices_DeleteFunc_ok _ _ _ _ ?_
  unfold sh_slices_DeleteFunc
  have hl := h.len
  have hcap := h.cap
  refine VCall.i (Index_spec s L who b t w h.in_ hb) ?_
  rintro e w1 ⟨i, hi, hno, hyes, rfl, e1⟩
  refine exW.i1 (t := .int .i64) _ rfl (VSet.i (VIf.mk (fun hc => ?_) (fun hc => ?_)))
  · have hi2 : i = L.length := by
      by_cases hlt : i < L.length
      · rw [if_pos hlt] at hc
        simp at hc
      · omega
    have : rest1 L who = L := rest1_none fun x hx => by
      obtain ⟨j, hj, rfl⟩ := List.mem_iff_getElem.1 hx
      exact hno j hj (by omega)
    rw [this]
    exact ⟨s, rfl, h.ext0 e1, e1.mono (by simp), rfl⟩
  have hlt : i < L.length := by
    apply Classical.byContradiction
    intro hn
    rw [if_neg hn] at hc
    simp at hc
  rw [if_pos hlt, hl, w64 (n := (i : Int) + 1) (by omega)]
  have htake : rest1 (L.take i) who = L.take i := rest1_none fun x hx => by
    obtain ⟨j, hj, rfl⟩ := List.mem_iff_getElem.1 hx
    rw [List.getElem_take]
    rw [List.length_take] at hj
    exact hno j (by omega) (by omega)
  have htake1 : rest1 (L.take (i + 1)) who = L.take i := by
    rw [List.take_succ_eq_append_getElem hlt, rest1_snoc, if_pos (hyes hlt), htake]
  refine VSet.i ?_
  refine ⟨fun k i' j' W => ∃ (m : Nat) (C : List Ky), j' = (m : Int) ∧ i' = ((rest1 (L.take m) who).length : Int) ∧ m ≤ L.length ∧ (rest1 (L.take m) who).length < m ∧ k = L.length - m ∧ C.length = L.length ∧ C.take (rest1 (L.take m) who).length = rest1 (L.take m) who ∧ C.drop m = L.drop m ∧ OwnR kyR 69 w0 W s C ∧ Ext (rowB s) w W,
    ⟨_, i + 1, L, by omega, ?_, by omega, ?_, rfl, rfl, ?_, rfl, h.ext0 e1, e1.mono (by simp)⟩, ?_⟩
  · rw [htake1, List.length_take, Nat.min_eq_left (by omega)]
  · rw [htake1, List.length_take]; omega
  · rw [htake1, List.length_take, Nat.min_eq_left (by omega)]
  rintro k i' j' w2 ⟨m, C, rfl, rfl, hm, hfm, rfl, hCl, hCt, hCd, ho, e2⟩
  refine VIf.mk (fun hd => ?_) (fun hd => ?_)
  · have hm' : m < L.length := by simp at hd; omega
    have hmC : m < C.length := by omega
    have hCm : C[m] = L[m] := by
      have h1 : (C.drop m)[0]? = (L.drop m)[0]? := by rw [hCd]
      simp only [List.getElem?_drop, Nat.add_zero, List.getElem?_eq_getElem hmC, List.getElem?_eq_getElem hm', Option.some.injEq] at h1
      exact h1
    have hfl : (rest1 (L.take (m + 1)) who).length ≤ m := by
      rw [List.take_succ_eq_append_getElem hm', rest1_snoc]
      split
      · omega
      · rw [List.length_append]; simp; omega
    refine ⟨fun i'' W => i'' = ((rest1 (L.take (m + 1)) who).length : Int) ∧ ∃ C' : List Ky, C'.length = L.length ∧ C'.take (rest1 (L.take (m + 1)) who).length = rest1 (L.take (m + 1)) who ∧ C'.drop (m + 1) = L.drop (m + 1) ∧ OwnR kyR 69 w0 W s C' ∧ Ext (rowB s) w W, ?_, ?_⟩
    · have hseg := ho.in_.1
      rw [hl] at hseg
      refine VIx.i' (r := kyR) hseg hmC fun a hr => ?_
      rw [hCm] at hr
      refine VLd.i2 (t := .int .i64) (u := .int .i64) (L[m]).1 (L[m]).2 hr ?_
      refine VNw.i fun vb w3 hvb hk3 e3 => VSt.bk hk3 rfl (by simp) fun w4 hk4 e4 => ?_
      have hk4 : Bk w4 vb [.int .i64 (L[m]).1, .int .i64 (L[m]).2] 69 := hk4
      have e24 : Ext [] w2 w4 := e3.then e4 (fun i hi hlt => by simp at hi; omega)
      refine VLd.i2 (t := .int .i64) (u := .int .i64) (L[m]).1 (L[m]).2 (Rd.of_bk hk4 rfl) ?_
      refine askKey ((hb.ext e2 hbs).ext e24) fun w5 e5 => ?_
      have hk5 := hk4.ext e5
      have e25 := e24.then0 e5
      have ho5 := ho.ext0 e25
      have hdrop : C.drop (m + 1) = L.drop (m + 1) := by
        rw [← List.drop_drop, ← List.drop_drop, hCd]
      refine VIf.mk (fun hq => ?_) (fun hq => ?_)
      · have hq : ¬ L[m] = who := by simpa using hq
        refine VLd.i2 (t := .int .i64) (u := .int .i64) (L[m]).1 (L[m]).2 (Rd.of_bk hk5 rfl) ?_
        have hr1 : rest1 (L.take (m + 1)) who = rest1 (L.take m) who ++ [L[m]] := by
          rw [List.take_succ_eq_append_getElem hm', rest1_snoc, if_neg hq]
        have hfC : (rest1 (L.take m) who).length < C.length := by omega
        have hp := Row.putR (r := kyR) (g := none) (j := 0) (vs := [.int .i64 (L[m]).1, .int .i64 (L[m]).2]) (x := L[m]) (ad := fun a => Addr.add a ((rest1 (L.take m) who).length * 2)) ho5.1 hfC (by show 0 + 2 ≤ 2; omega) rfl rfl (fun a => by rw [add_zero]; rfl) (K := fun w6 => VSet (IntKind.wrap .i64 (((rest1 (L.take m) who).length : Int) + 1)) fun (i_5_3 : Int) => (i_5_3 = ((rest1 (L.take (m + 1)) who).length : Int) ∧ ∃ C' : List Ky, C'.length = L.length ∧ C'.take (rest1 (L.take (m + 1)) who).length = rest1 (L.take (m + 1)) who ∧ C'.drop (m + 1) = L.drop (m + 1) ∧ OwnR kyR 69 w0 w6 s C' ∧ Ext (rowB s) w w6)) fun w6 h6 e6 => ?_
        · rw [hl] at hp
          exact hp
        · rw [w64 (by omega)]
          refine VSet.i ⟨by rw [hr1, List.length_append]; simp, C.set (rest1 (L.take m) who).length L[m], by rw [List.length_set]; exact hCl, ?_, ?_, ⟨h6, ho.2⟩, (e2.then0 e25).then e6 (fun i hi _ => hi)⟩
          · rw [hr1, List.length_append]
            simp only [List.length_cons, List.length_nil, Nat.zero_add]
            rw [List.take_succ_eq_append_getElem (by rw [List.length_set]; exact hfC), List.take_set_of_le (Nat.le_refl _), hCt, List.getElem_set_self]
          · rw [List.drop_set_of_lt (by omega)]
            exact hdrop
      · have hq : L[m] = who := by simpa using hq
        have hr1 : rest1 (L.take (m + 1)) who = rest1 (L.take m) who := by
          rw [List.take_succ_eq_append_getElem hm', rest1_snoc, if_pos hq]
        rw [hr1]
        exact ⟨rfl, C, hCl, hCt, hdrop, ho5, e2.then0 e25⟩
    · rintro i'' w7 ⟨rfl, C', hCl', hCt', hCd', ho', e7⟩
      rw [w64 (n := (m : Int) + 1) (by omega)]
      exact VSet.i ⟨_, (show L.length - (m + 1) < L.length - m by omega), m + 1, C', rfl, rfl, by omega, by omega, rfl, hCl', hCt', hCd', ho', e7⟩
  · have hmm : m = L.length := by simp at hd; omega
    subst hmm
    rw [List.take_length] at *
    refine VCk.i (by omega) ?_
    rw [Int.toNat_natCast]
    obtain ⟨w8, hrun, ho8, e8⟩ := clear_run (ty := 0) ho (i := (rest1 L who).length) (by omega)
    rw [hl] at hrun
    refine ⟨.tuple #[], w8, hrun, rfl, ?_⟩
    refine VCk.i (by omega) ?_
    rw [hCt] at ho8
    refine ⟨⟨cutB s.base s.cap 2 0, (rest1 L who).length - 0, s.cap - 0⟩, rfl, ?_, e2.then e8 (fun i hi _ => hi), ?_⟩
    · rw [cutB_zero]; exact ho8
    · simp only [cutB_zero]; rfl
end Go.Proofs.Ythpbkkjggnejcaa
