/-
  Package rlog: an entry's bytes.
-/
import Derived.Test.YtkekjbdppabmhaaRlogB
namespace Go.Proofs.Ytkekjbdppabmhaa
open Go.RowKit
set_option maxRecDepth 100000

theorem ris_ge {l : List Int} (h : risB l = true) : ∀ i : Nat, i < l.length → ((i : Int) + 1 ≤ l.getD i 0 ∧ l.getD i 0 ≤ 5)
  | 0, hi => by
    unfold risB at h
    rw [decide_eq_true_eq] at h
    have := h 0 hi
    omega
  | i + 1, hi => by
    have ih := ris_ge h i (by omega)
    unfold risB at h
    rw [decide_eq_true_eq] at h
    obtain ⟨h1, h2, h3⟩ := h (i + 1) hi
    have h3 := h3 (by omega)
    rw [Nat.add_sub_cancel] at h3
    omega
theorem ris_len {l : List Int} (h : risB l = true) : l.length ≤ 5 := by
  by_cases h0 : l.length = 0
  · omega
  · have := ris_ge h (l.length - 1) (by omega)
    omega
theorem okE_kind {e : En} (h : okE e = true) : (1 ≤ e.term ∧ e.term ≤ 2147483647) ∧ (1 ≤ e.kind ∧ e.kind ≤ 3) ∧ e.data.size ≤ 256 ∧ e.list.length ≤ 5 ∧ ∀ x ∈ e.list, 1 ≤ x ∧ x ≤ 5 := by
  unfold okE at h
  split at h
  · cases h
  · rename_i hc
    split at h
    · simp only [Bool.and_eq_true, decide_eq_true_eq] at h
      refine ⟨by omega, by omega, by omega, by omega, fun x hx => ?_⟩
      rw [List.eq_nil_of_length_eq_zero h.2] at hx; cases hx
    · split at h
      · simp only [Bool.and_eq_true, decide_eq_true_eq] at h
        refine ⟨by omega, by omega, by omega, by omega, fun x hx => ?_⟩
        rw [List.eq_nil_of_length_eq_zero h.2] at hx; cases hx
      · split at h
        · simp only [Bool.and_eq_true, decide_eq_true_eq] at h
          refine ⟨by omega, by omega, by omega, ris_len h.2.1, fun x hx => ?_⟩
          obtain ⟨i, hi, rfl⟩ := List.mem_iff_getElem.1 hx
          have := ris_ge h.2.1 i hi
          rw [getD_get hi] at this
          omega
        · cases h
def encE (e : En) : List UInt8 := (((encC e.term ++ encC e.kind) ++ encS e.data) ++ encC ((e.list.length : Nat) : Int)) ++ e.list.flatMap encC
def wrE (e : En) : List UInt8 := if okE e then encE e else []
theorem encS_len (s : ByteArray) : (encS s).length ≤ 10 + s.size := by
  unfold encS
  split
  · have := enc_len10 (u := s.size) (by omega)
    rw [List.length_append]
    have h2 : s.data.toList.length = s.size := Array.length_toList
    omega
  · simp
theorem flat_len (l : List Int) : (l.flatMap encC).length ≤ 10 * l.length := by
  induction l with
  | nil => simp
  | cons x l ih =>
    have := encC_len x
    rw [List.flatMap_cons, List.length_append, List.length_cons]
    omega
theorem flat_take {l : List Int} {j : Nat} (h : j < l.length) : (l.take (j + 1)).flatMap encC = (l.take j).flatMap encC ++ encC l[j] := by
  rw [List.take_succ_eq_append_getElem h, List.flatMap_append, List.flatMap_cons, List.flatMap_nil, List.append_nil]
theorem Write_spec (x : Er) (e : En) (w : World) (h : EIn w x e) : Calls Try.prog 23 #[.agg (erC x).toArray] w fun r w' => ∃ s' : Sl, r = .returned (.tuple #[.slice s'.base s'.len s'.cap, .int .i64 (if okE e then 0 else 1)]) ∧ Own w w' s' (wrE e) ∧ Ext [] w w' := by
  refine sh_rlog_Write_ok _ _ _ _ _ _ ?_
  unfold sh_rlog_Write
  refine VNw.i fun b w1 hb hk1 e1 => ?_
  have hk1 : Bk w1 b (erC x) 28 := hk1
  refine VLd.er x (Rd.of_bk hk1 rfl) (VCall.i (Check_spec x e w1 (h.ext0 e1)) ?_)
  rintro r w2 ⟨rfl, e2⟩
  have e02 := e1.then0 e2
  have hk2 := hk1.ext e2
  refine exW.i1 (t := .bool) _ rfl (VIf.mk (fun hc => ?_) (fun hc => ?_))
  · have hc : okE e = false := by simpa using hc
    exact ⟨nSl, by rw [hc]; rfl, by unfold wrE; rw [hc]; exact Own.nil _ _, e02⟩
  have hc : okE e = true := by simpa using hc
  obtain ⟨hterm, hkind, hds, hll, -⟩ := okE_kind hc
  intro w3 hw3
  have ed := Ext.drew' hw3
  have e03 := e02.then0 ed
  have hk3 := hk2.ext ed
  have h3 := h.ext0 e03
  refine VLd.i1 (t := .int .i64) x.t (Rd.of_bk hk3 rfl) (VLd.i1 (t := .int .u8) x.k (Rd.of_bk hk3 rfl) (VLd.i1 (t := .str) x.d (Rd.of_bk hk3 rfl) ?_))
  refine VCall.i (Count_spec nSl [] x.t w3 (Seg.nil _ _ _) (by simp)) ?_
  rintro r w4 ⟨s4, rfl, o4, e4⟩
  have hk4 := hk3.ext e4
  refine exW.i1 (t := .sl) s4 rfl ⟨Rd.of_bk hk4 rfl, Rd.of_bk hk4 rfl, ?_⟩
  have l4 := encC_len x.t
  rw [w64 (n := x.k) (by rw [h.hk]; omega)]
  refine VCall.i (Count_spec s4 _ x.k w4 o4.seg (by simp; omega)) ?_
  rintro r w5 ⟨s5, rfl, o5, e5⟩
  have hk5 := hk4.ext e5
  refine exW.i1 (t := .sl) s5 rfl ⟨Rd.of_bk hk5 rfl, ?_⟩
  have l5 := encC_len x.k
  refine VCall.i (Str_spec s5 _ x.d w5 o5.seg (by simp; omega)) ?_
  rintro r w6 ⟨s6, rfl, o6, e6⟩
  have hk6 := hk5.ext e6
  have l6 := encS_len x.d
  have hxd : x.d.size ≤ 256 := by rw [h.hd]; exact hds
  have hlen := h.hl.len
  refine exW.i1 (t := .sl) s6 rfl (VLd.s x.s (Rd.of_bk hk6 rfl) ?_)
  refine VCall.i (Count_spec s6 _ x.s.len w6 o6.seg (by simp; omega)) ?_
  rintro r w7 ⟨s7, rfl, o7, e7⟩
  have hk7 := hk6.ext e7
  have e07 := ((((e03.then0 e4).then0 e5).then0 e6).then0 e7)
  have l7 := encC_len ((x.s.len : Nat) : Int)
  refine exW.i1 (t := .sl) s7 rfl (VLd.s x.s (Rd.of_bk hk7 rfl) ?_)
  have z7 := e07.size
  have hs7 := (h.ext0 e07).hl
  have o7' : Own w w7 s7 (((encC e.term ++ encC e.kind) ++ encS e.data) ++ encC ((e.list.length : Nat) : Int)) := by
    have := o7.mono (w0 := w) (by have := e1.size; have := e2.size; have := ed.size; have := e4.size; have := e5.size; have := e6.size; omega)
    rw [h.ht, h.hk, h.hd, hlen, List.nil_append] at this
    exact this
  have lpre : (((encC e.term ++ encC e.kind) ++ encS e.data) ++ encC ((e.list.length : Nat) : Int)).length ≤ 1000 := by
    have a1 := encC_len e.term
    have a2 := encC_len e.kind
    have a3 := encS_len e.data
    have a4 := encC_len ((e.list.length : Nat) : Int)
    simp only [List.length_append]; omega
  refine ⟨fun kk s i W => ∃ j : Nat, i = (j : Int) ∧ j ≤ e.list.length ∧ kk = e.list.length - j ∧ Own w W s ((((encC e.term ++ encC e.kind) ++ encS e.data) ++ encC ((e.list.length : Nat) : Int)) ++ (e.list.take j).flatMap encC) ∧ Ext [] w W, ⟨_, 0, rfl, by omega, rfl, by simpa using o7', e07⟩, ?_⟩
  rintro kk s8 i w8 ⟨j, rfl, hj, rfl, o8, e08⟩
  refine VIf.mk (fun hq => ?_) (fun hq => ?_)
  · have hj' : j < e.list.length := by simp at hq; omega
    refine VIx.rd (r := itR) (h.ext0 e08).hl.1 hj' fun a hra => ?_
    refine VLd.i1 (t := .int .i64) (e.list[j]) (by rw [Int.toNat_natCast]; exact hra) (VSet.i ?_)
    have lt := flat_len (e.list.take j)
    rw [List.length_take] at lt
    refine VCall.i (Count_spec s8 _ (e.list[j]) w8 o8.seg (by rw [List.length_append]; omega)) ?_
    rintro r w9 ⟨s9, rfl, o9, e9⟩
    refine exW.i1 (t := .sl) s9 rfl ⟨_, (show e.list.length - (j + 1) < e.list.length - j by omega), j + 1, w64 (n := (j : Int) + 1) (by omega), by omega, rfl, ?_, e08.then0 e9⟩
    have := o9.mono (w0 := w) e08.size
    rw [flat_take hj', ← List.append_assoc]; exact this
  · have hj' : j = e.list.length := by simp at hq; omega
    subst hj'
    rw [List.take_length] at o8
    exact ⟨s8, by rw [hc]; rfl, by unfold wrE encE; rw [if_pos hc]; exact o8, e08⟩
theorem xWrite_spec (x : Er) (e : En) (w : World) (h : EIn w x e) : Calls Try.prog 22 #[.agg (erC x).toArray] w fun r w' => ∃ s' : Sl, r = .returned (.tuple #[.slice s'.base s'.len s'.cap, .int .i64 (if okE e then 0 else 1)]) ∧ Own w w' s' (wrE e) ∧ Ext [] w w' := by
  refine sh_butteryref14_Write_ok _ _ _ _ _ _ ?_
  unfold sh_butteryref14_Write
  refine VNw.i fun b w1 hb hk1 e1 => ?_
  have hk1 : Bk w1 b (erC x) 28 := hk1
  refine VLd.er x (Rd.of_bk hk1 rfl) (VCall.i (xCheck_spec x e w1 (h.ext0 e1)) ?_)
  rintro r w2 ⟨rfl, e2⟩
  have e02 := e1.then0 e2
  have hk2 := hk1.ext e2
  refine exW.i1 (t := .bool) _ rfl (VIf.mk (fun hc => ?_) (fun hc => ?_))
  · have hc : okE e = false := by simpa using hc
    exact ⟨nSl, by rw [hc]; rfl, by unfold wrE; rw [hc]; exact Own.nil _ _, e02⟩
  have hc : okE e = true := by simpa using hc
  obtain ⟨hterm, hkind, hds, hll, -⟩ := okE_kind hc
  have h3 := h.ext0 e02
  refine VLd.i1 (t := .int .i64) x.t (Rd.of_bk hk2 rfl) ?_
  refine VCall.i (XCount_spec nSl [] x.t w2 (Seg.nil _ _ _) (by simp)) ?_
  rintro r w4 ⟨s4, rfl, o4, e4⟩
  have hk4 := hk2.ext e4
  refine exW.i1 (t := .sl) s4 rfl (VLd.i1 (t := .int .u8) x.k (Rd.of_bk hk4 rfl) ?_)
  have l4 := encC_len x.t
  rw [w64 (n := x.k) (by rw [h.hk]; omega)]
  refine VCall.i (XCount_spec s4 _ x.k w4 o4.seg (by simp; omega)) ?_
  rintro r w5 ⟨s5, rfl, o5, e5⟩
  have hk5 := hk4.ext e5
  have hxd : x.d.size ≤ 256 := by rw [h.hd]; exact hds
  refine exW.i1 (t := .sl) s5 rfl (VLd.i1 (t := .str) x.d (Rd.of_bk hk5 rfl) ?_)
  have l5 := encC_len x.k
  refine VCall.i (XStr_spec s5 _ x.d w5 o5.seg (by simp; omega) (by omega)) ?_
  rintro r w6 ⟨s6, rfl, o6, e6⟩
  have hk6 := hk5.ext e6
  have l6 := encS_len x.d
  have hlen := h.hl.len
  refine exW.i1 (t := .sl) s6 rfl (VLd.s x.s (Rd.of_bk hk6 rfl) ?_)
  refine VCall.i (XCount_spec s6 _ x.s.len w6 o6.seg (by simp; omega)) ?_
  rintro r w7 ⟨s7, rfl, o7, e7⟩
  have hk7 := hk6.ext e7
  have e07 := ((((e02.then0 e4).then0 e5).then0 e6).then0 e7)
  have l7 := encC_len ((x.s.len : Nat) : Int)
  refine exW.i1 (t := .sl) s7 rfl ?_
  have z7 := e07.size
  have hs7 := (h.ext0 e07).hl
  have o7' : Own w w7 s7 (((encC e.term ++ encC e.kind) ++ encS e.data) ++ encC ((e.list.length : Nat) : Int)) := by
    have := o7.mono (w0 := w) (by have := e1.size; have := e2.size; have := e4.size; have := e5.size; have := e6.size; omega)
    rw [h.ht, h.hk, h.hd, hlen, List.nil_append] at this
    exact this
  have lpre : (((encC e.term ++ encC e.kind) ++ encS e.data) ++ encC ((e.list.length : Nat) : Int)).length ≤ 1000 := by
    have a1 := encC_len e.term
    have a2 := encC_len e.kind
    have a3 := encS_len e.data
    have a4 := encC_len ((e.list.length : Nat) : Int)
    simp only [List.length_append]; omega
  have hbw : w.heap.size ≤ b := by omega
  refine ⟨fun kk s i W => ∃ j : Nat, i = (j : Int) ∧ j ≤ e.list.length ∧ kk = e.list.length - j ∧ Bk W b (erC x) 28 ∧ Own w W s ((((encC e.term ++ encC e.kind) ++ encS e.data) ++ encC ((e.list.length : Nat) : Int)) ++ (e.list.take j).flatMap encC) ∧ Ext [] w W, ⟨_, 0, rfl, by omega, rfl, hk7, by simpa using o7', e07⟩, ?_⟩
  rintro kk s8 i w8 ⟨j, rfl, hj, rfl, hk8, o8, e08⟩
  refine VLd.s x.s (Rd.of_bk hk8 rfl) (VIf.mk (fun hq => ?_) (fun hq => ?_))
  · have hj' : j < e.list.length := by simp at hq; omega
    refine VLd.s x.s (Rd.of_bk hk8 rfl) (VIx.rd (r := itR) (h.ext0 e08).hl.1 hj' fun a hra => ?_)
    refine VLd.i1 (t := .int .i64) (e.list[j]) (by rw [Int.toNat_natCast]; exact hra) ?_
    have lt := flat_len (e.list.take j)
    rw [List.length_take] at lt
    refine VCall.i (XCount_spec s8 _ (e.list[j]) w8 o8.seg (by rw [List.length_append]; omega)) ?_
    rintro r w9 ⟨s9, rfl, o9, e9⟩
    refine exW.i1 (t := .sl) s9 rfl (VSet.i ⟨_, (show e.list.length - (j + 1) < e.list.length - j by omega), j + 1, w64 (n := (j : Int) + 1) (by omega), by omega, rfl, hk8.ext e9, ?_, e08.then0 e9⟩)
    have := o9.mono (w0 := w) e08.size
    rw [flat_take hj', ← List.append_assoc]; exact this
  · have hj' : j = e.list.length := by simp at hq; omega
    subst hj'
    rw [List.take_length] at o8
    exact ⟨s8, by rw [hc]; rfl, by unfold wrE encE; rw [if_pos hc]; exact o8, e08⟩
end Go.Proofs.Ytkekjbdppabmhaa
