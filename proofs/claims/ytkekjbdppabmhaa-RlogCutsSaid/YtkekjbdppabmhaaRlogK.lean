/-
  Package rlog: entries are merged behind an index.
-/
import Derived.Test.YtkekjbdppabmhaaRlogJ
namespace Go.Proofs.Ytkekjbdppabmhaa
open Go.RowKit
set_option maxRecDepth 100000

theorem VApp.grow {α : Type} {r : Rec α} {w : World} {e : TypeId} {base : Option Addr} {n cap m bytes : Nat} {zc : Array Value} {src : List Value → Prop} {K : Sl → World → Prop} {L news : List α} (h : Seg w base n r.k (r.cells L)) (hs : src (r.cells news)) (hm : news.length = m) (hz : zc.size = r.k)
    (hb : (n + m) * bytes ≤ 140737488355328) (h63 : n + m ≤ 9223372036854775807) (hgt : cap < n + m)
    (k : ∀ s' w', Row w' e r.k s' (r.cells (L ++ news)) → s'.len = n + m → (∀ b ∈ rowB s', b = w.heap.size) → Ext [] w w' → K s' w') : VApp none w e r.k bytes zc base n cap m src K := by
  have hl := h.rlen
  refine ⟨r.cells news, hs, by rw [Rec.cells_len, hm], hb, h63, fun hfit => by omega, fun _ => ⟨r.cells L, h, fun b c w' hc hc63 hnew => ?_⟩⟩
  have hk := hnew.bk0
  refine k _ _ ⟨?_, hc, hc63, .inr ⟨b, (Builtin.zeroCells zc (c - (n + m))).toList, rfl, ?_, ?_⟩⟩ rfl (by simp [rowB]; exact hnew.at_) hnew.ext
  · show (r.cells (L ++ news)).length = (n + m) * r.k
    rw [Rec.cells_len, List.length_append, hl, hm]
  · rw [Rec.cells_app]; simpa using hk
  · have hzl : (Builtin.zeroCells zc (c - (n + m))).size = (c - (n + m)) * r.k := by rw [size_zeroCells, hz]
    show (r.cells (L ++ news)).length + _ = c * r.k
    rw [Rec.cells_len, List.length_append, ← hl, hm, Array.length_toList, hzl, ← Nat.add_mul]
    congr 1
    omega
theorem Clip_spec (s : Sl) (w : World) (h : s.len ≤ s.cap) : Calls Try.prog 38 #[.slice s.base s.len s.cap] w fun e w' => e = .returned (.slice s.base s.len s.len) ∧ Ext [] w w' := by
  refine sh_slices_Clip_ok _ _ _ ?_
  unfold sh_slices_Clip
  refine VCk.i (by omega) ⟨?_, Ext.refl _ _⟩
  rw [cutB_zero, Nat.sub_zero]
theorem Merge_nil (a b : Int) (s : Sl) (w : World) : Calls Try.prog 11 #[.pointer none, .int .i64 a, .int .i64 b, .slice s.base s.len s.cap] w fun e w' => e = .returned (.tuple #[.int .i64 0, .int .i64 2]) ∧ Ext [] w w' := by
  refine sh_rlog_Log_Merge_ok _ _ _ _ _ _ ?_
  unfold sh_rlog_Log_Merge
  exact VIf.t rfl ⟨rfl, Ext.refl _ _⟩
theorem merge_bad {g : Lg} {prev term : Int} {L : List En} (h : (cntB prev && (cntB term && mayB term L)) = false) : mergeO g prev term L = ((0, 1), g) := by unfold mergeO; rw [if_pos h]
theorem merge_full {g : Lg} {prev term : Int} {L : List En} (h : ¬ (cntB prev && (cntB term && mayB term L)) = false) (h2 : 2147483647 - prev < (L.length : Int)) : mergeO g prev term L = ((0, 70), g) := by unfold mergeO; rw [if_neg h, if_pos h2]
theorem merge_state {g : Lg} {prev term : Int} {L : List En} (h : ¬ (cntB prev && (cntB term && mayB term L)) = false) (h2 : ¬ 2147483647 - prev < (L.length : Int)) (h3 : g.base ≤ prev ∧ ¬ (inL g prev = true ∧ (termO g prev).1 = term)) : mergeO g prev term L = ((0, 50), g) := by unfold mergeO; rw [if_neg h, if_neg h2, if_pos h3]
theorem merge_old {g : Lg} {prev term : Int} {L : List En} (h : ¬ (cntB prev && (cntB term && mayB term L)) = false) (h2 : ¬ 2147483647 - prev < (L.length : Int)) (h3 : ¬ (g.base ≤ prev ∧ ¬ (inL g prev = true ∧ (termO g prev).1 = term)))
    (h4 : prev ≤ g.base ∧ g.base - prev < (L.length : Int) ∧ (L.getD (g.base - prev).toNat zEn).term < g.term) : mergeO g prev term L = ((0, 1), g) := by unfold mergeO; rw [if_neg h, if_neg h2, if_neg h3, if_pos h4]
theorem merge_go {g : Lg} {prev term : Int} {L : List En} (h : ¬ (cntB prev && (cntB term && mayB term L)) = false) (h2 : ¬ 2147483647 - prev < (L.length : Int)) (h3 : ¬ (g.base ≤ prev ∧ ¬ (inL g prev = true ∧ (termO g prev).1 = term)))
    (h4 : ¬ (prev ≤ g.base ∧ g.base - prev < (L.length : Int) ∧ (L.getD (g.base - prev).toNat zEn).term < g.term)) {i : Nat} (hi : i ≤ L.length) (hno : ∀ q, q < i → badP g prev L q = false) (hyes : i < L.length → badP g prev L i = true) :
    mergeO g prev term L = if i = L.length then ((0, 0), g) else ((prev + 1 + (i : Int), 0), ⟨g.base, g.term, g.l.take (prev + (i : Int) - g.base).toNat ++ L.drop i⟩) := by
  have hf : firstI (badP g prev L) L.length 0 = i := firstI_eq L.length 0 i (by omega) (by omega) (fun q _ hq => hno q hq) (fun hq => hyes (by omega))
  unfold mergeO; rw [if_neg h, if_neg h2, if_neg h3, if_neg h4, hf]
/-- what is kept of the log reaches up to the place -/
theorem merge_fits {g : Lg} {prev term : Int} {L : List En} (ok : LgOk g) (h3 : ¬ (g.base ≤ prev ∧ ¬ (inL g prev = true ∧ (termO g prev).1 = term))) {i : Nat} (hno : ∀ q, q < i → badP g prev L q = false) (hyes : badP g prev L i = true) :
    g.base ≤ prev + (i : Int) ∧ prev + (i : Int) - g.base ≤ (g.l.length : Int) := by
  obtain ⟨ob, oe⟩ := ok
  have hb : prev + 1 + (i : Int) > g.base := by
    unfold badP at hyes
    rw [Bool.and_eq_true, decide_eq_true_eq] at hyes
    exact hyes.1
  refine ⟨by omega, ?_⟩
  apply Classical.byContradiction
  intro hgt
  by_cases h0 : i = 0
  · subst h0
    refine h3 ⟨by omega, fun hh => ?_⟩
    have := inL_iff.1 hh.1
    omega
  · have := hno (i - 1) (by omega)
    unfold badP at this
    rw [Bool.and_eq_false_iff] at this
    rcases this with h | h
    · rw [decide_eq_false_iff_not] at h; omega
    · rw [Bool.or_eq_false_iff] at h
      have hin : inL g (prev + 1 + ((i - 1 : Nat) : Int)) = true := by simpa using h.1
      have := inL_iff.1 hin
      omega
set_option maxHeartbeats 1000000 in
theorem Merge_spec (w0 w : World) (b : Nat) (g : Lg) (s t : Sl) (prev term : Int) (L : List En) (h : LogAt w0 w b g s) (hT : LIn w t L) (hg : g.l.length ≤ 100000000) (hL : L.length ≤ 100000000) (hl : ∀ e ∈ L, e.list.length ≤ 100000000) :
    Calls Try.prog 11 #[.pointer (some ⟨b, 0, none⟩), .int .i64 prev, .int .i64 term, .slice t.base t.len t.cap] w fun e w' =>
      ∃ s', e = .returned (.tuple #[.int .i64 (mergeO g prev term L).1.1, .int .i64 (mergeO g prev term L).1.2]) ∧ LogAt w0 w' b (mergeO g prev term L).2 s' ∧ Ext [b] w w' := by
  refine sh_rlog_Log_Merge_ok _ _ _ _ _ _ ?_
  unfold sh_rlog_Log_Merge
  have htl := hT.len
  refine VIf.f rfl (VCall.opt (count_opt prev w) fun w1 e1 => exW.i1 (t := .bool) _ rfl (VCall.opt (count_opt term w1) fun w2 e2 => exW.i1 (t := .bool) _ rfl (VCall.opt (may_spec term t L w2 ((hT.ext0 e1).ext0 e2) hL) fun w3 e3 => exW.i1 (t := .bool) _ rfl ?_)))
  have e03 := (e1.then0 e2).then0 e3
  have h3 := h.ext0 e03
  have hT3 := hT.ext0 e03
  refine VIf.mk (fun hc => ?_) (fun hc => ?_)
  · have hq := merge_bad (g := g) (prev := prev) (term := term) (L := L) (by
      revert hc
      cases cntB prev <;> cases cntB term <;> cases mayB term L <;> simp)
    rw [hq]
    exact ⟨s, rfl, h3, e03.mono (by simp)⟩
  have hgood : ¬ (cntB prev && (cntB term && mayB term L)) = false := by
    revert hc
    cases cntB prev <;> cases cntB term <;> cases mayB term L <;> simp
  have hp : 0 ≤ prev ∧ prev ≤ 2147483647 := by
    apply cntB_iff.1
    revert hgood
    cases cntB prev <;> simp
  obtain ⟨ob, oe⟩ := h.ok
  rw [htl, w64 (n := 2147483647 - prev) (by omega)]
  refine VIf.mk (fun hd => ?_) (fun hd => ?_)
  · have hd : 2147483647 - prev < (L.length : Int) := by simpa using hd
    rw [merge_full hgood hd]
    exact ⟨s, rfl, h3, e03.mono (by simp)⟩
  have hd : ¬ 2147483647 - prev < (L.length : Int) := by simpa using hd
  refine VCall.i (Term_spec w0 w3 b g s prev h3) ?_
  rintro r w4 ⟨rfl, e4⟩
  have h4 := h3.ext0 e4
  have e04 := e03.then0 e4
  refine exW.i2 (t := .int .i64) (u := .bool) _ _ rfl (VSet.i (VNN.i (VLd.i1 (t := .int .i64) g.base (Rd.of_bk h4.k rfl) ?_)))
  rw [termO_in]
  refine VIf.mk (fun hs => ?_) (fun hs => ?_)
  · have hs : g.base ≤ prev ∧ ¬ (inL g prev = true ∧ (termO g prev).1 = term) := by
      simp at hs
      refine ⟨by omega, fun hh => ?_⟩
      rcases hs.2 with h1 | h1
      · rw [hh.1] at h1; cases h1
      · exact h1 hh.2
    rw [merge_state hgood hd hs]
    exact ⟨s, rfl, h4, e04.mono (by simp)⟩
  have hs : ¬ (g.base ≤ prev ∧ ¬ (inL g prev = true ∧ (termO g prev).1 = term)) := by
    rintro ⟨h1, h2⟩
    simp at hs
    exact h2 (hs (by omega))
  refine VNN.i (VLd.i1 (t := .int .i64) g.base (Rd.of_bk h4.k rfl) ?_)
  rw [w64 (n := g.base - prev) (by omega)]
  refine VSet.i ?_
  intro w5 hw5
  have ed := Ext.drew' hw5
  have h5 := h4.ext0 ed
  have e05 := e04.then0 ed
  have hT5 := hT.ext0 e05
  -- the question of the base
  have ask : ∀ {K : Int → Int → Prop}, (∀ v u : Int, ((decide (g.base - prev ≥ 0) && decide (g.base - prev < ((L.length : Nat) : Int))) = true → v = (L.getD (g.base - prev).toNat zEn).term ∧ u = g.term) → K v u) →
      VIx (some ((decide (g.base - prev ≥ 0)) && (decide (g.base - prev < ((L.length : Nat) : Int))))) t.base L.length (g.base - prev) fun (a77 : Addr) =>
      VLd (some ((decide (g.base - prev ≥ 0)) && (decide (g.base - prev < ((L.length : Nat) : Int))))) w5 (Addr.add a77 ((Int.toNat (g.base - prev)) * 4)) [CT.int .i64] fun (v79 : Int) =>
      VNN (some ((decide (g.base - prev ≥ 0)) && (decide (g.base - prev < ((L.length : Nat) : Int))))) (some ⟨b, 0, none⟩) fun (a81 : Addr) =>
      VLd (some ((decide (g.base - prev ≥ 0)) && (decide (g.base - prev < ((L.length : Nat) : Int))))) w5 (Addr.add a81 1) [CT.int .i64] fun (v83 : Int) => K v79 v83 := by
    intro K k
    by_cases hq : g.base - prev ≥ 0 ∧ g.base - prev < ((L.length : Nat) : Int)
    · obtain ⟨q, hqq⟩ : ∃ q : Nat, g.base - prev = (q : Int) := ⟨(g.base - prev).toNat, by omega⟩
      rw [hqq] at k ⊢
      obtain ⟨X, hX, hXl, hE⟩ := hT5
      have hqL : q < L.length := by omega
      rw [← htl]
      refine VIx.rd (r := erR) hX.1 (show q < X.length by omega) fun a hra => ?_
      refine VLd.i1 (t := .int .i64) (X[q]).t (by rw [Int.toNat_natCast]; exact hra.fld0 rfl) (VNN.i (VLd.i1 (t := .int .i64) g.term (Rd.of_bk h5.k rfl) (k _ _ fun _ => ⟨?_, rfl⟩)))
      rw [Int.toNat_natCast, getD_getE hqL, (hE q (by omega) hqL).ht]
    · have hf : (decide (g.base - prev ≥ 0) && decide (g.base - prev < ((L.length : Nat) : Int))) = false := by
        rw [Bool.and_eq_false_iff, decide_eq_false_iff_not, decide_eq_false_iff_not]
        omega
      refine VIx.off hf fun a => VLd.off1 hf (0 : Int) (VNN.n _ hf _ ⟨0, 0, none⟩ (VLd.off1 hf (0 : Int) (k _ _ fun ht => by rw [hf] at ht; cases ht)))
  refine ask fun v u hvu => ?_
  refine VIf.mk (fun ho => ?_) (fun ho => ?_)
  · rw [Bool.and_eq_true] at ho
    obtain ⟨hv, hu⟩ := hvu ho.1
    have h1 := ho.1
    rw [Bool.and_eq_true, decide_eq_true_eq, decide_eq_true_eq] at h1
    have h2 := ho.2
    rw [decide_eq_true_eq, hv, hu] at h2
    rw [merge_old hgood hd hs ⟨by omega, h1.2, h2⟩]
    exact ⟨s, rfl, h5, e05.mono (by simp)⟩
  have ho : ¬ (prev ≤ g.base ∧ g.base - prev < (L.length : Int) ∧ (L.getD (g.base - prev).toNat zEn).term < g.term) := by
    rintro ⟨h1, h2, hlt⟩
    have hgd : (decide (g.base - prev ≥ 0) && decide (g.base - prev < ((L.length : Nat) : Int))) = true := by
      rw [Bool.and_eq_true, decide_eq_true_eq, decide_eq_true_eq]
      omega
    obtain ⟨hv, hu⟩ := hvu hgd
    rw [hgd, hv, hu, Bool.true_and, decide_eq_false_iff_not] at ho
    exact ho hlt
  clear ask hvu
  rw [← htl]
  refine VCall.i (parts_spec w0 w5 b g s t prev L h5 hT5 hL hp) ?_
  rintro r w6 ⟨i, hi, hno, hyes, rfl, e6⟩
  have h6 := h5.ext0 e6
  have e06 := e05.then0 e6
  have hm := merge_go (term := term) hgood hd hs ho hi hno hyes
  refine exW.i1 (t := .int .i64) _ rfl (VSet.i ?_)
  by_cases hil : i = L.length
  · rw [if_pos hil] at hm
    have hif : (if i < L.length then (i : Int) else -1) = -1 := if_neg (by omega)
    rw [hm, hif]
    exact VIf.t (by decide) ⟨s, rfl, h6, e06.mono (by simp)⟩
  rw [if_neg hil] at hm
  have hiL : i < L.length := by omega
  obtain ⟨f1, f2⟩ := merge_fits h.ok hs hno (hyes hiL)
  rw [hm, if_pos hiL]
  refine VIf.f (by simp) ?_
  rw [w64 (n := prev + 1) (by omega), w64 (n := prev + 1 + (i : Int)) (by omega)]
  refine VSet.i ?_
  intro w7 hw7
  have ed7 := Ext.drew' hw7
  have h7 := h6.ext0 ed7
  have e07 := e06.then0 ed7
  have hgl := h7.l.len
  have hgc := h7.l.lin.cap
  refine VNN.i (VLd.s s (Rd.of_bk h7.k rfl) (VNN.i (VLd.i1 (t := .int .i64) g.base (Rd.of_bk h7.k rfl) ?_)))
  obtain ⟨n, hn⟩ : ∃ n : Nat, prev + (i : Int) - g.base = (n : Int) := ⟨(prev + (i : Int) - g.base).toNat, by omega⟩
  rw [w64 (n := prev + 1 + (i : Int) - g.base) (by omega), w64 (n := prev + 1 + (i : Int) - g.base - 1) (by omega), show prev + 1 + (i : Int) - g.base - 1 = (n : Int) by omega]
  rw [hn]
  simp only [Int.toNat_natCast]
  have hT7 := hT.ext0 e07
  have htc := hT7.cap
  have hnl : n ≤ g.l.length := by omega
  refine VCk.i (by omega) (VCk.i (by rw [htl]; omega) ?_)
  have hcl := Clip_spec ⟨cutB s.base s.cap 4 0, n - 0, s.cap - 0⟩ w7 (by show n - 0 ≤ s.cap - 0; omega)
  refine VCall.i hcl ?_
  rintro r w8 ⟨rfl, e8⟩
  have h8 := h7.ext0 e8
  have hT8 := hT7.ext0 e8
  have e08 := e07.then0 e8
  refine exW.i1 (t := .sl) ⟨cutB s.base s.cap 4 0, n - 0, n - 0⟩ rfl ?_
  have hcut := hT8.cut i L.length (by omega) (Nat.le_refl _)
  rw [List.take_length, ← htl] at hcut
  have htw := twins_spec _ (L.drop i) w8 hcut (by rw [List.length_drop]; omega) (fun e he => hl e (List.mem_of_mem_drop he))
  refine VCall.i htw ?_
  rintro r w9 ⟨s9, rfl, hs9, e9⟩
  have h9 := h8.ext0 e9
  have e09 := e08.then0 e9
  refine exW.i1 (t := .sl) s9 rfl ?_
  obtain ⟨X, hX, hXl, hE⟩ := h9.l
  obtain ⟨Y, hY, hYl, hEY⟩ := hs9
  have hlY := hY.len
  rw [List.length_drop] at hYl
  have hXcut := hX.in_.cut 0 n (Nat.zero_le _) (by omega)
  rw [List.drop_zero] at hXcut
  have hseg : Seg w9 (cutB s.base s.cap 4 0) (n - 0) erR.k (erR.cells (X.take n)) := hXcut.1
  have l9 := h9.le
  have z8 := e08.size
  have z9 := e9.size
  have l00 := h.le
  refine VApp.grow (r := erR) (L := X.take n) (news := Y) hseg (by exact hY.seg) hlY.symm rfl (by show ((n - 0) + s9.len) * 56 ≤ 140737488355328; omega) (by show (n - 0) + s9.len ≤ 9223372036854775807; omega) (by show n - 0 < (n - 0) + s9.len; omega) fun s' w10 hr10 hlen10 hb10 e10 => ?_
  have hO : OwnR erR 28 w0 w10 s' (X.take n ++ Y) := ⟨hr10, fun i hi => by rw [hb10 i hi]; omega⟩
  have h10 := h9.ext0 e10
  refine VNN.i ?_
  simp only [add_blk, Nat.zero_add]
  refine VSt.bk h10.k rfl (by simp [lgC]) fun w11 hk11 e11 => VSet.i ?_
  have hk11 : Bk w11 b (lgC ⟨g.base, g.term, g.l.take n ++ L.drop i⟩ s') 69 := hk11
  have hLO : LOwn w0 w10 s' (g.l.take n ++ L.drop i) := ⟨X.take n ++ Y, hO, by simp; omega, fun j h1 h2 => by
    by_cases hj : j < n
    · rw [List.getElem_append_left (by rw [List.length_take]; omega), List.getElem_append_left (by rw [List.length_take]; omega), List.getElem_take, List.getElem_take]
      exact (hE j _ _).ext0 e10
    · rw [List.getElem_append_right (by rw [List.length_take]; omega), List.getElem_append_right (by rw [List.length_take]; omega)]
      have h1' : (X.take n).length = n := by rw [List.length_take]; omega
      have h2' : (g.l.take n).length = n := by rw [List.length_take]; omega
      simp only [h1', h2']
      exact ((hEY (j - n) _ _).mono (by omega)).ext0 e10⟩
  have e010 := e09.then0 e10
  refine ⟨s', rfl, ⟨h.gb, ⟨ob, ?_⟩, hk11, hLO.ext1 h10.k (by decide) (by decide) e11⟩, (e010.mono (N := [b]) (by simp)).then e11 (fun i hi _ => hi)⟩
  show g.base + (((g.l.take n ++ L.drop i).length : Nat) : Int) ≤ 2147483647
  rw [List.length_append, List.length_take, List.length_drop]
  omega
end Go.Proofs.Ytkekjbdppabmhaa
