/-
  Package rlog: a log is asked.
-/
import Derived.Test.YtkekjbdppabmhaaRlogG
namespace Go.Proofs.Ytkekjbdppabmhaa
open Go.RowKit
set_option maxRecDepth 100000

structure Lg where
  base : Int
  term : Int
  l : List En
def lgC (g : Lg) (s : Sl) : List Value := [.int .i64 g.base, .int .i64 g.term, .slice s.base s.len s.cap]
def LgOk (g : Lg) : Prop := 0 ≤ g.base ∧ g.base + (g.l.length : Int) ≤ 2147483647
/-- block b is that log -/
structure LogAt (w0 w : World) (b : Nat) (g : Lg) (s : Sl) : Prop where
  gb : w0.heap.size ≤ b
  ok : LgOk g
  k : Bk w b (lgC g s) 69
  l : LOwn w0 w s g.l
section
variable {w0 w w' : World} {b : Nat} {g : Lg} {s : Sl}
theorem LogAt.ext0 (h : LogAt w0 w b g s) (e : Ext [] w w') : LogAt w0 w' b g s := ⟨h.gb, h.ok, h.k.ext e, h.l.ext0 e⟩
theorem LogAt.mono {w1 : World} (h : LogAt w1 w b g s) (le : w0.heap.size ≤ w1.heap.size) : LogAt w0 w b g s := ⟨Nat.le_trans le h.gb, h.ok, h.k, h.l.mono le⟩
/-- another log changed -/
theorem LogAt.other (h : LogAt w0 w b g s) {c : Nat} {cs : List Value} (hk : Bk w c cs 69) (hne : b ≠ c) (e : Ext [c] w w') : LogAt w0 w' b g s :=
  ⟨h.gb, h.ok, h.k.ext e (by simpa using hne), h.l.ext1 hk (by decide) (by decide) e⟩
end
def inL (g : Lg) (i : Int) : Bool := decide (g.base ≤ i) && decide (i ≤ g.base + (g.l.length : Int))
def termO (g : Lg) (i : Int) : Int × Bool := if inL g i then (if i = g.base then (g.term, true) else ((g.l.getD (i - g.base - 1).toNat zEn).term, true)) else (0, false)
theorem termO_in (g : Lg) (i : Int) : (termO g i).2 = inL g i := by
  unfold termO
  cases h : inL g i with
  | false => rfl
  | true => simp only [if_true]; split <;> rfl
theorem Term_nil (i : Int) (w : World) : Calls Try.prog 18 #[.pointer none, .int .i64 i] w fun e w' => e = .returned (.tuple #[.int .i64 0, .bool false]) ∧ Ext [] w w' := by
  refine sh_rlog_Log_Term_ok _ _ _ _ ?_
  unfold sh_rlog_Log_Term
  intro w1 hw1
  exact VNN.n _ rfl _ ⟨0, 0, none⟩ (VLd.off1 rfl (0 : Int) (VNN.n _ rfl _ ⟨0, 0, none⟩ (VLd.off1 rfl (0 : Int) (VNN.n _ rfl _ ⟨0, 0, none⟩ (VLd.offS rfl fun s => VIf.t rfl ⟨rfl, Ext.drew' hw1⟩)))))
theorem Term_spec (w0 w : World) (b : Nat) (g : Lg) (s : Sl) (i : Int) (h : LogAt w0 w b g s) : Calls Try.prog 18 #[.pointer (some ⟨b, 0, none⟩), .int .i64 i] w fun e w' => e = .returned (.tuple #[.int .i64 (termO g i).1, .bool (termO g i).2]) ∧ Ext [] w w' := by
  refine sh_rlog_Log_Term_ok _ _ _ _ ?_
  unfold sh_rlog_Log_Term
  intro w1 hw1
  have ed := Ext.drew' hw1
  have h1 := h.ext0 ed
  have hl := h1.l.len
  have hcap := h1.l.lin.cap
  obtain ⟨ob, oe⟩ := h.ok
  refine VNN.i (VLd.i1 (t := .int .i64) g.base (Rd.of_bk h1.k rfl) (VNN.i (VLd.i1 (t := .int .i64) g.base (Rd.of_bk h1.k rfl) (VNN.i (VLd.s s (Rd.of_bk h1.k rfl) ?_)))))
  rw [hl, w64 (n := g.base + ((g.l.length : Nat) : Int)) (by omega)]
  refine VIf.mk (fun hc => ⟨?_, ed⟩) (fun hc => ?_)
  · have hq : inL g i = false := by
      simp at hc
      unfold inL
      rw [Bool.and_eq_false_iff, decide_eq_false_iff_not, decide_eq_false_iff_not]
      omega
    unfold termO; rw [hq]; rfl
  have hq : inL g i = true := by
    simp at hc
    unfold inL
    rw [Bool.and_eq_true, decide_eq_true_eq, decide_eq_true_eq]
    omega
  have hq2 : g.base ≤ i ∧ i ≤ g.base + (g.l.length : Int) := by
    unfold inL at hq
    rw [Bool.and_eq_true, decide_eq_true_eq, decide_eq_true_eq] at hq
    exact hq
  refine VNN.i (VLd.i1 (t := .int .i64) g.base (Rd.of_bk h1.k rfl) (VIf.mk (fun hd => ?_) (fun hd => ?_)))
  · have hd : i = g.base := by simpa using hd
    refine VNN.i (VLd.i1 (t := .int .i64) g.term (Rd.of_bk h1.k rfl) (VSet.i ⟨?_, ed⟩))
    unfold termO; rw [hq, if_pos rfl, if_pos hd]
  · have hd : ¬ i = g.base := by simpa using hd
    intro w2 hw2
    have ed2 := Ext.drew' hw2
    have h2 := h1.ext0 ed2
    refine VNN.i (VLd.s s (Rd.of_bk h2.k rfl) (VNN.i (VLd.i1 (t := .int .i64) g.base (Rd.of_bk h2.k rfl) ?_)))
    obtain ⟨X, hX, hXl, hE⟩ := h2.l
    obtain ⟨q, hqq⟩ : ∃ q : Nat, i - g.base - 1 = (q : Int) := ⟨(i - g.base - 1).toNat, by omega⟩
    rw [w64 (n := i - g.base) (by omega), w64 (n := i - g.base - 1) (by omega), hqq]
    have hqL : q < g.l.length := by omega
    refine VIx.rd (r := erR) hX.seg (show q < X.length by omega) fun a hra => ?_
    refine VLd.i1 (t := .int .i64) (X[q]).t (by rw [Int.toNat_natCast]; exact hra.fld0 rfl) (VSet.i ⟨?_, ed.then0 ed2⟩)
    unfold termO; rw [hq, if_pos rfl, if_neg hd, hqq, Int.toNat_natCast, getD_getE hqL, (hE q (by omega) hqL).ht]
def lastO (g : Lg) : Int × Int := (g.base + (g.l.length : Int), (termO g (g.base + (g.l.length : Int))).1)
theorem Last_nil (w : World) : Calls Try.prog 12 #[.pointer none] w fun e w' => e = .returned (.tuple #[.int .i64 0, .int .i64 0]) ∧ Ext [] w w' := by
  refine sh_rlog_Log_Last_ok _ _ _ ?_
  unfold sh_rlog_Log_Last
  exact VIf.t rfl ⟨rfl, Ext.refl _ _⟩
theorem Last_spec (w0 w : World) (b : Nat) (g : Lg) (s : Sl) (h : LogAt w0 w b g s) : Calls Try.prog 12 #[.pointer (some ⟨b, 0, none⟩)] w fun e w' => e = .returned (.tuple #[.int .i64 (lastO g).1, .int .i64 (lastO g).2]) ∧ Ext [] w w' := by
  refine sh_rlog_Log_Last_ok _ _ _ ?_
  unfold sh_rlog_Log_Last
  refine VIf.f rfl ?_
  intro w1 hw1
  have ed := Ext.drew' hw1
  have h1 := h.ext0 ed
  have hl := h1.l.len
  obtain ⟨ob, oe⟩ := h.ok
  refine VNN.i (VLd.i1 (t := .int .i64) g.base (Rd.of_bk h1.k rfl) (VNN.i (VLd.s s (Rd.of_bk h1.k rfl) ?_)))
  rw [hl, w64 (n := g.base + ((g.l.length : Nat) : Int)) (by omega)]
  refine VCall.i (Term_spec w0 w1 b g s _ h1) ?_
  rintro e w2 ⟨rfl, e2⟩
  refine exW.i2 (t := .int .i64) (u := .bool) _ _ rfl (VSet.i ?_)
  intro w3 hw3
  have h3 := (h1.ext0 e2).ext0 (Ext.drew' hw3)
  refine VNN.i (VLd.i1 (t := .int .i64) g.base (Rd.of_bk h3.k rfl) (VNN.i (VLd.s s (Rd.of_bk h3.k rfl) ?_)))
  rw [hl, w64 (n := g.base + ((g.l.length : Nat) : Int)) (by omega)]
  exact VSet.i (VSet.i ⟨rfl, (ed.then0 e2).then0 (Ext.drew' hw3)⟩)
theorem Base_nil (w : World) : Calls Try.prog 17 #[.pointer none] w fun e w' => e = .returned (.tuple #[.int .i64 0, .int .i64 0]) ∧ Ext [] w w' := by
  refine sh_rlog_Log_Base_ok _ _ _ ?_
  unfold sh_rlog_Log_Base
  exact VIf.t rfl ⟨rfl, Ext.refl _ _⟩
theorem Base_spec (w0 w : World) (b : Nat) (g : Lg) (s : Sl) (h : LogAt w0 w b g s) : Calls Try.prog 17 #[.pointer (some ⟨b, 0, none⟩)] w fun e w' => e = .returned (.tuple #[.int .i64 g.base, .int .i64 g.term]) ∧ Ext [] w w' := by
  refine sh_rlog_Log_Base_ok _ _ _ ?_
  unfold sh_rlog_Log_Base
  refine VIf.f rfl ?_
  intro w1 hw1
  have ed := Ext.drew' hw1
  have h1 := h.ext0 ed
  exact VNN.i (VLd.i1 (t := .int .i64) g.base (Rd.of_bk h1.k rfl) (VNN.i (VLd.i1 (t := .int .i64) g.term (Rd.of_bk h1.k rfl) (VSet.i (VSet.i ⟨rfl, ed⟩)))))
def entO (g : Lg) (i : Int) : En × Bool := if inL g i = true ∧ i ≠ g.base then (g.l.getD (i - g.base - 1).toNat zEn, true) else (zEn, false)
theorem inL_iff {g : Lg} {i : Int} : inL g i = true ↔ g.base ≤ i ∧ i ≤ g.base + (g.l.length : Int) := by
  unfold inL
  rw [Bool.and_eq_true, decide_eq_true_eq, decide_eq_true_eq]
theorem Entry_nil (i : Int) (w : World) : Calls Try.prog 13 #[.pointer none, .int .i64 i] w fun e w' => e = .returned (.tuple #[.agg (erC zEr).toArray, .bool false]) ∧ Ext [] w w' := by
  refine sh_rlog_Log_Entry_ok _ _ _ _ ?_
  unfold sh_rlog_Log_Entry
  refine VNw.i fun b4 w1 hb hk1 e1 => VCall.i (Term_nil i w1) ?_
  rintro e w2 ⟨rfl, e2⟩
  refine exW.i2 (t := .int .i64) (u := .bool) _ _ rfl (VSet.i (VNN.n _ rfl _ ⟨0, 0, none⟩ (VLd.off1 rfl (0 : Int) (VIf.t rfl ?_))))
  refine VSt.bk (hk1.ext e2) rfl (by simp) fun w3 hk3 e3 => ?_
  have hk3 : Bk w3 b4 (erC zEr) 28 := hk3
  exact VLd.er zEr (Rd.of_bk hk3 rfl) ⟨rfl, (e1.then0 e2).then e3 (fun i hi hlt => by simp at hi; omega)⟩
theorem Entry_spec (w0 w : World) (b : Nat) (g : Lg) (s : Sl) (i : Int) (h : LogAt w0 w b g s) (hll : ∀ e ∈ g.l, e.list.length ≤ 100000000) : Calls Try.prog 13 #[.pointer (some ⟨b, 0, none⟩), .int .i64 i] w fun e w' => ∃ x : Er, e = .returned (.tuple #[.agg (erC x).toArray, .bool (entO g i).2]) ∧ EOwn w w' x (entO g i).1 ∧ Ext [] w w' := by
  refine sh_rlog_Log_Entry_ok _ _ _ _ ?_
  unfold sh_rlog_Log_Entry
  refine VNw.i fun b4 w1 hb hk1 e1 => VCall.i (Term_spec w0 w1 b g s i (h.ext0 e1)) ?_
  rintro e w2 ⟨rfl, e2⟩
  have h2 := (h.ext0 e1).ext0 e2
  have e02 := e1.then0 e2
  have l4 := hk1.lt
  have hk2 : Bk w2 b4 (erC zEr) 28 := hk1.ext e2
  refine exW.i2 (t := .int .i64) (u := .bool) _ _ rfl (VSet.i (VNN.i (VLd.i1 (t := .int .i64) g.base (Rd.of_bk h2.k rfl) ?_)))
  rw [termO_in]
  refine VIf.mk (fun hc => ?_) (fun hc => ?_)
  · have hq : entO g i = (zEn, false) := by
      unfold entO
      rw [if_neg]
      rintro ⟨h1, h3⟩
      rw [h1] at hc; simp at hc; exact h3 hc
    rw [hq]
    refine VSt.bk hk2 rfl (by simp [erC]) fun w3 hk3 e3 => ?_
    have hk3 : Bk w3 b4 (erC zEr) 28 := hk3
    exact VLd.er zEr (Rd.of_bk hk3 rfl) ⟨zEr, rfl, EOwn.z _ _, e02.then e3 (fun i hi hlt => by simp at hi; omega)⟩
  · have hin : inL g i = true ∧ i ≠ g.base := by simpa using hc
    have hq : entO g i = (g.l.getD (i - g.base - 1).toNat zEn, true) := by unfold entO; rw [if_pos hin]
    have hi2 := inL_iff.1 hin.1
    obtain ⟨ob, oe⟩ := h.ok
    intro w4 hw4
    have ed := Ext.drew' hw4
    have h4 := h2.ext0 ed
    have e04 := e02.then0 ed
    have hk4 := hk2.ext ed
    have hl := h4.l.len
    have z4 := e04.size
    refine VNN.i (VLd.s s (Rd.of_bk h4.k rfl) (VNN.i (VLd.i1 (t := .int .i64) g.base (Rd.of_bk h4.k rfl) ?_)))
    obtain ⟨X, hX, hXl, hE⟩ := h4.l
    have hne := hin.2
    obtain ⟨q, hqq⟩ : ∃ q : Nat, i - g.base - 1 = (q : Int) := ⟨(i - g.base - 1).toNat, by omega⟩
    rw [w64 (n := i - g.base) (by omega), w64 (n := i - g.base - 1) (by omega), hqq]
    have hqL : q < g.l.length := by omega
    refine VIx.rd (r := erR) hX.seg (show q < X.length by omega) fun a hra => ?_
    refine VLd.er X[q] (by rw [Int.toNat_natCast]; exact hra) ?_
    have hEq := (hE q (by omega) hqL).ein
    refine VCall.i (twin_spec X[q] g.l[q] w4 hEq (hll _ (List.getElem_mem hqL))) ?_
    rintro e w5 ⟨x', rfl, hx', e5⟩
    refine exW.er x' rfl ?_
    refine VSt.bk (hk4.ext e5) rfl (by simp [erC]) fun w6 hk6 e6 => ?_
    have hk6 : Bk w6 b4 (erC x') 28 := hk6
    refine VLd.er x' (Rd.of_bk hk6 rfl) ⟨x', by rw [hq]; rfl, ?_, (e04.then0 e5).then e6 (fun i hi hlt => by simp at hi; omega)⟩
    rw [hq, hqq, Int.toNat_natCast, getD_getE hqL]
    exact (hx'.mono (by omega)).ext1 (hk4.ext e5) (by decide) e6
theorem LIn.cut {w : World} {s : Sl} {L : List En} (h : LIn w s L) (a b : Nat) (hab : a ≤ b) (hb : b ≤ L.length) : LIn w ⟨cutB s.base s.cap 4 a, b - a, s.cap - a⟩ ((L.take b).drop a) := by
  obtain ⟨X, h1, h2, h3⟩ := h
  refine ⟨(X.take b).drop a, h1.cut a b hab (by omega), by simp; omega, fun i hi hi' => ?_⟩
  rw [List.getElem_drop, List.getElem_drop, List.getElem_take, List.getElem_take]
  exact h3 _ _ _
def fromK (g : Lg) (i : Int) : Nat := ((if g.base + 1 > i then g.base + 1 else i) - g.base - 1).toNat
def fromO (g : Lg) (i most : Int) : List En := if most < 1 ∨ i > g.base + (g.l.length : Int) then [] else (g.l.drop (fromK g i)).take most.toNat
theorem From_nil (i most : Int) (w : World) : Calls Try.prog 20 #[.pointer none, .int .i64 i, .int .i64 most] w fun e w' => e = .returned (.slice none 0 0) ∧ Ext [] w w' := by
  refine sh_rlog_Log_From_ok _ _ _ _ _ ?_
  unfold sh_rlog_Log_From
  intro w1 hw1
  exact VNN.n _ rfl _ ⟨0, 0, none⟩ (VLd.off1 rfl (0 : Int) (VNN.n _ rfl _ ⟨0, 0, none⟩ (VLd.offS rfl fun s => VIf.t rfl ⟨rfl, Ext.drew' hw1⟩)))
theorem From_spec (w0 w : World) (b : Nat) (g : Lg) (s : Sl) (i most : Int) (h : LogAt w0 w b g s) (hL : g.l.length ≤ 100000000) (hll : ∀ e ∈ g.l, e.list.length ≤ 100000000) : Calls Try.prog 20 #[.pointer (some ⟨b, 0, none⟩), .int .i64 i, .int .i64 most] w fun e w' => ∃ s' : Sl, e = .returned (.slice s'.base s'.len s'.cap) ∧ LOwn w w' s' (fromO g i most) ∧ Ext [] w w' := by
  refine sh_rlog_Log_From_ok _ _ _ _ _ ?_
  unfold sh_rlog_Log_From
  intro w1 hw1
  have ed := Ext.drew' hw1
  have h1 := h.ext0 ed
  have hl := h1.l.len
  have hcap := h1.l.lin.cap
  obtain ⟨ob, oe⟩ := h.ok
  refine VNN.i (VLd.i1 (t := .int .i64) g.base (Rd.of_bk h1.k rfl) (VNN.i (VLd.s s (Rd.of_bk h1.k rfl) ?_)))
  rw [hl, w64 (n := g.base + ((g.l.length : Nat) : Int)) (by omega)]
  refine VIf.mk (fun hc => ?_) (fun hc => ?_)
  · have hq : fromO g i most = [] := by
      unfold fromO
      rw [if_pos]
      simp at hc
      omega
    rw [hq]
    exact ⟨nSl, rfl, LOwn.nil _ _, ed⟩
  have hc2 : 1 ≤ most ∧ i ≤ g.base + (g.l.length : Int) := by simp at hc; omega
  have hq : fromO g i most = (g.l.drop (fromK g i)).take most.toNat := by unfold fromO; rw [if_neg (by omega)]
  intro w2 hw2
  have ed2 := Ext.drew' hw2
  have h2 := h1.ext0 ed2
  refine VNN.i (VLd.s s (Rd.of_bk h2.k rfl) (VNN.i (VLd.i1 (t := .int .i64) g.base (Rd.of_bk h2.k rfl) (VNN.i (VLd.i1 (t := .int .i64) g.base (Rd.of_bk h2.k rfl) ?_)))))
  have hkk : fromK g i ≤ g.l.length := by unfold fromK; split <;> omega
  have hE : IntKind.wrap .i64 ((IntKind.wrap .i64 ((if (IntKind.wrap .i64 (g.base + 1)) > i then IntKind.wrap .i64 (g.base + 1) else i) - g.base)) - 1) = ((fromK g i : Nat) : Int) := by
    rw [w64 (n := g.base + 1) (by omega)]
    unfold fromK
    split
    · rw [w64 (n := g.base + 1 - g.base) (by omega), w64 (n := g.base + 1 - g.base - 1) (by omega)]; omega
    · rw [w64 (n := i - g.base) (by omega), w64 (n := i - g.base - 1) (by omega)]; omega
  rw [hE]
  simp only [Int.toNat_natCast]
  rw [hl]
  refine VCk.i (by omega) ?_
  obtain ⟨m, hm, hm2⟩ : ∃ m : Nat, (if ((g.l.length - fromK g i : Nat) : Int) < most then ((g.l.length - fromK g i : Nat) : Int) else most) = (m : Int) ∧ m = min most.toNat (g.l.length - fromK g i) := by
    refine ⟨min most.toNat (g.l.length - fromK g i), ?_, rfl⟩
    split <;> omega
  have hm' : (if ((g.l.length - fromK g i : Nat) : Int) < most then (g.l.length - fromK g i) else Int.toNat most) = m := by
    split at hm <;> rename_i hq2 <;> simp [hq2] <;> omega
  have c1 := h2.l.lin.cut (fromK g i) g.l.length hkk (Nat.le_refl _)
  rw [List.take_length] at c1
  have c2 := c1.cut 0 m (Nat.zero_le _) (by rw [List.length_drop]; omega)
  rw [List.drop_zero] at c2
  have hres : (g.l.drop (fromK g i)).take m = fromO g i most := by
    rw [hq, hm2]
    apply List.ext_getElem?
    intro j
    simp only [List.getElem?_take, List.getElem?_drop]
    by_cases h1 : j < g.l.length - fromK g i
    · by_cases h2 : j < most.toNat
      · rw [if_pos (by omega), if_pos h2]
      · rw [if_neg (by omega), if_neg h2]
    · rw [if_neg (by omega)]
      split
      · rw [List.getElem?_eq_none (by omega)]
      · rfl
  rw [hres] at c2
  simp only [hm, hm', Int.toNat_natCast]
  refine VCk.i (by omega) ?_
  have c3 : LIn w2 ⟨cutB (cutB s.base s.cap 4 (fromK g i)) (s.cap - fromK g i) 4 0, m - 0, s.cap - fromK g i - 0⟩ (fromO g i most) := c2
  clear c1 c2 hE hm hm' hres
  have hmem : ∀ e, e ∈ fromO g i most → e ∈ g.l := fun e he => List.mem_of_mem_drop (List.mem_of_mem_take (hq ▸ he))
  have hlen : (fromO g i most).length ≤ g.l.length := by rw [hq, List.length_take, List.length_drop]; omega
  have z := (ed.then0 ed2).size
  have e02 := ed.then0 ed2
  generalize fromO g i most = T at *
  have hT : T.length ≤ 100000000 := by omega
  have ht := twins_spec _ T w2 c3 hT (fun e he => hll e (hmem e he))
  refine VCall.i ht ?_
  rintro e w3 ⟨s', rfl, hs', e3⟩
  exact exW.i1 (t := .sl) s' rfl ⟨s', rfl, hs'.mono z, e02.then0 e3⟩
end Go.Proofs.Ytkekjbdppabmhaa
