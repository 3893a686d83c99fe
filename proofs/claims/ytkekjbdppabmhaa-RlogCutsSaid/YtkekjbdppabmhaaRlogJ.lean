/-
  Package rlog: entries are put behind, and merged.
-/
import Derived.Test.YtkekjbdppabmhaaRlogI
namespace Go.Proofs.Ytkekjbdppabmhaa
open Go.RowKit
set_option maxRecDepth 100000

def appE (g : Lg) (e : En) : Int := if okE e = false ∨ e.term < (lastO g).2 then 1 else if (lastO g).1 = 2147483647 then 70 else 0
def appG (g : Lg) (e : En) : Lg := if appE g e = 0 then ⟨g.base, g.term, g.l ++ [e]⟩ else g
theorem Append_nil (x : Er) (w : World) : Calls Try.prog 29 #[.pointer none, .agg (erC x).toArray] w fun e w' => e = .returned (.int .i64 2) ∧ Ext [] w w' := by
  refine sh_rlog_Log_Append_ok _ _ _ _ _ _ _ ?_
  unfold sh_rlog_Log_Append
  exact VNw.i fun b w1 hb hk1 e1 => VIf.t rfl ⟨rfl, e1⟩
theorem Append_spec (w0 w : World) (b : Nat) (g : Lg) (s : Sl) (x : Er) (en : En) (h : LogAt w0 w b g s) (hx : EIn w x en) (h0 : Ext [] w0 w ∨ True) (hL : g.l.length ≤ 1000000) (hl : en.list.length ≤ 100000000) : Calls Try.prog 29 #[.pointer (some ⟨b, 0, none⟩), .agg (erC x).toArray] w fun e w' => ∃ s' M, e = .returned (.int .i64 (appE g en)) ∧ LogAt w0 w' b (appG g en) s' ∧ Ext M w w' ∧ ∀ i ∈ M, w0.heap.size ≤ i := by
  refine sh_rlog_Log_Append_ok _ _ _ _ _ _ _ ?_
  unfold sh_rlog_Log_Append
  refine VNw.i fun eb w1 heb hk1 e1 => VIf.f rfl (VCall.i (Last_spec w0 w1 b g s (h.ext0 e1)) ?_)
  have hk1 : Bk w1 eb (erC x) 28 := hk1
  rintro e w2 ⟨rfl, e2⟩
  have hk2 := hk1.ext e2
  have e02 := e1.then0 e2
  refine exW.i2 (t := .int .i64) (u := .int .i64) _ _ rfl (VSet.i (VSet.i (VLd.er x (Rd.of_bk hk2 rfl) ?_)))
  refine VCall.i (Check_spec x en w2 (hx.ext0 e02)) ?_
  rintro e w3 ⟨rfl, e3⟩
  have hk3 := hk2.ext e3
  have e03 := e02.then0 e3
  have h3 := h.ext0 e03
  obtain ⟨ob, oe⟩ := h.ok
  have nof : ∀ i ∈ ([] : List Nat), w0.heap.size ≤ i := by simp
  refine exW.i1 (t := .bool) _ rfl (VLd.i1 (t := .int .i64) x.t (Rd.of_bk hk3 rfl) (VIf.mk (fun hc => ?_) (fun hc => ?_)))
  · have hq : appE g en = 1 := by
      unfold appE
      rw [if_pos]
      rw [hx.ht] at hc
      simpa using hc
    unfold appG
    rw [hq]
    exact ⟨s, [], rfl, h3, e03, nof⟩
  have hc2 : ¬ (okE en = false ∨ en.term < (lastO g).2) := by rw [hx.ht] at hc; simpa using hc
  have hq : appE g en = if (lastO g).1 = 2147483647 then 70 else 0 := by unfold appE; rw [if_neg hc2]
  refine VIf.mk (fun hd => ?_) (fun hd => ?_)
  · have hd : (lastO g).1 = 2147483647 := by simpa using hd
    rw [if_pos hd] at hq
    unfold appG
    rw [hq]
    exact ⟨s, [], rfl, h3, e03, nof⟩
  have hd : ¬ (lastO g).1 = 2147483647 := by simpa using hd
  rw [if_neg hd] at hq
  have hg : appG g en = ⟨g.base, g.term, g.l ++ [en]⟩ := by unfold appG; rw [hq]; rfl
  rw [hg, hq]
  intro w4 hw4
  have ed := Ext.drew' hw4
  have h4 := h3.ext0 ed
  have hk4 := hk3.ext ed
  have e04 := e03.then0 ed
  refine VNN.i (VLd.s s (Rd.of_bk h4.k rfl) (VLd.er x (Rd.of_bk hk4 rfl) ?_))
  refine VCall.i (twin_spec x en w4 (hx.ext0 e04) hl) ?_
  rintro e w5 ⟨x', rfl, hx', e5⟩
  refine exW.er x' rfl ⟨Rd.of_bk (h4.ext0 e5).k rfl, VNw.i fun eb2 w6 heb2 hk6 e6 => ⟨Rd.of_bk ((h4.ext0 e5).ext0 e6).k rfl, ?_⟩⟩
  have hk6 : Bk w6 eb2 (erC x') 28 := hk6
  have h6 := (h4.ext0 e5).ext0 e6
  have hx6 := hx'.ext0 e6
  have e06 := (e04.then0 e5).then0 e6
  obtain ⟨X, hX, hXl, hE⟩ := h6.l
  have l0 := h4.le
  -- an own row, seen from w0 on
  have hO : OwnR erR 28 w0 w6 s X := hX
  have hsl := hX.len
  have hcp := hX.cap
  refine VApp.row (news := erR.cells [x']) hO.1 (size := 4) rfl (by rw [Rec.cells_one]; exact Seg.of_bk hk6 rfl rfl) rfl (Rec.cells_all _) (by omega) (by omega) fun s' w7 hr7 hlen7 e7 hbl7 _ => ?_
  rw [← Rec.cells_app] at hr7
  have hO7 : OwnR erR 28 w0 w7 s' (X ++ [x']) := ⟨hr7, fun b hb => by
    rcases hbl7 b hb with h' | h'
    · exact hO.2 b h'
    · have := e06.size; have := h.le; omega⟩
  have hbn : b ∉ rowB s := hX.notin h6.k (by decide)
  have hb7 := h6.k.ext e7 hbn
  have keep : ∀ {y : Er} {e : En} {v : World}, EOwn v w6 y e → EOwn v w7 y e := fun hy => ⟨hy.ht, hy.hk, hy.hd, hy.ho.ext e7 (OwnR.notinT hX hy.ho (by decide))⟩
  refine VNN.i ?_
  simp only [add_blk, Nat.zero_add]
  refine VSt.bk hb7 rfl (by simp [lgC]) fun w8 hk8 e8 => ?_
  have hk8 : Bk w8 b (lgC ⟨g.base, g.term, g.l ++ [en]⟩ s') 69 := hk8
  have hLO : LOwn w0 w7 s' (g.l ++ [en]) := ⟨X ++ [x'], hO7, by simp [hXl], fun i h1 h2 => by
    by_cases hi : i < X.length
    · rw [List.getElem_append_left hi, List.getElem_append_left (by omega)]
      exact keep (hE i hi _)
    · have hix : i = X.length := by simp at h1; omega
      subst hix
      rw [List.getElem_append_right (Nat.le_refl _), List.getElem_append_right (by omega)]
      simp only [hXl, Nat.sub_self, List.getElem_cons_zero]
      exact keep (hx6.mono l0)⟩
  have hlast : (lastO g).1 = g.base + (g.l.length : Int) := rfl
  refine ⟨s', rowB s ++ [b], trivial, ⟨h.gb, ⟨ob, by show g.base + (((g.l ++ [en]).length : Nat) : Int) ≤ 2147483647; rw [List.length_append, List.length_singleton]; omega⟩, hk8, hLO.ext1 hb7 (by decide) (by decide) e8⟩, ?_, fun i hi => ?_⟩
  · exact ((e06.mono (N := rowB s ++ [b]) (by simp)).then e7 (fun i hi _ => by simp [hi])).then e8 (fun i hi _ => by simp at hi; simp [hi])
  · rcases List.mem_append.1 hi with hi | hi
    · exact hX.2 i hi
    · simp at hi; rw [hi]; exact h.gb
/-- the place of the first one that the log has not -/
def badP (g : Lg) (prev : Int) (L : List En) (i : Nat) : Bool := decide (prev + 1 + (i : Int) > g.base) && (!(inL g (prev + 1 + (i : Int))) || ((termO g (prev + 1 + (i : Int))).1 != (L.getD i zEn).term))
theorem parts_spec (w0 w : World) (b : Nat) (g : Lg) (s t : Sl) (prev : Int) (L : List En) (h : LogAt w0 w b g s) (hL : LIn w t L) (hlen : L.length ≤ 100000000) (hp : 0 ≤ prev ∧ prev ≤ 2147483647) : Calls Try.prog 37 #[.pointer (some ⟨b, 0, none⟩), .int .i64 prev, .slice t.base t.len t.cap] w fun e w' =>
    ∃ i : Nat, i ≤ L.length ∧ (∀ q, q < i → badP g prev L q = false) ∧ (i < L.length → badP g prev L i = true) ∧ e = .returned (.int .i64 (if i < L.length then (i : Int) else -1)) ∧ Ext [] w w' := by
  refine sh_rlog_Log_parts_ok _ _ _ _ _ ?_
  unfold sh_rlog_Log_parts
  obtain ⟨X, hX, hXl, hEX⟩ := hL
  refine VNw.i fun gb w1 hgb hg1 e1 => VNw.i fun ab w2 hab ha2 e2 => VSt.bk ha2 rfl (by simp) fun w3 ha3 e3 => ?_
  have ha3 : Bk w3 ab [.int .i64 prev] 3 := ha3
  have lg := hg1.lt
  have z1 := e1.size
  have z2 := e2.size
  have hg3 := (hg1.ext e2).ext e3 (by simp; omega)
  have hg3 : Bk w3 gb [.pointer (some ⟨b, 0, none⟩)] 30 := hg3
  have e03 : Ext [] w w3 := (e1.then0 e2).then e3 (fun i hi hlt => by simp at hi; omega)
  have habge : w.heap.size ≤ ab := by omega
  refine VCall.i (IndexE_spec t X w3 (.func (.func 58) #[] #[.pointer (some ⟨ab, 0, none⟩), .pointer (some ⟨gb, 0, none⟩)]) (badP g prev L) (fun i W => Bk W ab [.int .i64 (prev + (i : Int))] 3 ∧ Bk W gb [.pointer (some ⟨b, 0, none⟩)] 30 ∧ Ext [] w W) ⟨by simpa using ha3, hg3, e03⟩ (fun i W h => hX.ext0 h.2.2) (by omega) ?_) ?_
  · intro i hi W K hS hk
    obtain ⟨hb, hg, e0⟩ := hS
    have hiL : i < L.length := by omega
    refine VDyn.i (by kernel_rfl) (VCall.i (R0 := fun r w' => r = .returned (.bool (badP g prev L i)) ∧ Bk w' ab [.int .i64 (prev + ((i + 1 : Nat) : Int))] 3 ∧ Bk w' gb [.pointer (some ⟨b, 0, none⟩)] 30 ∧ Ext [] w w') ?_ ?_)
    · refine sh_rlog_Log_parts_1_ok _ _ _ _ _ _ _ _ ?_
      unfold sh_rlog_Log_parts_1
      have hE := (hEX i hi hiL).ext0 e0
      refine VNw.i fun eb w4 heb hk4 e4 => ?_
      have hk4 : Bk w4 eb (erC X[i]) 28 := hk4
      have hb4 := hb.ext e4
      have hg4 := hg.ext e4
      have lb := hb.lt
      have hne : gb ≠ ab := fun e => by subst e; exact hg.neT hb (by decide) rfl
      refine VLd.i1 (t := .int .i64) (prev + (i : Int)) (Rd.of_bk hb4 rfl) ?_
      rw [w64 (n := prev + (i : Int) + 1) (by omega)]
      refine VSt.bk hb4 rfl (by simp) fun w5 hb5 e5 => ?_
      have hb5 : Bk w5 ab [.int .i64 (prev + (i : Int) + 1)] 3 := hb5
      have hg5 := hg4.ext e5 (by simpa using hne)
      have hk5 := hk4.ext e5 (by simp; omega)
      have e05 : Ext [] w w5 := (e0.then0 e4).then e5 (fun i hi hlt => by simp at hi; omega)
      have h5 := h.ext0 e05
      refine VLd.i1 (t := .ptr) (some ⟨b, 0, none⟩) (Rd.of_bk hg5 rfl) (VLd.i1 (t := .int .i64) (prev + (i : Int) + 1) (Rd.of_bk hb5 rfl) ?_)
      refine VCall.i (Term_spec w0 w5 b g s _ h5) ?_
      rintro r w6 ⟨rfl, e6⟩
      refine exW.i2 (t := .int .i64) (u := .bool) _ _ rfl (VSet.i ?_)
      intro w7 hw7
      have e67 := e6.then0 (Ext.drew' hw7)
      have hb7 := hb5.ext e67
      have hg7 := hg5.ext e67
      have h7 := h5.ext0 e67
      have hk7 := hk5.ext e67
      refine VLd.i1 (t := .int .i64) (prev + (i : Int) + 1) (Rd.of_bk hb7 rfl) (VLd.i1 (t := .ptr) (some ⟨b, 0, none⟩) (Rd.of_bk hg7 rfl) (VNN.i (VLd.i1 (t := .int .i64) g.base (Rd.of_bk h7.k rfl) (VLd.i1 (t := .int .i64) (X[i]).t (Rd.of_bk hk7 rfl) ⟨?_, ?_, hg7, e05.then0 e67⟩))))
      · unfold badP
        rw [getD_getE hiL, hE.ht, termO_in, show prev + (i : Int) + 1 = prev + 1 + (i : Int) by omega]
      · have : prev + ((i + 1 : Nat) : Int) = prev + (i : Int) + 1 := by omega
        rw [this]; exact hb7
    · rintro r w2 ⟨rfl, hb2, hg2, e2⟩
      exact exW.i1 (t := .bool) _ rfl (hk w2 ⟨hb2, hg2, e2⟩)
  · rintro r w4 ⟨i, hi, hno, hyes, hall, rfl⟩
    refine exW.i1 (t := .int .i64) _ rfl (VSet.i ⟨i, by omega, hno, fun h => (hyes (by omega)).1, by rw [hXl], ?_⟩)
    by_cases h : i < X.length
    · exact (hyes h).2.2.2
    · exact (hall (by omega)).2.2
def firstI (p : Nat → Bool) : Nat → Nat → Nat
  | 0, i => i
  | n + 1, i => if p i then i else firstI p n (i + 1)
theorem firstI_eq {p : Nat → Bool} : ∀ (n j i : Nat), j ≤ i → i ≤ j + n → (∀ q, j ≤ q → q < i → p q = false) → (i < j + n → p i = true) → firstI p n j = i
  | 0, j, i, h1, h2, _, _ => by unfold firstI; omega
  | n + 1, j, i, h1, h2, h3, h4 => by
    unfold firstI
    by_cases h : j = i
    · subst h
      rw [h4 (by omega)]; rfl
    · rw [h3 j (Nat.le_refl _) (by omega)]
      exact firstI_eq n (j + 1) i (by omega) (by omega) (fun q hq hq' => h3 q (by omega) hq') (fun hq => h4 (by omega))
theorem firstI_spec {p : Nat → Bool} : ∀ (n j : Nat), j ≤ firstI p n j ∧ firstI p n j ≤ j + n ∧ (∀ q, j ≤ q → q < firstI p n j → p q = false) ∧ (firstI p n j < j + n → p (firstI p n j) = true)
  | 0, j => ⟨Nat.le_refl _, Nat.le_refl _, fun q h1 h2 => by unfold firstI at h2; omega, fun h => by unfold firstI at h; omega⟩
  | n + 1, j => by
    unfold firstI
    by_cases h : p j = true
    · rw [if_pos h]
      exact ⟨Nat.le_refl _, by omega, fun q h1 h2 => by omega, fun _ => h⟩
    · rw [if_neg h]
      obtain ⟨h1, h2, h3, h4⟩ := firstI_spec (p := p) n (j + 1)
      refine ⟨by omega, by omega, fun q hq hq' => ?_, fun hq => h4 (by omega)⟩
      by_cases hj : q = j
      · subst hj; simpa using h
      · exact h3 q (by omega) hq'
def mergeO (g : Lg) (prev term : Int) (L : List En) : (Int × Int) × Lg :=
  if (cntB prev && (cntB term && mayB term L)) = false then ((0, 1), g)
  else if 2147483647 - prev < (L.length : Int) then ((0, 70), g)
  else if g.base ≤ prev ∧ ¬ (inL g prev = true ∧ (termO g prev).1 = term) then ((0, 50), g)
  else if prev ≤ g.base ∧ g.base - prev < (L.length : Int) ∧ (L.getD (g.base - prev).toNat zEn).term < g.term then ((0, 1), g)
  else if firstI (badP g prev L) L.length 0 = L.length then ((0, 0), g)
  else ((prev + 1 + (firstI (badP g prev L) L.length 0 : Nat), 0), ⟨g.base, g.term, g.l.take (prev + (firstI (badP g prev L) L.length 0 : Nat) - g.base).toNat ++ L.drop (firstI (badP g prev L) L.length 0)⟩)
end Go.Proofs.Ytkekjbdppabmhaa
