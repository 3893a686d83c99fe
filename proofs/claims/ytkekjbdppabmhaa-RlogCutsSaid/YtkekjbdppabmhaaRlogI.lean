/-
  Package rlog: a log is made, copied, cut, begun anew.
-/
import Derived.Test.YtkekjbdppabmhaaRlogH
namespace Go.Proofs.Ytkekjbdppabmhaa
open Go.RowKit
set_option maxRecDepth 100000

theorem count_opt (n : Int) (w : World) : Calls Try.prog 33 #[.int .i64 n] w fun e w' => e = .returned (.bool (cntB n)) ∧ Ext [] w w' :=
  (count_pure n w).mono fun e w' ⟨h1, h2⟩ => ⟨h1, h2 ▸ Ext.refl _ _⟩
theorem cntB_iff {n : Int} : cntB n = true ↔ 0 ≤ n ∧ n ≤ 2147483647 := by
  unfold cntB
  rw [Bool.and_eq_true, decide_eq_true_eq, decide_eq_true_eq]
def newE (base term : Int) (L : List En) : Int := if (cntB base && (cntB term && mayB term L)) = false then 1 else if 2147483647 - base < (L.length : Int) then 70 else 0
theorem New_spec (base term : Int) (s : Sl) (L : List En) (w : World) (h : LIn w s L) (hL : L.length ≤ 100000000) (hl : ∀ e ∈ L, e.list.length ≤ 100000000) : Calls Try.prog 9 #[.int .i64 base, .int .i64 term, .slice s.base s.len s.cap] w fun r w' =>
    ∃ p : Option Addr, r = .returned (.tuple #[.pointer p, .int .i64 (newE base term L)]) ∧ (newE base term L ≠ 0 → p = none) ∧ (newE base term L = 0 → ∃ b s', p = some ⟨b, 0, none⟩ ∧ LogAt w w' b ⟨base, term, L⟩ s') ∧ Ext [] w w' := by
  refine sh_rlog_New_ok _ _ _ _ _ ?_
  unfold sh_rlog_New
  have hsl := h.len
  refine VCall.opt (count_opt base w) fun w1 e1 => exW.i1 (t := .bool) _ rfl (VCall.opt (count_opt term w1) fun w2 e2 => exW.i1 (t := .bool) _ rfl (VCall.opt (may_spec term s L w2 ((h.ext0 e1).ext0 e2) hL) fun w3 e3 => exW.i1 (t := .bool) _ rfl ?_))
  have e03 := (e1.then0 e2).then0 e3
  have h3 := h.ext0 e03
  refine VIf.mk (fun hc => ?_) (fun hc => ?_)
  · have hq : newE base term L = 1 := by
      unfold newE
      rw [if_pos]
      revert hc
      cases cntB base <;> cases cntB term <;> cases mayB term L <;> simp
    rw [hq]
    exact ⟨none, rfl, fun _ => rfl, fun h => absurd h (by decide), e03⟩
  have hb : cntB base = true ∧ cntB term = true ∧ mayB term L = true := by
    revert hc
    cases cntB base <;> cases cntB term <;> cases mayB term L <;> simp
  have hq : newE base term L = if 2147483647 - base < (L.length : Int) then 70 else 0 := by
    unfold newE
    rw [hb.1, hb.2.1, hb.2.2]
    rfl
  have hbase := cntB_iff.1 hb.1
  rw [hsl, w64 (n := 2147483647 - base) (by omega)]
  refine VIf.mk (fun hd => ?_) (fun hd => ?_)
  · have hd : 2147483647 - base < (L.length : Int) := by simpa using hd
    rw [hq, if_pos hd]
    exact ⟨none, rfl, fun _ => rfl, fun h => absurd h (by decide), e03⟩
  have hd : ¬ 2147483647 - base < (L.length : Int) := by simpa using hd
  rw [hq, if_neg hd]
  rw [← hsl]
  refine VCall.i (twins_spec s L w3 h3 hL hl) ?_
  rintro r w4 ⟨s', rfl, hs', e4⟩
  refine exW.i1 (t := .sl) s' rfl (VNw.i fun b w5 hb5 hk5 e5 => ?_)
  have z3 := e03.size
  have z4 := e4.size
  exact ⟨some ⟨b, 0, none⟩, rfl, fun h => absurd rfl h, fun _ => ⟨b, s', rfl, by omega, ⟨hbase.1, by show base + (L.length : Int) ≤ 2147483647; omega⟩, hk5, (hs'.mono z3).ext0 e5⟩, (e03.then0 e4).then0 e5⟩
theorem Copy_nil (w : World) : Calls Try.prog 16 #[.pointer none] w fun e w' => e = .returned (.pointer none) ∧ Ext [] w w' := by
  refine sh_rlog_Log_Copy_ok _ _ _ ?_
  unfold sh_rlog_Log_Copy
  exact VIf.t rfl ⟨rfl, Ext.refl _ _⟩
theorem Copy_spec (w0 w : World) (b : Nat) (g : Lg) (s : Sl) (h : LogAt w0 w b g s) (hL : g.l.length ≤ 100000000) (hl : ∀ e ∈ g.l, e.list.length ≤ 100000000) : Calls Try.prog 16 #[.pointer (some ⟨b, 0, none⟩)] w fun e w' => ∃ b' s', e = .returned (.pointer (some ⟨b', 0, none⟩)) ∧ LogAt w w' b' g s' ∧ Ext [] w w' := by
  refine sh_rlog_Log_Copy_ok _ _ _ ?_
  unfold sh_rlog_Log_Copy
  refine VIf.f rfl ?_
  intro w1 hw1
  have ed := Ext.drew' hw1
  have h1 := h.ext0 ed
  refine VNN.i (VLd.i1 (t := .int .i64) g.base (Rd.of_bk h1.k rfl) (VNN.i (VLd.i1 (t := .int .i64) g.term (Rd.of_bk h1.k rfl) (VNN.i (VLd.s s (Rd.of_bk h1.k rfl) ?_)))))
  refine VCall.i (twins_spec s g.l w1 h1.l.lin hL hl) ?_
  rintro r w2 ⟨s', rfl, hs', e2⟩
  have h2 := h1.ext0 e2
  refine exW.i1 (t := .sl) s' rfl ⟨Rd.of_bk h2.k rfl, Rd.of_bk h2.k rfl, VNw.i fun b' w3 hb3 hk3 e3 => ?_⟩
  have z1 := ed.size
  have z2 := e2.size
  exact ⟨b', s', rfl, ⟨by omega, h.ok, hk3, (hs'.mono z1).ext0 e3⟩, (ed.then0 e2).then0 e3⟩
def cutG (g : Lg) (i : Int) : Lg := if inL g i then ⟨i, (termO g i).1, g.l.drop (i - g.base).toNat⟩ else g
theorem Cut_nil (i : Int) (w : World) : Calls Try.prog 10 #[.pointer none, .int .i64 i] w fun e w' => e = .returned (.int .i64 2) ∧ Ext [] w w' := by
  refine sh_rlog_Log_Cut_ok _ _ _ _ ?_
  unfold sh_rlog_Log_Cut
  exact VIf.t rfl ⟨rfl, Ext.refl _ _⟩
theorem LogAt.le {w0 w : World} {b : Nat} {g : Lg} {s : Sl} (h : LogAt w0 w b g s) : w0.heap.size ≤ w.heap.size := by have := h.gb; have := h.k.lt; omega
theorem Cut_spec (w0 w : World) (b : Nat) (g : Lg) (s : Sl) (i : Int) (h : LogAt w0 w b g s) (hL : g.l.length ≤ 100000000) : Calls Try.prog 10 #[.pointer (some ⟨b, 0, none⟩), .int .i64 i] w fun e w' => ∃ s', e = .returned (.int .i64 (if inL g i then 0 else 1)) ∧ LogAt w0 w' b (cutG g i) s' ∧ Ext [b] w w' := by
  refine sh_rlog_Log_Cut_ok _ _ _ _ ?_
  unfold sh_rlog_Log_Cut
  refine VIf.f rfl (VCall.i (Term_spec w0 w b g s i h) ?_)
  rintro e w1 ⟨rfl, e1⟩
  have h1 := h.ext0 e1
  refine exW.i2 (t := .int .i64) (u := .bool) _ _ rfl (VSet.i ?_)
  rw [termO_in]
  refine VIf.mk (fun hc => ?_) (fun hc => ?_)
  · have hc : inL g i = false := by simpa using hc
    unfold cutG
    rw [hc]
    exact ⟨s, rfl, h1, e1.mono (by simp)⟩
  have hc : inL g i = true := by simpa using hc
  have hi := inL_iff.1 hc
  obtain ⟨ob, oe⟩ := h.ok
  intro w2 hw2
  have ed := Ext.drew' hw2
  have h2 := h1.ext0 ed
  have hl := h2.l.len
  have hcap := h2.l.lin.cap
  refine VNN.i (VLd.s s (Rd.of_bk h2.k rfl) (VNN.i (VLd.i1 (t := .int .i64) g.base (Rd.of_bk h2.k rfl) ?_)))
  obtain ⟨q, hqq⟩ : ∃ q : Nat, i - g.base = (q : Int) := ⟨(i - g.base).toNat, by omega⟩
  rw [w64 (n := i - g.base) (by omega), hqq]
  simp only [Int.toNat_natCast]
  refine VCk.i (by omega) ?_
  obtain ⟨X, hX, hXl, hE⟩ := h2.l
  have hql : q ≤ X.length := by omega
  have hcut := hX.in_.cut q X.length hql (Nat.le_refl _)
  rw [List.take_length] at hcut
  have hsx : s.len = X.length := hX.len
  rw [← hsx] at hcut
  have ht := CloneE_spec _ (X.drop q) w2 hcut (by rw [List.length_drop]; omega)
  refine VCall.i ht ?_
  rintro e w3 ⟨s', rfl, hs', e3⟩
  have h3 := h2.ext0 e3
  have l0 := h2.le
  refine exW.i1 (t := .sl) s' rfl (VNN.i ?_)
  simp only [add_blk, Nat.zero_add]
  refine VSt.bk h3.k rfl (by simp [lgC]) fun w4 hk4 e4 => VNN.i ?_
  have hk4 : Bk w4 b (lgC ⟨g.base, g.term, g.l⟩ s') 69 := hk4
  refine VSt.bk hk4 rfl (by simp [lgC]) fun w5 hk5 e5 => VNN.i ?_
  have hk5 : Bk w5 b (lgC ⟨i, g.term, g.l⟩ s') 69 := hk5
  simp only [add_blk, Nat.zero_add]
  refine VSt.bk hk5 rfl (by simp [lgC]) fun w6 hk6 e6 => ?_
  have hk6 : Bk w6 b (lgC (cutG g i) s') 69 := by unfold cutG; rw [hc]; exact hk6
  have e36 : Ext [b] w3 w6 := (e4.then e5 (fun i hi _ => hi)).then e6 (fun i hi _ => hi)
  have hLO : LOwn w0 w3 s' (g.l.drop q) := ⟨X.drop q, hs'.mono l0, by rw [List.length_drop, List.length_drop]; omega, fun j h1 h2 => by
    rw [List.getElem_drop, List.getElem_drop]
    exact (hE _ _ _).ext0 e3⟩
  have hcg : (cutG g i).l = g.l.drop q := by unfold cutG; rw [hc]; show g.l.drop (i - g.base).toNat = _; rw [hqq, Int.toNat_natCast]
  have hcb : (cutG g i).base = i := by unfold cutG; rw [hc]; rfl
  refine ⟨s', by rw [hc]; rfl, ⟨h.gb, ⟨by rw [hcb]; omega, by rw [hcb, hcg, List.length_drop]; omega⟩, hk6, ?_⟩, ?_⟩
  · rw [hcg]; exact hLO.ext1 h3.k (by decide) (by decide) e36
  · exact (((e1.then0 ed).then0 e3).mono (N := [b]) (by simp)).then e36 (fun i hi _ => hi)
theorem Above_nil (i t : Int) (w : World) : Calls Try.prog 31 #[.pointer none, .int .i64 i, .int .i64 t] w fun e w' => e = .returned (.bool true) ∧ Ext [] w w' := by
  refine sh_rlog_Log_Above_ok _ _ _ _ _ ?_
  unfold sh_rlog_Log_Above
  exact VIf.t rfl ⟨rfl, Ext.refl _ _⟩
theorem Reset_nil (i t : Int) (w : World) : Calls Try.prog 30 #[.pointer none, .int .i64 i, .int .i64 t] w fun e w' => e = .returned (.int .i64 2) ∧ Ext [] w w' := by
  refine sh_rlog_Log_Reset_ok _ _ _ _ _ ?_
  unfold sh_rlog_Log_Reset
  exact VIf.t rfl ⟨rfl, Ext.refl _ _⟩
theorem Members_nil (i : Int) (w : World) : Calls Try.prog 28 #[.pointer none, .int .i64 i] w fun e w' => e = .returned (.tuple #[.slice none 0 0, .bool false]) ∧ Ext [] w w' := by
  refine sh_rlog_Log_Members_ok _ _ _ _ ?_
  unfold sh_rlog_Log_Members
  refine VNw.i fun a1 w1 hb1 hk1 e1 => VNw.i fun a2 w2 hb2 hk2 e2 => VNw.i fun a3 w3 hb3 hk3 e3 => VNw.i fun a4 w4 hb4 hk4 e4 => ?_
  refine VLd.i1 (t := .ptr) none (Rd.of_bk (((hk1.ext e2).ext e3).ext e4) rfl) (VIf.t rfl ?_)
  have n3 := hk3.lt
  refine VSt.bk (hk3.ext e4) rfl (by simp) fun w5 hk5 e5 => VSt.bk (hk4.ext e5 (by simp; omega)) rfl (by simp) fun w6 hk6 e6 => ?_
  refine VLd.s nSl (Rd.of_bk (hk5.ext e6 (by simp; omega)) rfl) (VLd.i1 (t := .bool) false (Rd.of_bk hk6 rfl) ⟨rfl, ?_⟩)
  have z1 := e1.size
  have z2 := e2.size
  have z3 := e3.size
  exact ((((e1.then0 e2).then0 e3).then0 e4).then e5 (fun i hi hlt => by simp at hi; omega)).then e6 (fun i hi hlt => by simp at hi; omega)
end Go.Proofs.Ytkekjbdppabmhaa
