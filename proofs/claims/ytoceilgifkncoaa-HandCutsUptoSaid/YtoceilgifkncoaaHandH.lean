/-
  Package hand: who sends.
-/
import Derived.Test.YtoceilgifkncoaaHandG
namespace Go.Proofs.Ytoceilgifkncoaa
open Go.RowKit
set_option maxRecDepth 100000

structure Sd where
  L : List Pt
  every : Int
  next : Nat
  sent : Bool
  at_ : Int
structure SdO (w0 w : World) (q : Nat) (s : Sl) (X : List PX) (x : Sd) : Prop where
  bk : Bk w q [.slice s.base s.len s.cap, .int .i64 x.every, .int .i64 (x.next : Int), .bool x.sent, .int .i64 x.at_] 88
  pt : PtsO w0 w s X
  eq : pts X = x.L
  ge : w0.heap.size ≤ q
  nx : x.next ≤ x.L.length
  sm : small x.L
theorem SdO.ext0 {w0 w w' : World} {q : Nat} {s : Sl} {X : List PX} {x : Sd} (h : SdO w0 w q s X x) (e : Ext [] w w') : SdO w0 w' q s X x := ⟨h.bk.ext e, h.pt.ext0 e, h.eq, h.ge, h.nx, h.sm⟩
theorem SdO.mono {w0 w1 w : World} {q : Nat} {s : Sl} {X : List PX} {x : Sd} (h : SdO w1 w q s X x) (le : w0.heap.size ≤ w1.heap.size) : SdO w0 w q s X x := ⟨h.bk, h.pt.mono le, h.eq, Nat.le_trans le h.ge, h.nx, h.sm⟩
theorem SdO.len {w0 w : World} {q : Nat} {s : Sl} {X : List PX} {x : Sd} (h : SdO w0 w q s X x) : X.length = x.L.length := by rw [← h.eq]; simp [pts]
theorem PtsO.noBk {w0 w : World} {q : Nat} {s : Sl} {X : List PX} {t : TypeId} {cs : List Value} (h : PtsO w0 w s X) (k : Bk w q cs t) (n1 : 33 ≠ t) (n2 : 37 ≠ t) (n3 : 68 ≠ t) : q ∉ rowB s ∧ ∀ x ∈ X, q ∉ fpt x.1 := by
  refine ⟨fun hb => ?_, fun x hx hb => ?_⟩
  · obtain ⟨_, hk⟩ := h.row.1.bk_of hb
    exact hk.neT k n1 rfl
  · have hp := h.all x hx
    simp only [fpt, List.mem_append] at hb
    rcases hb with hb | hb
    · obtain ⟨_, hk⟩ := hp.P.1.bk_of hb
      exact hk.neT k n2 rfl
    · obtain ⟨_, hk⟩ := hp.Q.1.bk_of hb
      exact hk.neT k n3 rfl
theorem PtsO.ext1 {w0 w w' : World} {q : Nat} {s : Sl} {X : List PX} {t : TypeId} {cs : List Value} (h : PtsO w0 w s X) (k : Bk w q cs t) (e : Ext [q] w w') (n1 : 33 ≠ t) (n2 : 37 ≠ t) (n3 : 68 ≠ t) : PtsO w0 w' s X := by
  have hn := h.noBk k n1 n2 n3
  exact h.ext e (fun b hb hq => hn.1 (by simp at hq; exact hq ▸ hb)) (fun x hx b hb hq => hn.2 x hx (by simp at hq; exact hq ▸ hb))
theorem New_no (s : Sl) (n : Int) (w : World) (h : s.len = 0 ∨ n < 1 ∨ 1000 < n) : Calls Try.prog 16 #[.slice s.base s.len s.cap, .int .i64 n] w fun e w' => e = .returned (.tuple #[.pointer none, .int .i64 1]) ∧ w' = w := by
  refine sh_hand_New_ok _ _ _ _ ?_
  unfold sh_hand_New
  refine VIf.t ?_ ⟨rfl, rfl⟩
  simp only [Bool.or_eq_true, beq_iff_eq, decide_eq_true_eq]
  omega
theorem New_spec (s : Sl) (X : List PX) (n : Int) (w : World) (h : PtsIn w s X) (hs : small (pts X)) (h0 : 1 ≤ X.length) (hn : 1 ≤ n ∧ n ≤ 1000) :
    Calls Try.prog 16 #[.slice s.base s.len s.cap, .int .i64 n] w fun e w' => ∃ q s' Y, e = .returned (.tuple #[.pointer (some ⟨q, 0, none⟩), .int .i64 0]) ∧ SdO w w' q s' Y ⟨pts X, n, 0, false, 0⟩ ∧ Ext [] w w' := by
  refine sh_hand_New_ok _ _ _ _ ?_
  unfold sh_hand_New
  have hl := h.len
  refine VIf.f ?_ ?_
  · simp only [Bool.or_eq_false_iff, beq_eq_false_iff_ne, decide_eq_false_iff_not]
    omega
  refine VCall.i (twins_spec s X w h hs) ?_
  rintro e w1 ⟨s1, Y, rfl, h1, hY, e1⟩
  refine exW.i1 (t := .sl) s1 rfl ?_
  refine VNw.i fun q w2 hq hk2 e2 => ?_
  have := e1.size
  exact ⟨q, s1, Y, rfl, ⟨hk2, h1.ext0 e2, hY, by omega, Nat.zero_le _, hs⟩, e1.then0 e2⟩
def Sd.idle (x : Sd) (now : Int) : Prop := x.next = x.L.length ∨ (x.sent = true ∧ x.at_ ≤ now ∧ IntKind.wrap .i64 (now - x.at_) < x.every)
instance (x : Sd) (now : Int) : Decidable (x.idle now) := by unfold Sd.idle; infer_instance
theorem Due_spec (w0 w : World) (q : Nat) (s : Sl) (X : List PX) (x : Sd) (now : Int) (h : SdO w0 w q s X x) :
    Calls Try.prog 17 #[.pointer (some ⟨q, 0, none⟩), .int .i64 now] w fun e w' =>
      (x.idle now ∧ e = .returned (.tuple #[.int .i64 0, ptv (⟨none, 0, 0⟩, ⟨none, 0, 0⟩, false), .bool false]) ∧ Ext [] w w') ∨
      (¬ x.idle now ∧ ∃ (hi : x.next < x.L.length) (v' : PtV), e = .returned (.tuple #[.int .i64 (x.next : Int), ptv v', .bool true]) ∧ PtO w w' v' (x.L[x.next]) ∧ SdO w0 w' q s X { x with sent := true, at_ := now } ∧ Ext [q] w w') := by
  refine sh_hand_Sender_Due_ok _ _ _ _ ?_
  unfold sh_hand_Sender_Due
  have hl := h.len
  have hsl := h.pt.len
  refine VNw.i fun b5 w1 hb5 hk5 e1 => ?_
  intro w2 hw2
  have ed := Ext.drew' hw2
  have e2 := e1.then0 ed
  have hk5 := hk5.ext ed
  have h2 := h.ext0 e2
  have hb := h2.bk
  have hb5q : b5 ≠ q := by have := h.bk.lt; omega
  refine VNN.i (VLd.i1 (t := .int .i64) _ (Rd.of_bk hb rfl) (VNN.i (VLd.s s (Rd.of_bk hb rfl) (VNN.i (VLd.i1 (t := .bool) x.sent (Rd.of_bk hb rfl) (VNN.i (VLd.i1 (t := .int .i64) x.at_ (Rd.of_bk hb rfl) (VNN.i (VLd.i1 (t := .int .i64) x.at_ (Rd.of_bk hb rfl) (VNN.i (VLd.i1 (t := .int .i64) x.every (Rd.of_bk hb rfl) ?_)))))))))))
  have hcond : ((((some ⟨q, 0, none⟩ : Option Addr)).isNone || (((x.next : Nat) : Int) == ((s.len : Nat) : Int))) || ((x.sent && (decide (now ≥ x.at_))) && (decide ((IntKind.wrap .i64 (now - x.at_)) < x.every)))) = decide (x.idle now) := by
    rw [hsl, hl, Bool.eq_iff_iff]
    simp only [Option.isNone_some, Bool.false_or, Bool.or_eq_true, Bool.and_eq_true, beq_iff_eq, decide_eq_true_eq, and_assoc]
    unfold Sd.idle
    constructor
    · rintro (h | h)
      · exact .inl (by omega)
      · exact .inr h
    · rintro (h | h)
      · exact .inl (by omega)
      · exact .inr h
  refine VIf.mk (fun hc => ?_) (fun hc => ?_)
  · have hc : x.idle now := by rw [show _ = decide (x.idle now) from hcond] at hc; simpa using hc
    refine VSt.bk hk5 rfl (by simp) fun w3 hk3 e3 => ?_
    refine ⟨(⟨none, 0, 0⟩ : Sl), (⟨none, 0, 0⟩ : Sl), (false : Bool), gd.i (Rd.of_bk hk3 rfl), .inl ⟨hc, rfl, e2.then e3 (fun i hi hlt => by simp at hi; omega)⟩⟩
  · have hc : ¬ x.idle now := by rw [show _ = decide (x.idle now) from hcond] at hc; simpa using hc
    have hi : x.next < x.L.length := by
      have := h.nx
      have : x.next ≠ x.L.length := fun e => hc (.inl e)
      omega
    refine VNN.i (VSt.bk hb rfl (by simp) fun w4 hk4 e4 => VNN.i (VSt.bk hk4 rfl (by simp) fun w5 hk5' e5 => ?_))
    intro w6 hw6
    have ed6 := Ext.drew' hw6
    have e26 : Ext [q] w2 w6 := (e4.then e5 (fun i hi _ => hi)).then0 ed6
    have hq6 := hk5'.ext ed6
    have hp6 := h2.pt.ext1 hb e26 (by decide) (by decide) (by decide)
    have hb6 := hk5.ext e26 (by simpa using hb5q)
    have hiX : x.next < X.length := by omega
    refine VNN.i (VLd.i1 (t := .int .i64) _ (Rd.of_bk hq6 rfl) (VNN.i (VLd.s s (Rd.of_bk hq6 rfl) (VNN.i (VLd.i1 (t := .int .i64) _ (Rd.of_bk hq6 rfl) ?_)))))
    refine VIx.pt hp6.in_ hiX rfl fun a hr => ?_
    refine ⟨((X[x.next]).1.1 : Sl), ((X[x.next]).1.2.1 : Sl), ((X[x.next]).1.2.2 : Bool), gd.i hr, ?_⟩
    have hXL : (X[x.next]).2 = x.L[x.next] := by
      have : (pts X)[x.next]'(by simpa [pts] using hiX) = x.L[x.next] := by simp only [h.eq]
      rw [← this]; simp [pts]
    have hsm := h.sm.2 _ (List.getElem_mem hi)
    rw [← hXL] at hsm
    refine VCall.i (twin_spec (X[x.next]).1 (X[x.next]).2 w6 (hp6.in_.all _ (List.getElem_mem hiX)) hsm.1 hsm.2) ?_
    rintro e w7 ⟨v', rfl, hv, _, e7⟩
    have hq7 := hq6.ext e7
    have hb7 := hb6.ext e7
    refine ⟨(v'.1 : Sl), (v'.2.1 : Sl), (v'.2.2 : Bool), rfl, Rd.of_bk hq7 rfl, VSet.i ?_⟩
    refine VSt.bk hb7 rfl (by simp) fun w8 hk8 e8 => ?_
    have e26w := (e2.mono (N := [q]) (by simp)).then e26 (fun i hi _ => hi)
    refine ⟨(v'.1 : Sl), (v'.2.1 : Sl), (v'.2.2 : Bool), gd.i (Rd.of_bk hk8 rfl), .inr ⟨hc, hi, v', rfl, ?_, ⟨?_, ?_, h.eq, h.ge, h.nx, h.sm⟩, (e26w.then0 e7).then e8 (fun i hi hlt => by simp at hi; omega)⟩⟩
    · rw [← hXL]
      refine (hv.ext e8 (fun b hb hq => ?_)).mono e26w.size
      simp at hq
      have := hv.ges b hb
      have := hb6.lt
      omega
    · exact hq7.ext e8 (by simp; exact fun e => hb5q e.symm)
    · exact (hp6.ext0 e7).ext e8 (fun b hb hq => by
        simp at hq; subst hq
        have := h.pt.row.1.lt b hb; omega) (fun y hy b hb hq => by
        simp at hq; subst hq
        have := (h.pt.all y hy).lt b hb; omega)
def Sd.told (x : Sd) (n : Int) : Sd := if 0 ≤ n ∧ n ≤ (x.L.length : Int) ∧ (x.next : Int) < n then { x with next := n.toNat, sent := false } else x
theorem Told_spec (w0 w : World) (q : Nat) (s : Sl) (X : List PX) (x : Sd) (n : Int) (h : SdO w0 w q s X x) :
    Calls Try.prog 19 #[.pointer (some ⟨q, 0, none⟩), .int .i64 n] w fun e w' => e = .returned (.int .i64 (if 0 ≤ n ∧ n ≤ (x.L.length : Int) then 0 else 1)) ∧ SdO w0 w' q s X (x.told n) ∧ Ext [q] w w' := by
  refine sh_hand_Sender_Told_ok _ _ _ _ ?_
  unfold sh_hand_Sender_Told
  have hl := h.len
  have hsl := h.pt.len
  have hb := h.bk
  refine ⟨fun W => (0 ≤ n ∧ n ≤ (x.L.length : Int)) ∧ SdO w0 W q s X (x.told n) ∧ Ext [q] w W, ?_, ?_⟩
  · refine VIf.f rfl (VNN.i (VLd.s s (Rd.of_bk hb rfl) (VIf.mk (fun hc => ?_) (fun hc => ?_))))
    · have hc : ¬ (0 ≤ n ∧ n ≤ (x.L.length : Int)) := by simp at hc; omega
      refine ⟨by rw [if_neg hc], ?_, Ext.refl _ _⟩
      unfold Sd.told
      rw [if_neg (fun hh => hc ⟨hh.1, hh.2.1⟩)]
      exact h
    · have hc : 0 ≤ n ∧ n ≤ (x.L.length : Int) := by simp at hc; omega
      refine VNN.i (VLd.i1 (t := .int .i64) _ (Rd.of_bk hb rfl) (VIf.mk (fun hd => ?_) (fun hd => ?_)))
      · have hd : (x.next : Int) < n := by simpa using hd
        refine VNN.i (VSt.bk hb rfl (by simp) fun w1 hk1 e1 => VNN.i (VSt.bk hk1 rfl (by simp) fun w2 hk2 e2 => ?_))
        have e12 : Ext [q] w w2 := e1.then e2 (fun i hi _ => hi)
        refine ⟨hc, ?_, e12⟩
        unfold Sd.told
        rw [if_pos ⟨hc.1, hc.2, hd⟩]
        refine ⟨?_, h.pt.ext1 hb e12 (by decide) (by decide) (by decide), h.eq, h.ge, by simp only; omega, h.sm⟩
        simp only
        rw [show ((n.toNat : Nat) : Int) = n by omega]
        exact hk2
      · have hd : ¬ (x.next : Int) < n := by simpa using hd
        refine ⟨hc, ?_, Ext.refl _ _⟩
        unfold Sd.told
        rw [if_neg (fun hh => hd hh.2.2)]
        exact h
  · rintro w3 ⟨hc, h3, e3⟩
    exact ⟨by rw [if_pos hc], h3, e3⟩
theorem SDone_spec (w0 w : World) (q : Nat) (s : Sl) (X : List PX) (x : Sd) (h : SdO w0 w q s X x) :
    Calls Try.prog 21 #[.pointer (some ⟨q, 0, none⟩)] w fun e w' => e = .returned (.bool (decide (x.next = x.L.length))) ∧ Ext [] w w' := by
  refine sh_hand_Sender_Done_ok _ _ _ ?_
  unfold sh_hand_Sender_Done
  have hl := h.len
  have hsl := h.pt.len
  intro w1 hw1
  have e1 := Ext.drew' hw1
  have hb := h.bk.ext e1
  refine VNN.i (VLd.i1 (t := .int .i64) _ (Rd.of_bk hb rfl) (VNN.i (VLd.s s (Rd.of_bk hb rfl) ⟨?_, e1⟩)))
  congr 2
  rw [hsl, hl, Bool.eq_iff_iff]
  simp only [Option.isNone_some, Bool.not_false, Bool.true_and, beq_iff_eq, decide_eq_true_eq]
  omega
end Go.Proofs.Ytoceilgifkncoaa
