/-
  Package hand: the document's sender; the law of what is sent.
-/
import Derived.Test.YtoceilgifkncoaaHandZ
namespace Go.Proofs.Ytoceilgifkncoaa
open Go.RowKit
set_option maxRecDepth 100000

/-- the document's sender in memory -/
structure RfO (w0 w : World) (q : Nat) (s : Sl) (X : List PX) (x : Sd) : Prop where
  bk : Bk w q [.slice s.base s.len s.cap, .int .i64 x.every, .int .i64 (x.next : Int), .bool x.sent, .int .i64 x.at_] 46
  row : OwnR ptR 31 w0 w s (X.map (·.1))
  all : ∀ y ∈ X, PtO w0 w y.1 y.2
  eq : pts X = x.L
  ge : w0.heap.size ≤ q
  nx : x.next ≤ x.L.length
section
variable {w0 w w1 w' : World} {q : Nat} {s : Sl} {X : List PX} {x x1 : Sd} {M : List Nat}
theorem RfO.ext0 (h : RfO w0 w q s X x) (e : Ext [] w w') : RfO w0 w' q s X x := ⟨h.bk.ext e, h.row.ext0 e, fun y hy => (h.all y hy).ext0 e, h.eq, h.ge, h.nx⟩
/-- what is older than the sender may turn -/
theorem RfO.extA (h : RfO w0 w q s X x) (e : Ext M w w') (hm : ∀ b ∈ M, b < w0.heap.size) : RfO w0 w' q s X x := by
  refine ⟨h.bk.ext e (fun hq => ?_), h.row.ext e (fun b hb hq => ?_), fun y hy => (h.all y hy).ext e (fun b hb hq => ?_), h.eq, h.ge, h.nx⟩
  · have := hm q hq; have := h.ge; omega
  · have := hm b hq; have := h.row.2 b hb; omega
  · have := hm b hq; have := (h.all y hy).ges b hb; omega
/-- what is newer too -/
theorem RfO.extB (h8 : RfO w0 w1 q s X x1) (h : RfO w0 w q s X x) (e : Ext M w w') (hm : ∀ b ∈ M, w1.heap.size ≤ b) : RfO w0 w' q s X x := by
  refine ⟨h.bk.ext e (fun hq => ?_), h.row.ext e (fun b hb hq => ?_), fun y hy => (h.all y hy).ext e (fun b hb hq => ?_), h.eq, h.ge, h.nx⟩
  · have := hm q hq; have := h8.bk.lt; omega
  · have := hm b hq; have := h8.row.1.lt b hb; omega
  · have := hm b hq; have := (h8.all y hy).lt b hb; omega
theorem SdO.extA (h : SdO w0 w q s X x) (e : Ext M w w') (hm : ∀ b ∈ M, b < w0.heap.size) : SdO w0 w' q s X x := by
  refine ⟨h.bk.ext e (fun hq => ?_), h.pt.ext e (fun b hb hq => ?_) (fun y hy b hb hq => ?_), h.eq, h.ge, h.nx, h.sm⟩
  · have := hm q hq; have := h.ge; omega
  · have := hm b hq; have := h.pt.row.2 b hb; omega
  · have := hm b hq; have := (h.pt.all y hy).ges b hb; omega
theorem SdO.extB (h8 : SdO w0 w1 q s X x1) (h : SdO w0 w q s X x) (e : Ext M w w') (hm : ∀ b ∈ M, w1.heap.size ≤ b) : SdO w0 w' q s X x := by
  refine ⟨h.bk.ext e (fun hq => ?_), h.pt.ext e (fun b hb hq => ?_) (fun y hy b hb hq => ?_), h.eq, h.ge, h.nx, h.sm⟩
  · have := hm q hq; have := h8.bk.lt; omega
  · have := hm b hq; have := h8.pt.row.1.lt b hb; omega
  · have := hm b hq; have := (h8.pt.all y hy).lt b hb; omega
theorem RfO.len (h : RfO w0 w q s X x) : s.len = X.length ∧ X.length = x.L.length := by
  have h1 := h.row.len
  have h2 := congrArg List.length h.eq
  simp [pts] at h1 h2
  exact ⟨h1, h2⟩
/-- a block of another type turns -/
theorem RfO.extq {b : Nat} {cs : List Value} {t : TypeId} (h : RfO w0 w q s X x) (k : Bk w b cs t) (e : Ext [b] w w') (n0 : 46 ≠ t) (n1 : 31 ≠ t) (n2 : t ≠ 37) (n3 : t ≠ 68) : RfO w0 w' q s X x := by
  have kd : Kd w [b] := fun c hc => by rw [List.mem_singleton.1 hc]; exact ⟨_, _, k, n2, n3⟩
  exact ⟨h.bk.ext e (by simpa using h.bk.neT k n0), h.row.ext e (fun c hc hq => by simp at hq; subst hq; exact h.row.noB k n1 hc), fun y hy => (h.all y hy).extK kd e, h.eq, h.ge, h.nx⟩
theorem SdO.extq {b : Nat} {cs : List Value} {t : TypeId} (h : SdO w0 w q s X x) (k : Bk w b cs t) (e : Ext [b] w w') (n0 : 88 ≠ t) (n1 : 33 ≠ t) (n2 : t ≠ 37) (n3 : t ≠ 68) : SdO w0 w' q s X x := by
  have kd : Kd w [b] := fun c hc => by rw [List.mem_singleton.1 hc]; exact ⟨_, _, k, n2, n3⟩
  exact h.extK kd e (by simpa using h.bk.neT k n0) (fun c hc hq => by simp at hq; subst hq; exact h.pt.row.noB k n1 hc)
end
def Sd.idleR (x : Sd) (now : Int) : Prop := x.L.length ≤ x.next ∨ (x.sent = true ∧ x.at_ ≤ now ∧ now < IntKind.wrap .i64 (x.at_ + x.every))
theorem rDue_spec (w0 w : World) (q : Nat) (s : Sl) (X : List PX) (x : Sd) (now : Int) (h : RfO w0 w q s X x) :
    Calls Try.prog 18 #[.pointer (some ⟨q, 0, none⟩), .int .i64 now] w fun e w' =>
      (x.idleR now ∧ e = .returned (.tuple #[.int .i64 0, ptv (⟨none, 0, 0⟩, ⟨none, 0, 0⟩, false), .bool false]) ∧ Ext [] w w') ∨
      (¬ x.idleR now ∧ ∃ (hn : x.next < x.L.length) (v : PtV), e = .returned (.tuple #[.int .i64 (x.next : Int), ptv v, .bool true]) ∧ PtIn w' v x.L[x.next] ∧ RfO w0 w' q s X { x with sent := true, at_ := now } ∧ Ext [q] w w') := by
  refine sh_butteryref23_Sender_Due_ok _ _ _ _ ?_
  unfold sh_butteryref23_Sender_Due
  obtain ⟨hsl, hXl⟩ := h.len
  have hge := h.ge
  refine VNw.i fun b5 w1 hb5 hk5 e1 => ?_
  intro w2 hw2
  have ed := Ext.drew' hw2
  have e2 := e1.then0 ed
  have hk5 := hk5.ext ed
  have h2 := h.ext0 e2
  refine VNN.i (VLd.i1 (t := .int .i64) ((x.next : Nat) : Int) ((Rd.of_bk (i := 0) (vs := [.slice s.base s.len s.cap, .int .i64 x.every, .int .i64 (x.next : Int), .bool x.sent, .int .i64 x.at_]) h2.bk rfl).fld 2 rfl) (VNN.i (VLd.s s (Rd.of_bk h2.bk rfl) (VIf.mk (fun hc => ?_) (fun hc => ?_)))))
  · have hc : x.L.length ≤ x.next := by simp at hc; omega
    refine VSt.bk hk5 rfl (by simp) fun w3 hk3 e3 => ?_
    exact ⟨(⟨none, 0, 0⟩ : Sl), (⟨none, 0, 0⟩ : Sl), (false : Bool), gd.i (Rd.of_bk hk3 rfl), .inl ⟨.inl hc, rfl, e2.then e3 (fun i hi hlt => by simp at hi; omega)⟩⟩
  · have hc : x.next < x.L.length := by simp at hc; omega
    intro w4 hw4
    have ed4 := Ext.drew' hw4
    have e4 := e2.then0 ed4
    have hk5 := hk5.ext ed4
    have h4 := h.ext0 e4
    have hrd := Rd.of_bk (i := 0) (vs := [.slice s.base s.len s.cap, .int .i64 x.every, .int .i64 (x.next : Int), .bool x.sent, .int .i64 x.at_]) h4.bk rfl
    refine VNN.i (VLd.i1 (t := .bool) x.sent (hrd.fld 3 rfl) (VNN.i (VLd.i1 (t := .int .i64) x.at_ (hrd.fld 4 rfl) (VNN.i (VLd.i1 (t := .int .i64) x.at_ (hrd.fld 4 rfl) (VNN.i (VLd.i1 (t := .int .i64) x.every (hrd.fld 1 rfl) ?_)))))))
    refine VIf.mk (fun hd => ?_) (fun hd => ?_)
    · simp only [Bool.and_eq_true, decide_eq_true_eq] at hd
      refine VSt.bk hk5 rfl (by simp) fun w5 hk5' e5 => ?_
      exact ⟨(⟨none, 0, 0⟩ : Sl), (⟨none, 0, 0⟩ : Sl), (false : Bool), gd.i (Rd.of_bk hk5' rfl), .inl ⟨.inr ⟨hd.1.1, hd.1.2, hd.2⟩, rfl, e4.then e5 (fun i hi hlt => by simp at hi; omega)⟩⟩
    · have hni : ¬ x.idleR now := by
        rintro (h1 | ⟨h1, h2, h3⟩)
        · omega
        · rw [h1, decide_eq_true h2, decide_eq_true h3] at hd
          simp at hd
      have hbq : b5 ≠ q := by have := h.bk.lt; omega
      refine VNN.i ?_
      simp only [add_blk]
      refine VSt.bk h4.bk rfl (by simp) fun w6 hk6 e6 => VNN.i ?_
      simp only [add_blk]
      refine VSt.bk hk6 rfl (by simp) fun w7 hk7 e7 => ?_
      intro w8 hw8
      have ed8 := Ext.drew' hw8
      have e48 : Ext [q] w4 w8 := (e6.then e7 (fun i hi _ => hi)).then0 ed8
      have h8 : RfO w0 w8 q s X { x with sent := true, at_ := now } := by
        have kd : Kd w4 [q] := fun c hc => by rw [List.mem_singleton.1 hc]; exact ⟨_, _, h4.bk, by decide, by decide⟩
        exact ⟨hk7.ext ed8, h4.row.ext e48 (fun c hc hq => by simp at hq; subst hq; exact h4.row.noB h4.bk (by decide) hc), fun y hy => (h4.all y hy).extK kd e48, h4.eq, h4.ge, h4.nx⟩
      have hrd8 := Rd.of_bk (i := 0) (vs := [.slice s.base s.len s.cap, .int .i64 x.every, .int .i64 (x.next : Int), .bool true, .int .i64 now]) h8.bk rfl
      have hk8 := hk5.ext e48 (by simpa using hbq)
      have hin : PtsIn w8 s X := ⟨h8.row.in_, fun y hy => (h8.all y hy).in_⟩
      have hnX : x.next < X.length := by omega
      refine VNN.i (VLd.i1 (t := .int .i64) ((x.next : Nat) : Int) (hrd8.fld 2 rfl) (VNN.i (VLd.s s (hrd8.fld0 rfl) (VNN.i (VLd.i1 (t := .int .i64) ((x.next : Nat) : Int) (hrd8.fld 2 rfl) ?_)))))
      refine VIx.pt hin hnX rfl fun a hr => ⟨((X[x.next]).1.1 : Sl), ((X[x.next]).1.2.1 : Sl), ((X[x.next]).1.2.2 : Bool), gd.i hr, VSet.i ?_⟩
      refine VSt.bk hk8 rfl (by simp) fun w9 hk9 e9 => ?_
      have hk9' : Bk w9 b5 (ptR.f (X[x.next]).1) 31 := hk9
      refine ⟨((X[x.next]).1.1 : Sl), ((X[x.next]).1.2.1 : Sl), ((X[x.next]).1.2.2 : Bool), gd.i (Rd.of_bk hk9' rfl), .inr ⟨hni, hc, (X[x.next]).1, rfl, ?_, ?_, ?_⟩⟩
      · have hx := (h8.all _ (List.getElem_mem hnX)).extK (kd1 hk8) e9
        have he : (X[x.next]).2 = x.L[x.next] := by
          have z1 : (X[x.next]).2 = (pts X)[x.next]'(by simpa [pts] using hnX) := by simp [pts]
          rw [z1]; simp only [h.eq]
        rw [← he]; exact hx.in_
      · have hrow : ∀ c ∈ rowB s, c ∉ [b5] := fun c hc hq => by
          have := h.row.1.lt c hc
          simp at hq; omega
        exact ⟨h8.bk.ext e9 (by simpa using Ne.symm hbq), h8.row.ext e9 hrow, fun y hy => (h8.all y hy).extK (kd1 hk8) e9, h8.eq, h8.ge, h8.nx⟩
      · exact ((e4.mono (N := [q]) (by simp)).then e48 (fun i hi _ => hi)).then e9 (fun i hi hlt => by simp at hi; omega)
theorem rTold_spec (w0 w : World) (q : Nat) (s : Sl) (X : List PX) (x : Sd) (n : Int) (h : RfO w0 w q s X x) :
    Calls Try.prog 20 #[.pointer (some ⟨q, 0, none⟩), .int .i64 n] w fun e w' => e = .returned (.bool (decide (0 ≤ n ∧ n ≤ (x.L.length : Int)))) ∧ RfO w0 w' q s X (x.told n) ∧ Ext [q] w w' := by
  refine sh_butteryref23_Sender_Told_ok _ _ _ _ ?_
  unfold sh_butteryref23_Sender_Told
  obtain ⟨hsl, hXl⟩ := h.len
  have hrd := Rd.of_bk (i := 0) (vs := [.slice s.base s.len s.cap, .int .i64 x.every, .int .i64 (x.next : Int), .bool x.sent, .int .i64 x.at_]) h.bk rfl
  refine VNN.i (VLd.s s (hrd.fld0 rfl) (VIf.mk (fun hc => ?_) (fun hc => ?_)))
  · have hc : ¬ (0 ≤ n ∧ n ≤ (x.L.length : Int)) := by simp at hc; omega
    refine ⟨by rw [decide_eq_false hc], ?_, Ext.refl _ _⟩
    unfold Sd.told
    rw [if_neg (fun hh => hc ⟨hh.1, hh.2.1⟩)]
    exact h
  · have hc : 0 ≤ n ∧ n ≤ (x.L.length : Int) := by simp at hc; omega
    refine VNN.i (VLd.i1 (t := .int .i64) ((x.next : Nat) : Int) (hrd.fld 2 rfl) (VIf.mk (fun hd => ?_) (fun hd => ?_)))
    · have hd : (x.next : Int) < n := by simpa using hd
      refine VNN.i ?_
      simp only [add_blk]
      refine VSt.bk h.bk rfl (by simp) fun w1 hk1 e1 => VNN.i ?_
      simp only [add_blk]
      refine VSt.bk hk1 rfl (by simp) fun w2 hk2 e2 => ?_
      have e12 : Ext [q] w w2 := e1.then e2 (fun i hi _ => hi)
      have kd : Kd w [q] := fun c hc => by rw [List.mem_singleton.1 hc]; exact ⟨_, _, h.bk, by decide, by decide⟩
      refine ⟨by rw [decide_eq_true hc], ?_, e12⟩
      unfold Sd.told
      rw [if_pos ⟨hc.1, hc.2, hd⟩]
      refine ⟨?_, h.row.ext e12 (fun c hc hq => by simp at hq; subst hq; exact h.row.noB h.bk (by decide) hc), fun y hy => (h.all y hy).extK kd e12, h.eq, h.ge, by simp only; omega⟩
      simp only
      rw [show ((n.toNat : Nat) : Int) = n by omega]
      exact hk2
    · have hd : ¬ (x.next : Int) < n := by simpa using hd
      refine ⟨by rw [decide_eq_true hc], ?_, Ext.refl _ _⟩
      unfold Sd.told
      rw [if_neg (fun hh => hd hh.2.2)]
      exact h
theorem idle_same {x : Sd} {now : Int} (h1 : -2305843009213693952 ≤ now ∧ now ≤ 2305843009213693952) (h2 : -2305843009213693952 ≤ x.at_ ∧ x.at_ ≤ 2305843009213693952) (h3 : 1 ≤ x.every ∧ x.every ≤ 1000) (h4 : x.next ≤ x.L.length) : x.idle now ↔ x.idleR now := by
  unfold Sd.idle Sd.idleR
  rw [w64 (n := now - x.at_) (by omega), w64 (n := x.at_ + x.every) (by omega)]
  constructor
  · rintro (h | ⟨a, b, c⟩)
    · exact .inl (by omega)
    · exact .inr ⟨a, b, by omega⟩
  · rintro (h | ⟨a, b, c⟩)
    · exact .inl (by omega)
    · exact .inr ⟨a, b, by omega⟩
end Go.Proofs.Ytoceilgifkncoaa
