/-
  Package hand: parts in memory; what is the same; the document's sizes; is it long.
-/
import Derived.Test.YtoceilgifkncoaaRecO
import Derived.Test.YtoceilgifkncoaaSh
import Derived.Test.YtoceilgifkncoaaCodeP
namespace Go.Proofs.Ytoceilgifkncoaa
open Go.RowKit
set_option maxRecDepth 100000

abbrev Pr := ByteArray × ByteArray
def prR : Rec Pr := ⟨fun p => [.string p.1, .string p.2], 2, fun _ => rfl, fun _ => rfl, by omega⟩
abbrev Ls := Int × Int × Int × Bool × ByteArray
def lsR : Rec Ls := ⟨fun x => [.int .i64 x.1, .int .i64 x.2.1, .int .u8 x.2.2.1, .bool x.2.2.2.1, .string x.2.2.2.2], 5, fun _ => rfl, fun _ => rfl, by omega⟩
abbrev PtV := Sl × Sl × Bool
def ptR : Rec PtV := ⟨fun v => [.slice v.1.base v.1.len v.1.cap, .slice v.2.1.base v.2.1.len v.2.1.cap, .bool v.2.2], 3, fun _ => rfl, fun _ => rfl, by omega⟩
structure Pt where
  P : List Pr
  Q : List Ls
  last : Bool
/-- a part that is read -/
structure PtIn (w : World) (v : PtV) (p : Pt) : Prop where
  P : InR prR w v.1 p.P
  Q : InR lsR w v.2.1 p.Q
  last : v.2.2 = p.last
theorem PtIn.ext0 {w w' : World} {v : PtV} {p : Pt} (h : PtIn w v p) (e : Ext [] w w') : PtIn w' v p := ⟨h.P.ext0 e, h.Q.ext0 e, h.last⟩
/-- a part in memory of its own -/
structure PtO (w0 w : World) (v : PtV) (p : Pt) : Prop where
  P : OwnR prR 37 w0 w v.1 p.P
  Q : OwnR lsR 68 w0 w v.2.1 p.Q
  last : v.2.2 = p.last
def fpt (v : PtV) : List Nat := rowB v.1 ++ rowB v.2.1
section
variable {w0 w w' : World} {v : PtV} {p : Pt} {M : List Nat}
theorem PtO.in_ (h : PtO w0 w v p) : PtIn w v p := ⟨h.P.in_, h.Q.in_, h.last⟩
theorem PtO.ext0 (h : PtO w0 w v p) (e : Ext [] w w') : PtO w0 w' v p := ⟨h.P.ext0 e, h.Q.ext0 e, h.last⟩
theorem PtO.ext (h : PtO w0 w v p) (e : Ext M w w') (hm : ∀ b ∈ fpt v, b ∉ M) : PtO w0 w' v p :=
  ⟨h.P.ext e (fun b hb => hm b (by simp [fpt, hb])), h.Q.ext e (fun b hb => hm b (by simp [fpt, hb])), h.last⟩
theorem PtO.mono {w1 : World} (h : PtO w1 w v p) (le : w0.heap.size ≤ w1.heap.size) : PtO w0 w v p := ⟨h.P.mono le, h.Q.mono le, h.last⟩
theorem PtO.ges (h : PtO w0 w v p) : ∀ b ∈ fpt v, w0.heap.size ≤ b := by
  intro b hb
  simp only [fpt, List.mem_append] at hb
  rcases hb with hb | hb
  · exact h.P.2 b hb
  · exact h.Q.2 b hb
theorem PtO.lt (h : PtO w0 w v p) : ∀ b ∈ fpt v, b < w.heap.size := by
  intro b hb
  simp only [fpt, List.mem_append] at hb
  rcases hb with hb | hb
  · exact h.P.1.lt b hb
  · exact h.Q.1.lt b hb
end
theorem ba_beq (a b : ByteArray) : (a.toList == b.toList) = decide (a = b) := by
  by_cases h : a = b
  · subst h; simp
  · have : a.toList ≠ b.toList := fun e => h (by
      rw [ByteArray.toList_eq, ByteArray.toList_eq] at e
      obtain ⟨⟨x⟩⟩ := a
      obtain ⟨⟨y⟩⟩ := b
      simp at e
      rw [e])
    rw [decide_eq_false h]; simpa using this
theorem VIx.rec {α : Type} {r : Rec α} {g : Option Bool} {w : World} {base : Option Addr} {n j : Nat} {i : Int} {L : List α} {K : Addr → Prop} (h : Seg w base n r.k (r.cells L)) (hi : j < L.length) (hj : i = (j : Int)) (k : ∀ a, Rd w (a.add (j * r.k)) (r.f L[j]) → K a) : VIx g base n i K := by
  obtain ⟨a, ha, hrd⟩ := h.rec_at hi
  have := h.rlen
  subst ha hj
  exact VIx.i (by omega) (by omega) (k a hrd)

noncomputable instance : DecidableEq Pr := fun a b => Classical.propDecidable (a = b)
noncomputable instance : DecidableEq Ls := fun a b => Classical.propDecidable (a = b)
noncomputable instance : DecidableEq (List Pr) := fun a b => Classical.propDecidable (a = b)
noncomputable instance : DecidableEq (List Ls) := fun a b => Classical.propDecidable (a = b)
noncomputable instance : DecidableEq Pt := fun a b => Classical.propDecidable (a = b)
theorem take_succ_eq {α : Type} {L M : List α} {m : Nat} (h : L.take m = M.take m) (hl : m < L.length) (hm : m < M.length) : L.take (m + 1) = M.take (m + 1) ↔ L[m] = M[m] := by
  rw [List.take_succ_eq_append_getElem hl, List.take_succ_eq_append_getElem hm, h, List.append_right_inj]
  exact ⟨fun e => (List.cons.inj e).1, fun e => by rw [e]⟩
theorem Same9_spec (a b : Sl) (L M : List Pr) (w : World) (h : InR prR w a L) (k : InR prR w b M) :
    Calls Try.prog 35 #[.slice a.base a.len a.cap, .slice b.base b.len b.cap] w fun e w' => e = .returned (.bool (decide (L = M))) ∧ Ext [] w w' := by
  refine sh_butteryref09_Same_ok _ _ _ _ ?_
  unfold sh_butteryref09_Same
  have hl := h.len
  have kl := k.len
  have hc := h.2
  refine VIf.mk (fun hne => ?_) (fun he => ?_)
  · refine ⟨?_, Ext.refl _ _⟩
    rw [decide_eq_false (fun e => by subst e; simp at hne; omega)]
  · have heq : L.length = M.length := by simp at he; omega
    refine ⟨fun k' i W => ∃ m : Nat, i = (m : Int) ∧ m ≤ L.length ∧ k' = L.length - m ∧ L.take m = M.take m ∧ Ext [] w W, ⟨_, 0, rfl, by omega, rfl, rfl, Ext.refl _ _⟩, ?_⟩
    rintro k' i w1 ⟨m, rfl, hm, rfl, ht, e1⟩
    refine VIf.mk (fun hc2 => ?_) (fun hc2 => ?_)
    · have hm' : m < L.length := by simp at hc2; omega
      have hm2 : m < M.length := by omega
      intro w2 hw2
      have e2 := e1.then0 (Ext.drew' hw2)
      refine VIx.rec (r := prR) (h.1.ext0 e2) hm' rfl fun a1 hr1 => VLd.i2 (t := .str) (u := .str) _ _ hr1 (VIx.rec (r := prR) (k.1.ext0 e2) hm2 rfl fun a2 hr2 => VLd.i2 (t := .str) (u := .str) _ _ hr2 ?_)
      rw [ba_beq, ba_beq]
      refine VIf.mk (fun hd => ⟨?_, e2⟩) (fun hd => ?_)
      · rw [decide_eq_false (fun e => by subst e; simp at hd)]
      · have hx : L[m] = M[m] := by
          simp at hd
          exact Prod.ext hd.1 hd.2
        rw [w64 (n := (m : Int) + 1) (by omega)]
        exact VSet.i ⟨_, by omega, m + 1, rfl, by omega, rfl, (take_succ_eq ht hm' hm2).2 hx, e2⟩
    · have hmm : m = L.length := by simp at hc2; omega
      subst hmm
      refine ⟨?_, e1⟩
      rw [List.take_length, heq, List.take_length] at ht
      rw [decide_eq_true ht]
theorem SameLasts_spec (a b : Sl) (L M : List Ls) (w : World) (h : InR lsR w a L) (k : InR lsR w b M) :
    Calls Try.prog 36 #[.slice a.base a.len a.cap, .slice b.base b.len b.cap] w fun e w' => e = .returned (.bool (decide (L = M))) ∧ Ext [] w w' := by
  refine sh_butteryref09_SameLasts_ok _ _ _ _ ?_
  unfold sh_butteryref09_SameLasts
  have hl := h.len
  have kl := k.len
  have hc := h.2
  refine VIf.mk (fun hne => ?_) (fun he => ?_)
  · refine ⟨?_, Ext.refl _ _⟩
    rw [decide_eq_false (fun e => by subst e; simp at hne; omega)]
  · have heq : L.length = M.length := by simp at he; omega
    refine ⟨fun k' i W => ∃ m : Nat, i = (m : Int) ∧ m ≤ L.length ∧ k' = L.length - m ∧ L.take m = M.take m ∧ Ext [] w W, ⟨_, 0, rfl, by omega, rfl, rfl, Ext.refl _ _⟩, ?_⟩
    rintro k' i w1 ⟨m, rfl, hm, rfl, ht, e1⟩
    refine VIf.mk (fun hc2 => ?_) (fun hc2 => ?_)
    · have hm' : m < L.length := by simp at hc2; omega
      have hm2 : m < M.length := by omega
      intro w2 hw2
      have e2 := e1.then0 (Ext.drew' hw2)
      refine VIx.rec (r := lsR) (h.1.ext0 e2) hm' rfl fun a1 hr1 => ?_
      refine ⟨((L[m]).1 : Int), ((L[m]).2.1 : Int), ((L[m]).2.2.1 : Int), ((L[m]).2.2.2.1 : Bool), ((L[m]).2.2.2.2 : ByteArray), gd.i hr1, ?_⟩
      refine VIx.rec (r := lsR) (k.1.ext0 e2) hm2 rfl fun a2 hr2 => ?_
      refine ⟨((M[m]).1 : Int), ((M[m]).2.1 : Int), ((M[m]).2.2.1 : Int), ((M[m]).2.2.2.1 : Bool), ((M[m]).2.2.2.2 : ByteArray), gd.i hr2, ?_⟩
      dsimp only
      rw [ba_beq]
      refine VIf.mk (fun hd => ⟨?_, e2⟩) (fun hd => ?_)
      · rw [decide_eq_false (fun e => by subst e; simp at hd)]
      · have hx : L[m] = M[m] := by
          simp at hd
          obtain ⟨h1, h2, h3, h4, h5⟩ := hd
          exact Prod.ext h1 (Prod.ext h2 (Prod.ext h3 (Prod.ext h4 h5)))
        rw [w64 (n := (m : Int) + 1) (by omega)]
        exact VSet.i ⟨_, by omega, m + 1, rfl, by omega, rfl, (take_succ_eq ht hm' hm2).2 hx, e2⟩
    · have hmm : m = L.length := by simp at hc2; omega
      subst hmm
      refine ⟨?_, e1⟩
      rw [List.take_length, heq, List.take_length] at ht
      rw [decide_eq_true ht]
def ptv (v : PtV) : Value := .agg #[.slice v.1.base v.1.len v.1.cap, .slice v.2.1.base v.2.1.len v.2.1.cap, .bool v.2.2]
theorem Same_spec (a b : PtV) (p q : Pt) (w : World) (h : PtIn w a p) (k : PtIn w b q) :
    Calls Try.prog 12 #[ptv a, ptv b] w fun e w' => e = .returned (.bool (decide (p = q))) ∧ Ext [] w w' := by
  refine sh_butteryref23_Same_ok _ _ _ _ _ _ _ _ ?_
  unfold sh_butteryref23_Same
  refine VNw.i fun b1 w1 hb1 hk1 e1 => VNw.i fun b2 w2 hb2 hk2 e2 => ?_
  have hk1 := hk1.ext e2
  have e2 := e1.then0 e2
  refine VLd.i1 (t := .bool) a.2.2 (Rd.of_bk hk1 rfl) (VLd.i1 (t := .bool) b.2.2 (Rd.of_bk hk2 rfl) (VLd.s a.1 (Rd.of_bk hk1 rfl) (VLd.s b.1 (Rd.of_bk hk2 rfl) ?_)))
  by_cases hl : a.2.2 = b.2.2
  · have hlb : (a.2.2 == b.2.2) = true := by rw [hl]; simp
    rw [hlb]
    refine VCall.on rfl (VCall.i (Same9_spec a.1 b.1 p.P q.P w2 (h.P.ext0 e2) (k.P.ext0 e2)) ?_)
    rintro e w3 ⟨rfl, e3⟩
    have hk1 := hk1.ext e3
    have hk2 := hk2.ext e3
    have e3 := e2.then0 e3
    refine exW.i1 (t := .bool) _ rfl (VLd.s a.2.1 (Rd.of_bk hk1 rfl) (VLd.s b.2.1 (Rd.of_bk hk2 rfl) ?_))
    by_cases hP : p.P = q.P
    · rw [decide_eq_true hP]
      refine VCall.on rfl (VCall.i (SameLasts_spec a.2.1 b.2.1 p.Q q.Q w3 (h.Q.ext0 e3) (k.Q.ext0 e3)) ?_)
      rintro e w4 ⟨rfl, e4⟩
      refine exW.i1 (t := .bool) _ rfl ⟨?_, e3.then0 e4⟩
      congr 2
      have : (p = q) ↔ p.Q = q.Q := by
        constructor
        · rintro rfl; rfl
        · intro hq
          obtain ⟨p1, p2, p3⟩ := p
          obtain ⟨q1, q2, q3⟩ := q
          simp only at hP hq
          have h3 := h.last
          have k3 := k.last
          simp only at h3 k3
          subst hP hq
          rw [← h3, ← k3, hl]
      simp [this]
    · rw [decide_eq_false hP]
      refine VCall.off rfl (exW.i1 (t := .bool) false trivial ⟨?_, e3⟩)
      rw [decide_eq_false (fun e => hP (by rw [e]))]; rfl
  · have hlb : (a.2.2 == b.2.2) = false := by simpa using hl
    rw [hlb]
    refine VCall.off rfl (exW.i1 (t := .bool) false trivial (VLd.s a.2.1 (Rd.of_bk hk1 rfl) (VLd.s b.2.1 (Rd.of_bk hk2 rfl) (VCall.off rfl (exW.i1 (t := .bool) false trivial ⟨?_, e2⟩)))))
    rw [decide_eq_false (fun e => hl (by rw [h.last, k.last, e]))]; rfl
theorem of_spec (a : PtV) (w : World) : Calls Try.prog 13 #[ptv a] w fun e w' => e = .returned (ptv a) ∧ Ext [] w w' := by
  refine sh_butterylaw23_of_ok _ _ _ _ _ ?_
  unfold sh_butterylaw23_of
  refine VNw.i fun b1 w1 hb1 hk1 e1 => VNw.i fun b2 w2 hb2 hk2 e2 => ?_
  have hk1 := hk1.ext e2
  have e12 := e1.then0 e2
  refine VLd.s a.1 (Rd.of_bk hk1 rfl) (VLd.s a.2.1 (Rd.of_bk hk1 rfl) (VLd.i1 (t := .bool) a.2.2 (Rd.of_bk hk1 rfl) ?_))
  refine VSt.bk hk2 rfl (by simp) fun w3 hk3 e3 => ?_
  refine ⟨a.1, a.2.1, (a.2.2 : Bool), gd.i (Rd.of_bk hk3 rfl), rfl, ?_⟩
  exact e12.then e3 (fun i hi hlt => by simp at hi; have := e1.size; omega)
theorem long_spec (a b : Sl) (L : List Pr) (M : List Ls) (w : World) (h : InR prR w a L) (k : InR lsR w b M) (hL : L.length ≤ 1048576) (hM : M.length ≤ 1048576) :
    Calls Try.prog 9 #[.slice a.base a.len a.cap, .slice b.base b.len b.cap] w fun e w' => ∃ r : Bool, e = .returned (.bool r) ∧ (r = false → L.length + M.length ≤ 300) ∧ Ext [] w w' := by
  refine sh_butterylaw23_long_ok _ _ _ _ ?_
  unfold sh_butterylaw23_long
  have hl := h.len
  have kl := k.len
  refine ⟨fun k' n i W => ∃ m : Nat, i = (m : Int) ∧ m ≤ L.length ∧ k' = L.length - m ∧ Ext [] w W, ⟨_, 0, rfl, by omega, rfl, Ext.refl _ _⟩, ?_⟩
  rintro k' n i w1 ⟨m, rfl, hm, rfl, e1⟩
  refine VIf.mk (fun hc2 => ?_) (fun hc2 => ?_)
  · have hm' : m < L.length := by simp at hc2; omega
    intro w2 hw2
    have e2 := e1.then0 (Ext.drew' hw2)
    refine VIx.rec (r := prR) (h.1.ext0 e2) hm' rfl fun a1 hr1 => VLd.i1 (t := .str) _ (hr1.fld0 rfl) (VIx.rec (r := prR) (h.1.ext0 e2) hm' rfl fun a2 hr2 => VLd.i1 (t := .str) _ (hr2.fld 1 rfl) ?_)
    rw [w64 (n := (m : Int) + 1) (by omega)]
    exact VSet.i (VSet.i ⟨_, by omega, m + 1, rfl, by omega, rfl, e2⟩)
  · refine ⟨fun k' n i W => ∃ m : Nat, i = (m : Int) ∧ m ≤ M.length ∧ k' = M.length - m ∧ Ext [] w W, ⟨_, 0, rfl, by omega, rfl, e1⟩, ?_⟩
    rintro k' n i w3 ⟨m, rfl, hm, rfl, e3⟩
    refine VIf.mk (fun hc3 => ?_) (fun hc3 => ?_)
    · have hm' : m < M.length := by simp at hc3; omega
      refine VIx.rec (r := lsR) (k.1.ext0 e3) hm' rfl fun a1 hr1 => VLd.i1 (t := .str) _ (hr1.fld 4 rfl) ?_
      rw [w64 (n := (m : Int) + 1) (by omega)]
      exact VSet.i (VSet.i ⟨_, by omega, m + 1, rfl, by omega, rfl, e3⟩)
    · refine ⟨_, rfl, fun hr => ?_, e3⟩
      rw [w64 (by omega)] at hr
      simp at hr
      omega
end Go.Proofs.Ytoceilgifkncoaa
