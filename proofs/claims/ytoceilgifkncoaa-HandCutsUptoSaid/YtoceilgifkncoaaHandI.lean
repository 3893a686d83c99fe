/-
  Package hand: who takes.
-/
import Derived.Test.YtoceilgifkncoaaHandH
namespace Go.Proofs.Ytoceilgifkncoaa
open Go.RowKit
set_option maxRecDepth 100000

structure RcO (w0 w : World) (q : Nat) (s : Sl) (X : List PX) (L : List Pt) : Prop where
  bk : Bk w q [.slice s.base s.len s.cap] 91
  pt : PtsO w0 w s X
  eq : pts X = L
  ge : w0.heap.size ≤ q
theorem RcO.ext0 {w0 w w' : World} {q : Nat} {s : Sl} {X : List PX} {L : List Pt} (h : RcO w0 w q s X L) (e : Ext [] w w') : RcO w0 w' q s X L := ⟨h.bk.ext e, h.pt.ext0 e, h.eq, h.ge⟩
theorem RcO.mono {w0 w1 w : World} {q : Nat} {s : Sl} {X : List PX} {L : List Pt} (h : RcO w1 w q s X L) (le : w0.heap.size ≤ w1.heap.size) : RcO w0 w q s X L := ⟨h.bk, h.pt.mono le, h.eq, Nat.le_trans le h.ge⟩
theorem RcO.len {w0 w : World} {q : Nat} {s : Sl} {X : List PX} {L : List Pt} (h : RcO w0 w q s X L) : X.length = L.length := by rw [← h.eq]; simp [pts]
theorem NewReceiver_spec (w : World) : Calls Try.prog 24 #[] w fun e w' => ∃ q, e = .returned (.pointer (some ⟨q, 0, none⟩)) ∧ RcO w w' q ⟨none, 0, 0⟩ [] [] ∧ Ext [] w w' := by
  refine sh_hand_NewReceiver_ok _ _ ?_
  unfold sh_hand_NewReceiver
  exact VNw.i fun q w1 hq hk e1 => ⟨q, rfl, ⟨hk, PtsO.nil _ _, rfl, by omega⟩, e1⟩
def isEnd (L : List Pt) : Bool := L.any (·.last)
theorem last_spec (v : PtV) (w : World) : Calls Try.prog 40 #[ptv v] w fun e w' => e = .returned (.bool v.2.2) ∧ Ext [] w w' := by
  refine sh_hand_Receiver_Done_1_ok _ _ _ _ _ ?_
  unfold sh_hand_Receiver_Done_1
  refine VNw.i fun b w1 hb hk e1 => VLd.i1 (t := .bool) v.2.2 (Rd.of_bk hk rfl) ⟨rfl, e1⟩
theorem Index_spec (s : Sl) (X : List PX) (w : World) (h : PtsIn w s X) (hs : X.length ≤ 1000000) :
    Calls Try.prog 41 #[.slice s.base s.len s.cap, .func (.func 40) #[] #[]] w fun e w' => ∃ i : Int, e = .returned (.int .i64 i) ∧ (0 ≤ i ↔ isEnd (pts X) = true) ∧ Ext [] w w' := by
  refine sh_slices_IndexFunc_ok _ _ _ _ ?_
  unfold sh_slices_IndexFunc
  have hn := h.len
  refine ⟨fun k i W => ∃ m : Nat, i = (m : Int) ∧ m ≤ X.length ∧ k = X.length - m ∧ isEnd (pts (X.take m)) = false ∧ Ext [] w W, ⟨_, 0, rfl, by omega, rfl, rfl, Ext.refl _ _⟩, ?_⟩
  rintro k i w1 ⟨m, rfl, hm, rfl, hno, e1⟩
  refine VIf.mk (fun hc => ?_) (fun hc => ?_)
  · have hm' : m < X.length := by simp at hc; omega
    have hX := h.ext0 e1
    have hx := hX.all _ (List.getElem_mem hm')
    refine VSet.i (VIx.pt hX hm' rfl fun a hr => ?_)
    refine ⟨((X[m]).1.1 : Sl), ((X[m]).1.2.1 : Sl), ((X[m]).1.2.2 : Bool), gd.i hr, ?_⟩
    refine VDyn.i (by kernel_rfl) (VCall.i (last_spec (X[m]).1 w1) ?_)
    rintro e w2 ⟨rfl, e2⟩
    refine exW.i1 (t := .bool) _ rfl (VIf.mk (fun hd => ?_) (fun hd => ?_))
    · refine VSet.i ⟨_, rfl, ⟨fun _ => ?_, fun _ => by omega⟩, e1.then0 e2⟩
      unfold isEnd pts
      rw [List.any_eq_true]
      exact ⟨(X[m]).2, List.mem_map_of_mem (List.getElem_mem hm'), by rw [← hx.last]; exact hd⟩
    · rw [w64 (n := (m : Int) + 1) (by omega)]
      refine ⟨_, by omega, m + 1, rfl, by omega, rfl, ?_, e1.then0 e2⟩
      unfold isEnd pts at hno ⊢
      rw [List.take_succ_eq_append_getElem hm', List.map_append, List.any_append, hno]
      simp only [List.map_cons, List.map_nil, List.any_cons, List.any_nil, Bool.or_false, Bool.false_or]
      rw [← hx.last]; exact hd
  · have hmm : m = X.length := by simp at hc; omega
    subst hmm
    rw [List.take_length] at hno
    exact ⟨-1, rfl, by rw [hno]; simp, e1⟩
theorem RDone_spec (w0 w : World) (q : Nat) (s : Sl) (X : List PX) (L : List Pt) (h : RcO w0 w q s X L) (hs : L.length ≤ 1000000) :
    Calls Try.prog 26 #[.pointer (some ⟨q, 0, none⟩)] w fun e w' => e = .returned (.bool (isEnd L)) ∧ Ext [] w w' := by
  refine sh_hand_Receiver_Done_ok _ _ _ ?_
  unfold sh_hand_Receiver_Done
  have hl := h.len
  refine VNN.i (VLd.s s (Rd.of_bk h.bk rfl) (VCall.on rfl ?_))
  refine VCall.i (R0 := fun e w' => e = .returned (.bool (isEnd L)) ∧ Ext [] w w') ?_ ?_
  · refine sh_slices_ContainsFunc_ok _ _ _ _ ?_
    unfold sh_slices_ContainsFunc
    refine VCall.i (Index_spec s X w h.pt.in_ (by omega)) ?_
    rintro e w1 ⟨i, rfl, hi, e1⟩
    refine exW.i1 (t := .int .i64) i rfl ⟨?_, e1⟩
    congr 2
    rw [h.eq] at hi
    rw [Bool.eq_iff_iff, decide_eq_true_eq]
    exact hi
  · rintro e w1 ⟨rfl, e1⟩
    exact exW.i1 (t := .bool) _ rfl ⟨rfl, e1⟩
/-- what a receiver makes of a part at a place -/
def takes (L : List Pt) (k : Int) : Bool := decide (k = (L.length : Int)) && !isEnd L
theorem Take_spec (w0 w : World) (q : Nat) (s : Sl) (X : List PX) (L : List Pt) (k : Int) (v : PtV) (p : Pt) (h : RcO w0 w q s X L) (e0 : Ext [] w0 w) (hs : L.length ≤ 100000) (hv : PtIn w v p) (hk0 : 0 ≤ k) (hP : p.P.length ≤ 1000000) (hQ : p.Q.length ≤ 1000000) :
    Calls Try.prog 25 #[.pointer (some ⟨q, 0, none⟩), .int .i64 k, ptv v] w fun e w' =>
      (takes L k = false ∧ e = .returned (.tuple #[.int .i64 (L.length : Int), .bool false, .int .i64 0]) ∧ Ext [] w w') ∨
      (takes L k = true ∧ e = .returned (.tuple #[.int .i64 ((L.length : Int) + 1), .bool true, .int .i64 0]) ∧ (∃ s' X', RcO w0 w' q s' X' (L ++ [p]) ∧ ∀ b ∈ rowB s', b ∈ rowB s ∨ w.heap.size ≤ b) ∧ Ext (q :: rowB s) w w') := by
  refine sh_hand_Receiver_Take_ok _ _ _ _ _ _ _ ?_
  unfold sh_hand_Receiver_Take
  have hl := h.len
  have hsl := h.pt.len
  refine VNw.i fun b5 w1 hb5 hk5 e1 => ?_
  have h1 := h.ext0 e1
  have hslk : s.len = L.length := by omega
  refine VIf.f rfl (VIf.f (by simp; omega) (VNN.i (VLd.s s (Rd.of_bk h1.bk rfl) ?_)))
  have post : ∀ (r : Bool) (w2 : World), Ext [] w1 w2 → (k = (L.length : Int) → r = isEnd L) → VIf ((k != ((s.len : Nat) : Int)) || r) (
        VNN none (some ⟨q, 0, none⟩) fun (a28 : Addr) =>
        VLd none w2 a28 [CT.sl] fun (v30 : Sl) =>
        VSet ((v30.len : Nat) : Int) fun (v6 : Int) =>
        (takes L k = false ∧ (Ending.returned (.tuple #[.int .i64 v6, .bool false, .int .i64 0])) = .returned (.tuple #[.int .i64 (L.length : Int), .bool false, .int .i64 0]) ∧ Ext [] w w2) ∨
        (takes L k = true ∧ (Ending.returned (.tuple #[.int .i64 v6, .bool false, .int .i64 0])) = .returned (.tuple #[.int .i64 ((L.length : Int) + 1), .bool true, .int .i64 0]) ∧ (∃ s' X', RcO w0 w2 q s' X' (L ++ [p]) ∧ ∀ b ∈ rowB s', b ∈ rowB s ∨ w.heap.size ≤ b) ∧ Ext (q :: rowB s) w w2)
      ) (
        ∀ (w3 : World), w3 = World.drew w2 →
        VNN none (some ⟨q, 0, none⟩) fun (a34 : Addr) =>
        VLd none w3 a34 [CT.sl] fun (v36 : Sl) =>
        VLd none w3 ⟨b5, 0, none⟩ [CT.sl, CT.sl, CT.bool] fun (v37_0 : Sl) (v37_1 : Sl) (v37_2 : Bool) =>
        VCall none Try.prog 38 #[.agg #[.slice v37_0.base v37_0.len v37_0.cap, .slice v37_1.base v37_1.len v37_1.cap, .bool v37_2]] w3 (.agg #[.slice none 0 0, .slice none 0 0, .bool false]) fun (r38_0 : Sl) (r38_1 : Sl) (r38_2 : Bool) (w4 : World) =>
        Rd w4 a34 [.slice v36.base v36.len v36.cap] ∧
        VNw none w4 (.cells #[.slice r38_0.base r38_0.len r38_0.cap, .slice r38_1.base r38_1.len r38_1.cap, .bool r38_2] 33) fun (b39 : Nat) (w5 : World) =>
        Rd w5 a34 [.slice v36.base v36.len v36.cap] ∧
        VApp none w5 33 3 56 #[.slice none 0 0, .slice none 0 0, .bool false] v36.base v36.len v36.cap 1 (fun news => Seg w5 (some ⟨b39, 0, none⟩) 1 3 news) fun (l40 : Sl) (w6 : World) =>
        VNN none (some ⟨q, 0, none⟩) fun (a41 : Addr) =>
        VSt none w6 a41 [.slice l40.base l40.len l40.cap] fun (w7 : World) =>
        VNN none (some ⟨q, 0, none⟩) fun (a44 : Addr) =>
        VLd none w7 a44 [CT.sl] fun (v46 : Sl) =>
        VSet ((v46.len : Nat) : Int) fun (v6' : Int) =>
        (takes L k = false ∧ (Ending.returned (.tuple #[.int .i64 v6', .bool true, .int .i64 0])) = .returned (.tuple #[.int .i64 (L.length : Int), .bool false, .int .i64 0]) ∧ Ext [] w w7) ∨
        (takes L k = true ∧ (Ending.returned (.tuple #[.int .i64 v6', .bool true, .int .i64 0])) = .returned (.tuple #[.int .i64 ((L.length : Int) + 1), .bool true, .int .i64 0]) ∧ (∃ s' X', RcO w0 w7 q s' X' (L ++ [p]) ∧ ∀ b ∈ rowB s', b ∈ rowB s ∨ w.heap.size ≤ b) ∧ Ext (q :: rowB s) w w7)
      ) := by
    intro r w2 e12 hr
    have e2 := e1.then0 e12
    have h2 := h.ext0 e2
    refine VIf.mk (fun hc => ?_) (fun hc => ?_)
    · refine VNN.i (VLd.s s (Rd.of_bk h2.bk rfl) (VSet.i (.inl ⟨?_, by rw [hslk], e2⟩)))
      unfold takes
      by_cases hkk : k = (L.length : Int)
      · have := hr hkk
        rw [hslk, hkk] at hc
        simp at hc
        rw [← this, hc]; simp
      · rw [decide_eq_false hkk]; rfl
    · have hkk : k = (L.length : Int) := by rw [hslk] at hc; simp at hc; exact hc.1
      have hrr : isEnd L = false := by rw [← hr hkk]; simp at hc; exact hc.2
      intro w3 hw3
      have ed := Ext.drew' hw3
      have e3 := e2.then0 ed
      have h3 := h.ext0 e3
      have hk3 := hk5.ext (e12.then0 ed)
      refine VNN.i (VLd.s s (Rd.of_bk h3.bk rfl) ⟨(v.1 : Sl), (v.2.1 : Sl), (v.2.2 : Bool), gd.i (Rd.of_bk hk3 rfl), ?_⟩)
      refine VCall.i (twin_spec v p w3 (hv.ext0 e3) hP hQ) ?_
      rintro e w4 ⟨v', rfl, hv', _, e4⟩
      refine ⟨(v'.1 : Sl), (v'.2.1 : Sl), (v'.2.2 : Bool), rfl, Rd.of_bk (h3.bk.ext e4) rfl, ?_⟩
      refine VNw.i fun b6 w5 hb6 hk6 e5 => ?_
      have e35 := e4.then0 e5
      have h5 := h3.ext0 e35
      refine ⟨Rd.of_bk h5.bk rfl, ?_⟩
      refine VApp.rec (r := ptR) h5.pt.row ((e0.then0 e3).then0 e35) (news := [v']) (Seg.of_bk hk6 rfl rfl) rfl rfl (by simp; omega) (by simp; omega) fun s6 w6 hr6 e6 ea6 hbl => ?_
      have hn5 := h5.pt.noBk h5.bk (by decide) (by decide) (by decide)
      have hbk6 := h5.bk.ext ea6 hn5.1
      have hp6 := h3.pt.push (x := (v', p)) (w := w5) (hv'.ext0 e5) (e0.then0 e3).size e35 hr6 ea6
      refine VNN.i (VSt.bk hbk6 rfl (by simp) fun w7 hk7 e7 => VNN.i (VLd.s s6 (Rd.of_bk hk7 rfl) (VSet.i (.inr ⟨?_, ?_, ⟨s6, _, ⟨hk7, hp6.ext1 hbk6 e7 (by decide) (by decide) (by decide), ?_, h.ge⟩, fun b hb => (hbl b hb).imp id fun hq => by have := (e3.then0 e35).size; omega⟩, ?_⟩))))
      · unfold takes; rw [decide_eq_true hkk, hrr]; rfl
      · have : s6.len = L.length + 1 := by have := hp6.len; rw [List.length_append] at this; simp at this; omega
        rw [this]; rfl
      · unfold pts; rw [List.map_append]; show pts X ++ _ = _; rw [h.eq]; rfl
      · exact ((((Ext.refl (q :: rowB s) w).then0 e3).then0 e35).then ea6 (fun b hb _ => by simp [hb])).then e7 (fun b hb _ => by simp at hb; simp [hb])
  by_cases hkk : k = (L.length : Int)
  · refine VCall.on (by rw [hslk, hkk]; simp) (VCall.i (RDone_spec w0 w1 q s X L h1 (by omega)) ?_)
    rintro e w2 ⟨rfl, e2⟩
    exact exW.i1 (t := .bool) _ rfl (post _ w2 e2 fun _ => rfl)
  · exact VCall.off (by rw [hslk]; simpa using hkk) (exW.i1 (t := .bool) false trivial (post _ w1 (Ext.refl _ _) fun e => absurd e hkk))
theorem Parts_spec (w0 w : World) (q : Nat) (s : Sl) (X : List PX) (L : List Pt) (h : RcO w0 w q s X L) (hs : small L) :
    Calls Try.prog 28 #[.pointer (some ⟨q, 0, none⟩)] w fun e w' => ∃ (s' : Sl) (Y : List PX), e = .returned (.slice s'.base s'.len s'.cap) ∧ PtsO w w' s' Y ∧ pts Y = L ∧ Ext [] w w' := by
  refine sh_hand_Receiver_Parts_ok _ _ _ ?_
  unfold sh_hand_Receiver_Parts
  refine VIf.f rfl (VNN.i (VLd.s s (Rd.of_bk h.bk rfl) ?_))
  refine VCall.i (twins_spec s X w h.pt.in_ (by rw [h.eq]; exact hs)) ?_
  rintro e w1 ⟨s', Y, rfl, h1, hY, e1⟩
  exact exW.i1 (t := .sl) s' rfl ⟨s', Y, rfl, h1, by rw [hY, h.eq], e1⟩
end Go.Proofs.Ytoceilgifkncoaa
