/-
  Package hand: the law of ends.
-/
import Derived.Test.YtoceilgifkncoaaHandK
namespace Go.Proofs.Ytoceilgifkncoaa
open Go.RowKit
set_option maxRecDepth 100000

theorem modu (n : Int) (m : Nat) (hm : 0 < m) (h : m ≤ 1000000) : ∃ k : Nat, k < m ∧ IntKind.wrap .i64 (Int.tmod (IntKind.wrap .u64 n) ((m : Nat) : Int)) = (k : Int) := by
  rw [w64u]
  have h0 := Int.emod_nonneg n (show (18446744073709551616 : Int) ≠ 0 by omega)
  rw [Int.tmod_eq_emod_of_nonneg h0]
  have h1 := Int.emod_nonneg (n % 18446744073709551616) (show ((m : Nat) : Int) ≠ 0 by omega)
  have h2 := Int.emod_lt_of_pos (n % 18446744073709551616) (show 0 < ((m : Nat) : Int) by omega)
  refine ⟨(n % 18446744073709551616 % ((m : Nat) : Int)).toNat, by omega, ?_⟩
  rw [w64 (by omega)]; omega
/-! no part but the last says that it is the last -/
def Cu.open_ (c : Cu) : Prop := ∀ p ∈ c.L, p.last = false
theorem Cu.open_.add {c : Cu} (h : c.open_) (z : Int) (f : Pt → Pt) (hf : ∀ p, (f p).last = p.last) : (c.add z f).open_ := by
  have hr : (c.room z).open_ := by
    unfold Cu.room
    split
    · intro p hp
      rcases List.mem_append.1 hp with hp | hp
      · exact h p hp
      · rw [List.mem_singleton.1 hp]; rfl
    · exact h
  intro p hp
  simp only [Cu.add, addLast] at hp
  rcases List.mem_or_eq_of_mem_set hp with hp | rfl
  · exact hr p hp
  · rw [hf, List.getD_eq_getElem?_getD]
    cases hq : (c.room z).L[(c.room z).L.length - 1]? with
    | none => rfl
    | some q => exact hr q (List.mem_of_getElem? hq)
theorem fold_open {α : Type} (g : Cu → α → Cu) (hg : ∀ c x, Cu.open_ c → Cu.open_ (g c x)) : ∀ (L : List α) (c : Cu), c.open_ → (L.foldl g c).open_
  | [], c, h => h
  | x :: L, c, h => fold_open g hg L (g c x) (hg c x h)
theorem cutL_open (P : List Pr) (Q : List Ls) : (cutL P Q).open_ := by
  refine fold_open Cu.addQ (fun c x h => h.add (szQ x) (Pt.putQ x) (fun p => rfl)) Q _ (fold_open Cu.addP (fun c x h => h.add (szP x) (Pt.putP x) (fun p => rfl)) P _ ?_)
  intro p hp
  rw [List.mem_singleton.1 hp]; rfl
theorem cutI_len (P : List Pr) (Q : List Ls) : (cutI P Q).length = (cutL P Q).L.length := by unfold cutI addLast; rw [List.length_set]
theorem cutI_take (P : List Pr) (Q : List Ls) (m : Nat) (hm : m < (cutI P Q).length) : isEnd ((cutI P Q).take m) = false := by
  have h := cutL_open P Q
  rw [cutI_len] at hm
  unfold cutI addLast
  rw [List.take_set_of_le (by omega)]
  unfold isEnd
  rw [List.any_eq_false]
  intro p hp
  rw [h p (List.mem_of_mem_take hp)]; simp
theorem cutI_end (P : List Pr) (Q : List Ls) (h : 1 ≤ (cutL P Q).L.length) : isEnd (cutI P Q) = true := by
  unfold cutI addLast isEnd
  rw [List.any_eq_true]
  refine ⟨_, List.mem_set (by omega) _, rfl⟩
theorem cutI_small {P : List Pr} {Q : List Ls} {n : Nat} (h : (cutL P Q).ok n) (hn : n ≤ 1000) : small (cutI P Q) := by
  refine ⟨by rw [cutI_len]; have := h.len; omega, ?_⟩
  intro p hp
  unfold cutI addLast at hp
  rcases List.mem_or_eq_of_mem_set hp with hp | rfl
  · have := h.all p hp; omega
  · have hin : (cutL P Q).L.getD ((cutL P Q).L.length - 1) ptE ∈ (cutL P Q).L := by
      have := h.ne
      rw [List.getD_eq_getElem?_getD, List.getElem?_eq_getElem (by omega)]
      exact List.getElem_mem _
    have := h.all _ hin
    show ((cutL P Q).L.getD ((cutL P Q).L.length - 1) ptE).P.length ≤ 1000000 ∧ ((cutL P Q).L.getD ((cutL P Q).L.length - 1) ptE).Q.length ≤ 1000000
    omega
theorem RcO.extq {w0 w w' : World} {q r : Nat} {s : Sl} {X : List PX} {L : List Pt} {cs : List Value} (h : RcO w0 w r s X L) (k : Bk w q cs 88) (e : Ext [q] w w') : RcO w0 w' r s X L := by
  refine ⟨h.bk.ext e ?_, h.pt.ext1 k e (by decide) (by decide) (by decide), h.eq, h.ge⟩
  have := h.bk.neT k (by decide)
  simpa using this

theorem HandEnds_law (a b : Sl) (P : List Pr) (Q : List Ls) (every lost : Int) (w : World) (hP : InR prR w a P) (hQ : InR lsR w b Q) (hPl : P.length ≤ 1048576) (hQl : Q.length ≤ 1048576) :
    Calls Try.prog 6 #[.slice a.base a.len a.cap, .slice b.base b.len b.cap, .int .i64 every, .int .i64 lost] w (good w) := by
  refine sh_butterylaw23_HandEnds_ok _ _ _ _ _ _ ?_
  unfold sh_butterylaw23_HandEnds
  refine VCall.i (works_spec w) ?_
  rintro e w1 ⟨rfl, e1⟩
  refine exW.i1 (t := .bool) true rfl (VCall.on rfl (VCall.i (long_spec a b P Q w1 (hP.ext0 e1) (hQ.ext0 e1) hPl hQl) ?_))
  rintro e w2 ⟨lg, rfl, hlg, e2'⟩
  have e2 := e1.then0 e2'
  refine exW.i1 (t := .bool) lg rfl (VIf.mk (fun hc => ?_) (fun hc => ?_))
  · refine VCall.i (works_spec w2) ?_
    rintro e w3 ⟨rfl, e3⟩
    exact exW.i1 (t := .bool) true rfl ⟨rfl, e2.then0 e3⟩
  have hl : P.length + Q.length ≤ 300 := hlg (by simpa using hc)
  refine VCall.i (Cut_spec a b P Q w2 (hP.ext0 e2) (hQ.ext0 e2) (by omega)) ?_
  rintro e w4 ⟨s, X, rfl, hX, hpX, hok, e4'⟩
  have e4 := e2.then0 e4'
  refine exW.i1 (t := .sl) s rfl ?_
  obtain ⟨kp, hkp, hpause⟩ := modu every 1000 (by omega) (by omega)
  obtain ⟨kl, hkl, hlost⟩ := modu lost 20 (by omega) (by omega)
  rw [show ((1000 : Nat) : Int) = 1000 from rfl] at hpause
  rw [show ((20 : Nat) : Int) = 20 from rfl] at hlost
  rw [hpause, hlost, w64 (n := 1 + (kp : Int)) (by omega)]
  have hsm := cutI_small hok (by omega)
  have hne := hok.ne
  have hXl : X.length = (cutI P Q).length := by rw [← hpX]; simp [pts]
  have hLl := cutI_len P Q
  have hLe := hok.len
  have hsl := hX.len
  refine VSet.i (VCall.i (New_spec s X (1 + (kp : Int)) w4 hX.in_ (by rw [hpX]; exact hsm) (by omega) (by omega)) ?_)
  rintro e w5 ⟨q, s', Y, rfl, h5', e5'⟩
  have h5 := h5'.mono (w0 := w) e4.size
  have e5 := e4.then0 e5'
  rw [hpX] at h5
  have htake := cutI_take P Q
  have hend := cutI_end P Q hne
  generalize cutI P Q = LL at *
  refine exW.i2 (t := .ptr) (u := .int .i64) (some ⟨q, 0, none⟩) 0 rfl (VSet.i (VIf.f rfl ?_))
  have hqw := h5.ge
  have keep : ∀ {W W' : World}, Ext [] w W → Ext [q] W W' → Ext [] w W' := fun a b => a.then b (fun i hi hlt => by simp at hi; omega)
  refine ⟨fun k now i W => ∃ (j : Nat) (x : Sd), now = (j : Int) ∧ i = (j : Int) ∧ j ≤ kl ∧ k = kl - j ∧ SdO w W q s' Y x ∧ x.L = LL ∧ x.every = 1 + (kp : Int) ∧ x.next = 0 ∧ (x.sent = true → 0 ≤ x.at_ ∧ x.at_ < (j : Int)) ∧ Ext [] w W,
    ⟨_, 0, _, rfl, rfl, by omega, rfl, h5, rfl, rfl, rfl, (fun hh => by cases hh), e5⟩, ?_⟩
  rintro k now i w6 ⟨j, x, rfl, rfl, hj, rfl, h6, hL, hev, hnx, hat, e6⟩
  refine VIf.mk (fun hc2 => ?_) (fun hc2 => ?_)
  · have hj' : j < kl := by simp at hc2; omega
    refine VCall.i (Due_spec w w6 q s' Y x (j : Int) h6) ?_
    rw [w64 (n := (j : Int) + 1) (by omega)]
    rintro e w7 (⟨_, rfl, e7⟩ | ⟨_, hn, v', rfl, _, h7, e7⟩)
    · exact ⟨(0 : Int), (⟨none, 0, 0⟩ : Sl), (⟨none, 0, 0⟩ : Sl), (false : Bool), (false : Bool), rfl, VSet.i (VSet.i ⟨_, by omega, j + 1, x, rfl, rfl, by omega, rfl, h6.ext0 e7, hL, hev, hnx, fun hh => by have := hat hh; omega, e6.then0 e7⟩)⟩
    · exact ⟨((x.next : Nat) : Int), (v'.1 : Sl), (v'.2.1 : Sl), (v'.2.2 : Bool), (true : Bool), rfl, VSet.i (VSet.i ⟨_, by omega, j + 1, _, rfl, rfl, by omega, rfl, h7, hL, hev, hnx, fun _ => by simp only; omega, keep e6 e7⟩)⟩
  · have hjj : j = kl := by simp at hc2; omega
    subst hjj
    rw [w64 (n := (j : Int) + (1 + (kp : Int))) (by omega)]
    refine VSet.i ?_
    refine VCall.i (NewReceiver_spec w6) ?_
    rintro e w8 ⟨r, rfl, hr', e8'⟩
    have hr8 := hr'.mono (w0 := w) e6.size
    have hrge : w6.heap.size ≤ r := hr'.ge
    have e8 := e6.then0 e8'
    have hS1 : ∀ b ∈ rowB s', b < w6.heap.size := h6.pt.row.1.lt
    have hS2 : ∀ y ∈ Y, ∀ b ∈ fpt y.1, b < w6.heap.size := fun y hy b hb => (h6.pt.all y hy).lt b hb
    refine exW.i1 (t := .ptr) (some ⟨r, 0, none⟩) rfl ?_
    refine ⟨fun k i W => ∃ (m : Nat) (x : Sd) (s8 : Sl) (X8 : List PX), i = (m : Int) ∧ m ≤ LL.length ∧ k = LL.length - m ∧ SdO w W q s' Y x ∧ x.L = LL ∧ x.every = 1 + (kp : Int) ∧ x.next = m ∧ (x.sent = true → 0 ≤ x.at_ ∧ x.at_ < (j : Int)) ∧ RcO w W r s8 X8 (LL.take m) ∧ (∀ b ∈ rowB s8, w6.heap.size ≤ b) ∧ Ext [] w W ∧ w6.heap.size ≤ W.heap.size,
      ⟨_, 0, x, _, _, rfl, by omega, rfl, h6.ext0 e8', hL, hev, hnx, hat, hr8, by simp [rowB], e8, e8'.size⟩, ?_⟩
    clear hr8 e8 hnx hat h6 h5 e5 hL hev
    rintro k i w9 ⟨m, x, s8, X8, rfl, hm, rfl, h9, hL, hev, hnx, hat, r9, hge9, e9, z9⟩
    refine VIf.mk (fun hc3 => ?_) (fun hc3 => ?_)
    · have hm' : m < LL.length := by simp at hc3; omega
      have hidle : ¬ x.idle ((j : Int) + (1 + (kp : Int))) := by
        unfold Sd.idle
        rw [hL, hnx, hev]
        rintro (hh | ⟨hh, h1, h2⟩)
        · omega
        · have := hat hh
          rw [w64 (by omega)] at h2
          omega
      refine Due_i (p := LL[m]) h9 hidle (fun hn => by simp only [hL, hnx]) fun v w10 hv h10 e10 => ?_
      have e10w := keep e9 e10
      have r10 := r9.extq h9.bk e10
      refine VVar (v := v) fun bp w12 hbp kp12 e12 => ?_
      have e12w := e10w.then0 e12
      have h12 := h10.ext0 e12
      have r12 := r10.ext0 e12
      refine VCall.on rfl (VCall.i (SDone_spec w w12 q s' Y _ h12) ?_)
      rintro e w13 ⟨rfl, e13⟩
      have hnd : decide (({ x with sent := true, at_ := (j : Int) + (1 + (kp : Int)) } : Sd).next = ({ x with sent := true, at_ := (j : Int) + (1 + (kp : Int)) } : Sd).L.length) = false := by
        simp only [hL, hnx]; exact decide_eq_false (by omega)
      rw [hnd]
      refine exW.i1 (t := .bool) false rfl (VIf.f rfl ?_)
      have h13 := h12.ext0 e13
      have r13 := r12.ext0 e13
      have kp13 := kp12.ext e13
      have e13w := e12w.then0 e13
      have hv13 := (hv.ext0 e12).ext0 e13
      have z13 : w6.heap.size ≤ w13.heap.size := by have := e10.size; have := e12.size; have := e13.size; omega
      have hsp := hsm.2 _ (List.getElem_mem hm')
      refine ⟨(v.1 : Sl), (v.2.1 : Sl), (v.2.2 : Bool), gd.i (Rd.of_bk kp13 rfl), ?_⟩
      refine VCall.i (Take_spec w w13 r s8 X8 (LL.take m) ((x.next : Nat) : Int) v LL[m] r13 e13w (by rw [List.length_take]; have := hsm.1; omega) hv13.in_ (by omega) hsp.1 hsp.2) ?_
      have hlt : (LL.take m).length = m := by rw [List.length_take]; omega
      rintro e w14 (⟨hf, _⟩ | ⟨_, rfl, ⟨s9, X9, r14, hnew⟩, e14⟩)
      · unfold takes at hf
        rw [hlt, hnx, htake m hm'] at hf
        simp at hf
      refine ⟨((((LL.take m).length : Nat) : Int) + 1 : Int), (true : Bool), (0 : Int), rfl, VSet.i (VSet.i ?_)⟩
      have hqn := r13.pt.noBk h13.bk (by decide) (by decide) (by decide)
      have hqr : q ≠ r := h13.bk.neT r13.bk (by decide)
      have h14 : SdO w w14 q s' Y { x with sent := true, at_ := (j : Int) + (1 + (kp : Int)) } := by
        refine ⟨h13.bk.ext e14 ?_, h13.pt.ext e14 ?_ ?_, h13.eq, h13.ge, h13.nx, h13.sm⟩
        · simp only [List.mem_cons, not_or]; exact ⟨hqr, hqn.1⟩
        · intro b hb hb'
          have := hS1 b hb
          rcases List.mem_cons.1 hb' with rfl | hb'
          · omega
          · have := hge9 b hb'; omega
        · intro y hy b hb hb'
          have := hS2 y hy b hb
          rcases List.mem_cons.1 hb' with rfl | hb'
          · omega
          · have := hge9 b hb'; omega
      have e14w : Ext [] w w14 := e13w.then e14 (fun i hi hlt => by
        rcases List.mem_cons.1 hi with rfl | hi
        · have := r13.ge; omega
        · have := r13.pt.row.2 i hi; omega)
      rw [hlt]
      refine VCall.on rfl (VCall.i (Told_spec w w14 q s' Y _ ((m : Int) + 1) h14) ?_)
      rintro e w15 ⟨rfl, h15, e15⟩
      have hin : 0 ≤ (m : Int) + 1 ∧ (m : Int) + 1 ≤ ((({ x with sent := true, at_ := (j : Int) + (1 + (kp : Int)) } : Sd).L.length : Nat) : Int) := by
        simp only [hL]; omega
      rw [if_pos hin]
      refine exW.i1 (t := .int .i64) 0 rfl (VIf.f rfl ?_)
      have ht : Sd.told { x with sent := true, at_ := (j : Int) + (1 + (kp : Int)) } ((m : Int) + 1) = { x with next := m + 1, sent := false, at_ := (j : Int) + (1 + (kp : Int)) } := by
        unfold Sd.told
        rw [if_pos ⟨hin.1, hin.2, by simp only [hnx]; omega⟩]
        rfl
      rw [ht] at h15
      have r15 := r14.extq h14.bk e15
      rw [← List.take_succ_eq_append_getElem hm'] at r15
      rw [w64 (n := (m : Int) + 1) (by omega)]
      refine VSet.i ⟨_, by omega, m + 1, _, s9, X9, rfl, by omega, rfl, h15, hL, hev, rfl, (fun hh => by cases hh), r15, ?_, keep e14w e15, by have := e14.size; have := e15.size; omega⟩
      intro b hb
      rcases hnew b hb with h' | h'
      · exact hge9 b h'
      · omega
    · have hmm : m = LL.length := by simp at hc3; omega
      have hid : x.idle (IntKind.wrap .i64 ((j : Int) + (1 + (kp : Int)) + 5000)) := .inl (by rw [hnx, hL, hmm])
      refine Due_n h9 hid fun w16 e16 => ?_
      refine VVar (v := (⟨none, 0, 0⟩, ⟨none, 0, 0⟩, false)) fun bx w18 _ _ e18 => ?_
      have e918 := e16.then0 e18
      refine VCall.i (SDone_spec w w18 q s' Y x (h9.ext0 e918)) ?_
      rintro e w19 ⟨rfl, e19⟩
      have e919 := e918.then0 e19
      rw [decide_eq_true (show x.next = x.L.length by rw [hnx, hL, hmm])]
      refine exW.i1 (t := .bool) true rfl (VCall.on rfl (VCall.i (RDone_spec w w19 r s8 X8 _ (r9.ext0 e919) (by rw [List.length_take]; have := hsm.1; omega)) ?_))
      rintro e w20 ⟨rfl, e20⟩
      rw [hmm, List.take_length, hend]
      exact exW.i1 (t := .bool) true rfl ⟨rfl, (e9.then0 e919).then0 e20⟩
end Go.Proofs.Ytoceilgifkncoaa
