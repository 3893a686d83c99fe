/-
  Package rlog: the same?, long?, may they stand behind a term?
-/
import Derived.Test.YtkekjbdppabmhaaRlogF
namespace Go.Proofs.Ytkekjbdppabmhaa
open Go.RowKit
set_option maxRecDepth 100000

theorem ba_beq (a b : ByteArray) : (a.toList == b.toList) = decide (a = b) := by
  by_cases h : a = b
  · subst h; simp
  · have : a.toList ≠ b.toList := fun e => h (by
      rw [ByteArray.toList_eq, ByteArray.toList_eq] at e
      obtain ⟨⟨x⟩⟩ := a
      obtain ⟨⟨y⟩⟩ := b
      simp at e
      rw [e])
    rw [decide_eq_false h]; simpa using this
theorem take_succ_eq {α : Type} {L M : List α} {m : Nat} (h : L.take m = M.take m) (hl : m < L.length) (hm : m < M.length) : L.take (m + 1) = M.take (m + 1) ↔ L[m] = M[m] := by
  rw [List.take_succ_eq_append_getElem hl, List.take_succ_eq_append_getElem hm, h, List.append_right_inj]
  simp only [List.cons.injEq, and_true]
theorem Same_spec (x y : Er) (a b : En) (w : World) (ha : EIn w x a) (hb : EIn w y b) : Calls Try.prog 14 #[.agg (erC x).toArray, .agg (erC y).toArray] w fun r w' => r = .returned (.bool (decide (a = b))) ∧ Ext [] w w' := by
  refine sh_butteryref14_Same_ok _ _ _ _ _ _ _ _ _ _ ?_
  unfold sh_butteryref14_Same
  obtain ⟨at_, ak, ad, al⟩ := ha
  obtain ⟨bt, bk, bd, bl⟩ := hb
  have hal := al.len
  have hbl := bl.len
  refine VNw.i fun p w1 hp hk1 e1 => VNw.i fun q w2 hq hq2 e2 => ?_
  have hk2 : Bk w2 p (erC x) 28 := hk1.ext e2
  have hq2 : Bk w2 q (erC y) 28 := hq2
  have e02 := e1.then0 e2
  refine VLd.i1 (t := .int .i64) x.t (Rd.of_bk hk2 rfl) (VLd.i1 (t := .int .i64) y.t (Rd.of_bk hq2 rfl) (VLd.i1 (t := .int .u8) x.k (Rd.of_bk hk2 rfl) (VLd.i1 (t := .int .u8) y.k (Rd.of_bk hq2 rfl) (VLd.i1 (t := .str) x.d (Rd.of_bk hk2 rfl) (VLd.i1 (t := .str) y.d (Rd.of_bk hq2 rfl) (VLd.s x.s (Rd.of_bk hk2 rfl) (VLd.s y.s (Rd.of_bk hq2 rfl) ?_)))))))
  rw [ba_beq, at_, bt, ak, bk, ad, bd, hal, hbl]
  refine VIf.mk (fun hc => ⟨?_, e02⟩) (fun hc => ?_)
  · congr 2
    rw [eq_comm, decide_eq_false_iff_not]
    intro hab
    subst hab
    simp at hc
  have hc : ((a.term = b.term ∧ a.kind = b.kind) ∧ a.data = b.data) ∧ a.list.length = b.list.length := by simp at hc; refine ⟨hc.1, by omega⟩
  obtain ⟨⟨⟨h1, h2⟩, h3⟩, h4⟩ := hc
  have hiff : ∀ (p : Prop) [Decidable p], (p ↔ a.list = b.list) → decide p = decide (a = b) := fun p _ hp => by
    rw [decide_eq_decide, hp]
    constructor
    · intro h5
      obtain ⟨a1, a2, a3, a4⟩ := a
      obtain ⟨b1, b2, b3, b4⟩ := b
      simp only at h1 h2 h3 h5
      subst h1 h2 h3 h5; rfl
    · intro h; rw [h]
  have hcap := al.2
  refine ⟨fun kk i W => ∃ j : Nat, i = (j : Int) ∧ j ≤ a.list.length ∧ kk = a.list.length - j ∧ a.list.take j = b.list.take j ∧ Bk W p (erC x) 28 ∧ Bk W q (erC y) 28 ∧ Ext [] w W, ⟨_, 0, rfl, by omega, rfl, rfl, hk2, hq2, e02⟩, ?_⟩
  rintro kk i w3 ⟨j, rfl, hj, rfl, heq, hk3, hq3, e03⟩
  refine VLd.s x.s (Rd.of_bk hk3 rfl) (VIf.mk (fun hd => ?_) (fun hd => ?_))
  · have hj' : j < a.list.length := by simp at hd; omega
    have hjb : j < b.list.length := by omega
    intro w4 hw4
    have ed := Ext.drew' hw4
    have hk4 := hk3.ext ed
    have hq4 := hq3.ext ed
    have e04 := e03.then0 ed
    refine VLd.s x.s (Rd.of_bk hk4 rfl) (VIx.rd (r := itR) (al.ext0 e04).1 hj' fun a1 hra => ?_)
    refine VLd.i1 (t := .int .i64) (a.list[j]) (by rw [Int.toNat_natCast]; exact hra) (VLd.s y.s (Rd.of_bk hq4 rfl) (VIx.rd (r := itR) (bl.ext0 e04).1 hjb fun a2 hrb => ?_))
    refine VLd.i1 (t := .int .i64) (b.list[j]) (by rw [Int.toNat_natCast]; exact hrb) (VIf.mk (fun hx => ?_) (fun hx => ?_))
    · refine ⟨?_, e04⟩
      have hx : a.list[j] ≠ b.list[j] := by simpa using hx
      congr 2
      rw [eq_comm, decide_eq_false_iff_not]
      intro hab; subst hab; exact hx rfl
    · have hx : a.list[j] = b.list[j] := by simpa using hx
      exact VSet.i ⟨_, (show a.list.length - (j + 1) < a.list.length - j by omega), j + 1, w64 (n := (j : Int) + 1) (by omega), by omega, rfl, (take_succ_eq heq hj' hjb).2 hx, hk4, hq4, e04⟩
  · have hj' : j = a.list.length := by simp at hd; omega
    refine ⟨?_, e03⟩
    have : a.list = b.list := by
      rw [hj', List.take_length, h4, List.take_length] at heq
      exact heq
    congr 2
    rw [← hiff True (by simp [this])]; rfl
theorem Sames_spec (s t : Sl) (L M : List En) (w : World) (hs : LIn w s L) (ht : LIn w t M) : Calls Try.prog 19 #[.slice s.base s.len s.cap, .slice t.base t.len t.cap] w fun r w' => r = .returned (.bool (decide (L = M))) ∧ Ext [] w w' := by
  refine sh_butteryref14_Sames_ok _ _ _ _ ?_
  unfold sh_butteryref14_Sames
  have hl := hs.len
  have hm := ht.len
  have hcap := hs.cap
  rw [hl, hm]
  refine VIf.mk (fun hc => ⟨?_, Ext.refl _ _⟩) (fun hc => ?_)
  · congr 2
    rw [eq_comm, decide_eq_false_iff_not]
    intro hab; subst hab; simp at hc
  have hc : L.length = M.length := by simp at hc; omega
  refine ⟨fun kk i W => ∃ j : Nat, i = (j : Int) ∧ j ≤ L.length ∧ kk = L.length - j ∧ L.take j = M.take j ∧ Ext [] w W, ⟨_, 0, rfl, by omega, rfl, rfl, Ext.refl _ _⟩, ?_⟩
  rintro kk i w1 ⟨j, rfl, hj, rfl, heq, e01⟩
  refine VIf.mk (fun hd => ?_) (fun hd => ?_)
  · have hj' : j < L.length := by simp at hd; omega
    have hjm : j < M.length := by omega
    intro w2 hw2
    have e02 := e01.then0 (Ext.drew' hw2)
    obtain ⟨X, hX, hXl, hEX⟩ := hs.ext0 e02
    obtain ⟨Y, hY, hYl, hEY⟩ := ht.ext0 e02
    rw [show L.length = s.len from hl.symm, show M.length = t.len from hm.symm]
    refine VIx.rd (r := erR) hX.1 (show j < X.length by omega) fun a1 hra => ?_
    refine VLd.er X[j] (by rw [Int.toNat_natCast]; exact hra) (VIx.rd (r := erR) hY.1 (show j < Y.length by omega) fun a2 hrb => ?_)
    refine VLd.er Y[j] (by rw [Int.toNat_natCast]; exact hrb) ?_
    refine VCall.i (Same_spec X[j] Y[j] L[j] M[j] w2 (hEX j (by omega) hj') (hEY j (by omega) hjm)) ?_
    rintro r w3 ⟨rfl, e3⟩
    refine exW.i1 (t := .bool) _ rfl (VIf.mk (fun hx => ?_) (fun hx => ?_))
    · refine ⟨?_, e02.then0 e3⟩
      have hx : L[j] ≠ M[j] := by simpa using hx
      congr 2
      rw [eq_comm, decide_eq_false_iff_not]
      intro hab; subst hab; exact hx rfl
    · have hx : L[j] = M[j] := by simpa using hx
      exact VSet.i ⟨_, (by omega : L.length - (j + 1) < s.len - j), j + 1, w64 (n := (j : Int) + 1) (by omega), by omega, by rw [hl], (take_succ_eq heq hj' hjm).2 hx, e02.then0 e3⟩
  · have hj' : j = L.length := by simp at hd; omega
    refine ⟨?_, e01⟩
    have : L = M := by
      rw [hj', List.take_length, hc, List.take_length] at heq
      exact heq
    rw [this]; simp
def bulkE (e : En) : Nat := e.data.size + e.list.length
def longB (L : List En) : Bool := decide (20000 < L.length + ((L.take 100).map bulkE).sum) || decide (80 < L.length)
theorem sum_le' {L : List En} {n : Nat} (h : ∀ e ∈ L, bulkE e ≤ n) : (L.map bulkE).sum ≤ L.length * n := by
  induction L with
  | nil => simp
  | cons x L ih =>
    have h1 := h x (by simp)
    have h2 := ih fun e he => h e (by simp [he])
    rw [List.map_cons, List.sum_cons, List.length_cons, Nat.succ_mul]; omega
theorem long_spec (s : Sl) (L : List En) (w : World) (hs : LIn w s L) (hL : L.length ≤ 100000000) (hb : ∀ e ∈ L, bulkE e ≤ 100000000) : Calls Try.prog 15 #[.slice s.base s.len s.cap] w fun r w' => r = .returned (.bool (longB L)) ∧ Ext [] w w' := by
  refine sh_butterylaw14_long_ok _ _ _ ?_
  unfold sh_butterylaw14_long
  have hl := hs.len
  refine VSet.i ?_
  refine ⟨fun kk n i W => ∃ j : Nat, i = (j : Int) ∧ j ≤ min L.length 100 ∧ kk = L.length - j ∧ n = ((L.length + ((L.take j).map bulkE).sum : Nat) : Int) ∧ Ext [] w W, ⟨_, 0, rfl, by omega, rfl, by simp [hl], Ext.refl _ _⟩, ?_⟩
  rintro kk n i w1 ⟨j, rfl, hj, rfl, rfl, e01⟩
  have hsum := sum_le' (L := L.take j) (n := 100000000) fun e he => hb e (List.mem_of_mem_take he)
  rw [List.length_take] at hsum
  have hs2 : ((L.take j).map bulkE).sum ≤ 100 * 100000000 := Nat.le_trans hsum (Nat.mul_le_mul_right _ (by omega))
  refine VIf.mk (fun hd => ?_) (fun hd => ?_)
  · have hj' : j < L.length ∧ j < 100 := by simp at hd; omega
    intro w2 hw2
    have e02 := e01.then0 (Ext.drew' hw2)
    obtain ⟨X, hX, hXl, hEX⟩ := hs.ext0 e02
    have hbj := hb _ (List.getElem_mem hj'.1)
    have hE := hEX j (by omega) hj'.1
    have hEl := hE.hl.len
    refine VIx.rd (r := erR) hX.1 (show j < X.length by omega) fun a1 hra => ?_
    refine VLd.i1 (t := .str) (X[j]).d (by rw [Int.toNat_natCast]; exact hra.fld 2 rfl) ?_
    refine VIx.rd (r := erR) hX.1 (show j < X.length by omega) fun a2 hrb => ?_
    refine VLd.s (X[j]).s (by rw [Int.toNat_natCast]; exact hrb.fld 3 rfl) ?_
    rw [hE.hd, hEl]
    unfold bulkE at hbj
    rw [w64 (n := ((L.length + ((L.take j).map bulkE).sum : Nat) : Int) + ((L[j].data.size : Nat) : Int)) (by omega), w64 (by omega)]
    refine VSet.i (VSet.i ⟨_, (show L.length - (j + 1) < L.length - j by omega), j + 1, w64 (n := (j : Int) + 1) (by omega), by omega, rfl, ?_, e02⟩)
    rw [List.take_succ_eq_append_getElem hj'.1, List.map_append, List.sum_append]
    simp only [List.map_cons, List.map_nil, List.sum_cons, List.sum_nil, bulkE]
    omega
  · have hj' : j = min L.length 100 := by simp at hd; omega
    refine ⟨?_, e01⟩
    have : L.take j = L.take 100 := by
      rw [hj']
      rcases Nat.le_total L.length 100 with h | h
      · rw [Nat.min_eq_left h, List.take_length, List.take_of_length_le h]
      · rw [Nat.min_eq_right h]
    unfold longB
    rw [this, hl]
    congr 2
    rw [Bool.eq_iff_iff]
    simp only [Bool.or_eq_true, decide_eq_true_eq]
    omega
def noE (t : Int) : En := ⟨t, 1, ByteArray.empty, []⟩
def noR (t : Int) : Er := ⟨t, 1, ByteArray.empty, nSl⟩
theorem no_in (w : World) (t : Int) : EIn w (noR t) (noE t) := ⟨rfl, rfl, rfl, InR.nil _⟩
theorem noop_spec (t : Int) (w : World) : Calls Try.prog 32 #[.int .i64 t] w fun r w' => r = .returned (.agg (erC (noR t)).toArray) ∧ Ext [] w w' := by
  refine sh_butterylaw14_noop_ok _ _ _ ?_
  unfold sh_butterylaw14_noop
  refine VNw.i fun b w1 hb hk1 e1 => VSt.bk hk1 rfl (by simp) fun w2 hk2 e2 => ?_
  have hk2 : Bk w2 b (erC (noR t)) 28 := hk2
  exact VLd.er (noR t) (Rd.of_bk hk2 rfl) ⟨rfl, e1.then e2 (fun i hi hlt => by simp at hi; omega)⟩
def cntB (n : Int) : Bool := decide (n ≥ 0) && decide (n ≤ 2147483647)
theorem count_pure (n : Int) (w : World) : Calls Try.prog 33 #[.int .i64 n] w fun e w' => e = .returned (.bool (cntB n)) ∧ w' = w := by
  refine sh_rlog_count_ok _ _ _ ?_
  exact ⟨rfl, rfl⟩
/-- the first of those that a question is answered yes; the question may change what it remembers -/
theorem IndexE_spec (s : Sl) (X : List Er) (w : World) (f : Value) (p : Nat → Bool) (S : Nat → World → Prop) (h0 : S 0 w) (hx : ∀ i W, S i W → InR erR W s X) (hlen : X.length ≤ 100000000)
    (step : ∀ i (hi : i < X.length) (W : World) (K : Bool → World → Prop), S i W → (∀ W', S (i + 1) W' → K (p i) W') → VDyn none Try.prog f #[.agg (erC X[i]).toArray] W (.bool false) fun (r : Bool) (w' : World) => K r w') :
    Calls Try.prog 57 #[.slice s.base s.len s.cap, f] w fun r w' =>
      ∃ i : Nat, i ≤ X.length ∧ (∀ q, q < i → p q = false) ∧ (i < X.length → p i = true ∧ S (i + 1) w') ∧ (i = X.length → S i w') ∧ r = .returned (.int .i64 (if i < X.length then (i : Int) else -1)) := by
  refine sh_slices_IndexFunc_ok _ _ _ _ ?_
  unfold sh_slices_IndexFunc
  have hl := (hx 0 w h0).len
  refine ⟨fun kk i W => ∃ j : Nat, i = (j : Int) ∧ j ≤ X.length ∧ kk = X.length - j ∧ (∀ q, q < j → p q = false) ∧ S j W, ⟨_, 0, rfl, by omega, rfl, fun q hq => by omega, h0⟩, ?_⟩
  rintro kk i w1 ⟨j, rfl, hj, rfl, hno, hS⟩
  refine VIf.mk (fun hd => ?_) (fun hd => ?_)
  · have hj' : j < X.length := by simp at hd; omega
    refine VSet.i (VIx.rd (r := erR) (hx j w1 hS).1 hj' fun a hra => ?_)
    refine VLd.er X[j] (by rw [Int.toNat_natCast]; exact hra) ?_
    refine step j hj' w1 _ hS fun w2 hS2 => ?_
    refine VIf.mk (fun hq => ?_) (fun hq => ?_)
    · exact VSet.i ⟨j, hj, hno, fun _ => ⟨hq, hS2⟩, fun e => absurd e (by omega), by rw [if_pos hj']⟩
    · exact ⟨_, (show X.length - (j + 1) < X.length - j by omega), j + 1, w64 (n := (j : Int) + 1) (by omega), by omega, rfl, fun q hq' => if hqj : q = j then hqj ▸ hq else hno q (by omega), hS2⟩
  · have hj' : j = X.length := by simp at hd; omega
    exact ⟨j, hj, hno, fun h => absurd h (by omega), fun _ => hS, by rw [if_neg (by omega)]⟩
def termAt (t : Int) (L : List En) (i : Nat) : Int := if i = 0 then t else (L.getD (i - 1) zEn).term
def badM (t : Int) (L : List En) (i : Nat) : Bool := !okE (L.getD i zEn) || decide ((L.getD i zEn).term < termAt t L i)
def mayB (t : Int) (L : List En) : Bool := decide (∀ i : Nat, ∀ _ : i < L.length, badM t L i = false)
theorem getD_getE {l : List En} {i : Nat} (h : i < l.length) : l.getD i zEn = l[i] := by rw [List.getD_eq_getElem?_getD, List.getElem?_eq_getElem h]; rfl
theorem may_spec (t : Int) (s : Sl) (L : List En) (w : World) (hs : LIn w s L) (hL : L.length ≤ 100000000) : Calls Try.prog 34 #[.int .i64 t, .slice s.base s.len s.cap] w fun r w' => r = .returned (.bool (mayB t L)) ∧ Ext [] w w' := by
  refine sh_rlog_may_ok _ _ _ _ ?_
  unfold sh_rlog_may
  obtain ⟨X, hX, hXl, hEX⟩ := hs
  refine VNw.i fun tb w1 htb hk1 e1 => ?_
  have ltb := hk1.lt
  refine VCall.i (R0 := fun r w' => r = .returned (.bool (!mayB t L)) ∧ Ext [] w w') ?_ ?_
  · refine sh_slices_ContainsFunc_ok _ _ _ _ ?_
    unfold sh_slices_ContainsFunc
    refine VCall.i (IndexE_spec s X w1 (.func (.func 56) #[] #[.pointer (some ⟨tb, 0, none⟩)]) (badM t L) (fun i W => Bk W tb [.int .i64 (termAt t L i)] 3 ∧ Ext [] w W) ⟨hk1, e1⟩ (fun i W h => hX.ext0 h.2) (by omega) ?_) ?_
    · intro i hi W K hS hk
      obtain ⟨hb, e0⟩ := hS
      refine VDyn.i (by kernel_rfl) (VCall.i (R0 := fun r w' => r = .returned (.bool (badM t L i)) ∧ Bk w' tb [.int .i64 (termAt t L (i + 1))] 3 ∧ Ext [] w w') ?_ ?_)
      · refine sh_rlog_may_1_ok _ _ _ _ _ _ _ ?_
        unfold sh_rlog_may_1
        have hiL : i < L.length := by omega
        have hE := (hEX i hi hiL).ext0 e0
        refine VNw.i fun eb w2 heb hk2 e2 => ?_
        have hk2 : Bk w2 eb (erC X[i]) 28 := hk2
        refine VLd.er X[i] (Rd.of_bk hk2 rfl) (VCall.i (Check_spec X[i] L[i] w2 (hE.ext0 e2)) ?_)
        rintro r w3 ⟨rfl, e3⟩
        have hb3 := (hb.ext e2).ext e3
        have hk3 := hk2.ext e3
        refine exW.i1 (t := .bool) _ rfl (VLd.i1 (t := .int .i64) (X[i]).t (Rd.of_bk hk3 rfl) (VLd.i1 (t := .int .i64) (termAt t L i) (Rd.of_bk hb3 rfl) (VLd.i1 (t := .int .i64) (X[i]).t (Rd.of_bk hk3 rfl) ?_)))
        refine VSt.bk hb3 rfl (by simp) fun w4 hb4 e4 => ⟨?_, ?_, ?_⟩
        · unfold badM; rw [getD_getE hiL, hE.ht]
        · have h1 : Bk w4 tb [.int .i64 (X[i]).t] 3 := hb4
          have h2 : termAt t L (i + 1) = (X[i]).t := by unfold termAt; rw [if_neg (by omega), Nat.add_sub_cancel, getD_getE hiL, hE.ht]
          rw [h2]; exact h1
        · exact ((e0.then0 e2).then0 e3).then e4 (fun i hi hlt => by simp at hi; omega)
      · rintro r w2 ⟨rfl, hb2, e2⟩
        exact exW.i1 (t := .bool) _ rfl (hk w2 ⟨hb2, e2⟩)
    · rintro r w2 ⟨i, hi, hno, hyes, hall, rfl⟩
      refine exW.i1 (t := .int .i64) _ rfl ⟨?_, ?_⟩
      · congr 2
        by_cases h : i < X.length
        · rw [if_pos h]
          have : mayB t L = false := by
            unfold mayB
            rw [decide_eq_false_iff_not]
            intro hh
            have := hh i (by omega)
            rw [(hyes h).1] at this; cases this
          rw [this]; simp
        · rw [if_neg h]
          have : mayB t L = true := by
            unfold mayB
            rw [decide_eq_true_eq]
            intro q hq; exact hno q (by omega)
          rw [this]; rfl
      · by_cases h : i < X.length
        · exact (hyes h).2.2
        · exact (hall (by omega)).2
  · rintro r w2 ⟨rfl, e2⟩
    exact exW.i1 (t := .bool) _ rfl ⟨by simp, e2⟩
end Go.Proofs.Ytkekjbdppabmhaa
