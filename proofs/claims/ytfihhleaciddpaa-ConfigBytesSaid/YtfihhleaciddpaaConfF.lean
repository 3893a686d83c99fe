/-
  Package config: what is read; commands written and read; the law of what goes on.
-/
import Derived.Test.YtfihhleaciddpaaConfP
namespace Go.Proofs.Ytfihhleaciddpaa
open Go.RowKit
set_option maxRecDepth 100000

theorem may_spec (p : Pl) (w : World) : Calls Try.prog 25 #[.agg #[.int .i64 p.1, .int .i64 p.2.1, .int .i64 p.2.2]] w fun e w' => e = .returned (.bool (decide (may p))) ∧ Ext [] w w' := by
  refine sh_config_may_ok _ _ _ _ _ ?_
  unfold sh_config_may
  refine VNw.i fun b w1 hb hk e1 => ?_
  refine VLd.i1 _ (Rd.of_bk hk rfl) (VIf.mk (fun hc => ?_) (fun hc => ?_))
  · refine VLd.i1 _ (Rd.of_bk hk rfl) (VLd.i1 _ (Rd.of_bk hk rfl) ⟨?_, e1⟩)
    congr 2
    rw [Bool.eq_iff_iff]
    simp at hc
    simp [may, hc]
  · refine VLd.i1 _ (Rd.of_bk hk rfl) (VIf.mk (fun hc2 => ⟨?_, e1⟩) (fun hc2 => ?_))
    · congr 2
      rw [Bool.eq_iff_iff]
      simp at hc hc2
      simp [may, hc, hc2]
    · refine VLd.i1 _ (Rd.of_bk hk rfl) (VLd.i1 _ (Rd.of_bk hk rfl) ⟨?_, e1⟩)
      congr 2
      rw [Bool.eq_iff_iff]
      simp at hc hc2
      simp [may, hc, hc2]

/-- rows and flags while they are read -/
structure CfgR (T : TypeId) (w0 w : World) (q : Nat) (s d : Sl) (c : CM) : Prop where
  bk : Bk w q [.slice s.base s.len s.cap, .slice d.base d.len d.cap] T
  p : OwnR plR 35 w0 w s c.P
  d : OwnR blR 4 w0 w d c.D
  ge : w0.heap.size ≤ q
  t1 : T ≠ 35
  t2 : T ≠ 4
section
variable {T : TypeId} {w0 w w' : World} {q : Nat} {s d : Sl} {c : CM} {M : List Nat}
theorem CfgO.r (h : CfgO T w0 w q s d c) : CfgR T w0 w q s d c := ⟨h.bk, h.p, h.d, h.ge, h.t1, h.t2⟩
theorem CfgR.o (h : CfgR T w0 w q s d c) (k : c.ok) : CfgO T w0 w q s d c := ⟨h.bk, h.p, h.d, h.ge, k, h.t1, h.t2⟩
theorem CfgR.ext (h : CfgR T w0 w q s d c) (x : Ext M w w') (hm : ∀ b ∈ fpc q s d, b ∉ M) : CfgR T w0 w' q s d c :=
  ⟨h.bk.ext x (hm q (by simp [fpc])), h.p.ext x (fun b hb => hm b (by simp [fpc, hb])), h.d.ext x (fun b hb => hm b (by simp [fpc, hb])), h.ge, h.t1, h.t2⟩
theorem CfgR.ext0 (h : CfgR T w0 w q s d c) (x : Ext [] w w') : CfgR T w0 w' q s d c := h.ext x (fun _ _ => by simp)
theorem CfgR.ges (h : CfgR T w0 w q s d c) : ∀ b ∈ fpc q s d, w0.heap.size ≤ b := by
  intro b hb
  simp only [fpc, List.mem_cons, List.mem_append] at hb
  rcases hb with rfl | hb | hb
  · exact h.ge
  · exact h.p.2 b hb
  · exact h.d.2 b hb
theorem CfgR.qp (h : CfgR T w0 w q s d c) : q ∉ rowB s := fun hq => by obtain ⟨cs, hk⟩ := h.p.1.bk_of hq; exact h.bk.neT hk h.t1 rfl
theorem CfgR.qd (h : CfgR T w0 w q s d c) : q ∉ rowB d := fun hq => by obtain ⟨cs, hk⟩ := h.d.1.bk_of hq; exact h.bk.neT hk h.t2 rfl
theorem CfgR.pd (h : CfgR T w0 w q s d c) : ∀ b ∈ rowB s, b ∉ rowB d := fun b hb hb' => by
  obtain ⟨_, k1⟩ := h.p.1.bk_of hb
  obtain ⟨_, k2⟩ := h.d.1.bk_of hb'
  exact k1.neT k2 (by decide) rfl
theorem CfgR.rd0 (h : CfgR T w0 w q s d c) : Rd w ⟨q, 0, none⟩ [.slice s.base s.len s.cap] := Rd.of_bk h.bk rfl
theorem CfgR.rd1 (h : CfgR T w0 w q s d c) : Rd w ⟨q, 1, none⟩ [.slice d.base d.len d.cap] := Rd.of_bk h.bk rfl
/-- a place is written -/
theorem CfgR.putP {i : Nat} (h : CfgR T w0 w q s d c) (hi : i < c.P.length) (x : Pl) {K : World → Prop} (k : ∀ W', CfgR T w0 W' q s d ⟨c.P.set i x, c.D⟩ → Ext (rowB s) w W' → K W') :
    VIx none s.base s.len (i : Int) fun (a : Addr) => VSt none w (Addr.add a ((Int.toNat (i : Int)) * 3)) [.int .i64 x.1, .int .i64 x.2.1, .int .i64 x.2.2] K := by
  rw [Int.toNat_natCast]
  refine Row.putR (r := plR) (j := 0) (vs := plR.f x) (x := x) h.p.1 hi (by show 0 + 3 ≤ 3; omega) rfl rfl (fun a => (add_zero _).symm) fun W' h' e' => ?_
  exact k W' ⟨h.bk.ext e' h.qp, ⟨h', h.p.2⟩, h.d.ext e' (fun y hy hy' => h.pd y hy' hy), h.ge, h.t1, h.t2⟩ e'
theorem CfgR.putD {i : Nat} (h : CfgR T w0 w q s d c) (hi : i < c.D.length) (x : Bool) {K : World → Prop} (k : ∀ W', CfgR T w0 W' q s d ⟨c.P, c.D.set i x⟩ → Ext (rowB d) w W' → K W') :
    VIx none d.base d.len (i : Int) fun (a : Addr) => VSt none w (Addr.add a ((Int.toNat (i : Int)) * 1)) [.bool x] K := by
  rw [Int.toNat_natCast]
  refine Row.putR (r := blR) (j := 0) (vs := [.bool x]) (x := x) h.d.1 hi (by show 0 + 1 ≤ 1; omega) rfl rfl (fun a => (add_zero _).symm) fun W' h' e' => ?_
  exact k W' ⟨h.bk.ext e' h.qd, h.p.ext e' h.pd, ⟨h', h.d.2⟩, h.ge, h.t1, h.t2⟩ e'
end
theorem RepC.extT {w w' : World} {r q d : Nat} {st : Option (List UInt8)} {M : List Nat} (h : RepC w r q d st) (e : Ext M w w') (t : TypeId) (hM : ∀ b ∈ M, ∃ cs, Bk w b cs t) (n1 : t ≠ 83) (n2 : t ≠ 81) (n3 : t ≠ 5) : RepC w' r q d st := by
  obtain ⟨s, f, l, hr, hq, hs, hst⟩ := h
  have no : ∀ {b : Nat} {cs : List Value} {u : TypeId}, Bk w b cs u → t ≠ u → b ∉ M := fun hk hne hm => by
    obtain ⟨_, hk'⟩ := hM _ hm
    exact hk'.neT hk hne rfl
  refine ⟨s, f, l, hr.ext e (no hr n1), hq.ext e (no hq n2), hs.ext e (fun hz => ?_), hst⟩
  obtain ⟨_, _, _, h3⟩ := hs
  rcases h3 with h3 | ⟨off, cells, _, hk, _⟩
  · exact absurd h3 hz
  · exact no hk n3
theorem RepC.no {w0 w : World} {r rq rd_ : Nat} {st : Option (List UInt8)} {q : Nat} {s d : Sl} {c : CM} (h : RepC w r rq rd_ st) (k : CfgR 52 w0 w q s d c) : ∀ b ∈ fpc q s d, b ∉ [rq] := by
  intro b hb hb'
  simp at hb'
  subst hb'
  obtain ⟨s', f, l, hr, hq, _⟩ := h
  simp only [fpc, List.mem_cons, List.mem_append] at hb
  rcases hb with rfl | hb | hb
  · exact hq.neT k.bk (by decide) rfl
  · obtain ⟨_, k1⟩ := k.p.1.bk_of hb
    exact hq.neT k1 (by decide) rfl
  · obtain ⟨_, k1⟩ := k.d.1.bk_of hb
    exact hq.neT k1 (by decide) rfl
def allMay (L : List Pl) : Bool := L.all fun p => decide (may p)
theorem allMay_iff {L : List Pl} : allMay L = true ↔ ∀ p ∈ L, may p := by unfold allMay; simp
theorem take_set_drop {α : Type} (A B : List α) (i : Nat) (x : α) (hi : i < B.length) (hA : A.length = i) : (A ++ B.drop i).set i x = (A ++ [x]) ++ B.drop (i + 1) := by
  subst hA
  rw [List.set_append_right _ _ (Nat.le_refl _), Nat.sub_self, List.drop_eq_getElem_cons hi, List.set_cons_zero, List.append_assoc]
  rfl

theorem Decode_spec (b : ByteArray) (w : World) (hb : b.size ≤ 1000000) : Calls Try.prog 12 #[.string b] w fun e w' => Ext [] w w' ∧
    match decI b.data.toList with
    | none => e = .returned (.tuple #[.pointer none, .int .i64 4])
    | some c => ∃ q s d, e = .returned (.tuple #[.pointer (some ⟨q, 0, none⟩), .int .i64 0]) ∧ CfgO 52 w w' q s d c := by
  refine sh_config_Decode_ok _ _ _ ?_
  unfold sh_config_Decode
  refine VBytes.i fun b1 c1 w1 hb1 hk1 e1 hc1 => ?_
  have hsz : b.size = b.data.toList.length := by
    show b.data.size = _; simp
  rw [bc_str] at hk1
  have hseg : Seg w1 (some ⟨b1, 0, none⟩) b.size 1 (bc b.data.toList) := Seg.of_bk hk1 (by simp) (by rw [bc_len, hsz]; simp)
  generalize b.data.toList = l at *
  refine VCall.i (NewReader_spec ⟨some ⟨b1, 0, none⟩, b.size, c1⟩ l w1 hseg (by omega)) ?_
  rintro e w2 ⟨r, rq, rd_, rfl, k2, e2, g1, g2, g3⟩
  refine exW.i1 (t := .ptr) (some ⟨r, 0, none⟩) rfl ?_
  refine VCall.i (rCount_spec r rq rd_ 4 _ w2 k2) ?_
  rintro e w3 ⟨rfl, k3, e3⟩
  refine exW.i1 (t := .int .i64) _ rfl ?_
  refine VCall.i (rCount_spec r rq rd_ 5 _ w3 k3) ?_
  rintro e w4 ⟨rfl, k4, e4⟩
  refine exW.i1 (t := .int .i64) _ rfl ?_
  have hs1 := e1.size
  have e24 : Ext [rq] w2 w4 := e3.then e4 (fun i hi _ => hi)
  have e12 := e1.then0 e2
  have e4w : Ext [] w w4 := e12.then e24 (fun i hi hlt => by simp at hi; omega)
  have hs12 := e12.size
  have hs4 := e4w.size
  unfold decI
  generalize (rCount 4 (some l)).1 = a at *
  generalize (rCount 4 (some l)).2 = st3 at *
  generalize (rCount 5 st3).1 = n at *
  generalize (rCount 5 st3).2 = st4 at *
  refine VCall.i (New_spec a n w4) ?_
  intro e w5 he
  rcases he with ⟨hno, rfl, e45⟩ | ⟨hyes, q, s, d, rfl, h5, e45⟩
  · refine exW.i2 (t := .ptr) (u := .int .i64) none 1 rfl (VSet.i (VIf.t rfl ⟨e4w.then0 e45, ?_⟩))
    rw [if_neg hno]
  refine exW.i2 (t := .ptr) (u := .int .i64) (some ⟨q, 0, none⟩) 0 rfl (VSet.i (VIf.f rfl ?_))
  rw [if_pos hyes]
  have e5 := e4w.then0 e45
  have k5 := k4.ext0 e45
  have R5 := (h5.mono (w0 := w) hs4).r
  have hs : s.len = a.toNat := by rw [R5.p.len]; simp
  have hdl : d.len = n.toNat := by rw [R5.d.len]; simp
  have hrq : w.heap.size ≤ rq := by omega
  refine VNN.i (VLd.s s R5.rd0 ?_)
  have hPl : ∀ k, (rPls n k st4).1.length = k := fun k => by
    induction k with
    | zero => rfl
    | succ k ih => simp only [rPls, List.length_append, ih, List.length_singleton]
  have hFl : ∀ k st, (rFls k st).1.length = k := fun k st => by
    induction k with
    | zero => rfl
    | succ k ih => simp only [rFls, List.length_append, ih, List.length_singleton]
  refine ⟨fun k' ok i W => ∃ m : Nat, i = (m : Int) ∧ m ≤ a.toNat ∧ k' = a.toNat - m ∧ ok = allMay (rPls n m st4).1 ∧ RepC W r rq rd_ (rPls n m st4).2 ∧
    CfgR 52 w W q s d ⟨(rPls n m st4).1 ++ (List.replicate a.toNat ((0, 0, 0) : Pl)).drop m, List.replicate n.toNat false⟩ ∧ Ext [] w W, ⟨_, 0, rfl, by omega, rfl, rfl, k5, by simpa [rPls] using R5, e5⟩, ?_⟩
  rintro k' ok i w6 ⟨m, rfl, hm, rfl, rfl, k6, R6, e6⟩
  refine VIf.mk (fun hc => ?_) (fun hc => ?_)
  · have hm' : m < a.toNat := by simp at hc; omega
    refine VSet.i ?_
    intro w7 hw7
    have e67 := Ext.drew' hw7
    have k7 := k6.ext0 e67
    have R7 := R6.ext0 e67
    have e7 := e6.then0 e67
    have hsz7 := e7.size
    refine VNN.i (VLd.s s R7.rd0 (VNN.i (VLd.s d R7.rd1 (VNN.i (VLd.s d R7.rd1 ?_)))))
    have step : ∀ {W W' : World} {st st' : St}, RepC W r rq rd_ st → CfgR 52 w W q s d ⟨(rPls n m st4).1 ++ (List.replicate a.toNat ((0, 0, 0) : Pl)).drop m, List.replicate n.toNat false⟩ → Ext [] w W → Ext [rq] W W' →
        CfgR 52 w W' q s d ⟨(rPls n m st4).1 ++ (List.replicate a.toNat ((0, 0, 0) : Pl)).drop m, List.replicate n.toNat false⟩ ∧ Ext [] w W' := fun k R e e' => ⟨R.ext e' (k.no R), e.then e' (fun i hi hlt => by simp at hi; omega)⟩
    refine VCall.i (rCount_spec r rq rd_ 2147483647 _ w7 k7) ?_
    rintro e w8 ⟨rfl, k8, e78⟩
    obtain ⟨R8, e8⟩ := step (st' := none) k7 R7 e7 e78
    refine exW.i1 (t := .int .i64) _ rfl ⟨R8.rd1, R8.rd1, R8.rd0, ?_⟩
    rw [hdl, show ((n.toNat : Nat) : Int) = n by omega]
    refine VCall.i (rCount_spec r rq rd_ n _ w8 k8) ?_
    rintro e w9 ⟨rfl, k9, e89⟩
    obtain ⟨R9, e9⟩ := step (st' := none) k8 R8 e8 e89
    refine exW.i1 (t := .int .i64) _ rfl ⟨by rw [← hdl]; exact R9.rd1, R9.rd0, ?_⟩
    refine VCall.i (rCount_spec r rq rd_ n _ w9 k9) ?_
    rintro e w10 ⟨rfl, k10, e910⟩
    obtain ⟨R10, e10⟩ := step (st' := none) k9 R9 e9 e910
    refine exW.i1 (t := .int .i64) _ rfl ⟨R10.rd0, ?_⟩
    have hlen : m < ((rPls n m st4).1 ++ (List.replicate a.toNat ((0, 0, 0) : Pl)).drop m).length := by simp [hPl]; omega
    refine R10.putP hlen (rPl n (rPls n m st4).2).1 fun w11 R11 e1011 => ?_
    rw [take_set_drop _ _ _ _ (by simpa using hm') (hPl m)] at R11
    have hbks : ∀ y ∈ rowB s, ∃ cs, Bk w10 y cs 35 := fun y hy => R10.p.1.bk_of hy
    have k11 := k10.extT e1011 _ hbks (by decide) (by decide) (by decide)
    have e11 : Ext [] w w11 := e10.then e1011 (fun i hi hlt => by have := R10.p.2 i hi; omega)
    have hlt2 : m < ((rPls n m st4).1 ++ [(rPl n (rPls n m st4).2).1] ++ (List.replicate a.toNat ((0, 0, 0) : Pl)).drop (m + 1)).length := by simp [hPl]
    obtain ⟨ad, had, hrd⟩ := R11.p.seg.rec_at hlt2
    have hget : ((rPls n m st4).1 ++ [(rPl n (rPls n m st4).2).1] ++ (List.replicate a.toNat ((0, 0, 0) : Pl)).drop (m + 1))[m] = (rPl n (rPls n m st4).2).1 := by
      rw [List.getElem_append_left (by simp [hPl]), List.getElem_append_right (by simp [hPl])]
      simp [hPl]
    rw [hget] at hrd
    refine VNN.i (VLd.s s R11.rd0 ?_)
    rw [had]
    refine VIx.i (by omega) (by omega) (VLd.i3 _ _ _ hrd ?_)
    have fin : ∀ (b : Bool) (W : World), b = allMay (rPls n (m + 1) st4).1 → Ext [] w11 W → ∃ k'', k'' < a.toNat - m ∧ ∃ m' : Nat, IntKind.wrap .i64 (((m : Nat) : Int) + 1) = (m' : Int) ∧ m' ≤ a.toNat ∧ k'' = a.toNat - m' ∧ b = allMay (rPls n m' st4).1 ∧ RepC W r rq rd_ (rPls n m' st4).2 ∧
        CfgR 52 w W q s d ⟨(rPls n m' st4).1 ++ (List.replicate a.toNat ((0, 0, 0) : Pl)).drop m', List.replicate n.toNat false⟩ ∧ Ext [] w W := by
      intro b W hb' eW
      rw [w64 (n := ((m : Nat) : Int) + 1) (by omega)]
      exact ⟨_, by omega, m + 1, by omega, by omega, rfl, hb', k11.ext0 eW, R11.ext0 eW, e11.then0 eW⟩
    have hall : allMay (rPls n (m + 1) st4).1 = (allMay (rPls n m st4).1 && decide (may (rPl n (rPls n m st4).2).1)) := by
      unfold allMay
      simp [rPls]
    cases hok : allMay (rPls n m st4).1 with
    | false =>
      refine VCall.off rfl (exW.i1 (t := .bool) false trivial ?_)
      exact fin _ _ (by rw [hall, hok]; rfl) (Ext.refl _ _)
    | true =>
      refine VCall.on rfl (VCall.i (may_spec (rPl n (rPls n m st4).2).1 w11) ?_)
      rintro e w12 ⟨rfl, e12⟩
      refine exW.i1 (t := .bool) _ rfl ?_
      exact fin _ _ (by rw [hall, hok]) e12
  · have hmm : m = a.toNat := by simp at hc; omega
    subst hmm
    rw [show (List.replicate a.toNat ((0, 0, 0) : Pl)).drop a.toNat = [] by simp, List.append_nil] at R6
    generalize hP : (rPls n a.toNat st4).1 = P at *
    generalize hst : (rPls n a.toNat st4).2 = st6 at *
    refine VNN.i (VLd.s d R6.rd1 ?_)
    refine ⟨fun k' i W => ∃ m : Nat, i = (m : Int) ∧ m ≤ n.toNat ∧ k' = n.toNat - m ∧ RepC W r rq rd_ (rFls m st6).2 ∧
      CfgR 52 w W q s d ⟨P, (rFls m st6).1 ++ (List.replicate n.toNat false).drop m⟩ ∧ Ext [] w W, ⟨_, 0, rfl, by omega, rfl, k6, by simpa [rFls] using R6, e6⟩, ?_⟩
    rintro k' i w7 ⟨m, rfl, hm, rfl, k7, R7, e7⟩
    refine VIf.mk (fun hc2 => ?_) (fun hc2 => ?_)
    · have hm' : m < n.toNat := by simp at hc2; omega
      refine VSet.i ?_
      intro w8 hw8
      have e78 := Ext.drew' hw8
      have k8 := k7.ext0 e78
      have R8 := R7.ext0 e78
      have e8 := e7.then0 e78
      refine VNN.i (VLd.s d R8.rd1 ?_)
      refine VCall.i (rFlag_spec r rq rd_ _ w8 k8) ?_
      rintro e w9 ⟨rfl, k9, e89⟩
      have R9 := R8.ext e89 (k8.no R8)
      have e9 : Ext [] w w9 := e8.then e89 (fun i hi hlt => by simp at hi; omega)
      refine exW.i1 (t := .bool) _ rfl ⟨R9.rd1, ?_⟩
      have hlen : m < ((rFls m st6).1 ++ (List.replicate n.toNat false).drop m).length := by simp [hFl]; omega
      refine R9.putD hlen _ fun w10 R10 e910 => ?_
      rw [take_set_drop _ _ _ _ (by simpa using hm') (hFl m st6)] at R10
      have k10 := k9.extT e910 _ (fun y hy => R9.d.1.bk_of hy) (by decide) (by decide) (by decide)
      have e10 : Ext [] w w10 := e9.then e910 (fun i hi hlt => by have := R9.d.2 i hi; omega)
      rw [w64 (n := ((m : Nat) : Int) + 1) (by omega)]
      exact ⟨_, by omega, m + 1, by omega, by omega, rfl, k10, R10, e10⟩
    · have hmm : m = n.toNat := by simp at hc2; omega
      subst hmm
      rw [show (List.replicate n.toNat false).drop n.toNat = [] by simp, List.append_nil] at R7
      unfold decP
      rw [hP, hst]
      cases hok : allMay P with
      | false =>
        refine VCall.off rfl (exW.i1 (t := .bool) false trivial (VIf.t rfl ⟨e7, ?_⟩))
        rw [if_neg (fun h => by rw [allMay_iff.2 h.1] at hok; cases hok)]
      | true =>
        refine VCall.on rfl (VCall.i (rDone_spec r rq rd_ _ w7 k7) ?_)
        rintro e w8 ⟨rfl, hw⟩
        subst hw
        refine exW.i1 (t := .bool) _ rfl ?_
        cases hdn : rDone (rFls n.toNat st6).2 with
        | false =>
          refine VIf.t rfl ⟨e7, ?_⟩
          rw [if_neg (fun h => by cases h.2)]
        | true =>
          refine VIf.f rfl ⟨e7, ?_⟩
          have hcond : (∀ p ∈ P, may p) ∧ rDone (rFls n.toNat st6).2 = true := ⟨allMay_iff.1 hok, hdn⟩
          have hdec : decP a n st4 = some ⟨P, (rFls n.toNat st6).1⟩ := by
            unfold decP
            rw [hP, hst, if_pos hcond]
          rw [hdn] at hcond
          rw [if_pos hcond]
          obtain ⟨hokc, _⟩ := decP_some ⟨hyes.1, hyes.2.1⟩ ⟨hyes.2.2.1, hyes.2.2.2⟩ hdec
          exact ⟨q, s, d, rfl, R7.o hokc⟩
end Go.Proofs.Ytfihhleaciddpaa
