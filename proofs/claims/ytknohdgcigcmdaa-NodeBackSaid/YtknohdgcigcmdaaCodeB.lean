/-
  Package code, read: contracts of the reader: what each question is told, and what is left.
-/
import Derived.Test.YtknohdgcigcmdaaCodeA
namespace Go.Proofs.Ytknohdgcigcmdaa
open Go.RowKit
set_option maxRecDepth 100000

theorem first_spec (s : Sl) (l : List UInt8) (w : World) (h : Seg w s.base s.len 1 (bc l)) (hl : l.length ≤ 9223372036854775807) :
    Calls Try.prog 83 #[.slice s.base s.len s.cap] w fun e w' => e = .returned (.tuple #[.int .u64 ((go l 0 0).1 : Nat), .int .i64 ((go l 0 0).2 : Nat)]) ∧ w' = w := by
  refine sh_code_first_ok _ _ _ ?_
  unfold sh_code_first
  have hn := h.blen
  refine ⟨fun k u x W => ∃ (i m : Nat), x = (i : Int) ∧ u = (m : Int) ∧ k = l.length - i ∧ i ≤ l.length ∧ i ≤ 10 ∧ m < 2 ^ (7 * i) ∧ (i = 10 → m < 18446744073709551616) ∧ W = w ∧ go (l.drop i) i m = go l 0 0, ⟨_, 0, 0, rfl, rfl, rfl, by omega, by omega, by simp, by simp, rfl, rfl⟩, ?_⟩
  rintro k u x w1 ⟨i, m, rfl, rfl, rfl, hi, hi10, hm, hm10, rfl, hg⟩
  refine VIf.mk (fun hc => ?_) (fun hc => ?_)
  · simp at hc
    have hil : i < l.length := by omega
    obtain ⟨a, ha, hrd⟩ := h.at_ (i := i) (by omega)
    rw [ha]
    refine VIx.i (by omega) (by omega) ?_
    have hrd1 : Rd w1 (a.add (Int.toNat (i : Int) * 1)) [.int .u8 ((l[i].toNat : Nat) : Int)] := by
      have : ((bc l).drop (i * 1)).take 1 = [.int .u8 ((l[i].toNat : Nat) : Int)] := by
        rw [Nat.mul_one, bc_drop, List.drop_eq_getElem_cons hil]; rfl
      rw [this] at hrd
      simpa using hrd
    refine VLd.i1 _ hrd1 (VSet.i (VSet.i ?_))
    rw [List.drop_eq_getElem_cons hil] at hg
    have hcl := UInt8.toNat_lt l[i]
    generalize l[i] = c at *
    simp only [go] at hg
    refine VIf.mk (fun hc2 => ?_) (fun hc2 => ?_)
    · simp at hc2
      rw [if_pos (by omega)] at hg
      rw [← hg]; exact ⟨rfl, rfl⟩
    · simp at hc2
      rw [if_neg (by omega)] at hg
      have hi9 : i ≤ 9 := by omega
      rw [w64 (show -9223372036854775808 ≤ 7 * (i : Int) ∧ 7 * (i : Int) ≤ 9223372036854775807 by omega)]
      have hpw : 2 ^ (7 * i) * (c.toNat % 128) + m < 18446744073709551616 ∧ (c.toNat % 128 < 128) ∧ 2 ^ (7 * i) * (c.toNat % 128) + m < 2 ^ (7 * (i + 1)) := by
        have h1 : c.toNat % 128 < 128 := by omega
        have h2 : 2 ^ (7 * i) * (c.toNat % 128) + m < 2 ^ (7 * i) * (c.toNat % 128 + 1) := by rw [Nat.mul_add]; omega
        have h3 : 2 ^ (7 * i) * (c.toNat % 128 + 1) ≤ 2 ^ (7 * i) * 128 := Nat.mul_le_mul_left _ (by omega)
        refine ⟨?_, h1, by rw [pow7]; omega⟩
        by_cases h9 : i = 9
        · subst h9
          have : c.toNat ≤ 1 := by omega
          have h4 : 2 ^ (7 * 9) * (c.toNat % 128 + 1) ≤ 2 ^ (7 * 9) * 2 := Nat.mul_le_mul_left _ (by omega)
          omega
        · have : 2 ^ (7 * i) ≤ 2 ^ 56 := Nat.pow_le_pow_right (by omega) (by omega)
          omega
      refine VCk.i (by omega) (VSet.i ?_)
      have hu : bOr .u64 (m : Int) (IntKind.wrap .u64 ((IntKind.wrap .u64 (bAnd .u8 ((c.toNat : Nat) : Int) 127)) * 2 ^ (min (Int.toNat (7 * (i : Int))) (IntKind.bits .u64)))) = ((m + 2 ^ (7 * i) * (c.toNat % 128) : Nat) : Int) := by
        have h1 := and127 ⟨c.toNat, hcl⟩
        simp only at h1
        have hb : IntKind.bits .u64 = 64 := rfl
        rw [h1, hb, show min (Int.toNat (7 * (i : Int))) 64 = 7 * i by omega, w64u ((c.toNat % 128 : Nat) : Int), show ((c.toNat % 128 : Nat) : Int) % 18446744073709551616 = ((c.toNat % 128 : Nat) : Int) by omega]
        have h2 : ((c.toNat % 128 : Nat) : Int) * 2 ^ (7 * i) = ((2 ^ (7 * i) * (c.toNat % 128) : Nat) : Int) := by
          rw [Int.natCast_mul, Int.mul_comm, Int.natCast_pow]; rfl
        rw [h2, w64u, show ((2 ^ (7 * i) * (c.toNat % 128) : Nat) : Int) % 18446744073709551616 = ((2 ^ (7 * i) * (c.toNat % 128) : Nat) : Int) by omega]
        rw [bOr_add (7 * i) (c.toNat % 128) m hm (by omega)]
        rw [Nat.add_comm]
      rw [hu]
      refine VIf.mk (fun hc3 => ?_) (fun hc3 => ?_)
      · simp at hc3
        rw [if_pos (by omega)] at hg
        rw [w64 (show -9223372036854775808 ≤ (i : Int) + 1 ∧ (i : Int) + 1 ≤ 9223372036854775807 by omega)]
        refine VSet.i (VSet.i ⟨?_, rfl⟩)
        rw [← hg, show c.toNat % 128 = c.toNat by omega]
        rfl
      · simp at hc3
        rw [if_neg (by omega)] at hg
        rw [w64 (show -9223372036854775808 ≤ (i : Int) + 1 ∧ (i : Int) + 1 ≤ 9223372036854775807 by omega)]
        exact ⟨_, by omega, i + 1, _, by omega, rfl, rfl, by omega, by omega, by omega, fun h => by omega, rfl, hg⟩
  · simp at hc
    have : i = l.length := by omega
    rw [this, List.drop_length] at hg
    rw [← hg]; exact ⟨rfl, rfl⟩

/-- a reader: what is left, or none: it failed -/
def RepC (w : World) (r q d : Nat) (st : Option (List UInt8)) : Prop :=
  ∃ (s : Sl) (f : Bool) (l : List UInt8), Bk w r [.pointer (some ⟨q, 0, none⟩)] 108 ∧ Bk w q [.slice s.base s.len s.cap, .bool f] 106 ∧ BSl w s d l ∧ st = (if f then none else some l)
theorem RepC.ext {M : List Nat} {w w' : World} {r q d : Nat} {st : Option (List UInt8)} (h : RepC w r q d st) (e : Ext M w w') (h1 : r ∉ M) (h2 : q ∉ M) (h3 : d ∉ M) : RepC w' r q d st := by
  obtain ⟨s, f, l, hr, hq, hs, hst⟩ := h
  exact ⟨s, f, l, hr.ext e h1, hq.ext e h2, hs.ext e (fun _ => h3), hst⟩
theorem RepC.ext0 {w w' : World} {r q d : Nat} {st : Option (List UInt8)} (h : RepC w r q d st) (e : Ext [] w w') : RepC w' r q d st := h.ext e (by simp) (by simp) (by simp)
theorem RepC.ne {w : World} {r q d : Nat} {st : Option (List UInt8)} (h : RepC w r q d st) : r ≠ q := by
  obtain ⟨s, f, l, hr, hq, _⟩ := h
  exact hr.ne' hq (by decide)

theorem NewReader_spec (s : Sl) (l : List UInt8) (w : World) (h : Seg w s.base s.len 1 (bc l)) (hl : l.length ≤ 140737488355328) :
    Calls Try.prog 52 #[.slice s.base s.len s.cap] w fun e w' => ∃ r q d : Nat, e = .returned (.pointer (some ⟨r, 0, none⟩)) ∧ RepC w' r q d (some l) ∧ Ext [] w w' ∧ w.heap.size ≤ r ∧ w.heap.size ≤ q ∧ w.heap.size ≤ d := by
  refine sh_code_NewReader_ok _ _ _ ?_
  unfold sh_code_NewReader
  refine VCall.i (Clone_spec s l w h hl) ?_
  rintro e w1 ⟨s1, rfl, h1, e1⟩
  refine exW.i1 (t := .sl) s1 rfl ?_
  refine VNw.i fun q w2 hq hk2 e2 => ?_
  refine VNw.i fun r w3 hr hk3 e3 => ?_
  have z1 := e1.size
  have z2 := e2.size
  obtain ⟨d, hd, hb⟩ := ((h1.ext0 e2).ext0 e3).bsl r (by omega)
  have hk2' := hk2.ext e3
  exact ⟨r, q, d, rfl, ⟨s1, false, l, hk3, hk2', hb, rfl⟩, (e1.then0 e2).then0 e3, by omega, by omega, hd⟩

theorem rOK_spec (r q d : Nat) (st : Option (List UInt8)) (w : World) (h : RepC w r q d st) :
    Calls Try.prog 55 #[.pointer (some ⟨r, 0, none⟩)] w fun e w' => e = .returned (.bool st.isSome) ∧ w' = w := by
  refine sh_code_Reader_OK_ok _ _ _ ?_
  unfold sh_code_Reader_OK
  obtain ⟨s, f, l, hr, hq, hs, rfl⟩ := h
  refine VNN.i (VLd.i1 (t := .ptr) _ (Rd.of_bk hr rfl) ?_)
  refine VCall.on rfl (VCall.i (R0 := fun e w' => e = .returned (.bool (!f)) ∧ w' = w) ?_ ?_)
  · refine sh_code_rest_OK_ok _ _ _ ?_
    unfold sh_code_rest_OK
    refine VNN.i (VLd.i1 (t := .bool) f (Rd.of_bk hq rfl) ?_)
    exact ⟨by simp, rfl⟩
  · rintro e w1 ⟨rfl, rfl⟩
    refine exW.i1 _ rfl ⟨?_, rfl⟩
    cases f <;> rfl
theorem rOK_nil (w : World) : Calls Try.prog 55 #[.pointer none] w fun e w' => e = .returned (.bool false) ∧ w' = w := by
  refine sh_code_Reader_OK_ok _ _ _ ?_
  unfold sh_code_Reader_OK
  refine VNN.n _ rfl _ ⟨0, 0, none⟩ ?_
  refine ⟨none, fun e => absurd e (by simp), ?_⟩
  refine VCall.off rfl (exW.i1 (t := .bool) false trivial ?_)
  exact ⟨rfl, rfl⟩

theorem rLeft_spec (r q d : Nat) (st : Option (List UInt8)) (w : World) (h : RepC w r q d st) :
    Calls Try.prog 57 #[.pointer (some ⟨r, 0, none⟩)] w fun e w' => e = .returned (.int .i64 ((st.getD []).length : Nat)) ∧ w' = w := by
  refine sh_code_Reader_Left_ok _ _ _ ?_
  unfold sh_code_Reader_Left
  obtain ⟨s, f, l, hr, hq, hs, rfl⟩ := h
  refine VIf.f rfl (VNN.i (VLd.i1 (t := .ptr) _ (Rd.of_bk hr rfl) ?_))
  refine VCall.i (R0 := fun e w' => e = .returned (.int .i64 (((if f then none else some l : Option (List UInt8)).getD []).length : Nat)) ∧ w' = w) ?_ ?_
  · refine sh_code_rest_Left_ok _ _ _ ?_
    unfold sh_code_rest_Left
    refine VNN.i (VLd.i1 (t := .bool) f (Rd.of_bk hq rfl) ?_)
    cases f with
    | true => exact VIf.t rfl ⟨rfl, rfl⟩
    | false => exact VIf.f rfl (VNN.i (VLd.sl _ _ _ (Rd.of_bk hq rfl) (VSet.i ⟨by rw [hs.1]; rfl, rfl⟩)))
  · rintro e w1 ⟨rfl, rfl⟩
    exact exW.i1 _ rfl (VSet.i ⟨rfl, rfl⟩)
theorem rLeft_nil (w : World) : Calls Try.prog 57 #[.pointer none] w fun e w' => e = .returned (.int .i64 0) ∧ w' = w := by
  refine sh_code_Reader_Left_ok _ _ _ ?_
  unfold sh_code_Reader_Left
  exact VIf.t rfl ⟨rfl, rfl⟩

/-- all is read, and nothing failed -/
def rDone (st : Option (List UInt8)) : Bool := match st with | some [] => true | _ => false
theorem take_spec (r q d : Nat) (l : List UInt8) (n : Nat) (w : World) (h : RepC w r q d (some l)) (hn : n ≤ l.length) :
    Calls Try.prog 84 #[.pointer (some ⟨q, 0, none⟩), .int .i64 (n : Int)] w fun e w' =>
      ∃ s' : Sl, e = .returned (.slice s'.base s'.len s'.cap) ∧ BSl w' s' d (l.take n) ∧ RepC w' r q d (some (l.drop n)) ∧ Ext [q] w w' := by
  refine sh_code_rest_take_ok _ _ _ _ ?_
  unfold sh_code_rest_take
  have hne := h.ne
  obtain ⟨s, f, l', hr, hq, hs, hst⟩ := h
  cases f with
  | true => cases hst
  | false =>
  simp only [Bool.false_eq_true, if_false, Option.some.injEq] at hst
  subst hst
  have h1 := hs.1
  have h2 := hs.2.1
  refine VNN.i (VLd.sl _ _ _ (Rd.of_bk hq rfl) (VCk.i (show (0 : Int) ≤ 0 ∧ 0 ≤ (n : Int) ∧ (n : Int) ≤ ((s.cap : Nat) : Int) by omega) ?_))
  refine VNN.i (VLd.sl _ _ _ (Rd.of_bk hq rfl) (VCk.i (show (0 : Int) ≤ (n : Int) ∧ (n : Int) ≤ ((s.len : Nat) : Int) ∧ ((s.len : Nat) : Int) ≤ ((s.cap : Nat) : Int) by omega) (VNN.i ?_)))
  simp only [Int.toNat_natCast]
  refine VSt.bk hq rfl (by simp) fun w1 hq1 e1 => ?_
  have hd : s.len ≠ 0 → d ∉ [q] := fun hz => by simpa using hs.ne hq (by decide) hz
  have hs1 := hs.ext e1 hd
  exact ⟨⟨cutB s.base s.cap 1 0, n - 0, s.cap - 0⟩, rfl, hs1.head n hn, ⟨⟨cutB s.base s.cap 1 n, s.len - n, s.cap - n⟩, false, _, hr.ext e1 (by simpa using hne), hq1, hs1.cut n hn, rfl⟩, e1⟩

def RuvPost (w : World) (r q d : Nat) (o : Option (Nat × List UInt8)) (e : Ending) (w' : World) : Prop :=
  match o with
  | none => e = .returned (.tuple #[.int .u64 0, .bool false]) ∧ w' = w
  | some (u, t) => e = .returned (.tuple #[.int .u64 (u : Int), .bool true]) ∧ RepC w' r q d (some t) ∧ Ext [q] w w'
theorem ruv_spec (r q d : Nat) (st : Option (List UInt8)) (w : World) (h : RepC w r q d st) :
    Calls Try.prog 74 #[.pointer (some ⟨r, 0, none⟩)] w (RuvPost w r q d (st.bind rd)) := by
  refine sh_code_Reader_uvarint_ok _ _ _ ?_
  unfold sh_code_Reader_uvarint
  refine VCall.i (rOK_spec r q d st w h) ?_
  rintro e w1 ⟨rfl, rfl⟩
  refine exW.i1 _ rfl ?_
  cases st with
  | none => exact VIf.t rfl ⟨rfl, rfl⟩
  | some l =>
  refine VIf.f rfl ?_
  have h' := h
  obtain ⟨s, f, l', hr, hq, hs, hst⟩ := h'
  cases f with
  | true => cases hst
  | false =>
  simp only [Bool.false_eq_true, if_false, Option.some.injEq] at hst
  subst hst
  refine VNN.i (VLd.i1 (t := .ptr) _ (Rd.of_bk hr rfl) (VNN.i (VLd.sl _ _ _ (Rd.of_bk hq rfl) ?_)))
  have h1 := hs.1
  have h2 := hs.2.1
  have h3 := hs.2.2.1
  refine VCall.i (first_spec s l w1 hs.seg (by omega)) ?_
  rintro e w2 ⟨rfl, rfl⟩
  refine exW.i2 (t := .int .u64) (u := .int .i64) _ _ rfl (VSet.i (VSet.i ?_))
  obtain ⟨x, n, hg⟩ : ∃ x n, go l 0 0 = (x, n) := ⟨_, _, rfl⟩
  have hrd : rd l = if n = 0 ∨ (1 < n ∧ l.getD (n - 1) 0 = 0) then none else some (x, l.drop n) := by unfold rd; rw [hg]
  rw [Option.bind_some, hrd, hg]
  show VNN (some ((!(decide ((n : Int) ≤ 0))) && (decide ((n : Int) > 1)))) _ _
  by_cases hn0 : n = 0
  · subst hn0
    rw [if_pos (.inl rfl)]
    refine VNN.n _ rfl _ ⟨0, 0, none⟩ ⟨none, fun e => absurd e (by simp), ?_⟩
    refine VNN.n _ rfl _ ⟨0, 0, none⟩ ⟨⟨none, 0, 0⟩, fun e => absurd e (by simp), ?_⟩
    refine ⟨⟨0, 0, none⟩, fun e => absurd e (by simp), ?_⟩
    refine ⟨(0 : Int), fun e => absurd e (by simp), ?_⟩
    exact VIf.t rfl ⟨rfl, rfl⟩
  · obtain ⟨_, hn10, hnl, _⟩ := go_ok l 0 0 x n (by omega) hg hn0
    rw [Nat.sub_zero] at hnl
    obtain ⟨o, ho⟩ : ∃ o, o = (if n = 0 ∨ (1 < n ∧ l.getD (n - 1) 0 = 0) then none else some (x, l.drop n) : Option (Nat × List UInt8)) := ⟨_, rfl⟩
    rw [← ho]
    have step : ∀ (v : Int), (1 < n → v = ((l.getD (n - 1) 0).toNat : Nat)) →
        VIf ((decide ((n : Int) ≤ 0)) || ((decide ((n : Int) > 1)) && (v == 0))) (
          RuvPost w2 r q d o (.returned (.tuple #[.int .u64 0, .bool false])) w2) (
          VNN none (some ⟨r, 0, none⟩) fun (a41 : Addr) =>
          VLd none w2 a41 [CT.ptr] fun (v43 : Option Addr) =>
          VCall none Try.prog 84 #[.pointer v43, .int .i64 (n : Int)] w2 (.slice none 0 0) fun (r45 : Sl) (w3 : World) =>
          VSet (x : Int) fun (v2 : Int) => RuvPost w2 r q d o (.returned (.tuple #[.int .u64 v2, .bool true])) w3) := by
      intro v hv
      refine VIf.mk (fun hc => ?_) (fun hc => ?_)
      · simp at hc
        have hcond : n = 0 ∨ (1 < n ∧ l.getD (n - 1) 0 = 0) := by
          right
          have : 1 < n := by omega
          refine ⟨this, UInt8.toNat_inj.1 ?_⟩
          have := hv this
          have h0 : (0 : UInt8).toNat = 0 := rfl
          omega
        rw [ho, if_pos hcond]
        exact ⟨rfl, rfl⟩
      · simp at hc
        have hcond : ¬ (n = 0 ∨ (1 < n ∧ l.getD (n - 1) 0 = 0)) := by
          rintro (h0 | ⟨h0, h5⟩)
          · omega
          · have := hv h0
            rw [h5] at this
            have h0 : (0 : UInt8).toNat = 0 := rfl
            omega
        rw [ho, if_neg hcond]
        refine VNN.i (VLd.i1 (t := .ptr) _ (Rd.of_bk hr rfl) ?_)
        refine VCall.i (take_spec r q d l n w2 h hnl) ?_
        rintro e w3 ⟨s', rfl, _, h7, e7⟩
        exact exW.i1 (t := .sl) s' rfl (VSet.i ⟨rfl, h7, e7⟩)
    by_cases hn1 : 1 < n
    · refine VNN.i (VLd.i1 (t := .ptr) _ (Rd.of_bk hr rfl) (VNN.i (VLd.sl _ _ _ (Rd.of_bk hq rfl) ?_)))
      rw [w64 (show -9223372036854775808 ≤ (n : Int) - 1 ∧ (n : Int) - 1 ≤ 9223372036854775807 by omega)]
      obtain ⟨a, ha, hra⟩ := hs.seg.at_ (i := n - 1) (by omega)
      simp only [ha]
      refine VIx.i (by omega) (by omega) ?_
      have hra1 : Rd w2 (a.add (Int.toNat ((n : Int) - 1) * 1)) [.int .u8 (((l.getD (n - 1) 0).toNat : Nat) : Int)] := by
        have : ((bc l).drop ((n - 1) * 1)).take 1 = [.int .u8 (((l.getD (n - 1) 0).toNat : Nat) : Int)] := by
          rw [Nat.mul_one, bc_drop, List.drop_eq_getElem_cons (show n - 1 < l.length by omega), List.getD_eq_getElem?_getD, List.getElem?_eq_getElem (show n - 1 < l.length by omega)]; rfl
        rw [this] at hra
        rw [show Int.toNat ((n : Int) - 1) = n - 1 by omega]
        exact hra
      refine VLd.i1 (t := .int .u8) _ hra1 ?_
      exact step _ (fun _ => rfl)
    · have h1n : n = 1 := by omega
      refine VNN.n _ (by simp; omega) _ ⟨0, 0, none⟩ ⟨none, fun e => absurd e (by simp; omega), ?_⟩
      refine VNN.n _ (by simp; omega) _ ⟨0, 0, none⟩ ⟨⟨none, 0, 0⟩, fun e => absurd e (by simp; omega), ?_⟩
      refine ⟨⟨0, 0, none⟩, fun e => absurd e (by simp; omega), ?_⟩
      refine ⟨(0 : Int), fun e => absurd e (by simp; omega), ?_⟩
      exact step 0 (fun h => absurd h hn1)

/-! told -/
theorem RepC.fail {w : World} {r q d : Nat} {st : Option (List UInt8)} (h : RepC w r q d st) {K : World → Prop} (k : ∀ w', RepC w' r q d none → Ext [q] w w' → K w') :
    VNN none (some ⟨r, 0, none⟩) fun (a11 : Addr) => VLd none w a11 [CT.ptr] fun (v13 : Option Addr) => VNN none v13 fun (a14 : Addr) => VSt none w (Addr.add a14 1) [.bool true] K := by
  have hne := h.ne
  obtain ⟨s, f, l, hr, hq, hs, rfl⟩ := h
  refine VNN.i (VLd.i1 (t := .ptr) _ (Rd.of_bk hr rfl) (VNN.i ?_))
  rw [add_blk]
  refine VSt.bk hq rfl (by simp) fun w1 hq1 e1 => k w1 ?_ e1
  exact ⟨s, true, l, hr.ext e1 (by simpa using hne), hq1, hs.ext e1 (fun hz => by simpa using hs.ne hq (by decide) hz), rfl⟩

theorem tellInt (r q d : Nat) (st : Option (List UInt8)) (v : Int) (ok : Bool) (w : World) (h : RepC w r q d st) :
    Calls Try.prog 75 #[.pointer (some ⟨r, 0, none⟩), .int .i64 v, .bool ok] w fun e w' =>
      e = .returned (.int .i64 (if ok && st.isSome then v else 0)) ∧ RepC w' r q d (if ok then st else none) ∧ Ext [q] w w' := by
  refine sh_code_told_ok _ _ _ _ _ ?_
  unfold sh_code_told
  refine ⟨fun W => RepC W r q d (if ok then st else none) ∧ Ext [q] w W, ?_, ?_⟩
  · cases ok with
    | true => exact VIf.f rfl ⟨h, Ext.refl _ _⟩
    | false => exact VIf.t rfl (h.fail fun w' h' e' => ⟨h', e'⟩)
  · rintro w1 ⟨h1, e1⟩
    have h1' := h1
    obtain ⟨s, f, l, hr, hq, hs, hst⟩ := h1'
    refine VNN.i (VLd.i1 (t := .ptr) _ (Rd.of_bk hr rfl) (VNN.i (VLd.i1 (t := .bool) f (Rd.of_bk hq rfl) ?_)))
    cases f with
    | true =>
      refine VIf.t rfl (VSet.i ⟨?_, h1, e1⟩)
      cases ok <;> cases st <;> simp_all
    | false =>
      refine VIf.f rfl (VSet.i ⟨?_, h1, e1⟩)
      cases ok <;> cases st <;> simp_all
theorem tellStr (r q d : Nat) (st : Option (List UInt8)) (v : ByteArray) (ok : Bool) (w : World) (h : RepC w r q d st) :
    Calls Try.prog 85 #[.pointer (some ⟨r, 0, none⟩), .string v, .bool ok] w fun e w' =>
      e = .returned (.string (if ok && st.isSome then v else ⟨#[]⟩)) ∧ RepC w' r q d (if ok then st else none) ∧ Ext [q] w w' := by
  refine sh_code_told'_ok _ _ _ _ _ ?_
  unfold sh_code_told'
  refine ⟨fun W => RepC W r q d (if ok then st else none) ∧ Ext [q] w W, ?_, ?_⟩
  · cases ok with
    | true => exact VIf.f rfl ⟨h, Ext.refl _ _⟩
    | false => exact VIf.t rfl (h.fail fun w' h' e' => ⟨h', e'⟩)
  · rintro w1 ⟨h1, e1⟩
    have h1' := h1
    obtain ⟨s, f, l, hr, hq, hs, hst⟩ := h1'
    refine VNN.i (VLd.i1 (t := .ptr) _ (Rd.of_bk hr rfl) (VNN.i (VLd.i1 (t := .bool) f (Rd.of_bk hq rfl) ?_)))
    cases f with
    | true =>
      refine VIf.t rfl ?_
      cases ok <;> cases st <;> first | exact ⟨rfl, h1, e1⟩ | simp_all
    | false =>
      refine VIf.f rfl ?_
      cases ok <;> cases st <;> first | exact ⟨rfl, h1, e1⟩ | simp_all
end Go.Proofs.Ytknohdgcigcmdaa
