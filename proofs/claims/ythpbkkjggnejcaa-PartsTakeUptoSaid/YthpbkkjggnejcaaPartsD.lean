/-
  Package parts: a packet is read.
-/
import Derived.Test.YthpbkkjggnejcaaPartsB
namespace Go.Proofs.Ythpbkkjggnejcaa
open Go.RowKit
set_option maxRecDepth 100000

structure PT where
  number : Int
  place : Int
  count : Int
  data : ByteArray
def zPT : PT := ⟨0, 0, 0, ByteArray.empty⟩
def ptC (p : PT) : List Value := [.int .i64 p.number, .int .i64 p.place, .int .i64 p.count, .string p.data]
def badP (place count : Int) (n : Nat) : Prop := (place ≠ count - 1 ∧ n < 380) ∨ (place = count - 1 ∧ n = 0 ∧ 1 < count) ∨ 8192 < place * 380 + n
instance (p c : Int) (n : Nat) : Decidable (badP p c n) := by unfold badP; infer_instance
def rawP (st : Option (List UInt8)) : PT × Option (List UInt8) :=
  (⟨(rCount 2147483647 st).1, (rCount 21 (rCount 2147483647 st).2).1, (rCount 22 (rCount 21 (rCount 2147483647 st).2).2).1, (rStr 380 (rCount 22 (rCount 21 (rCount 2147483647 st).2).2).2).1⟩, (rStr 380 (rCount 22 (rCount 21 (rCount 2147483647 st).2).2).2).2)
/-- the part of a packet, or why there is none -/
def readP (l : List UInt8) : PT × Int :=
  if (openF l).2.2 ≠ 0 then (zPT, (openF l).2.2)
  else if (openF l).1 ≠ 1 ∨ rDone (rawP (some (openF l).2.1)).2 = false ∨ (rawP (some (openF l).2.1)).1.count ≤ (rawP (some (openF l).2.1)).1.place then (zPT, 4)
  else if badP (rawP (some (openF l).2.1)).1.place (rawP (some (openF l).2.1)).1.count (rawP (some (openF l).2.1)).1.data.size then (zPT, 4)
  else ((rawP (some (openF l).2.1)).1, 0)
theorem rCount_le (most : Int) (h0 : 0 ≤ most) (st : Option (List UInt8)) : (rCount most st).1 ≤ most := by
  unfold rCount
  split
  · exact h0
  · split
    · simp only; omega
    · exact h0
theorem rStr_le (most : Int) (h0 : 0 ≤ most) (st : Option (List UInt8)) : ((rStr most st).1.size : Int) ≤ most := by
  have h1 := rCount_le most h0 st
  have h2 := (rCount_pos most st).1
  unfold rStr
  split
  · show ((0 : Nat) : Int) ≤ most
    omega
  · split
    · rename_i t _ hc
      have : (⟨(t.take (rCount most st).1.toNat).toArray⟩ : ByteArray).size = (t.take (rCount most st).1.toNat).length := by simp [ByteArray.size]
      simp only [this, List.length_take]
      omega
    · show ((0 : Nat) : Int) ≤ most
      omega
theorem rCount_lim {m1 m2 : Int} (h : 0 ≤ m1) (h2 : m1 ≤ m2) (st : Option (List UInt8)) : rCount m1 st = if (rCount m2 st).1 ≤ m1 then rCount m2 st else (0, none) := by
  unfold rCount
  cases hb : st.bind rd with
  | none => simp [h]
  | some p =>
    obtain ⟨u, t⟩ := p
    simp only
    by_cases hc2 : 0 ≤ m2 ∧ (u : Int) ≤ 2147483647 ∧ (u : Int) ≤ m2
    · rw [if_pos hc2]
      simp only
      by_cases hc1 : (u : Int) ≤ m1
      · rw [if_pos ⟨h, hc2.2.1, hc1⟩, if_pos hc1]
      · rw [if_neg (by omega), if_neg hc1]
    · rw [if_neg hc2, if_neg (by omega)]
      simp only [h, if_true]
theorem rStr_lim {m1 m2 : Int} (h : 0 ≤ m1) (h2 : m1 ≤ m2) (st : Option (List UInt8)) : rStr m1 st = if ((rStr m2 st).1.size : Int) ≤ m1 then rStr m2 st else (⟨#[]⟩, none) := by
  have he : (⟨#[]⟩ : ByteArray).size = 0 := rfl
  have hp := rCount_pos m2 st
  have hl := rCount_lim h h2 st
  unfold rStr
  rw [hl]
  by_cases hc : (rCount m2 st).1 ≤ m1
  · rw [if_pos hc]
    cases hs : (rCount m2 st).2 with
    | none => simp [h, he]
    | some t =>
      simp only
      split
      · rename_i hn
        have : ((⟨(t.take (rCount m2 st).1.toNat).toArray⟩ : ByteArray).size : Int) ≤ m1 := by
          have h3 : (⟨(t.take (rCount m2 st).1.toNat).toArray⟩ : ByteArray).size = (t.take (rCount m2 st).1.toNat).length := by simp [ByteArray.size]
          rw [h3, List.length_take]; omega
        rw [if_pos this]
      · simp [h, he]
  · rw [if_neg hc]
    simp only
    cases hs : (rCount m2 st).2 with
    | none => simp [h, he]
    | some t =>
      simp only
      split
      · rename_i hn
        have : ¬ ((⟨(t.take (rCount m2 st).1.toNat).toArray⟩ : ByteArray).size : Int) ≤ m1 := by
          have h3 : (⟨(t.take (rCount m2 st).1.toNat).toArray⟩ : ByteArray).size = (t.take (rCount m2 st).1.toNat).length := by simp [ByteArray.size]
          rw [h3, List.length_take]; omega
        rw [if_neg this]
      · simp [h, he]
theorem rDone_none : rDone none = false := rfl
theorem ptC_rd {w : World} {b : Nat} {t : TypeId} {p : PT} (h : Bk w b (ptC p) t) : Rd w ⟨b, 0, none⟩ (ptC p) := Rd.of_bk h rfl
theorem exW.pt {e : Ending} {w : World} {K : ArrW [CT.int .i64, CT.int .i64, CT.int .i64, CT.str, CT.int .i64]} (p : PT) (n : Int) (he : e = .returned (.tuple #[.agg (ptC p).toArray, .int .i64 n])) (k : K p.number p.place p.count p.data n w) :
    exW (flatCT (.tuple #[.agg #[.int .i64 0, .int .i64 0, .int .i64 0, .string ByteArray.empty], .int .i64 0])) (fun vs => e = .returned (rebuild (.tuple #[.agg #[.int .i64 0, .int .i64 0, .int .i64 0, .string ByteArray.empty], .int .i64 0]) vs)) K w := ⟨p.number, p.place, p.count, p.data, n, he, k⟩
theorem VLd.pt {w : World} {a : Addr} {K : ArrP [CT.int .i64, CT.int .i64, CT.int .i64, CT.str]} (p : PT) (h : Rd w a (ptC p)) (k : K p.number p.place p.count p.data) : VLd none w a [CT.int .i64, CT.int .i64, CT.int .i64, CT.str] K := ⟨p.number, p.place, p.count, p.data, h, k⟩
theorem size0 (x : ByteArray) : (x.toList == (ByteArray.mk #[]).toList) = decide (x.size = 0) := by
  rw [strEq, ba_size, Bool.eq_iff_iff, decide_eq_true_eq, beq_iff_eq]
  exact ⟨fun h => by rw [h]; rfl, fun h => List.eq_nil_of_length_eq_zero h⟩
theorem read_spec (s : Sl) (l : List UInt8) (w : World) (h : In w s l) :
    Calls Try.prog 24 #[.slice s.base s.len s.cap] w fun e w' => e = .returned (.tuple #[.agg (ptC (readP l).1).toArray, .int .i64 (readP l).2]) ∧ Ext [] w w' := by
  refine sh_parts_read_ok _ _ _ ?_
  unfold sh_parts_read
  refine VNw.i fun b2 w1 hb2 hk1 e1 => ?_
  refine VCall.i (Open_spec s l w1 (h.ext0 e1)) ?_
  rintro e w2 ⟨t, rfl, ht, e2⟩
  refine exW.i3 (t := .int .u8) (u := .sl) (v := .int .i64) _ t _ rfl (VSet.i (VSet.i (VIf.mk (fun hc => ?_) (fun hc => ?_))))
  · have hc : (openF l).2.2 ≠ 0 := by simpa using hc
    have hr : readP l = (zPT, (openF l).2.2) := by unfold readP; rw [if_pos hc]
    rw [hr]
    refine VSt.bk (hk1.ext e2) rfl (by simp) fun w3 hk3 e3 => VSet.i ?_
    have hk3 : Bk w3 b2 (ptC zPT) _ := hk3
    exact VLd.pt zPT (Rd.of_bk hk3 rfl) ⟨rfl, (e1.then0 e2).then e3 (fun i hi hlt => by simp at hi; omega)⟩
  have hc : (openF l).2.2 = 0 := by simpa using hc
  have hol : (openF l).2.1.length ≤ 140737488355328 := by
    unfold openF
    split
    · rename_i hf
      split
      · simp only [List.length_drop, List.length_take]
        have := hf.2.1
        omega
      · simp
    · simp
  refine VCall.i (NewReader_spec t _ w2 ht.seg hol) ?_
  rintro e w4 ⟨r, q, d, rfl, h4, e4, gr, gq, gd⟩
  refine exW.i1 (t := .ptr) _ rfl ?_
  refine VCall.i (rCount_spec r q d 2147483647 _ w4 h4) ?_
  rintro e w5 ⟨rfl, h5, e5⟩
  refine exW.i1 (t := .int .i64) _ rfl (VCall.i (rCount_spec r q d 21 _ w5 h5) ?_)
  rintro e w6 ⟨rfl, h6, e6⟩
  refine exW.i1 (t := .int .i64) _ rfl (VCall.i (rCount_spec r q d 22 _ w6 h6) ?_)
  rintro e w7 ⟨rfl, h7, e7⟩
  refine exW.i1 (t := .int .i64) _ rfl (VCall.i (rStr_spec r q d 380 _ w7 h7) ?_)
  rintro e w8 ⟨rfl, h8, e8⟩
  refine exW.i1 (t := .str) _ rfl ?_
  obtain ⟨p, hp⟩ : ∃ p, p = (rawP (some (openF l).2.1)).1 := ⟨_, rfl⟩
  obtain ⟨sx, hsx⟩ : ∃ sx, sx = (rawP (some (openF l).2.1)).2 := ⟨_, rfl⟩
  have p1 : (rCount 2147483647 (some (openF l).2.1)).1 = p.number := by rw [hp]; rfl
  have p2 : (rCount 21 (rCount 2147483647 (some (openF l).2.1)).2).1 = p.place := by rw [hp]; rfl
  have p3 : (rCount 22 (rCount 21 (rCount 2147483647 (some (openF l).2.1)).2).2).1 = p.count := by rw [hp]; rfl
  have p4 : (rStr 380 (rCount 22 (rCount 21 (rCount 2147483647 (some (openF l).2.1)).2).2).2).1 = p.data := by rw [hp]; rfl
  have h8 : RepC w8 r q d sx := by rw [hsx]; exact h8
  have r2 : 0 ≤ p.place ∧ p.place ≤ 21 := by rw [← p2]; exact ⟨(rCount_pos _ _).1, rCount_le _ (by omega) _⟩
  have r3 : 0 ≤ p.count ∧ p.count ≤ 22 := by rw [← p3]; exact ⟨(rCount_pos _ _).1, rCount_le _ (by omega) _⟩
  have r4 : p.data.size ≤ 380 := by have := rStr_le 380 (by omega) (rCount 22 (rCount 21 (rCount 2147483647 (some (openF l).2.1)).2).2).2; rw [p4] at this; omega
  rw [p1, p2, p3, p4]
  refine VNw.i fun pb w9 hpb hk9 e9 => VSt.bk hk9 rfl (by simp) fun w10 hk10 e10 => ?_
  have hk10 : Bk w10 pb (ptC p) 66 := hk10
  refine VLd.i1 (t := .int .i64) p.place (Rd.of_bk hk10 rfl) (VLd.i1 (t := .int .i64) p.count (Rd.of_bk hk10 rfl) ?_)
  have z1 := e1.size
  have z2 := e2.size
  have z4 := e4.size
  have z5 := e5.size
  have z6 := e6.size
  have z7 := e7.size
  have z8 := e8.size
  have e48 : Ext [q] w4 w8 := ((e5.then e6 (fun i hi _ => hi)).then e7 (fun i hi _ => hi)).then e8 (fun i hi _ => hi)
  have e810 : Ext [] w8 w10 := e9.then e10 (fun i hi hlt => by simp at hi; omega)
  have e010 : Ext [] w w10 := (((e1.then0 e2).then0 e4).then e48 (fun i hi hlt => by simp at hi; omega)).then0 e810
  have lb2 := hk1.lt
  have hkb : Bk w10 b2 _ _ := (((hk1.ext e2).ext e4).ext e48 (by simp; omega)).ext e810
  have h10 := h8.ext0 e810
  have hdone : ∀ {c : Bool} {K : Bool → World → Prop}, (∀ rb, (c = true → rb = rDone sx) → K rb w10) → VCall (some c) Try.prog 40 #[.pointer (some ⟨r, 0, none⟩)] w10 (.bool false) fun (rb : Bool) (w' : World) => K rb w' := fun {c K} k => by
    cases hcc : c with
    | true =>
      refine VCall.on rfl (VCall.i (rDone_spec r q d sx w10 h10) ?_)
      rintro e w11 ⟨rfl, rfl⟩
      exact exW.i1 (t := .bool) _ rfl (k _ fun _ => rfl)
    | false => exact VCall.off rfl (exW.i1 (t := .bool) false trivial (k false fun h => absurd (hcc.symm.trans h) (by simp)))
  refine hdone fun rb hrb => ?_
  have hk1n : ((((openF l).1.toNat : Nat) : Int) != 1) = decide ((openF l).1 ≠ 1) := by
    rw [Bool.eq_iff_iff, decide_eq_true_eq, bne_iff_ne]
    constructor
    · intro h e; rw [e] at h; exact h rfl
    · intro h e
      apply h
      apply UInt8.toNat_inj.1
      have : (1 : UInt8).toNat = 1 := rfl
      omega
  refine VLd.i1 (t := .int .i64) p.place (Rd.of_bk hk10 rfl) (VLd.i1 (t := .int .i64) p.count (Rd.of_bk hk10 rfl) (VIf.mk (fun hd => ?_) (fun hd => ?_)))
  · have hr : readP l = (zPT, 4) := by
      unfold readP
      rw [if_neg (by simpa using hc), ← hp, ← hsx, if_pos]
      rw [hk1n] at hd hrb
      by_cases h1 : (openF l).1 ≠ 1
      · exact .inl h1
      · have hrb := hrb (by simp at h1; simp [h1])
        rw [hrb] at hd
        simp at hd
        simp at h1
        rcases hd with (hd | hd) | hd
        · exact absurd h1 hd
        · exact .inr (.inl hd)
        · exact .inr (.inr hd)
    rw [hr]
    refine VSt.bk hkb rfl (by simp) fun w12 hk12 e12 => ?_
    have hk12 : Bk w12 b2 (ptC zPT) _ := hk12
    exact VLd.pt zPT (Rd.of_bk hk12 rfl) ⟨rfl, e010.then e12 (fun i hi hlt => by simp at hi; omega)⟩
  have hgood : (openF l).1 = 1 ∧ rDone sx = true ∧ p.place < p.count := by
    rw [hk1n] at hd hrb
    simp only [Bool.or_eq_false_iff, decide_eq_false_iff_not, Classical.not_not] at hd
    obtain ⟨⟨d1, d2⟩, d3⟩ := hd
    have hrb := hrb (by simp [d1])
    rw [hrb] at d2
    exact ⟨d1, by simpa using d2, by omega⟩
  obtain ⟨g1, g2, g3⟩ := hgood
  refine VLd.i1 (t := .str) p.data (Rd.of_bk hk10 rfl) (VLd.i1 (t := .str) p.data (Rd.of_bk hk10 rfl) (VLd.i1 (t := .int .i64) p.count (Rd.of_bk hk10 rfl) (VLd.i1 (t := .int .i64) p.place (Rd.of_bk hk10 rfl) (VLd.i1 (t := .str) p.data (Rd.of_bk hk10 rfl) ?_))))
  rw [size0, w64 (n := p.count - 1) (by omega), w64 (n := p.place * 380) (by omega), w64 (n := p.place * 380 + ((p.data.size : Nat) : Int)) (by omega)]
  have hbad : ((!(p.place == p.count - 1) && decide (((p.data.size : Nat) : Int) < 380) || (p.place == p.count - 1) && decide (p.data.size = 0) && decide (p.count > 1)) || decide (p.place * 380 + ((p.data.size : Nat) : Int) > 8192)) = decide (badP p.place p.count p.data.size) := by
    rw [Bool.eq_iff_iff, decide_eq_true_eq]
    unfold badP
    simp only [Bool.or_eq_true, Bool.and_eq_true, Bool.not_eq_true', beq_eq_false_iff_ne, beq_iff_eq, decide_eq_true_eq]
    omega
  refine VIf.mk (fun hd2 => ?_) (fun hd2 => ?_)
  · have hd2 := hbad.symm.trans hd2
    have hr : readP l = (zPT, 4) := by
      unfold readP
      rw [if_neg (by simpa using hc), ← hp, ← hsx, if_neg (by rw [g1, g2]; simp; omega), if_pos (of_decide_eq_true hd2)]
    rw [hr]
    refine VSt.bk hkb rfl (by simp) fun w12 hk12 e12 => ?_
    have hk12 : Bk w12 b2 (ptC zPT) _ := hk12
    exact VLd.pt zPT (Rd.of_bk hk12 rfl) ⟨rfl, e010.then e12 (fun i hi hlt => by simp at hi; omega)⟩
  · have hd2 := hbad.symm.trans hd2
    have hr : readP l = (p, 0) := by
      unfold readP
      rw [if_neg (by simpa using hc), ← hp, ← hsx, if_neg (by rw [g1, g2]; simp; omega), if_neg (of_decide_eq_false hd2)]
    rw [hr]
    refine VLd.pt p (Rd.of_bk hk10 rfl) (VSt.bk hkb rfl (by simp) fun w12 hk12 e12 => ?_)
    have hk12 : Bk w12 b2 (ptC p) _ := hk12
    exact VLd.pt p (Rd.of_bk hk12 rfl) ⟨rfl, e010.then e12 (fun i hi hlt => by simp at hi; omega)⟩
end Go.Proofs.Ythpbkkjggnejcaa
