/-
  Package parts, the document's: a packet is read.
-/
import Derived.Test.YthpbkkjggnejcaaPartsK
namespace Go.Proofs.Ythpbkkjggnejcaa
open Go.RowKit
set_option maxRecDepth 100000

theorem XReader_spec (s : Sl) (l : List UInt8) (w : World) (h : Seg w s.base s.len 1 (bc l)) (hl : l.length ≤ 140737488355328) :
    Calls Try.prog 47 #[.slice s.base s.len s.cap] w fun e w' => ∃ x d : Nat, e = .returned (.pointer (some ⟨x, 0, none⟩)) ∧ RepX w' x d (some l) ∧ Ext [] w w' ∧ w.heap.size ≤ x ∧ w.heap.size ≤ d := by
  refine sh_butteryref01_NewReader_ok _ _ _ ?_
  unfold sh_butteryref01_NewReader
  refine VNw.i fun b w1 hb hk e1 => ?_
  refine VApp.clone hb hk e1 h hl fun s2 w2 h2 e2 => ?_
  refine VNw.i fun x w3 hx hk3 e3 => ?_
  have z2 := e2.size
  obtain ⟨d, hd, hb⟩ := (h2.ext0 e3).bsl x (by omega)
  exact ⟨x, d, rfl, ⟨s2, false, l, hk3, hb, rfl, by simp⟩, e2.then0 e3, by omega, hd⟩
theorem xDone_spec (x d : Nat) (st : Option (List UInt8)) (w : World) (h : RepX w x d st) : Calls Try.prog 50 #[.pointer (some ⟨x, 0, none⟩)] w fun e w' => e = .returned (.bool (rDone st)) ∧ w' = w := by
  refine sh_butteryref01_Reader_Done_ok _ _ _ ?_
  unfold sh_butteryref01_Reader_Done
  obtain ⟨s, f, l, hx, hs, hst, hf⟩ := h
  have hl := hs.1
  refine VNN.i (VLd.i1 (t := .bool) f (Rd.of_bk hx rfl) ?_)
  refine ⟨⟨x, 0, none⟩, fun _ => rfl, ?_⟩
  refine VLd.s s (Rd.of_bk hx rfl) ⟨?_, rfl⟩
  subst hst
  cases f with
  | true => rfl
  | false => cases l <;> simp at hl <;> simp [rDone, hl] <;> omega

theorem RepX.extT {w w' : World} {x d pb : Nat} {st : Option (List UInt8)} {cs : List Value} {t : TypeId} (h : RepX w x d st) (e : Ext [pb] w w') (hx : x ≠ pb) (hp : Bk w pb cs t) (ht : t ≠ 5) : RepX w' x d st := by
  obtain ⟨s, f, l, hk, hs, hst⟩ := h
  refine ⟨s, f, l, hk.ext e (by simp; exact hx), hs.ext e (fun hn hd => ?_), hst⟩
  rcases hs.2.2.2 with h0 | ⟨off, cells, _, hb, _⟩
  · exact hn h0
  · exact hp.neT hb ht (by simp at hd; exact hd.symm)
def rawX (st : Option (List UInt8)) : PT × Option (List UInt8) :=
  (⟨(rCount 2147483647 st).1, (rCount 1048576 (rCount 2147483647 st).2).1, (rCount 1048576 (rCount 1048576 (rCount 2147483647 st).2).2).1, (rStr 1048576 (rCount 1048576 (rCount 1048576 (rCount 2147483647 st).2).2).2).1⟩, (rStr 1048576 (rCount 1048576 (rCount 1048576 (rCount 2147483647 st).2).2).2).2)
theorem raw_or (st : Option (List UInt8)) : ((rawX st).1.place ≤ 21 ∧ (rawX st).1.count ≤ 22 ∧ (rawX st).1.data.size ≤ 380 ∧ rawP st = rawX st) ∨ (¬ ((rawX st).1.place ≤ 21 ∧ (rawX st).1.count ≤ 22 ∧ (rawX st).1.data.size ≤ 380) ∧ (rawP st).2 = none) := by
  obtain ⟨s1, h1⟩ : ∃ s1, s1 = (rCount 2147483647 st).2 := ⟨_, rfl⟩
  have l2 := rCount_lim (m1 := 21) (m2 := 1048576) (by omega) (by omega) s1
  unfold rawP rawX
  simp only [← h1]
  by_cases c2 : (rCount 1048576 s1).1 ≤ 21
  · rw [if_pos c2] at l2
    rw [l2]
    have l3 := rCount_lim (m1 := 22) (m2 := 1048576) (by omega) (by omega) (rCount 1048576 s1).2
    by_cases c3 : (rCount 1048576 (rCount 1048576 s1).2).1 ≤ 22
    · rw [if_pos c3] at l3
      rw [l3]
      have l4 := rStr_lim (m1 := 380) (m2 := 1048576) (by omega) (by omega) (rCount 1048576 (rCount 1048576 s1).2).2
      by_cases c4 : ((rStr 1048576 (rCount 1048576 (rCount 1048576 s1).2).2).1.size : Int) ≤ 380
      · rw [if_pos c4] at l4
        rw [l4]
        exact .inl ⟨c2, c3, by omega, rfl⟩
      · rw [if_neg c4] at l4
        rw [l4]
        exact .inr ⟨fun h => c4 (by have := h.2.2; omega), rfl⟩
    · rw [if_neg c3] at l3
      rw [l3]
      exact .inr ⟨fun h => c3 h.2.1, rfl⟩
  · rw [if_neg c2] at l2
    rw [l2]
    exact .inr ⟨fun h => c2 h.1, rfl⟩
theorem readP_x {l : List UInt8} {q : PT} {sx : Option (List UInt8)} (h : (openF l).2.2 = 0) (hq : q = (rawX (some (openF l).2.1)).1) (hs : sx = (rawX (some (openF l).2.1)).2) :
    readP l = if ((openF l).1 ≠ 1 ∨ rDone sx = false ∨ q.count < 1 ∨ 22 < q.count ∨ q.count ≤ q.place) ∨ (380 < q.data.size ∨ (q.place < q.count - 1 ∧ q.data.size ≠ 380) ∨ (1 < q.count ∧ q.data.size = 0) ∨ 8192 < q.place * 380 + q.data.size) then (zPT, 4) else (q, 0) := by
  have hp0 : 0 ≤ q.place := by rw [hq]; exact (rCount_pos _ _).1
  unfold readP
  rw [if_neg (by simpa using h)]
  rcases raw_or (some (openF l).2.1) with ⟨a1, a2, a3, ae⟩ | ⟨an, ae⟩
  · rw [ae, ← hs, ← hq]
    rw [← hq] at a1 a2 a3
    by_cases h1 : (openF l).1 ≠ 1
    · rw [if_pos (.inl h1), if_pos (.inl (.inl h1))]
    by_cases h2 : rDone sx = false
    · rw [if_pos (.inr (.inl h2)), if_pos (.inl (.inr (.inl h2)))]
    by_cases h3 : q.count ≤ q.place
    · rw [if_pos (.inr (.inr h3)), if_pos (.inl (.inr (.inr (.inr (.inr h3)))))]
    rw [if_neg (fun h => by
      rcases h with h | h | h
      · exact h1 h
      · exact h2 h
      · exact h3 h)]
    by_cases h4 : badP q.place q.count q.data.size
    · rw [if_pos h4, if_pos]
      unfold badP at h4
      exact .inr (by omega)
    · rw [if_neg h4, if_neg]
      unfold badP at h4
      rintro (h | h)
      · rcases h with h | h | h
        · exact h1 h
        · exact h2 h
        · omega
      · omega
  · rw [← hq] at an
    have hd : rDone (rawP (some (openF l).2.1)).2 = false := by rw [ae]; rfl
    rw [if_pos (.inr (.inl hd)), if_pos]
    omega
set_option maxHeartbeats 1000000 in
theorem xRead_spec (s : Sl) (l : List UInt8) (w : World) (h : In w s l) :
    Calls Try.prog 30 #[.slice s.base s.len s.cap] w fun e w' => e = .returned (.tuple #[.agg (ptC (readP l).1).toArray, .int .i64 (readP l).2]) ∧ Ext [] w w' := by
  refine sh_butteryref11_Read_ok _ _ _ ?_
  unfold sh_butteryref11_Read
  refine VNw.i fun b2 w1 hb2 hk1 e1 => ?_
  refine VCall.i (XOpen_spec s l w1 (h.ext0 e1)) ?_
  rintro e w2 ⟨t, rfl, ht, e2⟩
  refine exW.i3 (t := .int .u8) (u := .sl) (v := .int .i64) _ t _ rfl (VSet.i (VSet.i (VIf.mk (fun hc => ?_) (fun hc => ?_))))
  · have hc : (openF l).2.2 ≠ 0 := by simpa using hc
    have hr : readP l = (zPT, (openF l).2.2) := by unfold readP; rw [if_pos hc]
    rw [hr]
    refine VSt.bk (hk1.ext e2) rfl (by simp) fun w3 hk3 e3 => VSet.i ?_
    have hk3 : Bk w3 b2 (ptC zPT) _ := hk3
    exact VLd.pt zPT (Rd.of_bk hk3 rfl) ⟨rfl, (e1.then0 e2).then e3 (fun i hi hlt => by simp at hi; omega)⟩
  have hc : (openF l).2.2 = 0 := by simpa using hc
  have hol : (openF l).2.1.length ≤ 140737488355328 := by
    unfold openF
    split
    · rename_i hf
      split
      · simp only [List.length_drop, List.length_take]
        have := hf.2.1
        omega
      · simp
    · simp
  refine VCall.i (XReader_spec t _ w2 ht.seg hol) ?_
  rintro e w4 ⟨x, d, rfl, h4, e4, gx, gd⟩
  refine exW.i1 (t := .ptr) _ rfl ?_
  refine VCall.i (xCount_spec x d 2147483647 _ w4 h4) ?_
  rintro e w5 ⟨rfl, h5, e5⟩
  refine exW.i1 (t := .int .i64) _ rfl ?_
  obtain ⟨q, hq⟩ : ∃ q, q = (rawX (some (openF l).2.1)).1 := ⟨_, rfl⟩
  obtain ⟨sx, hsx⟩ : ∃ sx, sx = (rawX (some (openF l).2.1)).2 := ⟨_, rfl⟩
  have p1 : (rCount 2147483647 (some (openF l).2.1)).1 = q.number := by rw [hq]; rfl
  have p2 : (rCount 1048576 (rCount 2147483647 (some (openF l).2.1)).2).1 = q.place := by rw [hq]; rfl
  have p3 : (rCount 1048576 (rCount 1048576 (rCount 2147483647 (some (openF l).2.1)).2).2).1 = q.count := by rw [hq]; rfl
  have p4 : (rStr 1048576 (rCount 1048576 (rCount 1048576 (rCount 2147483647 (some (openF l).2.1)).2).2).2).1 = q.data := by rw [hq]; rfl
  have r2 : 0 ≤ q.place ∧ q.place ≤ 1048576 := by rw [← p2]; exact ⟨(rCount_pos _ _).1, rCount_le _ (by omega) _⟩
  have r3 : 0 ≤ q.count ∧ q.count ≤ 1048576 := by rw [← p3]; exact ⟨(rCount_pos _ _).1, rCount_le _ (by omega) _⟩
  have r4 : (q.data.size : Int) ≤ 1048576 := by have := rStr_le 1048576 (by omega) (rCount 1048576 (rCount 1048576 (rCount 2147483647 (some (openF l).2.1)).2).2).2; rw [p4] at this; exact this
  have z1 := e1.size
  have z2 := e2.size
  have z4 := e4.size
  have z5 := e5.size
  have lb2 := hk1.lt
  have lx4 : x < w4.heap.size := by
    obtain ⟨s', f', l', hx', hs', _⟩ := h4
    exact hx'.lt
  refine VNw.i fun pb w6 hpb hk6 e6 => VSt.bk hk6 rfl (by simp) fun w7 hk7 e7 => ?_
  have nx : x ≠ pb := by omega
  have nb : b2 ≠ x ∧ b2 ≠ pb := by omega
  have h7 := (h5.ext0 e6).extT e7 nx hk6 (by decide)
  refine VCall.i (xCount_spec x d 1048576 _ w7 h7) ?_
  rintro e w8 ⟨rfl, h8, e8⟩
  refine exW.i1 (t := .int .i64) _ rfl (VSt.bk (hk7.ext e8 (by simp; omega)) rfl (by simp) fun w9 hk9 e9 => ?_)
  have h9 := h8.extT e9 nx (hk7.ext e8 (by simp; omega)) (by decide)
  refine VCall.i (xCount_spec x d 1048576 _ w9 h9) ?_
  rintro e w10 ⟨rfl, h10, e10⟩
  refine exW.i1 (t := .int .i64) _ rfl (VSt.bk (hk9.ext e10 (by simp; omega)) rfl (by simp) fun w11 hk11 e11 => ?_)
  have h11 := h10.extT e11 nx (hk9.ext e10 (by simp; omega)) (by decide)
  refine VCall.i (xStr_spec x d 1048576 _ w11 h11) ?_
  rintro e w12 ⟨rfl, h12, e12⟩
  refine exW.i1 (t := .str) _ rfl (VSt.bk (hk11.ext e12 (by simp; omega)) rfl (by simp) fun w13 hk13 e13 => ?_)
  have h13 := h12.extT e13 nx (hk11.ext e12 (by simp; omega)) (by decide)
  have hk13 : Bk w13 pb (ptC q) 78 := by rw [hq]; exact hk13
  have h13 : RepX w13 x d sx := by rw [hsx]; exact h13
  have e67 : Ext [] w5 w7 := e6.then e7 (fun i hi hlt => by simp at hi; omega)
  have e713 : Ext [x, pb] w7 w13 := ((((((e8.mono fun i hi _ => by simp at hi ⊢; exact .inl hi).then e9 (fun i hi _ => by simp at hi ⊢; exact .inr hi)).then e10 (fun i hi _ => by simp at hi ⊢; exact .inl hi)).then e11 (fun i hi _ => by simp at hi ⊢; exact .inr hi)).then e12 (fun i hi _ => by simp at hi ⊢; exact .inl hi)).then e13 (fun i hi _ => by simp at hi ⊢; exact .inr hi))
  have e413 : Ext [x] w4 w13 := (e5.then e67 (fun i hi _ => by simp at hi)).then e713 (fun i hi hlt => by
    simp at hi ⊢
    rcases hi with hi | hi
    · exact hi
    · omega)
  have e013 : Ext [] w w13 := ((e1.then0 e2).then0 e4).then e413 (fun i hi hlt => by simp at hi; omega)
  have hkb : Bk w13 b2 _ _ := ((hk1.ext e2).ext e4).ext e413 (by simp; omega)
  have hdone : ∀ {c : Bool} {K : Bool → World → Prop}, (∀ rb, (c = true → rb = rDone sx) → K rb w13) → VCall (some c) Try.prog 50 #[.pointer (some ⟨x, 0, none⟩)] w13 (.bool false) fun (rb : Bool) (w' : World) => K rb w' := fun {c K} k => by
    cases hcc : c with
    | true =>
      refine VCall.on rfl (VCall.i (xDone_spec x d sx w13 h13) ?_)
      rintro e w14 ⟨rfl, rfl⟩
      exact exW.i1 (t := .bool) _ rfl (k _ fun _ => rfl)
    | false => exact VCall.off rfl (exW.i1 (t := .bool) false trivial (k false fun h => absurd (hcc.symm.trans h) (by simp)))
  refine hdone fun rb hrb => ?_
  have hk1n : ((((openF l).1.toNat : Nat) : Int) != 1) = decide ((openF l).1 ≠ 1) := by
    rw [Bool.eq_iff_iff, decide_eq_true_eq, bne_iff_ne]
    constructor
    · intro h e; rw [e] at h; exact h rfl
    · intro h e
      apply h
      apply UInt8.toNat_inj.1
      have : (1 : UInt8).toNat = 1 := rfl
      omega
  have hrx := readP_x hc hq hsx
  refine VLd.i1 (t := .int .i64) q.count (Rd.of_bk hk13 rfl) (VLd.i1 (t := .int .i64) q.count (Rd.of_bk hk13 rfl) (VLd.i1 (t := .int .i64) q.place (Rd.of_bk hk13 rfl) (VLd.i1 (t := .int .i64) q.count (Rd.of_bk hk13 rfl) (VIf.mk (fun hd => ?_) (fun hd => ?_)))))
  · have hr : readP l = (zPT, 4) := by
      rw [hrx, if_pos]
      left
      rw [hk1n] at hd hrb
      by_cases h1 : (openF l).1 ≠ 1
      · exact .inl h1
      · have hrb := hrb (by simp at h1; simp [h1])
        rw [hrb] at hd
        simp at hd
        simp at h1
        rcases hd with (((hd | hd) | hd) | hd) | hd
        · exact absurd h1 hd
        · exact .inr (.inl hd)
        · exact .inr (.inr (.inl (by omega)))
        · exact .inr (.inr (.inr (.inl (by omega))))
        · exact .inr (.inr (.inr (.inr (by omega))))
    rw [hr]
    refine VSt.bk hkb rfl (by simp) fun w15 hk15 e15 => ?_
    have hk15 : Bk w15 b2 (ptC zPT) _ := hk15
    exact VLd.pt zPT (Rd.of_bk hk15 rfl) ⟨rfl, e013.then e15 (fun i hi hlt => by simp at hi; omega)⟩
  have hgood : (openF l).1 = 1 ∧ rDone sx = true ∧ 1 ≤ q.count ∧ q.count ≤ 22 ∧ q.place < q.count := by
    rw [hk1n] at hd hrb
    simp only [Bool.or_eq_false_iff, decide_eq_false_iff_not, Classical.not_not] at hd
    obtain ⟨⟨⟨⟨d1, d2⟩, d3⟩, d4⟩, d5⟩ := hd
    have hrb := hrb (by simp [d1])
    rw [hrb] at d2
    exact ⟨d1, by simpa using d2, by omega, by omega, by omega⟩
  obtain ⟨g1, g2, g3, g4, g5⟩ := hgood
  refine VLd.i1 (t := .str) q.data (Rd.of_bk hk13 rfl) (VSet.i (VLd.i1 (t := .int .i64) q.place (Rd.of_bk hk13 rfl) (VLd.i1 (t := .int .i64) q.count (Rd.of_bk hk13 rfl) (VLd.i1 (t := .int .i64) q.count (Rd.of_bk hk13 rfl) (VLd.i1 (t := .int .i64) q.place (Rd.of_bk hk13 rfl) ?_)))))
  rw [w64 (n := q.count - 1) (by omega), w64 (n := q.place * 380) (by omega), w64 (n := q.place * 380 + ((q.data.size : Nat) : Int)) (by omega)]
  have hbad : (((decide (((q.data.size : Nat) : Int) > 380)) || ((decide (q.place < q.count - 1)) && (((q.data.size : Nat) : Int) != 380)) || ((decide (q.count > 1)) && (((q.data.size : Nat) : Int) == 0))) || (decide (q.place * 380 + ((q.data.size : Nat) : Int) > 8192))) = decide (380 < q.data.size ∨ (q.place < q.count - 1 ∧ q.data.size ≠ 380) ∨ (1 < q.count ∧ q.data.size = 0) ∨ 8192 < q.place * 380 + (q.data.size : Int)) := by
    rw [Bool.eq_iff_iff, decide_eq_true_eq]
    simp only [Bool.or_eq_true, Bool.and_eq_true, bne_iff_ne, ne_eq, beq_iff_eq, decide_eq_true_eq]
    omega
  refine VIf.mk (fun hd2 => ?_) (fun hd2 => ?_)
  · have hd2 := hbad.symm.trans hd2
    have hr : readP l = (zPT, 4) := by rw [hrx, if_pos (.inr (of_decide_eq_true hd2))]
    rw [hr]
    refine VSt.bk hkb rfl (by simp) fun w15 hk15 e15 => ?_
    have hk15 : Bk w15 b2 (ptC zPT) _ := hk15
    exact VLd.pt zPT (Rd.of_bk hk15 rfl) ⟨rfl, e013.then e15 (fun i hi hlt => by simp at hi; omega)⟩
  · have hd2 := hbad.symm.trans hd2
    have hr : readP l = (q, 0) := by
      rw [hrx, if_neg]
      rintro (h' | h')
      · rcases h' with h' | h' | h' | h' | h'
        · exact h' g1
        · rw [g2] at h'; cases h'
        · omega
        · omega
        · omega
      · exact of_decide_eq_false hd2 h'
    rw [hr]
    refine VLd.pt q (Rd.of_bk hk13 rfl) (VSt.bk hkb rfl (by simp) fun w15 hk15 e15 => ?_)
    have hk15 : Bk w15 b2 (ptC q) _ := hk15
    exact VLd.pt q (Rd.of_bk hk15 rfl) ⟨rfl, e013.then e15 (fun i hi hlt => by simp at hi; omega)⟩
end Go.Proofs.Ythpbkkjggnejcaa
