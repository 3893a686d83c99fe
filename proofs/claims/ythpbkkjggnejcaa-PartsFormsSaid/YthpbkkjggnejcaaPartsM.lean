/-
  Package parts, outright: works; PartsNothing.
-/
import Derived.Test.YthpbkkjggnejcaaPartsL
namespace Go.Proofs.Ythpbkkjggnejcaa
open Go.RowKit
set_option maxRecDepth 100000

theorem Step0 (l : List UInt8) (m : Nat) : slT l (fun j => decide (j < m) || j == m) = slT l (fun j => decide (j < m + 1)) := by
  congr 1
  funext j
  rw [Bool.eq_iff_iff]
  simp only [Bool.or_eq_true, decide_eq_true_eq, beq_iff_eq]
  omega
theorem Left0 (l : List UInt8) (m : Nat) : 0 < leftOf (slT l (fun j => decide (j < m))) ↔ m < cnt l.length := by
  rw [slT_some]
  constructor
  · rintro ⟨i, hi, h⟩
    have := of_decide_eq_false h
    omega
  · intro h
    exact ⟨m, h, by simp⟩
theorem cut_ok {n : Int} {l : List UInt8} (hn : 0 ≤ n ∧ n ≤ 2147483647) (hl : l.length ≤ 8192) : cutP n l = (0, cutL n l) := by
  unfold cutP
  rw [if_neg (by omega), if_neg (by omega)]
/-- a message's packets in memory -/
structure PK (w1 W : World) (t : Sl) (X : List (Sl × List UInt8)) (n : Int) (l : List UInt8) : Prop where
  ss : OwnSS w1 W t X
  xm : X.map (·.2) = cutL n l
theorem PK.len {w1 W : World} {t : Sl} {X : List (Sl × List UInt8)} {n : Int} {l : List UInt8} (h : PK w1 W t X n l) : t.len = cnt l.length ∧ X.length = cnt l.length := by
  have h1 := h.ss.er.len
  have h2 := congrArg List.length h.xm
  rw [List.length_map] at h1 h2
  rw [cutL_len] at h2
  omega
theorem PK.at {w1 W : World} {t : Sl} {X : List (Sl × List UInt8)} {n : Int} {l : List UInt8} (h : PK w1 W t X n l) {i : Nat} (hi : i < cnt l.length) {K : Addr → Prop} (k : ∀ (a : Addr) (s : Sl), Rd W (a.add (i * 1)) [.slice s.base s.len s.cap] → In W s (pkt n (i : Int) (cnt l.length : Int) (chunk l i)) → K a) : VIx none t.base t.len (i : Int) K := by
  have hX := h.len.2
  refine VIx.i' (r := slR) h.ss.er.in_.1 (show i < (X.map (·.1)).length by simpa [hX] using hi) fun a hr => k a (X[i]'(by omega)).1 ?_ ?_
  · rw [List.getElem_map] at hr
    exact hr
  · have := (h.ss.ea i (by omega)).in_
    have hg : (X[i]'(by omega)).2 = pkt n (i : Int) (cnt l.length : Int) (chunk l i) := by
      have h1 : (X.map (·.2))[i]'(by simpa [hX] using hi) = (cutL n l)[i]'(by rw [cutL_len]; exact hi) := by simp only [h.xm]
      rw [List.getElem_map, cutL_get] at h1
      exact h1
    rw [hg] at this
    exact this
theorem PK.je {w0 w1 W W' : World} {t : Sl} {X : List (Sl × List UInt8)} {n : Int} {l : List UInt8} (h : PK w1 W t X n l) (e : JEx w0 W W') : PK w1 W' t X n l := ⟨e.ss h.ss, h.xm⟩
theorem PK.ext0 {w1 W W' : World} {t : Sl} {X : List (Sl × List UInt8)} {n : Int} {l : List UInt8} (h : PK w1 W t X n l) (e : Ext [] W W') : PK w1 W' t X n l := ⟨h.ss.ext0 e, h.xm⟩
/-- a message is cut, in a statement -/
theorem cutGo {n : Int} {s : Sl} {l : List UInt8} {W : World} (hs : In W s l) (hn : 0 ≤ n ∧ n ≤ 2147483647) (hl : l.length ≤ 8192) {K : Sl → Int → World → Prop} (k : ∀ t X W', PK W W' t X n l → Ext [] W W' → K t 0 W') :
    VCall none Try.prog 10 #[.int .i64 n, .slice s.base s.len s.cap] W (.tuple #[.slice none 0 0, .int .i64 0]) fun (t : Sl) (e : Int) (W' : World) => K t e W' := by
  refine VCall.i (Cut_spec n s l W hs) ?_
  rw [cut_ok hn hl]
  rintro e w' ⟨t, X, rfl, hXm, hX, e'⟩
  exact exW.i2 (t := .sl) (u := .int .i64) t 0 rfl (k t X w' ⟨hX, hXm⟩ e')
theorem newGo {W : World} {K : Option Addr → World → Prop} (k : ∀ jb W', JAt W W' jb [] → Ext [] W W' → K (some ⟨jb, 0, none⟩) W') :
    VCall none Try.prog 12 #[] W (.pointer none) fun (p : Option Addr) (W' : World) => K p W' := by
  refine VCall.i (New_spec W) ?_
  rintro e w' ⟨jb, rfl, hJ, e'⟩
  exact exW.i1 (t := .ptr) (some ⟨jb, 0, none⟩) rfl (k jb w' hJ e')
theorem mk_in {w : World} {b : Nat} {c : Int} (n : Nat) (hc : c = (n : Int)) (hn : n ≤ 100000) (h : Bk w b (madeCells #[.int .u8 0] (c.toNat * 1)).toList 5) : In w ⟨some ⟨b, 0, none⟩, n, n⟩ (List.replicate n 0) := by
  rw [hc, Int.toNat_natCast, made8] at h
  exact ⟨Seg.of_bk h (by rw [List.drop_zero, List.take_of_length_le (Nat.le_refl _)]) (by rw [bc_len, List.length_replicate]; exact (Nat.mul_one n).symm), Nat.le_refl _, by simp only; omega⟩
/-- the first thing that each statement asks -/
theorem works_spec (w : World) : Calls Try.prog 19 #[] w fun e w' => e = .returned (.bool true) ∧ Ext [] w w' := by
  refine sh_butterylaw11_works_ok _ _ ?_
  unfold sh_butterylaw11_works
  refine VMk.i (by omega) (by omega) (by omega) (by omega) fun b w1 hb hk1 e1 => ?_
  obtain ⟨l, hl⟩ : ∃ l : List UInt8, l = List.replicate 381 0 := ⟨_, rfl⟩
  have hin := mk_in 381 rfl (by omega) hk1
  rw [← hl] at hin
  have hll : l.length = 381 := by rw [hl, List.length_replicate]
  have hcn : cnt l.length = 2 := by rw [hll]; rfl
  have h5 : (0 : Int) ≤ 5 ∧ (5 : Int) ≤ 2147483647 := by omega
  refine cutGo hin h5 (by omega) fun t X w2 hP e2 => VSet.i ?_
  refine newGo fun jb w3 hJ e3 => ?_
  have htl := hP.len.1
  rw [hcn] at htl
  refine VIf.f (by rw [htl]; rfl) ?_
  have hP3 := hP.ext0 e3
  have e03 := (e1.then0 e2).then0 e3
  have z2 := (e1.then0 e2).size
  -- the second packet, from 1
  refine hP3.at (i := 1) (by omega) fun a s hr hs => VLd.s s hr ?_
  obtain ⟨A1, t1, f1, g1, n1⟩ := take_step (A := []) (fr := 1) h5 (by omega : l.length ≤ 8192) (fun _ => false) (i := 1) (by omega) (by simp) (by simp) (.inr ⟨rfl, fun _ _ => rfl⟩)
  have l1 : 0 < leftOf (slT l (fun j => false || j == 1)) := (slT_some _ _).2 ⟨0, by omega, rfl⟩
  rw [if_pos l1] at t1 g1 n1
  refine hJ.take hs fun o1 w4 hJ4 ho4 x4 => ?_
  rw [t1] at hJ4 ho4 ⊢
  refine VSet.i ?_
  have hP4 := hP3.je x4
  have e04 := x4.ext e03 z2
  have n1 : A1.length = 1 := n1
  -- the first one, from 2
  have hix0 : ∀ {W : World} {K : Addr → Prop}, PK w1 W t X 5 l → (∀ (a : Addr) (s : Sl), Rd W a [.slice s.base s.len s.cap] → In W s (pkt 5 ((0 : Nat) : Int) (cnt l.length : Int) (chunk l 0)) → K a) → VIx none t.base t.len 0 K := fun hp k => hp.at (i := 0) (by omega) fun a s hr hs => k a s (by rw [Nat.zero_mul, add_zero] at hr; exact hr) hs
  refine hix0 hP4 fun a s hr hs => VLd.s s hr ?_
  have hf2 : findA A1 (2, 5) = none := by rw [f1 _ (by simp)]; rfl
  obtain ⟨A2, t2, f2, g2, n2⟩ := take_step (A := A1) (fr := 2) h5 (by omega : l.length ≤ 8192) (fun _ => false) (i := 0) (by omega) (by omega) hJ4.nodup (.inr ⟨hf2, fun _ _ => rfl⟩)
  have l2 : 0 < leftOf (slT l (fun j => false || j == 0)) := (slT_some _ _).2 ⟨1, by omega, rfl⟩
  rw [if_pos l2] at t2 g2 n2
  rw [hf2] at n2
  refine hJ4.take hs fun o2 w5 hJ5 ho5 x5 => ?_
  rw [t2] at hJ5 ho5 ⊢
  refine VSet.i ?_
  have hP5 := hP4.je x5
  have e05 := x5.ext e04 z2
  have n2 : A2.length = 2 := by simp at n2; omega
  refine hJ5.len (.inl rfl) (VSet.i ?_)
  -- the first one, from 1
  refine hix0 hP5 fun a s hr hs => VLd.s s hr ?_
  have hf3 : findA A2 (1, 5) = some (slT l (fun j => false || j == 1)) := by rw [f2 _ (by simp)]; exact g1
  obtain ⟨A3, t3, f3, g3, n3⟩ := take_step (A := A2) (fr := 1) h5 (by omega : l.length ≤ 8192) (fun j => false || j == 1) (i := 0) (by omega) (by omega) hJ5.nodup (.inl ⟨hf3, by omega⟩)
  have l3 : ¬ 0 < leftOf (slT l (fun j => (false || j == 1) || j == 0)) := fun h => by
    obtain ⟨i, hi, hT⟩ := (slT_some _ _).1 h
    have : i = 0 ∨ i = 1 := by omega
    rcases this with rfl | rfl <;> simp at hT
  rw [if_neg l3] at t3 g3 n3
  rw [hf3] at n3
  refine hJ5.take hs fun o3 w6 hJ6 ho6 x6 => ?_
  rw [t3] at hJ6 ho6 ⊢
  refine VSet.i ?_
  have e06 := x6.ext e05 z2
  have n3 : A3.length = 1 := by simp at n3; omega
  have hol : o3.len = 381 := by have := ho6.1; rw [hll] at this; exact this
  have cond : (((((((((0 : Int) == 0) && ((0 : Int) == 0)) && ((0 : Int) == 0)) && (!false)) && (!false)) && ((A2.length : Int) == 2)) && true) && (((o3.len : Nat) : Int) == 381)) = true := by rw [n2, hol]; rfl
  refine hJ6.len (.inr (congrArg some cond)) ⟨?_, e06⟩
  rw [n3]
  exact congrArg (fun c => Ending.returned (.bool (c && true))) cond
theorem bool_eq_iff {a b : Bool} (h : a = true ↔ b = true) : (a == b) = true := by
  rw [beq_iff_eq, Bool.eq_iff_iff]; exact h
theorem PartsNothing_law (m u : Sl) (l v : List UInt8) (fr : Int) (w : World) (h : In w m l) (hv : In w u v) :
    Calls Try.prog 9 #[.slice m.base m.len m.cap, .slice u.base u.len u.cap, .int .i64 fr] w fun e w' => e = .returned (.bool true) ∧ Ext [] w w' := by
  refine sh_butterylaw11_PartsNothing_ok _ _ _ _ _ ?_
  unfold sh_butterylaw11_PartsNothing
  have hlen := h.len
  refine VCall.i (works_spec w) ?_
  rintro e w1 ⟨rfl, e1⟩
  refine exW.i1 (t := .bool) true rfl (VIf.mk (fun hc => ?_) (fun hc => ?_))
  · refine VCall.i (works_spec w1) ?_
    rintro e w2 ⟨rfl, e2⟩
    exact exW.i1 (t := .bool) true rfl ⟨rfl, e1.then0 e2⟩
  have hc : l.length ≤ 8192 := by simp at hc; omega
  have h7 : (0 : Int) ≤ 7 ∧ (7 : Int) ≤ 2147483647 := by omega
  refine cutGo (h.ext0 e1) h7 hc fun t X w3 hP e3 => VSet.i (VIf.f rfl ?_)
  refine newGo fun jb w4 hJ e4 => ?_
  have hP4 := hP.ext0 e4
  have e03 := e1.then0 e3
  have z3 := e03.size
  have htl := hP.len.1
  have hN := cnt_pos l.length
  have hN2 : cnt l.length ≤ 22 := by unfold cnt; split <;> omega
  refine ⟨fun k i W => ∃ (q : Nat) (A : Ab), i = (q : Int) ∧ q ≤ cnt l.length ∧ k = cnt l.length - q ∧ PK w1 W t X 7 l ∧ JAt w3 W jb A ∧ A.length ≤ 1 ∧ (q = 0 ∧ findA A (1, 7) = none ∧ A.length = 0 ∨ q = cnt l.length ∨ findA A (1, 7) = some (slT l fun j => decide (j < q)) ∧ 2 ≤ cnt l.length) ∧ Ext [] w W,
    ⟨_, 0, [], rfl, by omega, rfl, hP4, hJ, by simp, .inl ⟨rfl, rfl, rfl⟩, e03.then0 e4⟩, ?_⟩
  rintro k i w5 ⟨q, A, rfl, hq, rfl, hP5, hJ5, hA, hst, e05⟩
  refine VIf.mk (fun hd => ?_) (fun hd => ⟨rfl, e05⟩)
  have hq' : q < cnt l.length := by rw [htl] at hd; simp at hd; omega
  refine hJ5.len (.inl rfl) (VSet.i ?_)
  refine hJ5.take (hv.ext0 e05) fun o w7 hJ7 ho7 x7 => VSet.i ?_
  have e07 := x7.ext e05 z3
  by_cases hf : (takeP A fr v).2.2.2 = 0
  · rw [hf]
    refine VCall.off rfl (exW.i1 (t := .int .i64) 0 trivial (VIf.f rfl (VIf.t rfl ⟨rfl, e07⟩)))
  have hbad : (readP v).2 ≠ 0 := by
    intro h0
    apply hf
    unfold takeP
    rw [if_neg (by simpa using h0)]
    split
    · rfl
    · split <;> rfl
  rw [take_bad hbad] at hJ7 ho7 hf ⊢
  have hP7 := hP5.je x7
  have hne : ((readP v).2 != 0) = true := by simpa using hf
  simp only
  rw [hne]
  refine hJ7.len (.inr rfl) ?_
  have hol : o.len = 0 := ho7.1
  refine VIf.f (by rw [hol]; simp) (VIf.f (by simpa using hf) ?_)
  refine hP7.at hq' fun a s hr hs => VLd.s s hr ?_
  obtain ⟨A1, t1, f1, g1, n1⟩ := take_step (A := A) (fr := 1) h7 hc (fun j => decide (j < q)) hq' (by omega) hJ7.nodup (by
    rcases hst with ⟨h1, h2, _⟩ | h1 | ⟨h1, h2⟩
    · exact .inr ⟨h2, fun j _ => by rw [h1]; simp⟩
    · omega
    · exact .inl ⟨h1, h2⟩)
  rw [Step0] at t1 g1 n1
  refine hJ7.take hs fun o2 w8 hJ8 ho8 x8 => VSet.i ?_
  have e08 := x8.ext e07 z3
  have hP8 := hP7.je x8
  rw [t1] at hJ8 ho8 ⊢
  have hw : IntKind.wrap .i64 (((t.len : Nat) : Int) - 1) = ((cnt l.length - 1 : Nat) : Int) := by rw [htl, w64 (by omega)]; omega
  rw [hw, w64 (n := (q : Int) + 1) (by omega)]
  by_cases hlast : q + 1 < cnt l.length
  · have hl := (Left0 l (q + 1)).2 hlast
    rw [if_pos hl] at hJ8 ho8 n1 g1 ⊢
    refine VStr.off (by simp) fun x1 => VStr.off (by simp) fun x2 => VIf.f (by simp; omega) (VSet.i ⟨_, (show cnt l.length - (q + 1) < cnt l.length - q by omega), q + 1, A1, rfl, by omega, rfl, hP8, hJ8, ?_, .inr (.inr ⟨g1, by omega⟩), e08⟩)
    rcases hst with ⟨h1, h2, h3⟩ | h1 | ⟨h1, h2⟩
    · rw [h2] at n1
      simp at n1
      omega
    · omega
    · rw [h1] at n1
      simp at n1
      omega
  · have hl : ¬ 0 < leftOf (slT l fun j => decide (j < q + 1)) := fun h => hlast ((Left0 l (q + 1)).1 h)
    rw [if_neg hl] at hJ8 ho8 n1 ⊢
    have hq1 : ((q : Int) == ((cnt l.length - 1 : Nat) : Int)) = true := by simp; omega
    rw [hq1]
    have h8 := h.ext0 e08
    refine VStr.i _ ho8.seg fun x1 hx1 => VStr.i _ h8.1 fun x2 hx2 => VIf.f ?_ (VSet.i ⟨_, (show cnt l.length - (q + 1) < cnt l.length - q by omega), q + 1, A1, rfl, by omega, rfl, hP8, hJ8, by omega, .inr (.inl (by omega)), e08⟩)
    rw [strEq, hx1, hx2]
    simp
end Go.Proofs.Ythpbkkjggnejcaa
