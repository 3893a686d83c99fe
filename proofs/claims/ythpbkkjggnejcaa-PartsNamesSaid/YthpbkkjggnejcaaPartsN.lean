/-
  Package parts, outright: PartsApart.
-/
import Derived.Test.YthpbkkjggnejcaaPartsM
namespace Go.Proofs.Ythpbkkjggnejcaa
open Go.RowKit
set_option maxRecDepth 100000

/-- the first q packets of a message came -/
def St (A : Ab) (key : Ky) (l : List UInt8) (q : Nat) : Prop := findA A key = if 0 < q ∧ q < cnt l.length then some (slT l fun j => decide (j < q)) else none
def ind (A : Ab) (key : Ky) : Nat := if findA A key = none then 0 else 1
theorem St.step {A : Ab} {fr n : Int} {l : List UInt8} {q : Nat} (h : St A (fr, n) l q) (hn : 0 ≤ n ∧ n ≤ 2147483647) (hl : l.length ≤ 8192) (hq : q < cnt l.length) (hA : A.length < 16) (hnd : (A.map (·.1)).Nodup) :
    ∃ A' : Ab, takeP A fr (pkt n (q : Int) (cnt l.length : Int) (chunk l q)) = (if q + 1 < cnt l.length then (A', [], false, 0) else (A', l, true, 0)) ∧
      (∀ c, c ≠ (fr, n) → findA A' c = findA A c) ∧ St A' (fr, n) l (q + 1) ∧ A'.length + ind A (fr, n) = A.length + ind A' (fr, n) := by
  unfold St at h
  obtain ⟨A', t1, f1, g1, n1⟩ := take_step (A := A) (fr := fr) hn hl (fun j => decide (j < q)) hq hA hnd (by
    by_cases h0 : 0 < q
    · rw [if_pos ⟨h0, hq⟩] at h
      exact .inl ⟨h, by omega⟩
    · rw [if_neg (by omega)] at h
      exact .inr ⟨h, fun j _ => by simp; omega⟩)
  rw [Step0] at t1 g1 n1
  have hL := Left0 l (q + 1)
  refine ⟨A', ?_, f1, ?_, ?_⟩
  · rw [t1]
    by_cases hlt : q + 1 < cnt l.length
    · rw [if_pos (hL.2 hlt), if_pos hlt]
    · rw [if_neg (fun h => hlt (hL.1 h)), if_neg hlt]
  · unfold St
    rw [g1]
    by_cases hlt : q + 1 < cnt l.length
    · rw [if_pos (hL.2 hlt), if_pos ⟨by omega, hlt⟩]
    · rw [if_neg (fun h => hlt (hL.1 h)), if_neg (by omega)]
  · have hi : ind A' (fr, n) = if 0 < leftOf (slT l fun j => decide (j < q + 1)) then 1 else 0 := by
      unfold ind
      rw [g1]
      split <;> simp
    rw [hi]
    exact n1
section
variable {w0 w1 W : World} {jb : Nat} {A : Ab} {t m : Sl} {X : List (Sl × List UInt8)} {fr n : Int} {l : List UInt8} {q : Nat}
/-- one packet is taken, and what comes of it looked at -/
theorem turn (hJ : JAt w0 W jb A) (hP : PK w1 W t X n l) (hm : In W m l) (hst : St A (fr, n) l q) (hn : 0 ≤ n ∧ n ≤ 2147483647) (hl : l.length ≤ 8192) (hq : q < cnt l.length) (hA : A.length < 16) (hmo : ∀ W', JEx w0 W W' → In W' m l) {F : World → Prop} {Φ : World → Prop}
    (k : ∀ A' W', JAt w0 W' jb A' → JEx w0 W W' → (∀ c, c ≠ (fr, n) → findA A' c = findA A c) → St A' (fr, n) l (q + 1) → A'.length + ind A (fr, n) = A.length + ind A' (fr, n) → Φ W') :
    VIx none t.base t.len (q : Int) fun (a73 : Addr) =>
    VLd none W (Addr.add a73 ((Int.toNat (q : Int)) * 1)) [CT.sl] fun (v74 : Sl) =>
    VCall none Try.prog 13 #[.pointer (some ⟨jb, 0, none⟩), .int .i64 fr, .slice v74.base v74.len v74.cap] W (.tuple #[.slice none 0 0, .bool false, .int .i64 0]) fun (r75_0 : Sl) (r75_1 : Bool) (r75_2 : Int) (w8 : World) =>
    VSet r75_2 fun (g_17 : Int) =>
    VStr (some ((!((g_17 != 0) || (!(r75_1 == ((q : Int) == (IntKind.wrap .i64 (((t.len : Nat) : Int) - 1))))))) && r75_1)) w8 r75_0.base r75_0.len fun (s94 : ByteArray) =>
    VStr (some ((!((g_17 != 0) || (!(r75_1 == ((q : Int) == (IntKind.wrap .i64 (((t.len : Nat) : Int) - 1))))))) && r75_1)) w8 m.base m.len fun (s96 : ByteArray) =>
    VIf (((g_17 != 0) || (!(r75_1 == ((q : Int) == (IntKind.wrap .i64 (((t.len : Nat) : Int) - 1)))))) || (r75_1 && (!(s94.toList == s96.toList)))) (F w8) (Φ w8) := by
  have htl := hP.len.1
  have hN2 : cnt l.length ≤ 22 := by unfold cnt; split <;> omega
  refine hP.at hq fun a s hr hs => VLd.s s hr ?_
  obtain ⟨A', t1, f1, g1, n1⟩ := hst.step hn hl hq hA hJ.nodup
  refine hJ.take hs fun o W' hJ' ho x => VSet.i ?_
  rw [t1] at hJ' ho ⊢
  have hw : IntKind.wrap .i64 (((t.len : Nat) : Int) - 1) = ((cnt l.length - 1 : Nat) : Int) := by rw [htl, w64 (by omega)]; omega
  rw [hw]
  by_cases hlt : q + 1 < cnt l.length
  · rw [if_pos hlt] at hJ' ho ⊢
    have hq1 : ((q : Int) == ((cnt l.length - 1 : Nat) : Int)) = false := by simp; omega
    rw [hq1]
    exact VStr.off rfl fun x1 => VStr.off rfl fun x2 => VIf.f rfl (k A' W' hJ' x f1 g1 n1)
  · rw [if_neg hlt] at hJ' ho ⊢
    have hq1 : ((q : Int) == ((cnt l.length - 1 : Nat) : Int)) = true := by simp; omega
    rw [hq1]
    refine VStr.i _ ho.seg fun x1 hx1 => VStr.i _ (hmo W' x).1 fun x2 hx2 => VIf.f ?_ (k A' W' hJ' x f1 g1 n1)
    rw [strEq, hx1, hx2]
    simp
end
theorem PartsApart_law (a b : Sl) (la lb : List UInt8) (same : Bool) (w : World) (ha : In w a la) (hb : In w b lb) :
    Calls Try.prog 8 #[.slice a.base a.len a.cap, .slice b.base b.len b.cap, .bool same] w fun e w' => e = .returned (.bool true) ∧ Ext [] w w' := by
  refine sh_butterylaw11_PartsApart_ok _ _ _ _ _ ?_
  unfold sh_butterylaw11_PartsApart
  have hal := ha.len
  have hbl := hb.len
  refine VCall.i (works_spec w) ?_
  rintro e w1 ⟨rfl, e1⟩
  refine exW.i1 (t := .bool) true rfl (VIf.mk (fun hc => ?_) (fun hc => ?_))
  · refine VCall.i (works_spec w1) ?_
    rintro e w2 ⟨rfl, e2⟩
    exact exW.i1 (t := .bool) true rfl ⟨rfl, e1.then0 e2⟩
  have hc : la.length ≤ 8192 ∧ lb.length ≤ 8192 := by simp at hc; omega
  obtain ⟨hca, hcb⟩ := hc
  have h3 : (0 : Int) ≤ 3 ∧ (3 : Int) ≤ 2147483647 := by omega
  refine cutGo (ha.ext0 e1) h3 hca fun t X w3 hP e3 => VSet.i ?_
  refine ⟨fun n fr W => W = w3 ∧ (0 ≤ n ∧ n ≤ 2147483647) ∧ (fr, n) ≠ ((1 : Int), (3 : Int)), ?_, ?_⟩
  · exact VIf.mk (fun _ => ⟨rfl, by omega, by simp⟩) (fun _ => ⟨rfl, by omega, by simp⟩)
  rintro n fr w4 ⟨rfl, hn, hne⟩
  have e04 := e1.then0 e3
  refine cutGo (hb.ext0 e04) hn hcb fun u Y w5 hQ e5 => VSet.i (VIf.f rfl ?_)
  refine newGo fun jb w6 hJ e6 => ?_
  have e05 := e04.then0 e5
  have e06 := e05.then0 e6
  have z5 := e05.size
  have hP6 := (hP.ext0 e5).ext0 e6
  have hQ6 := hQ.ext0 e6
  have htl := hP.len.1
  have hul := hQ.len.1
  have hca2 : cnt la.length ≤ 22 := by unfold cnt; split <;> omega
  have hcb2 : cnt lb.length ≤ 22 := by unfold cnt; split <;> omega
  refine ⟨fun k i W => ∃ (q : Nat) (A : Ab), i = (q : Int) ∧ q ≤ 22 ∧ k = 22 - q ∧ PK w1 W t X 3 la ∧ PK w4 W u Y n lb ∧ JAt w5 W jb A ∧ St A (1, 3) la q ∧ St A (fr, n) lb q ∧ A.length = ind A (1, 3) + ind A (fr, n) ∧ Ext [] w W,
    ⟨_, 0, [], rfl, by omega, rfl, hP6, hQ6, hJ, rfl, rfl, rfl, e06⟩, ?_⟩
  rintro k i w7 ⟨q, A, rfl, hq, rfl, hP7, hQ7, hJ7, hs1, hs2, hAl, e07⟩
  have hi : ∀ (A : Ab) (c : Ky), ind A c ≤ 1 := fun A c => by unfold ind; split <;> omega
  have hAb : A.length ≤ 2 := by have := hi A (1, 3); have := hi A (fr, n); omega
  have old : ∀ {W W' : World}, Ext [] w W → JEx w5 W W' → Ext [] w W' := fun e x => x.ext e z5
  refine VIf.mk (fun hd => ?_) (fun hd => ?_)
  · have hd : q < cnt la.length ∨ q < cnt lb.length := by rw [htl, hul] at hd; simp at hd; omega
    refine ⟨fun W => ∃ A : Ab, PK w1 W t X 3 la ∧ PK w4 W u Y n lb ∧ JAt w5 W jb A ∧ St A (1, 3) la (q + 1) ∧ St A (fr, n) lb (q + 1) ∧ A.length = ind A (1, 3) + ind A (fr, n) ∧ Ext [] w W, ?_, ?_⟩
    · refine ⟨fun W => ∃ A : Ab, PK w1 W t X 3 la ∧ PK w4 W u Y n lb ∧ JAt w5 W jb A ∧ St A (1, 3) la (q + 1) ∧ St A (fr, n) lb q ∧ A.length = ind A (1, 3) + ind A (fr, n) ∧ Ext [] w W, ?_, ?_⟩
      · refine VIf.mk (fun hqa => ?_) (fun hqa => ?_)
        · have hqa : q < cnt la.length := by rw [htl] at hqa; simp at hqa; omega
          refine turn (fr := 1) hJ7 hP7 (ha.ext0 e07) hs1 h3 hca hqa (by omega) (fun W' x => ha.ext0 (old e07 x)) (Φ := fun W => ∃ A : Ab, PK w1 W t X 3 la ∧ PK w4 W u Y n lb ∧ JAt w5 W jb A ∧ St A (1, 3) la (q + 1) ∧ St A (fr, n) lb q ∧ A.length = ind A (1, 3) + ind A (fr, n) ∧ Ext [] w W) fun A' W' hJ' x f1 g1 n1 => ?_
          have h2 : findA A' (fr, n) = findA A (fr, n) := f1 _ hne
          refine ⟨A', hP7.je x, hQ7.je x, hJ', g1, ?_, ?_, old e07 x⟩
          · unfold St at hs2 ⊢
            rw [h2]; exact hs2
          · have : ind A' (fr, n) = ind A (fr, n) := by unfold ind; rw [h2]
            omega
        · have hqa : ¬ q < cnt la.length := by rw [htl] at hqa; simp at hqa; omega
          refine ⟨A, hP7, hQ7, hJ7, ?_, hs2, hAl, e07⟩
          unfold St at hs1 ⊢
          rw [if_neg (by omega)] at hs1
          rw [if_neg (by omega)]; exact hs1
      · rintro w9 ⟨A9, hP9, hQ9, hJ9, hs19, hs29, hAl9, e09⟩
        refine VIf.mk (fun hqb => ?_) (fun hqb => ?_)
        · have hqb : q < cnt lb.length := by rw [hul] at hqb; simp at hqb; omega
          refine turn (fr := fr) hJ9 hQ9 (hb.ext0 e09) hs29 hn hcb hqb (by have := hi A9 (1, 3); have := hi A9 (fr, n); omega) (fun W' x => hb.ext0 (old e09 x)) (Φ := fun W => ∃ A : Ab, PK w1 W t X 3 la ∧ PK w4 W u Y n lb ∧ JAt w5 W jb A ∧ St A (1, 3) la (q + 1) ∧ St A (fr, n) lb (q + 1) ∧ A.length = ind A (1, 3) + ind A (fr, n) ∧ Ext [] w W) fun A' W' hJ' x f1 g1 n1 => ?_
          have h2 : findA A' (1, 3) = findA A9 (1, 3) := f1 _ (fun e => hne e.symm)
          refine ⟨A', hP9.je x, hQ9.je x, hJ', ?_, g1, ?_, old e09 x⟩
          · unfold St at hs19 ⊢
            rw [h2]; exact hs19
          · have : ind A' (1, 3) = ind A9 (1, 3) := by unfold ind; rw [h2]
            omega
        · have hqb : ¬ q < cnt lb.length := by rw [hul] at hqb; simp at hqb; omega
          refine ⟨A9, hP9, hQ9, hJ9, hs19, ?_, hAl9, e09⟩
          unfold St at hs29 ⊢
          rw [if_neg (by omega)] at hs29
          rw [if_neg (by omega)]; exact hs29
    · rintro w11 ⟨A', hP', hQ', hJ', hs1', hs2', hAl', e'⟩
      rw [w64 (n := (q : Int) + 1) (by omega)]
      exact VSet.i ⟨_, (show 22 - (q + 1) < 22 - q by omega), q + 1, A', rfl, by omega, rfl, hP', hQ', hJ', hs1', hs2', hAl', e'⟩
  · have hd : ¬ q < cnt la.length ∧ ¬ q < cnt lb.length := by rw [htl, hul] at hd; simp at hd; omega
    refine hJ7.len (.inl rfl) ⟨?_, e07⟩
    unfold St at hs1 hs2
    rw [if_neg (by omega)] at hs1 hs2
    have : A.length = 0 := by
      unfold ind at hAl
      rw [if_pos hs1, if_pos hs2] at hAl
      exact hAl
    rw [this]
    rfl
end Go.Proofs.Ythpbkkjggnejcaa
