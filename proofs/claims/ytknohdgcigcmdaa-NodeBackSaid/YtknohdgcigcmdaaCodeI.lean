/-
  Slices of bytes that can be read and cut; single bytes read.
-/
import Derived.Test.YtknohdgcigcmdaaCodeO
namespace Go.Proofs.Ytknohdgcigcmdaa
open Go.RowKit
set_option maxRecDepth 100000

/-- a slice that reads as these bytes, and may be cut -/
def In (w : World) (s : Sl) (l : List UInt8) : Prop := Seg w s.base s.len 1 (bc l) ∧ s.len ≤ s.cap ∧ s.cap ≤ 9223372036854775807
theorem In.len {w : World} {s : Sl} {l : List UInt8} (h : In w s l) : s.len = l.length := h.1.blen
theorem In.ext0 {w w' : World} {s : Sl} {l : List UInt8} (h : In w s l) (e : Ext [] w w') : In w' s l := ⟨h.1.ext0 e, h.2⟩
theorem In.ext {w w' : World} {s : Sl} {l : List UInt8} {M : List Nat} (h : In w s l) (e : Ext M w w') (hm : ∀ a, s.base = some a → s.len ≠ 0 → a.block ∉ M) : In w' s l := ⟨h.1.ext e hm, h.2⟩
theorem Own.in_ {w0 w : World} {s : Sl} {l : List UInt8} (h : Own w0 w s l) : In w s l := ⟨h.seg, h.cap⟩
theorem BSl.in_ {w : World} {s : Sl} {d : Nat} {l : List UInt8} (h : BSl w s d l) : In w s l := ⟨h.seg, h.2.1, h.2.2.1⟩
theorem In.cut {w : World} {s : Sl} {l : List UInt8} (h : In w s l) (a b : Nat) (hab : a ≤ b) (hb : b ≤ l.length) : In w ⟨cutB s.base s.cap 1 a, b - a, s.cap - a⟩ ((l.take b).drop a) := by
  obtain ⟨h1, h2, h3⟩ := h
  have hn := h1.blen
  refine ⟨⟨by rw [bc_len]; simp; omega, ?_⟩, by simp only; omega, by simp only; omega⟩
  by_cases hz : b - a = 0
  · exact .inl hz
  · right
    obtain ⟨ad, had, hrd⟩ := h1.2.resolve_left (by omega)
    refine ⟨ad.add (a * 1), ?_, ?_⟩
    · simp only [cutB]
      rw [if_neg (by omega), had]; rfl
    · refine hrd.drop fun j v hj => ?_
      rw [← bc_drop, ← bc_take, List.getElem?_drop, List.getElem?_take] at hj
      split at hj
      · rw [Nat.mul_one]; exact hj
      · cases hj
theorem In.nil (w : World) : In w ⟨none, 0, 0⟩ [] := ⟨Seg.nil _ _ _, Nat.le_refl _, by simp⟩
theorem In.str {w : World} {b c : Nat} {l : List UInt8} {rest : List Value} {t : TypeId} (h : Bk w b (bc l ++ rest) t) (hc : l.length ≤ c) (hm : c ≤ 9223372036854775807) : In w ⟨some ⟨b, 0, none⟩, l.length, c⟩ l :=
  ⟨Seg.of_bk h (by simp) (by rw [bc_len]; simp), hc, hm⟩

theorem bc_getD (l : List UInt8) (j : Nat) (hj : j < l.length) : ((bc l).drop (j * 1)).take 1 = [.int .u8 (((l.getD j 0).toNat : Nat) : Int)] := by
  rw [Nat.mul_one, bc_drop, List.drop_eq_getElem_cons hj, List.getD_eq_getElem?_getD, List.getElem?_eq_getElem hj]; rfl
/-- one byte -/
theorem VByte.n {w : World} {base : Option Addr} {n : Nat} {i : Int} {ad : Addr → Addr} (l : List UInt8) (j : Nat) (hs : Seg w base n 1 (bc l)) (hj : i = (j : Int)) (ha : ∀ a, ad a = a.add (j * 1)) (hi : j < l.length) {K : Int → Prop}
    (k : K (((l.getD j 0).toNat : Nat) : Int)) : VIx none base n i fun a => VLd none w (ad a) [CT.int .u8] K := by
  have hn := hs.blen
  obtain ⟨a, hb, hrd⟩ := hs.at_ (i := j) (by omega)
  rw [bc_getD l j hi] at hrd
  subst hb hj
  refine VIx.i (by omega) (by omega) ?_
  rw [ha]
  exact VLd.i1 _ hrd k
/-- one byte, under a condition -/
theorem VByte.g {c : Bool} {w : World} {base : Option Addr} {n : Nat} {i : Int} {ad : Addr → Addr} (l : List UInt8) (j : Nat) (hs : Seg w base n 1 (bc l)) (hj : i = (j : Int)) (ha : ∀ a, ad a = a.add (j * 1)) (hi : c = true → j < l.length) {K : Int → Prop}
    (k : ∀ v : Int, (c = true → v = (((l.getD j 0).toNat : Nat) : Int)) → K v) : VIx (some c) base n i fun a => VLd (some c) w (ad a) [CT.int .u8] K := by
  cases c with
  | false => exact ⟨⟨0, 0, none⟩, fun e => (by cases e), (0 : Int), fun e => (by cases e), k _ (fun e => (by cases e))⟩
  | true =>
    have hi := hi rfl
    have hn := hs.blen
    obtain ⟨a, hb, hrd⟩ := hs.at_ (i := j) (by omega)
    rw [bc_getD l j hi] at hrd
    subst hb hj
    refine VIx.i (by omega) (by omega) ?_
    rw [ha]
    exact VLd.i1 _ hrd (k _ fun _ => rfl)
/-- one byte, under a condition that holds -/
theorem VByte.t {c : Bool} {w : World} {base : Option Addr} {n : Nat} {i : Int} {ad : Addr → Addr} (l : List UInt8) (j : Nat) (hs : Seg w base n 1 (bc l)) (hj : i = (j : Int)) (ha : ∀ a, ad a = a.add (j * 1)) (hi : j < l.length) {K : Int → Prop} (x : Int) (hx : x = (((l.getD j 0).toNat : Nat) : Int))
    (k : K x) : VIx (some c) base n i fun a => VLd (some c) w (ad a) [CT.int .u8] K := by
  have hn := hs.blen
  obtain ⟨a, hb, hrd⟩ := hs.at_ (i := j) (by omega)
  rw [bc_getD l j hi] at hrd
  subst hb hj hx
  refine VIx.i (by omega) (by omega) ?_
  rw [ha]
  exact VLd.i1 _ hrd k
theorem bOr64 (a b : Nat) (ha : a < 256) (hb : b < 256) : bOr .i64 (a : Int) ((b : Int) * 256) = ((a + 256 * b : Nat) : Int) := by
  unfold bOr
  have h1 : (BitVec.ofInt (IntKind.bits .i64) (a : Int) ||| BitVec.ofInt (IntKind.bits .i64) ((b : Int) * 256)).toNat = a + 256 * b := by
    show (BitVec.ofInt 64 (a : Int) ||| BitVec.ofInt 64 ((b : Int) * 256)).toNat = _
    rw [show (b : Int) * 256 = ((2 ^ 8 * b : Nat) : Int) by omega, BitVec.toNat_or, BitVec.toNat_ofInt, BitVec.toNat_ofInt]
    rw [← Int.natCast_emod, ← Int.natCast_emod, Int.toNat_natCast, Int.toNat_natCast, Nat.mod_eq_of_lt (by omega), Nat.mod_eq_of_lt (by omega), Nat.or_comm, ← Nat.two_pow_add_eq_or_of_lt (by omega)]
    omega
  rw [h1, wrap64]
  omega
/-- a new row of own bytes, of a block that was built -/
theorem Own.built {w0 w : World} {b n : Nat} {l : List UInt8} (h : Bk w b (bc l) 5) (hb : w0.heap.size ≤ b) (hl : l.length = n) (hm : n ≤ 9223372036854775807) : Own w0 w ⟨some ⟨b, 0, none⟩, n, n⟩ l :=
  ⟨Row.of_bk (size := 1) h (by rw [bc_len, hl]; simp) hm, by simp [rowB]; exact hb⟩
theorem bc3 (a b c : UInt8) : bc [a, b, c] = [.int .u8 ((a.toNat : Nat) : Int), .int .u8 ((b.toNat : Nat) : Int), .int .u8 ((c.toNat : Nat) : Int)] := rfl
/-- 'byte(n)' -/
theorem wrap8_nat (n : Nat) : IntKind.wrap .u8 ((n : Nat) : Int) = (((UInt8.ofNat (n % 256)).toNat : Nat) : Int) := by
  rw [wrap8, ofNat8 (by omega)]; omega
/-- every byte of an own row is written over -/
theorem Own.fill {w0 w : World} {s : Sl} {l : List UInt8} {c : Int} (v : UInt8) (hv : c = ((v.toNat : Nat) : Int)) (h : Own w0 w s l) {rest : World → Prop}
    (k : ∀ w' l', Own w0 w' s l' → l'.length = l.length → Ext (rowB s) w w' → Ext [] w0 w' → rest w') (e0 : Ext [] w0 w) :
    ∃ I1 : Nat → Int → World → Prop, (∃ k, I1 k 0 w) ∧ ∀ k1 (i : Int) (w1 : World), I1 k1 i w1 → VIf (decide (i < ((s.len : Nat) : Int)))
      (VIx none s.base s.len i fun (a : Addr) => VSt none w1 (Addr.add a ((Int.toNat i) * 1)) [.int .u8 c] fun (w2 : World) => VSet (IntKind.wrap .i64 (i + 1)) fun (i' : Int) => ∃ k', k' < k1 ∧ I1 k' i' w2) (rest w1) := by
  subst hv
  refine ⟨fun k i W => ∃ (j : Nat) (m : List UInt8), i = (j : Int) ∧ j ≤ s.len ∧ k = s.len - j ∧ Own w0 W s m ∧ m.length = l.length ∧ Ext (rowB s) w W, ⟨_, 0, l, rfl, by omega, rfl, h, rfl, Ext.refl _ _⟩, ?_⟩
  rintro k1 i w1 ⟨j, m, rfl, hj, rfl, h1, hm, e1⟩
  refine VIf.mk (fun hc => ?_) (fun hc => ?_)
  · have hj' : j < s.len := by simpa using hc
    refine Row.put h1.1 hj' fun w2 h2 e2 => ?_
    have := h1.cap
    rw [w64 (show -9223372036854775808 ≤ (j : Int) + 1 ∧ (j : Int) + 1 ≤ 9223372036854775807 by omega)]
    exact VSet.i ⟨_, by omega, j + 1, _, by omega, by omega, rfl, ⟨h2, h1.2⟩, by rw [List.length_set]; exact hm, e1.then e2 (fun i hi _ => hi)⟩
  · exact k w1 m h1 hm e1 (e0.then e1 (fun i hi hlt => by have := h.2 i hi; omega))
/-- two rows of own bytes in other blocks -/
theorem Own.other {w0 w w' : World} {s t : Sl} {l : List UInt8} (h : Own w0 w s l) (e : Ext (rowB t) w w') (hne : ∀ b ∈ rowB s, b ∉ rowB t) : Own w0 w' s l := ⟨h.1.ext e hne, h.2⟩
theorem made8 (n : Nat) : (madeCells #[.int .u8 0] (n * 1)).toList = bc (List.replicate n 0) := by
  apply List.ext_getElem?
  intro i
  unfold madeCells bc
  simp only [Nat.mul_one]
  by_cases h : i < n <;> simp [h, Nat.mod_one]
/-- a copy: 'append([]byte{}, b...)' -/
theorem VApp.clone {w w1 : World} {b m : Nat} {base : Option Addr} {l : List UInt8} {K : Sl → World → Prop} (hb : b = w.heap.size) (hk : Bk w1 b [] 5) (e1 : Ext [] w w1) (h : Seg w base m 1 (bc l)) (hl : l.length ≤ 140737488355328)
    (k : ∀ s' w', Own w w' s' l → Ext [] w w' → K s' w') : VApp none w1 5 1 1 #[.int .u8 0] (some ⟨b, 0, none⟩) 0 0 m (fun news => Seg w1 base m 1 news) K := by
  have ho : Own w w1 ⟨some ⟨b, 0, none⟩, 0, 0⟩ [] := ⟨Row.of_bk (size := 1) hk rfl (by omega), by simp [rowB]; omega⟩
  have hn := h.blen
  exact VApp.own (s := ⟨some ⟨b, 0, none⟩, 0, 0⟩) ho e1 (h.ext0 e1) hn.symm (by simp; omega) fun s' w' h' e' _ => k s' w' h' e'
theorem Own.apart {w0 w1 w1' w2 : World} {s t : Sl} {l m : List UInt8} (hs : Own w0 w1 s l) (e : w1.heap.size ≤ w1'.heap.size) (ht : Own w1' w2 t m) : ∀ b ∈ rowB s, b ∉ rowB t := fun b hb hb' => by
  have h1 := hs.1.lt b hb
  have h2 := ht.2 b hb'
  omega
theorem Own.apart' {w0 w1 w1' w2 : World} {s t : Sl} {l m : List UInt8} (hs : Own w0 w1 s l) (e : w1.heap.size ≤ w1'.heap.size) (ht : Own w1' w2 t m) : ∀ b ∈ rowB t, b ∉ rowB s := fun b hb hb' => by
  have h1 := hs.1.lt b hb'
  have h2 := ht.2 b hb
  omega
end Go.Proofs.Ytknohdgcigcmdaa
