/-
  Package node: a cell is read.
-/
import Derived.Test.YtknohdgcigcmdaaNodeJ
namespace Go.Proofs.Ytknohdgcigcmdaa
open Go.RowKit
set_option maxRecDepth 100000

/-- a cell as a reader tells it, and what is left -/
def rCe (leaf : Bool) (st : Option (List UInt8)) : Ce × Option (List UInt8) :=
  if leaf = false then (⟨(rStr 48 st).1, ByteArray.empty, 0, 0⟩, (rStr 48 st).2)
  else if (rCount 2147483647 (rStr 48 st).2).1 = 0 then (⟨(rStr 48 st).1, (rStr 64 (rCount 2147483647 (rStr 48 st).2).2).1, 0, 0⟩, (rStr 64 (rCount 2147483647 (rStr 48 st).2).2).2)
  else (⟨(rStr 48 st).1, ByteArray.empty, (rCount 2147483647 (rStr 48 st).2).1, (rCount 2147483647 (rCount 2147483647 (rStr 48 st).2).2).1⟩, (rCount 2147483647 (rCount 2147483647 (rStr 48 st).2).2).2)
theorem RepC.extT {w w' : World} {r q d : Nat} {st : Option (List UInt8)} {M : List Nat} (h : RepC w r q d st) (e : Ext M w w') (hM : ∀ b ∈ M, b < w.heap.size → ∃ cs t, Bk w b cs t ∧ t ≠ 108 ∧ t ≠ 106 ∧ t ≠ 5) : RepC w' r q d st := by
  obtain ⟨s, f, l, hr, hq, hs, hst⟩ := h
  refine ⟨s, f, l, hr.ext e fun hi => ?_, hq.ext e fun hi => ?_, hs.ext e (fun hn hi => ?_), hst⟩
  · obtain ⟨cs, t, hb, h1, h2, h3⟩ := hM _ hi hr.lt
    exact hb.neT hr h1 rfl
  · obtain ⟨cs, t, hb, h1, h2, h3⟩ := hM _ hi hq.lt
    exact hb.neT hq h2 rfl
  · rcases hs.2.2.2 with h0 | ⟨off, cells, _, hb2, _⟩
    · exact hn h0
    · obtain ⟨cs, t, hb, h1, h2, h3⟩ := hM _ hi hb2.lt
      exact hb.neT hb2 h3 rfl
theorem RepC.qlt {w : World} {r q d : Nat} {st : Option (List UInt8)} (h : RepC w r q d st) : r < w.heap.size ∧ q < w.heap.size := by
  obtain ⟨s, f, l, hr, hq, _⟩ := h
  exact ⟨hr.lt, hq.lt⟩
theorem RepC.qty {w : World} {r q d : Nat} {st : Option (List UInt8)} (h : RepC w r q d st) {b : Nat} {cs : List Value} {t : TypeId} (hb : Bk w b cs t) (ht : t ≠ 106) : b ≠ q := by
  obtain ⟨s, f, l, hr, hq, _⟩ := h
  exact hb.neT hq ht
theorem cell_spec (r q d : Nat) (leaf : Bool) (st : Option (List UInt8)) (w : World) (h : RepC w r q d st) :
    Calls Try.prog 56 #[.pointer (some ⟨r, 0, none⟩), .bool leaf] w fun e w' => e = .returned (.agg (ceC (rCe leaf st).1).toArray) ∧ RepC w' r q d (rCe leaf st).2 ∧ Ext [q] w w' := by
  refine sh_node_cell_ok _ _ _ _ ?_
  unfold sh_node_cell
  obtain ⟨lr, lq⟩ := h.qlt
  refine VNw.i fun b4 w1 hb4 hk1 e1 => ?_
  refine VCall.i (rStr_spec r q d 48 st w1 (h.ext0 e1)) ?_
  rintro e w2 ⟨rfl, h2, e2⟩
  refine exW.i1 (t := .str) _ rfl ?_
  have n4 : b4 ≠ q := by omega
  have z1 := e1.size
  have z2 := e2.size
  have l4 := hk1.lt
  refine VNw.i fun c5 w3 hc5 hk3 e3 => VSt.bk hk3 rfl (by simp) fun w4 hk4 e4 => ?_
  have n5 : c5 ≠ q := by omega
  have n45 : b4 ≠ c5 := by omega
  have hk4 : Bk w4 c5 (ceC ⟨(rStr 48 st).1, ByteArray.empty, 0, 0⟩) 48 := hk4
  have hr4 := ((hk1.ext e2 (by simpa using n4)).ext e3).ext e4 (by simpa using n45)
  have h4 := (h2.ext0 e3).extT e4 (fun b hb _ => by simp at hb; subst hb; exact ⟨_, _, hk3, by decide, by decide, by decide⟩)
  have e34 : Ext [] w2 w4 := e3.then e4 (fun i hi hlt => by simp at hi; omega)
  have e04 : Ext [q] w w4 := ((e1.mono (N := [q]) (by simp)).then e2 (fun i hi _ => hi)).then0 e34
  -- the cell is told
  have fin : ∀ {W : World} {c : Ce} {s' : Option (List UInt8)}, Bk W c5 (ceC c) 48 → Bk W b4 [.string ByteArray.empty, .string ByteArray.empty, .int .i64 0, .int .i64 0] 48 → RepC W r q d s' → Ext [q] w W → 
      VLd none W ⟨c5, 0, none⟩ [CT.str, CT.str, CT.int .i64, CT.int .i64] fun (v0 : ByteArray) (v1 : ByteArray) (v2 : Int) (v3 : Int) =>
      VSt none W ⟨b4, 0, none⟩ [.string v0, .string v1, .int .i64 v2, .int .i64 v3] fun (W2 : World) =>
      VLd none W2 ⟨b4, 0, none⟩ [CT.str, CT.str, CT.int .i64, CT.int .i64] fun (u0 : ByteArray) (u1 : ByteArray) (u2 : Int) (u3 : Int) =>
      (Ending.returned (.agg #[.string u0, .string u1, .int .i64 u2, .int .i64 u3]) = .returned (.agg (ceC c).toArray)) ∧ RepC W2 r q d s' ∧ Ext [q] w W2 := by
    intro W c s' hc hb hr he
    refine VLd.ce c (Rd.of_bk hc rfl) (VSt.bk hb rfl (by simp) fun W2 hk e => ?_)
    have hk : Bk W2 b4 (ceC c) 48 := hk
    refine VLd.ce c (Rd.of_bk hk rfl) ⟨rfl, hr.extT e (fun b hb' _ => by simp at hb'; subst hb'; exact ⟨_, _, hb, by decide, by decide, by decide⟩), he.then e (fun i hi hlt => by simp at hi; omega)⟩
  refine VIf.mk (fun hq => ?_) (fun hq => ?_)
  · have hq : leaf = false := by simpa using hq
    have hc : rCe leaf st = (⟨(rStr 48 st).1, ByteArray.empty, 0, 0⟩, (rStr 48 st).2) := by unfold rCe; rw [if_pos hq]
    rw [hc]
    exact fin hk4 hr4 h4 e04
  have hq : ¬ leaf = false := by simpa using hq
  refine ⟨fun W => Bk W c5 (ceC (rCe leaf st).1) 48 ∧ Bk W b4 [.string ByteArray.empty, .string ByteArray.empty, .int .i64 0, .int .i64 0] 48 ∧ RepC W r q d (rCe leaf st).2 ∧ Ext [q] w W, ?_, ?_⟩
  · refine VCall.i (rCount_spec r q d 2147483647 _ w4 h4) ?_
    rintro e w6 ⟨rfl, h6, e6⟩
    refine exW.i1 (t := .int .i64) _ rfl (VSt.bk (hk4.ext e6 (by simpa using n5)) rfl (by simp [ceC]) fun w7 hk7 e7 => ?_)
    have hk7 : Bk w7 c5 (ceC ⟨(rStr 48 st).1, ByteArray.empty, (rCount 2147483647 (rStr 48 st).2).1, 0⟩) 48 := hk7
    have hr7 := (hr4.ext e6 (by simpa using n4)).ext e7 (by simpa using n45)
    have h7 := h6.extT e7 (fun b hb _ => by simp at hb; subst hb; exact ⟨_, _, hk4.ext e6 (by simpa using n5), by decide, by decide, by decide⟩)
    have e07 : Ext [q] w w7 := (e04.then e6 (fun i hi _ => hi)).then e7 (fun i hi hlt => by simp at hi; omega)
    refine VLd.i1 (t := .int .i64) _ (Rd.of_bk hk7 rfl) (VIf.mk (fun h0 => ?_) (fun h0 => ?_))
    · have h0 : (rCount 2147483647 (rStr 48 st).2).1 = 0 := by simpa using h0
      have hc : rCe leaf st = (⟨(rStr 48 st).1, (rStr 64 (rCount 2147483647 (rStr 48 st).2).2).1, 0, 0⟩, (rStr 64 (rCount 2147483647 (rStr 48 st).2).2).2) := by unfold rCe; rw [if_neg hq, if_pos h0]
      rw [hc]
      refine VCall.i (rStr_spec r q d 64 _ w7 h7) ?_
      rintro e w8 ⟨rfl, h8, e8⟩
      have hk8 := hk7.ext e8 (by simpa using n5)
      refine exW.i1 (t := .str) _ rfl (VSt.bk hk8 rfl (by simp [ceC]) fun w9 hk9 e9 => ⟨?_, (hr7.ext e8 (by simpa using n4)).ext e9 (by simpa using n45), h8.extT e9 (fun b hb _ => by simp at hb; subst hb; exact ⟨_, _, hk8, by decide, by decide, by decide⟩), (e07.then e8 (fun i hi _ => hi)).then e9 (fun i hi hlt => by simp at hi; omega)⟩)
      rw [h0] at hk9
      exact hk9
    · have h0 : ¬ (rCount 2147483647 (rStr 48 st).2).1 = 0 := by simpa using h0
      have hc : rCe leaf st = (⟨(rStr 48 st).1, ByteArray.empty, (rCount 2147483647 (rStr 48 st).2).1, (rCount 2147483647 (rCount 2147483647 (rStr 48 st).2).2).1⟩, (rCount 2147483647 (rCount 2147483647 (rStr 48 st).2).2).2) := by unfold rCe; rw [if_neg hq, if_neg h0]
      rw [hc]
      refine VCall.i (rCount_spec r q d 2147483647 _ w7 h7) ?_
      rintro e w8 ⟨rfl, h8, e8⟩
      have hk8 := hk7.ext e8 (by simpa using n5)
      exact exW.i1 (t := .int .i64) _ rfl (VSt.bk hk8 rfl (by simp [ceC]) fun w9 hk9 e9 => ⟨hk9, (hr7.ext e8 (by simpa using n4)).ext e9 (by simpa using n45), h8.extT e9 (fun b hb _ => by simp at hb; subst hb; exact ⟨_, _, hk8, by decide, by decide, by decide⟩), (e07.then e8 (fun i hi _ => hi)).then e9 (fun i hi hlt => by simp at hi; omega)⟩)
  rintro w12 ⟨hk12, hr12, h12, e12⟩
  exact fin hk12 hr12 h12 e12
end Go.Proofs.Ytknohdgcigcmdaa
