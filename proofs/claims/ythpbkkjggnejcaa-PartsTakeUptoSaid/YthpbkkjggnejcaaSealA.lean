/-
  Package seal: the sum's contract, and the document's.
-/
import Derived.Test.YthpbkkjggnejcaaSealP
import Derived.Test.YthpbkkjggnejcaaCodeP
import Derived.Test.YthpbkkjggnejcaaSh
namespace Go.Proofs.Ythpbkkjggnejcaa
open Go.RowKit
set_option maxRecDepth 100000

def sum32 (r : BitVec 32) (l : List UInt8) : BitVec 32 := ~~~ crc (~~~ r) l
theorem max_xor (a : BitVec 32) : bXor .u32 (IntKind.max .u32) ((a.toNat : Nat) : Int) = (((~~~ a).toNat : Nat) : Int) := by
  have h : IntKind.max .u32 = (((BitVec.allOnes 32).toNat : Nat) : Int) := by decide
  rw [h, bXor32, BitVec.allOnes_xor]
theorem low_poly (a : BitVec 32) : IntKind.wrap .u32 (3988292384 * (if a.getLsbD 0 then 1 else 0)) = (((if a.getLsbD 0 then poly else 0#32 : BitVec 32).toNat : Nat) : Int) := by
  cases a.getLsbD 0 <;> rfl
theorem byte32 (c : UInt8) : IntKind.wrap .u32 ((c.toNat : Nat) : Int) = (((BitVec.ofNat 32 c.toNat).toNat : Nat) : Int) := by
  have := UInt8.toNat_lt c
  rw [w32u, BitVec.toNat_ofNat]; omega
theorem seg_byte {w : World} {base : Option Addr} {n i : Nat} {l : List UInt8} (h : Seg w base n 1 (bc l)) (hi : i < l.length) : ∃ a, base = some a ∧ Rd w (a.add (i * 1)) [.int .u8 ((l[i].toNat : Nat) : Int)] := by
  have hn : n = l.length := by have := h.1; rw [bc_len] at this; omega
  obtain ⟨a, ha, hrd⟩ := h.at_ (i := i) (by omega)
  refine ⟨a, ha, ?_⟩
  have : ((bc l).drop (i * 1)).take 1 = [.int .u8 ((l[i].toNat : Nat) : Int)] := by
    rw [Nat.mul_one, bc_drop, List.drop_eq_getElem_cons hi]; rfl
  rw [this] at hrd
  exact hrd
def stn : Nat → BitVec 32 → BitVec 32
  | 0, r => r
  | n + 1, r => st (stn n r)

theorem summer1_spec (q : Nat) (r : BitVec 32) (t : TypeId) (s : Sl) (l : List UInt8) (w : World) (hq : Bk w q [.int .u32 ((r.toNat : Nat) : Int)] t) (h : Seg w s.base s.len 1 (bc l)) (hl : l.length < 9223372036854775807)
    (hne : ∀ a, s.base = some a → s.len ≠ 0 → a.block ≠ q) :
    Calls Try.prog 63 #[.slice s.base s.len s.cap, .pointer (some ⟨q, 0, none⟩)] w fun e w' => e = .returned (.int .u32 (((~~~ crc r l).toNat : Nat) : Int)) ∧ Ext [q] w w' := by
  refine sh_seal_summer_1_ok _ _ _ _ ?_
  unfold sh_seal_summer_1
  have hn : s.len = l.length := by have := h.1; rw [bc_len] at this; omega
  refine ⟨fun k x W => ∃ j : Nat, x = (j : Int) ∧ j ≤ l.length ∧ k = l.length - j ∧ Bk W q [.int .u32 (((crc r (l.take j)).toNat : Nat) : Int)] t ∧ Ext [q] w W, ⟨_, 0, rfl, by omega, rfl, hq, Ext.refl _ _⟩, ?_⟩
  rintro k x w1 ⟨j, rfl, hj, rfl, h1, e1⟩
  have hs1 : Seg w1 s.base s.len 1 (bc l) := h.ext e1 (fun a ha hz => by simpa using hne a ha hz)
  refine VIf.mk (fun hc => ?_) (fun hc => ?_)
  · have hjl : j < l.length := by simp at hc; omega
    obtain ⟨a, ha, hrd⟩ := seg_byte hs1 hjl
    rw [ha]
    refine VIx.i (by omega) (by omega) ?_
    refine VLd.i1 _ hrd (VSet.i ?_)
    refine VLd.i1 _ (Rd.of_bk h1 rfl) ?_
    rw [byte32, bXor32]
    refine VSt.bk h1 rfl (by simp) fun w2 h2 e2 => ?_
    refine ⟨fun k x W => ∃ i : Nat, x = (i : Int) ∧ i ≤ 8 ∧ k = 8 - i ∧ Bk W q [.int .u32 (((stn i (crc r (l.take j) ^^^ BitVec.ofNat 32 l[j].toNat)).toNat : Nat) : Int)] t ∧ Ext [q] w W, ⟨_, 0, rfl, by omega, rfl, h2, e1.then e2 (fun i hi _ => hi)⟩, ?_⟩
    rintro k x w3 ⟨i, rfl, hi, rfl, h3, e3⟩
    refine VIf.mk (fun hc2 => ?_) (fun hc2 => ?_)
    · simp at hc2
      refine VLd.i1 _ (Rd.of_bk h3 rfl) (VSet.i ?_)
      refine VLd.i1 _ (Rd.of_bk h3 rfl) ?_
      rw [bAnd32_1, low_poly, shr32_1, bXor32]
      refine VSt.bk h3 rfl (by simp) fun w4 h4 e4 => ?_
      rw [w64 (show -9223372036854775808 ≤ (i : Int) + 1 ∧ (i : Int) + 1 ≤ 9223372036854775807 by omega)]
      exact ⟨_, by omega, i + 1, by omega, by omega, rfl, h4, e3.then e4 (fun i hi _ => hi)⟩
    · have : i = 8 := by simp at hc2; omega
      subst this
      rw [w64 (show -9223372036854775808 ≤ (j : Int) + 1 ∧ (j : Int) + 1 ≤ 9223372036854775807 by omega)]
      refine ⟨_, by omega, j + 1, by omega, by omega, rfl, ?_, e3⟩
      rw [List.take_succ_eq_append_getElem hjl, crc_app]
      exact h3
  · have hjl : j = l.length := by simp at hc; omega
    subst hjl
    rw [List.take_length] at h1
    refine VLd.i1 _ (Rd.of_bk h1 rfl) (VSet.i ?_)
    rw [max_xor]
    exact ⟨rfl, e1⟩
theorem summer_spec (r : BitVec 32) (w : World) : Calls Try.prog 51 #[.int .u32 ((r.toNat : Nat) : Int)] w fun e w' =>
    ∃ q, e = .returned (.func (.func 63) #[] #[.pointer (some ⟨q, 0, none⟩)]) ∧ Bk w' q [.int .u32 ((r.toNat : Nat) : Int)] 75 ∧ Ext [] w w' ∧ w.heap.size ≤ q := by
  refine sh_seal_summer_ok _ _ _ ?_
  unfold sh_seal_summer
  refine VNw.i fun q w1 hq hk e1 => ?_
  exact ⟨q, rfl, hk, e1, by omega⟩

/-- what a slice reads was there before: its block is old -/
theorem seg_old {w : World} {base : Option Addr} {n size : Nat} {xs : List Value} (h : Seg w base n size xs) (hs : 0 < size) : ∀ a, base = some a → n ≠ 0 → a.block < w.heap.size := by
  intro a ha hn
  obtain ⟨h1, h2⟩ := h
  rcases h2 with h2 | ⟨a', ha', hrd⟩
  · exact absurd h2 hn
  · rw [ha] at ha'; cases ha'
    have hl : 0 < xs.length := by rw [h1]; exact Nat.mul_pos (by omega) hs
    obtain ⟨x, xs, rfl⟩ := List.exists_cons_of_length_pos hl
    have h0 := hrd 0 x rfl
    unfold World.cell? at h0
    cases hb : w.heap[(a.add 0).block]? with
    | none => rw [hb] at h0; simp at h0
    | some o => simpa using (Array.getElem?_eq_some_iff.1 hb).1

theorem Sum_spec (s : Sl) (l : List UInt8) (w : World) (h : Seg w s.base s.len 1 (bc l)) (hl : l.length < 9223372036854775807) :
    Calls Try.prog 35 #[.slice s.base s.len s.cap] w fun e w' => e = .returned (.int .u32 (((sum32 0#32 l).toNat : Nat) : Int)) ∧ Ext [] w w' := by
  refine sh_seal_Sum_ok _ _ _ ?_
  unfold sh_seal_Sum
  refine VCall.i (summer_spec (~~~ 0#32) w) ?_
  rintro e w1 ⟨q, rfl, hk, e1, hq⟩
  refine exW.i1 (t := .any) _ rfl ?_
  refine VDyn.i (by kernel_rfl) ?_
  refine VCall.i (summer1_spec q _ _ s l w1 hk (h.ext0 e1) hl (fun a ha hz => ?_)) ?_
  · have := seg_old h (by omega) a ha hz; omega
  rintro e w2 ⟨rfl, e2⟩
  exact exW.i1 _ rfl (VSet.i ⟨rfl, e1.then e2 (by simp; omega)⟩)
end Go.Proofs.Ythpbkkjggnejcaa
