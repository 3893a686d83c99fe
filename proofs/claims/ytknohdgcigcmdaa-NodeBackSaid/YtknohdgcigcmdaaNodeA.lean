/-
  Package node: cells, nodes; which may be.
-/
import Derived.Test.YtknohdgcigcmdaaCodeR
import Derived.Test.YtknohdgcigcmdaaCodeE
import Derived.Test.YtknohdgcigcmdaaCodeI
import Derived.Test.YtknohdgcigcmdaaRecO
namespace Go.Proofs.Ytknohdgcigcmdaa
open Go.RowKit
set_option maxRecDepth 100000

structure Ce where
  key : ByteArray
  val : ByteArray
  long : Int
  size : Int
def zCe : Ce := ⟨ByteArray.empty, ByteArray.empty, 0, 0⟩
instance : Inhabited Ce := ⟨zCe⟩
def ceC (c : Ce) : List Value := [.string c.key, .string c.val, .int .i64 c.long, .int .i64 c.size]
def ceR : Rec Ce := ⟨ceC, 4, fun _ => rfl, fun _ => rfl, by omega⟩
def itR : Rec Int := ⟨fun x => [.int .i64 x], 1, fun _ => rfl, fun _ => rfl, by omega⟩
structure Nd where
  leaf : Bool
  cs : List Ce
  ks : List Int
/-- a node in cells -/
def nhC (b : Bool) (c k : Sl) : List Value := [.bool b, .slice c.base c.len c.cap, .slice k.base k.len k.cap]
structure NIn (W : World) (c k : Sl) (n : Nd) : Prop where
  ci : InR ceR W c n.cs
  ki : InR itR W k n.ks
theorem NIn.ext0 {W W' : World} {c k : Sl} {n : Nd} (h : NIn W c k n) (e : Ext [] W W') : NIn W' c k n := ⟨⟨h.ci.1.ext0 e, h.ci.2⟩, ⟨h.ki.1.ext0 e, h.ki.2⟩⟩
def ltB (a b : ByteArray) : Bool := Op.bytesLess a.toList b.toList
def mayC (leaf : Bool) (c : Ce) : Bool :=
  if 48 < c.key.size then false
  else if leaf = false then decide (c.val.size = 0) && (decide (c.long = 0) && decide (c.size = 0))
  else if c.long = 0 then decide (c.size = 0) && decide (c.val.size ≤ 64)
  else decide (c.val.size = 0) && (decide (1 ≤ c.long) && decide (c.long ≤ 2147483647)) && (decide (1 ≤ c.size) && decide (c.size ≤ 2147483647))
theorem VIx.i' {α : Type} {r : Rec α} {g : Option Bool} {w : World} {base : Option Addr} {n j : Nat} {L : List α} {K : Addr → Prop} (h : Seg w base n r.k (r.cells L)) (hi : j < L.length) (k : ∀ a, Rd w (a.add (j * r.k)) (r.f L[j]) → K a) : VIx g base n (j : Int) K := by
  obtain ⟨a, ha, hrd⟩ := h.rec_at hi
  have := h.rlen
  subst ha
  exact VIx.i (by omega) (by omega) (k a hrd)
theorem VIx.off {g : Bool} (hg : g = false) {base : Option Addr} {n : Nat} {i : Int} {K : Addr → Prop} (k : ∀ a, K a) : VIx (some g) base n i K := ⟨⟨0, 0, none⟩, fun e => absurd (hg.symm.trans e) (by simp), k _⟩
theorem VLd.off1 {g : Bool} (hg : g = false) {w : World} {a : Addr} {t : CT} {K : ArrP [t]} (x : t.D) (k : K x) : VLd (some g) w a [t] K := ⟨x, fun e => absurd (hg.symm.trans e) (by simp), k⟩
theorem VLd.offS {g : Bool} (hg : g = false) {w : World} {a : Addr} {K : ArrP [CT.sl]} (k : ∀ s, K s) : VLd (some g) w a [CT.sl] K := ⟨⟨none, 0, 0⟩, fun e => absurd (hg.symm.trans e) (by simp), k _⟩
theorem ba_size (x : ByteArray) : x.size = x.data.toList.length := (Array.length_toList ..).symm
theorem size0 (x : ByteArray) : (x.toList == (ByteArray.mk #[]).toList) = decide (x.size = 0) := by
  rw [strEq, ba_size, Bool.eq_iff_iff, decide_eq_true_eq, beq_iff_eq]
  exact ⟨fun h => by rw [h]; rfl, fun h => List.eq_nil_of_length_eq_zero h⟩
theorem size0' (x : ByteArray) : (x.toList == ByteArray.empty.toList) = decide (x.size = 0) := size0 x
theorem count_pure (n least : Int) (w : World) : Calls Try.prog 44 #[.int .i64 n, .int .i64 least] w fun e w' => e = .returned (.bool ((decide (n ≥ least)) && (decide (n ≤ 2147483647)))) ∧ w' = w := by
  refine sh_node_count_ok _ _ _ _ ?_
  exact ⟨rfl, rfl⟩
theorem exW.ce {e : Ending} {w : World} {K : ArrW [CT.str, CT.str, CT.int .i64, CT.int .i64]} (c : Ce) (he : e = .returned (.agg (ceC c).toArray)) (k : K c.key c.val c.long c.size w) :
    exW (flatCT (.agg #[.string ByteArray.empty, .string ByteArray.empty, .int .i64 0, .int .i64 0])) (fun vs => e = .returned (rebuild (.agg #[.string ByteArray.empty, .string ByteArray.empty, .int .i64 0, .int .i64 0]) vs)) K w := ⟨c.key, c.val, c.long, c.size, he, k⟩
theorem VLd.ce {w : World} {a : Addr} {K : ArrP [CT.str, CT.str, CT.int .i64, CT.int .i64]} (c : Ce) (h : Rd w a (ceC c)) (k : K c.key c.val c.long c.size) : VLd none w a [CT.str, CT.str, CT.int .i64, CT.int .i64] K := ⟨c.key, c.val, c.long, c.size, h, k⟩
theorem VLd.nh {w : World} {a : Addr} {K : ArrP [CT.bool, CT.sl, CT.sl]} {g : Option Bool} (b : Bool) (c k : Sl) (h : Rd w a (nhC b c k)) (kk : K b c k) : VLd g w a [CT.bool, CT.sl, CT.sl] K := ⟨b, c, k, gd.i h, kk⟩
theorem may_spec (c : Ce) (leaf : Bool) (w : World) : Calls Try.prog 41 #[.agg (ceC c).toArray, .bool leaf] w fun e w' => e = .returned (.bool (mayC leaf c)) ∧ Ext [] w w' := by
  refine sh_node_Cell_may_ok _ _ _ _ _ _ _ ?_
  unfold sh_node_Cell_may
  refine VNw.i fun b w1 hb hk e1 => ?_
  have hk : Bk w1 b (ceC c) 48 := hk
  refine VLd.i1 (t := .str) c.key (Rd.of_bk hk rfl) (VIf.mk (fun hc => ⟨?_, e1⟩) (fun hc => ?_))
  · have hc : 48 < c.key.size := by simp at hc; omega
    unfold mayC
    rw [if_pos hc]
  have hc : ¬ 48 < c.key.size := by simp at hc; omega
  refine VIf.mk (fun hl => ?_) (fun hl => ?_)
  · have hl : leaf = false := by simpa using hl
    refine VLd.ce c (Rd.of_bk hk rfl) (VLd.i1 (t := .str) c.key (Rd.of_bk hk rfl) ⟨?_, e1⟩)
    unfold mayC
    rw [if_neg hc, if_pos hl, size0']
    congr 2
    simp
    rfl
  have hl : ¬ leaf = false := by simpa using hl
  refine VLd.i1 (t := .int .i64) c.long (Rd.of_bk hk rfl) (VIf.mk (fun h0 => ?_) (fun h0 => ?_))
  · have h0 : c.long = 0 := by simpa using h0
    refine VLd.i1 (t := .int .i64) c.size (Rd.of_bk hk rfl) (VLd.i1 (t := .str) c.val (Rd.of_bk hk rfl) ⟨?_, e1⟩)
    unfold mayC
    rw [if_neg hc, if_neg hl, if_pos h0]
    congr 2
    rw [Bool.eq_iff_iff]
    simp only [Bool.and_eq_true, beq_iff_eq, decide_eq_true_eq]
    omega
  · have h0 : ¬ c.long = 0 := by simpa using h0
    refine VLd.i1 (t := .str) c.val (Rd.of_bk hk rfl) (VLd.i1 (t := .int .i64) c.long (Rd.of_bk hk rfl) (VCall.pure (count_pure _ _ _) (exW.i1 (t := .bool) _ rfl (VLd.i1 (t := .int .i64) c.size (Rd.of_bk hk rfl) (VCall.pure (count_pure _ _ _) (exW.i1 (t := .bool) _ rfl ⟨?_, e1⟩))))))
    unfold mayC
    rw [if_neg hc, if_neg hl, if_neg h0, size0]
theorem xcell_spec (c : Ce) (leaf : Bool) (w : World) : Calls Try.prog 45 #[.bool leaf, .agg (ceC c).toArray] w fun e w' => e = .returned (.bool (mayC leaf c)) ∧ Ext [] w w' := by
  refine sh_butteryref06_cell_ok _ _ _ _ _ _ _ ?_
  unfold sh_butteryref06_cell
  refine VNw.i fun b w1 hb hk e1 => ?_
  have hk : Bk w1 b (ceC c) 47 := hk
  refine VLd.i1 (t := .str) c.key (Rd.of_bk hk rfl) (VIf.mk (fun hc => ⟨?_, e1⟩) (fun hc => ?_))
  · have hc : 48 < c.key.size := by simp at hc; omega
    unfold mayC
    rw [if_pos hc]
  have hc : ¬ 48 < c.key.size := by simp at hc; omega
  refine VLd.i1 (t := .int .i64) c.long (Rd.of_bk hk rfl) (VIf.mk (fun h0 => ?_) (fun h0 => ?_))
  · refine VLd.i1 (t := .int .i64) c.long (Rd.of_bk hk rfl) (VLd.i1 (t := .int .i64) c.size (Rd.of_bk hk rfl) (VLd.i1 (t := .str) c.val (Rd.of_bk hk rfl) (VLd.i1 (t := .str) c.val (Rd.of_bk hk rfl) ⟨?_, e1⟩)))
    unfold mayC
    rw [if_neg hc, size0]
    cases leaf with
    | false =>
      congr 2
      rw [Bool.eq_iff_iff]
      simp only [Bool.and_eq_true, Bool.or_eq_true, beq_iff_eq, decide_eq_true_eq, if_true, Bool.false_eq_true, false_or]
      omega
    | true =>
      have h0 : c.long = 0 := by simpa using h0
      simp only [Bool.true_eq_false, if_false]
      rw [if_pos h0]
      congr 2
      rw [Bool.eq_iff_iff]
      simp only [Bool.and_eq_true, Bool.or_eq_true, beq_iff_eq, decide_eq_true_eq, true_or, and_true]
      omega
  · have h0 : ¬ c.long = 0 ∧ leaf = true := by simpa using h0
    refine VLd.i1 (t := .str) c.val (Rd.of_bk hk rfl) (VLd.i1 (t := .int .i64) c.long (Rd.of_bk hk rfl) (VLd.i1 (t := .int .i64) c.long (Rd.of_bk hk rfl) (VLd.i1 (t := .int .i64) c.size (Rd.of_bk hk rfl) (VLd.i1 (t := .int .i64) c.size (Rd.of_bk hk rfl) ⟨?_, e1⟩))))
    unfold mayC
    rw [if_neg hc, if_neg (by rw [h0.2]; simp), if_neg h0.1, size0]
    congr 2
    rw [Bool.eq_iff_iff]
    simp only [Bool.and_eq_true, decide_eq_true_eq]
    omega
end Go.Proofs.Ytknohdgcigcmdaa
