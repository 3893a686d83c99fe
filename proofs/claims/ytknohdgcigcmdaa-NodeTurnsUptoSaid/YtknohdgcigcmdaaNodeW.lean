/-
  Package node, the document's: a node cut at a place (printed by walks/xat.py).
-/
import Derived.Test.YtknohdgcigcmdaaNodeU
import Derived.Test.YtknohdgcigcmdaaWalkA
namespace Go.Proofs.Ytknohdgcigcmdaa
open Go.RowKit
set_option maxRecDepth 100000

/-- a node that can be read, in memory that is new -/
structure NewN (w0 W : World) (c k : Sl) (n : Nd) : Prop where
  nin : NIn W c k n
  cn : ∀ a, c.base = some a → w0.heap.size ≤ a.block
  kn : ∀ a, k.base = some a → w0.heap.size ≤ a.block
theorem NewN.ext {w0 W W' : World} {c k : Sl} {n : Nd} {M : List Nat} (h : NewN w0 W c k n) (e : Ext M W W') (hm : ∀ b ∈ M, b < w0.heap.size) : NewN w0 W' c k n :=
  ⟨⟨⟨h.nin.ci.1.ext e fun a ha _ hb => by have := h.cn a ha; have := hm _ hb; omega, h.nin.ci.2⟩, ⟨h.nin.ki.1.ext e fun a ha _ hb => by have := h.kn a ha; have := hm _ hb; omega, h.nin.ki.2⟩⟩, h.cn, h.kn⟩
theorem NewN.ext0 {w0 W W' : World} {c k : Sl} {n : Nd} (h : NewN w0 W c k n) (e : Ext [] W W') : NewN w0 W' c k n := h.ext e (by simp)
theorem NewN.mono {w0 w1 W : World} {c k : Sl} {n : Nd} (h : NewN w1 W c k n) (e : w0.heap.size ≤ w1.heap.size) : NewN w0 W c k n := ⟨h.nin, fun a ha => Nat.le_trans e (h.cn a ha), fun a ha => Nat.le_trans e (h.kn a ha)⟩
theorem base_block {s : Sl} {a : Addr} (h : s.base = some a) : a.block ∈ rowB s := by simp [rowB, h]
theorem OwnN.new {T : TypeId} {w0 W : World} {c k : Sl} {n : Nd} (h : OwnN T w0 W c k n) : NewN w0 W c k n :=
  ⟨h.nin, fun a ha => h.co.2 _ (base_block ha), fun a ha => h.ko.2 _ (base_block ha)⟩
theorem cutB_new {N : Nat} {b : Option Addr} {c k i : Nat} (h : ∀ a, b = some a → N ≤ a.block) : ∀ a, cutB b c k i = some a → N ≤ a.block := by
  intro a ha
  unfold cutB at ha
  split at ha
  · exact h a ha
  · cases b with
    | none => simp at ha
    | some q => simp at ha; subst ha; rw [addr_block]; exact h q rfl
theorem none_new {N : Nat} : ∀ a : Addr, (none : Option Addr) = some a → N ≤ a.block := by simp
set_option maxHeartbeats 1000000 in
theorem xat_spec (c k : Sl) (n : Nd) (w : World) (i : Nat) (hi : i < n.cs.length) (h : NIn w c k n) (hs : n.cs.length ≤ 1000 ∧ n.ks.length ≤ 1000) : Calls Try.prog 37 #[.agg (nhC n.leaf c k).toArray, .int .i64 (i : Int)] w fun e w' =>
      ∃ c1 k1 c2 k2 : Sl, e = .returned (.tuple #[.agg (nhC n.leaf c1 k1).toArray, .string (n.cs[i]).key, .agg (nhC n.leaf c2 k2).toArray]) ∧ NewN w w' c1 k1 (atN n i).1 ∧ NewN w w' c2 k2 (atN n i).2 ∧ Ext [] w w' := by
  refine sh_butteryref06_at_ok _ _ _ _ _ _ ?_
  unfold sh_butteryref06_at
  have hl := h.ci.1.rlen
  have hkl := h.ki.1.rlen
  have hcap := h.ci.2
  have hcapk := h.ki.2
  refine VNw.i fun n_2 w1 hb1 hk1 e1 => ?_
  have hk1 : Bk w1 n_2 [.bool n.leaf, .slice c.base c.len c.cap, .slice k.base k.len k.cap] 25 := hk1
  have z1 := e1.size
  have l1 := hk1.lt
  refine VNw.i fun b4 w2 hb2 hk2 e2 => ?_
  have hk2 : Bk w2 b4 [.bool false, .slice none 0 0, .slice none 0 0] 25 := hk2
  have z2 := e2.size
  have l2 := hk2.lt
  refine VNw.i fun b6 w3 hb3 hk3 e3 => ?_
  have hk3 : Bk w3 b6 [.bool false, .slice none 0 0, .slice none 0 0] 25 := hk3
  have z3 := e3.size
  have l3 := hk3.lt
  have e1_3 := e2.then0 e3
  have hn_2_3 := hk1.ext e1_3
  refine ⟨n.leaf, c, k, gd.i (Rd.of_bk hn_2_3 rfl), ?_⟩
  have e0_2 := e1.then0 e2
  have e0_3 := e0_2.then0 e3
  have h_3 := h.ext0 e0_3
  refine VCall.i (xTwin_spec c k n w3 h_3 hs) ?_
  rintro e w4 ⟨c', k', rfl, hT, e4⟩
  have z4 := e4.size
  refine ⟨n.leaf, c', k', rfl, ?_⟩
  have gT := hT.ge
  have lT := hT.lt
  have tl := hT.nin.ci.1.rlen
  have tkl := hT.nin.ki.1.rlen
  have tcap := hT.nin.ci.2
  have tcapk := hT.nin.ki.2
  have tc := hT.new.cn
  have tk := hT.new.kn
  refine VNw.i fun m_7 w5 hb5 hk5 e5 => ?_
  have hk5 : Bk w5 m_7 [.bool false, .slice none 0 0, .slice none 0 0] 25 := hk5
  have z5 := e5.size
  have l5 := hk5.lt
  refine VSt.bk hk5 rfl (by simp) fun w6 hk6 e6 => ?_
  have hk6 : Bk w6 m_7 [.bool n.leaf, .slice c'.base c'.len c'.cap, .slice k'.base k'.len k'.cap] 25 := hk6
  have z6 := e6.size
  have e3_5 := e4.then0 e5
  have e3_6 := e3_5.then e6 (fun i hi hlt => by simp at hi; omega)
  have hn_2_6 := hn_2_3.ext e3_6
  refine VLd.i1 (t := CT.bool) n.leaf (Rd.of_bk hn_2_6 rfl) ?_
  refine VIf.mk (fun hc => ?_) (fun hc => ?_)
  · have hat : atN n i = (⟨true, n.cs.take i, []⟩, ⟨true, n.cs.drop i, []⟩) := by unfold atN; rw [if_pos hc]
    rw [hat]
    rw [hc]
    intro w7 hw7
    have e7 := Ext.drew' hw7
    have z7 := e7.size
    have hm_7_7 := hk6.ext e7
    refine VLd.s c' (Rd.of_bk hm_7_7 rfl) ?_
    refine VCk.i (by omega) ?_
    have hn_2_7 := hn_2_6.ext e7
    refine VLd.s c (Rd.of_bk hn_2_7 rfl) ?_
    refine VIx.rd (r := ceR) h.ci.1 hi fun a hra => ?_
    have e0_4 := e0_3.then0 e4
    have e0_5 := e0_4.then0 e5
    have e0_6 := e0_5.then e6 (fun i hi hlt => by simp at hi; omega)
    have e0_7 := e0_6.then0 e7
    refine VLd.i1 (t := CT.str) ((n.cs[i]).key) ((hra.ext e0_7).fld0 rfl) ?_
    refine VLd.s c' (Rd.of_bk hm_7_7 rfl) ?_
    refine VCk.i (by omega) ?_
    have e2_4 := e3.then0 e4
    have e2_5 := e2_4.then0 e5
    have e2_6 := e2_5.then e6 (fun i hi hlt => by simp at hi; omega)
    have e2_7 := e2_6.then0 e7
    have hb4_7 := hk2.ext e2_7
    refine VSt.bk hb4_7 rfl (by simp) fun w8 hk8 e8 => ?_
    have hk8 : Bk w8 b4 [.bool true, .slice (cutB c'.base c'.cap 4 0) (i - 0) (c'.cap - 0), .slice none 0 0] 25 := hk8
    have z8 := e8.size
    have hm_7_8 := hm_7_7.ext e8
    refine ⟨Rd.of_bk hm_7_8 rfl, ?_⟩
    have e0_8 := e0_7.then e8 (fun i hi hlt => by simp at hi; omega)
    refine ⟨(hra.ext e0_8).fld0 rfl, ?_⟩
    have hn_2_8 := hn_2_7.ext e8
    refine ⟨Rd.of_bk hn_2_8 rfl, ?_⟩
    have e3_7 := e3_6.then0 e7
    have e3_8 := e3_7.trans e8
    have hb6_8 := hk3.ext e3_8
    refine VSt.bk hb6_8 rfl (by simp) fun w9 hk9 e9 => ?_
    have hk9 : Bk w9 b6 [.bool true, .slice (cutB c'.base c'.cap 4 i) (c'.len - i) (c'.cap - i), .slice none 0 0] 25 := hk9
    have z9 := e9.size
    have hb4_9 := hk8.ext e9
    refine ⟨true, ⟨(cutB c'.base c'.cap 4 0), (i - 0), (c'.cap - 0)⟩, ⟨none, 0, 0⟩, gd.i (Rd.of_bk hb4_9 rfl), ?_⟩
    refine ⟨true, ⟨(cutB c'.base c'.cap 4 i), (c'.len - i), (c'.cap - i)⟩, ⟨none, 0, 0⟩, gd.i (Rd.of_bk hk9 rfl), ?_⟩
    have e4_6 := e5.then e6 (fun i hi hlt => by simp at hi; omega)
    have e4_7 := e4_6.then0 e7
    have e4_8 := e4_7.trans e8
    have e4_9 := e4_8.trans e9
    have hT_9 := hT.ext e4_9 (fun b hb hm => by have := gT b hb; have := lT b hb; simp at hm; omega)
    have e0_9 := e0_8.then e9 (fun i hi hlt => by simp at hi; omega)
    have A := hT_9.nin.ci.cut 0 i (by omega) (by omega)
    rw [List.drop_zero] at A
    have B := hT_9.nin.ci.cut i n.cs.length (by omega) (by omega)
    rw [List.take_length, ← tl] at B
    have z03 := e0_3.size
    exact ⟨_, _, _, _, rfl, NewN.mono ⟨⟨A, InR.nil _⟩, cutB_new tc, none_new⟩ z03, NewN.mono ⟨⟨B, InR.nil _⟩, cutB_new tc, none_new⟩ z03, e0_9⟩
  · have hq : ¬ n.leaf = true := by simp [hc]
    obtain ⟨q, hqq⟩ : ∃ q, q = min (i + 1) n.ks.length := ⟨_, rfl⟩
    have hq1 : q ≤ n.ks.length := by omega
    have hat : atN n i = (⟨false, n.cs.take i, n.ks.take q⟩, ⟨false, n.cs.drop (i + 1), n.ks.drop q⟩) := by unfold atN; rw [if_neg hq, hqq]
    rw [hat]
    rw [hc]
    rw [w64 (n := (i : Int) + 1) (by omega), show ((i : Int) + 1) = ((i + 1 : Nat) : Int) by omega]
    refine VLd.s k' (Rd.of_bk hk6 rfl) ?_
    refine VSet.eq (m := ((q : Nat) : Int)) (by rw [tkl]; split <;> omega) ?_
    intro w10 hw10
    have e10 := Ext.drew' hw10
    have z10 := e10.size
    have hm_7_10 := hk6.ext e10
    refine VLd.s c' (Rd.of_bk hm_7_10 rfl) ?_
    refine VCk.i (by omega) ?_
    refine VLd.s k' (Rd.of_bk hm_7_10 rfl) ?_
    refine VCk.i (by omega) ?_
    have hn_2_10 := hn_2_6.ext e10
    refine VLd.s c (Rd.of_bk hn_2_10 rfl) ?_
    refine VIx.rd (r := ceR) h.ci.1 hi fun a hra => ?_
    have e0_4 := e0_3.then0 e4
    have e0_5 := e0_4.then0 e5
    have e0_6 := e0_5.then e6 (fun i hi hlt => by simp at hi; omega)
    have e0_10 := e0_6.then0 e10
    refine VLd.i1 (t := CT.str) ((n.cs[i]).key) ((hra.ext e0_10).fld0 rfl) ?_
    refine VLd.s c' (Rd.of_bk hm_7_10 rfl) ?_
    refine VCk.i (by omega) ?_
    refine VLd.s k' (Rd.of_bk hm_7_10 rfl) ?_
    refine VCk.i (by omega) ?_
    have e2_4 := e3.then0 e4
    have e2_5 := e2_4.then0 e5
    have e2_6 := e2_5.then e6 (fun i hi hlt => by simp at hi; omega)
    have e2_10 := e2_6.then0 e10
    have hb4_10 := hk2.ext e2_10
    refine VSt.bk hb4_10 rfl (by simp) fun w11 hk11 e11 => ?_
    have hk11 : Bk w11 b4 [.bool false, .slice (cutB c'.base c'.cap 4 0) (i - 0) (c'.cap - 0), .slice (cutB k'.base k'.cap 1 0) (q - 0) (k'.cap - 0)] 25 := hk11
    have z11 := e11.size
    have hm_7_11 := hm_7_10.ext e11
    refine ⟨Rd.of_bk hm_7_11 rfl, ?_⟩
    refine ⟨Rd.of_bk hm_7_11 rfl, ?_⟩
    have e0_11 := e0_10.then e11 (fun i hi hlt => by simp at hi; omega)
    refine ⟨(hra.ext e0_11).fld0 rfl, ?_⟩
    have hn_2_11 := hn_2_10.ext e11
    refine ⟨Rd.of_bk hn_2_11 rfl, ?_⟩
    have e3_10 := e3_6.then0 e10
    have e3_11 := e3_10.trans e11
    have hb6_11 := hk3.ext e3_11
    refine VSt.bk hb6_11 rfl (by simp) fun w12 hk12 e12 => ?_
    have hk12 : Bk w12 b6 [.bool false, .slice (cutB c'.base c'.cap 4 (Int.toNat (((i + 1 : Nat) : Int)))) (c'.len - (Int.toNat (((i + 1 : Nat) : Int)))) (c'.cap - (Int.toNat (((i + 1 : Nat) : Int)))), .slice (cutB k'.base k'.cap 1 q) (k'.len - q) (k'.cap - q)] 25 := hk12
    have z12 := e12.size
    have hb4_12 := hk11.ext e12
    refine ⟨false, ⟨(cutB c'.base c'.cap 4 0), (i - 0), (c'.cap - 0)⟩, ⟨(cutB k'.base k'.cap 1 0), (q - 0), (k'.cap - 0)⟩, gd.i (Rd.of_bk hb4_12 rfl), ?_⟩
    refine ⟨false, ⟨(cutB c'.base c'.cap 4 (Int.toNat (((i + 1 : Nat) : Int)))), (c'.len - (Int.toNat (((i + 1 : Nat) : Int)))), (c'.cap - (Int.toNat (((i + 1 : Nat) : Int))))⟩, ⟨(cutB k'.base k'.cap 1 q), (k'.len - q), (k'.cap - q)⟩, gd.i (Rd.of_bk hk12 rfl), ?_⟩
    have e4_6 := e5.then e6 (fun i hi hlt => by simp at hi; omega)
    have e4_10 := e4_6.then0 e10
    have e4_11 := e4_10.trans e11
    have e4_12 := e4_11.trans e12
    have hT_12 := hT.ext e4_12 (fun b hb hm => by have := gT b hb; have := lT b hb; simp at hm; omega)
    have e0_12 := e0_11.then e12 (fun i hi hlt => by simp at hi; omega)
    have A := hT_12.nin.ci.cut 0 i (by omega) (by omega)
    rw [List.drop_zero] at A
    have A2 := hT_12.nin.ki.cut 0 q (by omega) (by omega)
    rw [List.drop_zero] at A2
    have B := hT_12.nin.ci.cut (i + 1) n.cs.length (by omega) (by omega)
    rw [List.take_length, ← tl] at B
    have B2 := hT_12.nin.ki.cut q n.ks.length (by omega) (by omega)
    rw [List.take_length, ← tkl] at B2
    have z03 := e0_3.size
    exact ⟨_, _, _, _, rfl, NewN.mono ⟨⟨A, A2⟩, cutB_new tc, cutB_new tk⟩ z03, NewN.mono ⟨⟨B, B2⟩, cutB_new tc, cutB_new tk⟩ z03, e0_12⟩
end Go.Proofs.Ytknohdgcigcmdaa
