/-
  Package hand: twins, joined parts, what is spoilt.
-/
import Derived.Test.YtoceilgifkncoaaHandA
import Derived.Test.YtoceilgifkncoaaRecM
namespace Go.Proofs.Ytoceilgifkncoaa
open Go.RowKit
set_option maxRecDepth 100000

def prZ : Pr := (ByteArray.empty, ByteArray.empty)
def lsZ : Ls := (0, 0, 0, false, ByteArray.empty)
theorem twin_spec (v : PtV) (p : Pt) (w : World) (h : PtIn w v p) (hP : p.P.length ≤ 1000000) (hQ : p.Q.length ≤ 1000000) :
    Calls Try.prog 38 #[ptv v] w fun e w' => ∃ v', e = .returned (ptv v') ∧ PtO w w' v' p ∧ (∀ b ∈ rowB v'.1, b ∉ rowB v'.2.1) ∧ Ext [] w w' := by
  refine sh_hand_twin_ok _ _ _ _ _ ?_
  unfold sh_hand_twin
  have hn := h.P.len
  have hm := h.Q.len
  refine VNw.i fun b1 w1 hb1 hk1' e1 => VNw.i fun b2 w2 hb2 hk2' e2 => ?_
  have hk1 := hk1'
  have hk2 := hk2'
  have hk1 := hk1.ext e2
  have hb2w : w.heap.size ≤ b2 := by have := e1.size; omega
  have e12 := e1.then0 e2
  refine ⟨fun q W => ∃ qa b7 b11 : Nat, q = some ⟨qa, 0, none⟩ ∧ w2.heap.size ≤ qa ∧ w2.heap.size ≤ b7 ∧ w2.heap.size ≤ b11 ∧ Bk W b7 (prR.cells (List.replicate v.1.len prZ)) 37 ∧ Bk W b11 (lsR.cells (List.replicate v.2.1.len lsZ)) 68 ∧
    Bk W qa [.slice (some ⟨b7, 0, none⟩) v.1.len v.1.len, .slice (some ⟨b11, 0, none⟩) v.2.1.len v.2.1.len, .bool v.2.2] 33 ∧ Ext [] w2 W, ?_, ?_⟩
  · intro w3 hw3
    have e3 := Ext.drew' hw3
    have hk1 := hk1.ext e3
    have hp : ∀ {W : World}, Ext [] w3 W → Bk W b1 _ _ := fun e => hk1.ext e
    have fin : ∀ (W : World) (b7 b11 qa : Nat), Bk W b7 (prR.cells (List.replicate v.1.len prZ)) 37 → Bk W b11 (lsR.cells (List.replicate v.2.1.len lsZ)) 68 → Bk W qa [.slice none 0 0, .slice none 0 0, .bool false] 33 →
        w3.heap.size ≤ b7 → w3.heap.size ≤ b11 → w3.heap.size ≤ qa → Ext [] w3 W →
        VSt none W ⟨qa, 0, none⟩ [.slice (some ⟨b7, 0, none⟩) v.1.len v.1.len, .slice (some ⟨b11, 0, none⟩) v.2.1.len v.2.1.len, .bool v.2.2] fun (w7 : World) =>
          ∃ qa' b7' b11' : Nat, (some ⟨qa, 0, none⟩ : Option Addr) = some ⟨qa', 0, none⟩ ∧ w2.heap.size ≤ qa' ∧ w2.heap.size ≤ b7' ∧ w2.heap.size ≤ b11' ∧ Bk w7 b7' (prR.cells (List.replicate v.1.len prZ)) 37 ∧ Bk w7 b11' (lsR.cells (List.replicate v.2.1.len lsZ)) 68 ∧
          Bk w7 qa' [.slice (some ⟨b7', 0, none⟩) v.1.len v.1.len, .slice (some ⟨b11', 0, none⟩) v.2.1.len v.2.1.len, .bool v.2.2] 33 ∧ Ext [] w2 w7 := by
      intro W b7 b11 qa k7 k11 kq g7 g11 gq eW
      have hs := e3.size
      refine VSt.bk kq rfl (by simp) fun w7 hk7 e7 => ?_
      have n1 := k7.neT kq (by decide)
      have n2 := k11.neT kq (by decide)
      exact ⟨qa, b7, b11, rfl, by omega, by omega, by omega, k7.ext e7 (by simpa using n1), k11.ext e7 (by simpa using n2), hk7, (e3.then0 eW).then e7 (fun i hi hlt => by simp at hi; omega)⟩
    refine VLd.s v.1 (Rd.of_bk hk1 rfl) (VLd.s v.2.1 (Rd.of_bk hk1 rfl) (VLd.i1 (t := .bool) v.2.2 (Rd.of_bk hk1 rfl) ?_))
    refine ⟨?_, ?_, ?_⟩
    · refine VMk.i (by omega) (by omega) (by omega) (by omega) fun b7 w4 hb7 k7 e4 => ?_
      have k7 := Bk.made prR prZ (n := v.1.len) rfl (k := 2) rfl k7
      refine ⟨Rd.of_bk (hp e4) rfl, Rd.of_bk (hp e4) rfl, ?_, ?_⟩
      · refine VMk.i (by omega) (by omega) (by omega) (by omega) fun b11 w5 hb11 k11 e5 => ?_
        have k11 := Bk.made lsR lsZ (n := v.2.1.len) rfl (k := 5) rfl k11
        have e45 := e4.then0 e5
        refine ⟨Rd.of_bk (hp e45) rfl, VNw.i fun q w6 hq kq e6 => ?_⟩
        have e46 := e45.then0 e6
        have := e4.size; have := e5.size
        exact ⟨Rd.of_bk (hp e46) rfl, fin w6 b7 b11 q ((k7.ext e5).ext e6) (k11.ext e6) kq (by omega) (by omega) (by omega) e46⟩
      · refine VNw.i fun q w5 hq kq e5 => ?_
        have e45 := e4.then0 e5
        refine ⟨Rd.of_bk (hp e45) rfl, Rd.of_bk (hp e45) rfl, VMk.i (by omega) (by omega) (by omega) (by omega) fun b11 w6 hb11 k11 e6 => ?_⟩
        have k11 := Bk.made lsR lsZ (n := v.2.1.len) rfl (k := 5) rfl k11
        have e46 := e45.then0 e6
        have := e4.size; have := e5.size
        exact ⟨Rd.of_bk (hp e46) rfl, fin w6 b7 b11 q ((k7.ext e5).ext e6) k11 (kq.ext e6) (by omega) (by omega) (by omega) e46⟩
    · refine VMk.i (by omega) (by omega) (by omega) (by omega) fun b11 w4 hb11 k11 e4 => ?_
      have k11 := Bk.made lsR lsZ (n := v.2.1.len) rfl (k := 5) rfl k11
      refine ⟨Rd.of_bk (hp e4) rfl, Rd.of_bk (hp e4) rfl, ?_, ?_⟩
      · refine VMk.i (by omega) (by omega) (by omega) (by omega) fun b7 w5 hb7 k7 e5 => ?_
        have k7 := Bk.made prR prZ (n := v.1.len) rfl (k := 2) rfl k7
        have e45 := e4.then0 e5
        refine ⟨Rd.of_bk (hp e45) rfl, VNw.i fun q w6 hq kq e6 => ?_⟩
        have e46 := e45.then0 e6
        have := e4.size; have := e5.size
        exact ⟨Rd.of_bk (hp e46) rfl, fin w6 b7 b11 q (k7.ext e6) ((k11.ext e5).ext e6) kq (by omega) (by omega) (by omega) e46⟩
      · refine VNw.i fun q w5 hq kq e5 => ?_
        have e45 := e4.then0 e5
        refine ⟨Rd.of_bk (hp e45) rfl, Rd.of_bk (hp e45) rfl, VMk.i (by omega) (by omega) (by omega) (by omega) fun b7 w6 hb7 k7 e6 => ?_⟩
        have k7 := Bk.made prR prZ (n := v.1.len) rfl (k := 2) rfl k7
        have e46 := e45.then0 e6
        have := e4.size; have := e5.size
        exact ⟨Rd.of_bk (hp e46) rfl, fin w6 b7 b11 q k7 ((k11.ext e5).ext e6) (kq.ext e6) (by omega) (by omega) (by omega) e46⟩
    · refine VNw.i fun q w4 hq kq e4 => ?_
      refine ⟨Rd.of_bk (hp e4) rfl, Rd.of_bk (hp e4) rfl, Rd.of_bk (hp e4) rfl, ?_, ?_⟩
      · refine VMk.i (by omega) (by omega) (by omega) (by omega) fun b7 w5 hb7 k7 e5 => ?_
        have k7 := Bk.made prR prZ (n := v.1.len) rfl (k := 2) rfl k7
        have e45 := e4.then0 e5
        refine ⟨Rd.of_bk (hp e45) rfl, Rd.of_bk (hp e45) rfl, VMk.i (by omega) (by omega) (by omega) (by omega) fun b11 w6 hb11 k11 e6 => ?_⟩
        have k11 := Bk.made lsR lsZ (n := v.2.1.len) rfl (k := 5) rfl k11
        have e46 := e45.then0 e6
        have := e4.size; have := e5.size
        exact ⟨Rd.of_bk (hp e46) rfl, fin w6 b7 b11 q (k7.ext e6) k11 ((kq.ext e5).ext e6) (by omega) (by omega) (by omega) e46⟩
      · refine VMk.i (by omega) (by omega) (by omega) (by omega) fun b11 w5 hb11 k11 e5 => ?_
        have k11 := Bk.made lsR lsZ (n := v.2.1.len) rfl (k := 5) rfl k11
        have e45 := e4.then0 e5
        refine ⟨Rd.of_bk (hp e45) rfl, Rd.of_bk (hp e45) rfl, VMk.i (by omega) (by omega) (by omega) (by omega) fun b7 w6 hb7 k7 e6 => ?_⟩
        have k7 := Bk.made prR prZ (n := v.1.len) rfl (k := 2) rfl k7
        have e46 := e45.then0 e6
        have := e4.size; have := e5.size
        exact ⟨Rd.of_bk (hp e46) rfl, fin w6 b7 b11 q k7 (k11.ext e6) ((kq.ext e5).ext e6) (by omega) (by omega) (by omega) e46⟩
  · rintro q w25 ⟨qa, b7, b11, rfl, gq, g7, g11, k7, k11, kq, e25⟩
    have hs1 := e1.size
    have hs2 := e2.size
    have hk1 := hk1.ext e25
    have hk2 := hk2.ext e25
    have h25 := (h.ext0 e12).ext0 e25
    have e25w := e12.then0 e25
    have n711 : b7 ≠ b11 := k7.neT k11 (by decide)
    have n7q : b7 ≠ qa := k7.neT kq (by decide)
    have n11q : b11 ≠ qa := k11.neT kq (by decide)
    have hl1 : b1 < w2.heap.size := by have := hk1'.lt; omega
    have hl2 : b2 < w2.heap.size := by have := e2.size; have := hk2'.lt; omega
    refine onPtr.i (VLd.s ⟨some ⟨b7, 0, none⟩, v.1.len, v.1.len⟩ (Rd.of_bk kq rfl) (VLd.s v.1 (Rd.of_bk hk1 rfl) ?_))
    refine VCopy.full (r := prR) k7 (List.length_replicate ..) h25.P.1 rfl rfl fun w26 k7 e26 => ?_
    have k11 := k11.ext e26 (by simp; omega)
    have kq := kq.ext e26 (by simp; omega)
    have hk1 := hk1.ext e26 (by simp; omega)
    have hk2 := hk2.ext e26 (by simp; omega)
    have e26w : Ext [] w w26 := e25w.then e26 (fun i hi hlt => by simp at hi; omega)
    have h26 := h.ext0 e26w
    refine onPtr.i (VLd.s ⟨some ⟨b11, 0, none⟩, v.2.1.len, v.2.1.len⟩ (Rd.of_bk kq rfl) (VLd.s v.2.1 (Rd.of_bk hk1 rfl) ?_))
    refine VCopy.full (r := lsR) k11 (List.length_replicate ..) h26.Q.1 rfl rfl fun w27 k11 e27 => ?_
    have k7 := k7.ext e27 (by simp; omega)
    have kq := kq.ext e27 (by simp; omega)
    have hk2 := hk2.ext e27 (by simp; omega)
    have e27w : Ext [] w w27 := e26w.then e27 (fun i hi hlt => by simp at hi; omega)
    refine onPtr.i ⟨(⟨some ⟨b7, 0, none⟩, v.1.len, v.1.len⟩ : Sl), (⟨some ⟨b11, 0, none⟩, v.2.1.len, v.2.1.len⟩ : Sl), (v.2.2 : Bool), gd.i (Rd.of_bk kq rfl), ?_⟩
    refine VSt.bk hk2 rfl (by simp) fun w28 hk2 e28 => ?_
    have k7 := k7.ext e28 (by simp; omega)
    have k11 := k11.ext e28 (by simp; omega)
    refine ⟨(⟨some ⟨b7, 0, none⟩, v.1.len, v.1.len⟩ : Sl), (⟨some ⟨b11, 0, none⟩, v.2.1.len, v.2.1.len⟩ : Sl), (v.2.2 : Bool), gd.i (Rd.of_bk hk2 rfl), ?_⟩
    refine ⟨(⟨some ⟨b7, 0, none⟩, v.1.len, v.1.len⟩, ⟨some ⟨b11, 0, none⟩, v.2.1.len, v.2.1.len⟩, v.2.2), rfl, ⟨⟨Row.of_bk k7 (by rw [Rec.cells_len, hn]) (by omega), by simp [rowB]; omega⟩, ⟨Row.of_bk k11 (by rw [Rec.cells_len, hm]) (by omega), by simp [rowB]; omega⟩, h.last⟩, ?_, e27w.then e28 (fun i hi hlt => by simp at hi; omega)⟩
    simp [rowB]; exact n711
end Go.Proofs.Ytoceilgifkncoaa
