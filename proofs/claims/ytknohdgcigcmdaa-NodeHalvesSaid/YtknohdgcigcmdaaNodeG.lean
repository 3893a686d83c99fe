/-
  Package node: cut at a place.
-/
import Derived.Test.YtknohdgcigcmdaaNodeF
namespace Go.Proofs.Ytknohdgcigcmdaa
open Go.RowKit
set_option maxRecDepth 100000

theorem VIx.old {α : Type} {r : Rec α} {g : Option Bool} {w : World} {base : Option Addr} {n j : Nat} {L : List α} {K : Addr → Prop} (h : Seg w base n r.k (r.cells L)) (hi : j < L.length) (k : ∀ a, Rd w (a.add (j * r.k)) (r.f L[j]) → K a) : VIx g base n (j : Int) K := VIx.i' h hi k
theorem OwnR.apart1 {w0 w1 w2 w3 : World} {α β : Type} {r : Rec α} {q : Rec β} {e e' : TypeId} {s t : Sl} {L : List α} {T : List β} (hs : OwnR r e w0 w1 s L) (le : w1.heap.size ≤ w2.heap.size) (ht : OwnR q e' w2 w3 t T) : ∀ b ∈ rowB s, b ∉ rowB t := fun b hb hb' => by
  have := hs.1.lt b hb
  have := ht.2 b hb'
  omega
theorem at_spec (c k : Sl) (n : Nd) (w : World) (i : Nat) (hi : i < n.cs.length) (h : NIn w c k n) (hs : n.cs.length ≤ 1000 ∧ n.ks.length ≤ 1000) : Calls Try.prog 34 #[.agg (nhC n.leaf c k).toArray, .int .i64 (i : Int)] w fun e w' =>
      ∃ c1 k1 c2 k2 : Sl, e = .returned (.tuple #[.agg (nhC n.leaf c1 k1).toArray, .string (n.cs[i]).key, .agg (nhC n.leaf c2 k2).toArray]) ∧ OwnN 48 w w' c1 k1 (atN n i).1 ∧ OwnN 48 w w' c2 k2 (atN n i).2 ∧ (∀ b ∈ nodeB c1 k1, b ∉ nodeB c2 k2) ∧ Ext [] w w' := by
  refine sh_node_at_ok _ _ _ _ _ _ ?_
  unfold sh_node_at
  have hl := h.ci.1.rlen
  have hkl := h.ki.1.rlen
  have hcap := h.ci.2
  have hcapk := h.ki.2
  refine VNw.i fun nb w1 hnb hk1 e1 => VNw.i fun b4 w2 hb4 hr2 e2 => VNw.i fun b6 w3 hb6 hs3 e3 => ?_
  have hk3 : Bk w3 nb (nhC n.leaf c k) 30 := (hk1.ext e2).ext e3
  have hr3 := hr2.ext e3
  have e03 := (e1.then0 e2).then0 e3
  have z1 := e1.size
  have z2 := e2.size
  have lb4 := hr2.lt
  have lnb := hk1.lt
  -- both halves are laid
  have fin : ∀ {w5 w6 wx : World} {c1 k1 c2 k2 : Sl} {n1 n2 : Nd} {x : ByteArray} {a : Addr} {j : Nat}, n1.leaf = n.leaf → n2.leaf = n.leaf → OwnN 48 wx w5 c1 k1 n1 → w3.heap.size ≤ wx.heap.size → wx.heap.size ≤ w5.heap.size → OwnN 48 w5 w6 c2 k2 n2 → Ext [] w5 w6 → Ext [] w w6 → Bk w6 nb (nhC n.leaf c k) 30 → Bk w6 b4 (nhC false ⟨none, 0, 0⟩ ⟨none, 0, 0⟩) 30 → Bk w6 b6 (nhC false ⟨none, 0, 0⟩ ⟨none, 0, 0⟩) 30 →
      (∀ {W : World}, Ext [] w W → Rd W a [.string x]) → 
      VSt none w6 ⟨b4, 0, none⟩ [.bool n.leaf, .slice c1.base c1.len c1.cap, .slice k1.base k1.len k1.cap] fun (w7 : World) =>
      Rd w7 a [.string x] ∧ Rd w7 ⟨nb, 1, none⟩ [.slice c.base c.len c.cap] ∧
      VSt none w7 ⟨b6, 0, none⟩ [.bool n.leaf, .slice c2.base c2.len c2.cap, .slice k2.base k2.len k2.cap] fun (w8 : World) =>
      VLd none w8 ⟨b4, 0, none⟩ [CT.bool, CT.sl, CT.sl] fun (q0 : Bool) (q1 : Sl) (q2 : Sl) =>
      VLd none w8 ⟨b6, 0, none⟩ [CT.bool, CT.sl, CT.sl] fun (u0 : Bool) (u1 : Sl) (u2 : Sl) =>
      ∃ c1 k1 c2 k2 : Sl, (Ending.returned (.tuple #[.agg #[.bool q0, .slice q1.base q1.len q1.cap, .slice q2.base q2.len q2.cap], .string x, .agg #[.bool u0, .slice u1.base u1.len u1.cap, .slice u2.base u2.len u2.cap]]) = .returned (.tuple #[.agg (nhC n.leaf c1 k1).toArray, .string x, .agg (nhC n.leaf c2 k2).toArray])) ∧ OwnN 48 w w8 c1 k1 n1 ∧ OwnN 48 w w8 c2 k2 n2 ∧ (∀ b ∈ nodeB c1 k1, b ∉ nodeB c2 k2) ∧ Ext [] w w8 := by
    intro w5 w6 wx c1 k1 c2 k2 n1 n2 x a j hl1 hl2 h1 lx lx2 h2 e56 e06 hkn hk4 hk6 hrd
    have ll := h1.lt
    have z5 := e56.size
    refine VSt.bk hk4 rfl (by simp [nhC]) fun w7 hk7 e7 => ?_
    have hk7 : Bk w7 b4 (nhC n.leaf c1 k1) 30 := hk7
    have e07 : Ext [] w w7 := e06.then e7 (fun i hi hlt => by simp at hi; omega)
    have hn7 := hkn.ext e7 (by simp; omega)
    have h67 := hk6.ext e7 (by simp; omega)
    refine ⟨hrd e07, Rd.of_bk hn7 rfl, VSt.bk h67 rfl (by simp [nhC]) fun w8 hk8 e8 => ?_⟩
    have hk8 : Bk w8 b6 (nhC n.leaf c2 k2) 30 := hk8
    have h48 := hk7.ext e8 (by simp; omega)
    have l6 : b4 < w3.heap.size ∧ b6 < w3.heap.size := ⟨hr3.lt, hs3.lt⟩
    have g1 := h1.ge
    have g2 := h2.ge
    have z0x := e03.size
    refine VLd.nh n.leaf c1 k1 (Rd.of_bk h48 rfl) (VLd.nh n.leaf c2 k2 (Rd.of_bk hk8 rfl) ⟨c1, k1, c2, k2, rfl, ?_, ?_, ?_, e07.then e8 (fun i hi hlt => by simp at hi; omega)⟩)
    · exact (((h1.mono (by omega)).ext0 e56).ext e7 (fun b hb hm => by have := g1 b hb; simp at hm; omega)).ext e8 (fun b hb hm => by have := g1 b hb; simp at hm; omega)
    · exact ((h2.mono (by omega)).ext e7 (fun b hb hm => by have := g2 b hb; simp at hm; omega)).ext e8 (fun b hb hm => by have := g2 b hb; simp at hm; omega)
    · intro b hb hb2
      have := ll b hb
      have := g2 b hb2
      omega
  refine VLd.i1 (t := .bool) n.leaf (Rd.of_bk hk3 rfl) (VIf.mk (fun hq => ?_) (fun hq => ?_))
  · have hat : atN n i = (⟨true, n.cs.take i, []⟩, ⟨true, n.cs.drop i, []⟩) := by unfold atN; rw [if_pos hq]
    rw [hat]
    rw [hq] at fin hk3 ⊢
    intro w4 hw4
    have ed := Ext.drew' hw4
    have e04 := e03.then0 ed
    have hk4 := hk3.ext ed
    have c1 := (h.ext0 e04).ci.cut 0 i (by omega) (by omega)
    rw [List.drop_zero] at c1
    refine VLd.s c (Rd.of_bk hk4 rfl) (VCk.i (by omega) (VLd.s c (Rd.of_bk hk4 rfl) (VIx.old h.ci.1 hi fun a hra => VLd.i1 (t := .str) (n.cs[i]).key ((hra.ext e04).fld0 rfl) (VLd.s c (Rd.of_bk hk4 rfl) (VCk.i (by omega) ?_)))))
    rw [Int.toNat_natCast]
    refine VCall.i (twin_spec ⟨cutB c.base c.cap 4 0, i - 0, c.cap - 0⟩ ⟨none, 0, 0⟩ ⟨true, n.cs.take i, []⟩ w4 ⟨c1, InR.nil _⟩ (by simp only [List.length_take, List.length_nil]; omega)) ?_
    rintro e w5 ⟨c1', k1', rfl, h1, e5⟩
    have e05 := e04.then0 e5
    have hk5 := hk4.ext e5
    refine exW.i3 (t := .bool) (u := .sl) (v := .sl) true c1' k1' rfl ⟨Rd.of_bk hk5 rfl, (hra.ext e05).fld0 rfl, Rd.of_bk hk5 rfl, ?_⟩
    have c2 := (h.ext0 e05).ci.cut i n.cs.length (by omega) (by omega)
    rw [List.take_length, ← hl] at c2
    refine VCall.i (twin_spec ⟨cutB c.base c.cap 4 i, c.len - i, c.cap - i⟩ ⟨none, 0, 0⟩ ⟨true, n.cs.drop i, []⟩ w5 ⟨c2, InR.nil _⟩ (by simp only [List.length_drop, List.length_nil]; omega)) ?_
    rintro e w6 ⟨c2', k2', rfl, h2, e6⟩
    have e06 := e05.then0 e6
    have hk6 := hk5.ext e6
    refine exW.i3 (t := .bool) (u := .sl) (v := .sl) true c2' k2' rfl ⟨(hra.ext e06).fld0 rfl, Rd.of_bk hk6 rfl, ?_⟩
    exact fin (j := 0) rfl rfl h1 ed.size e5.size h2 e6 e06 hk6 (((hr3.ext ed).ext e5).ext e6) (((hs3.ext ed).ext e5).ext e6) (fun e => (hra.ext e).fld0 rfl)
  · obtain ⟨q, hqq⟩ : ∃ q, q = min (i + 1) n.ks.length := ⟨_, rfl⟩
    have hat : atN n i = (⟨false, n.cs.take i, n.ks.take q⟩, ⟨false, n.cs.drop (i + 1), n.ks.drop q⟩) := by unfold atN; rw [if_neg (by simp [hq]), hqq]
    rw [hat]
    rw [hq] at fin hk3 ⊢
    have hq1 : q ≤ n.ks.length := by omega
    refine VLd.s k (Rd.of_bk hk3 rfl) (VSet.i ?_)
    have hmin : (if ((k.len : Nat) : Int) < (IntKind.wrap .i64 ((i : Int) + 1)) then ((k.len : Nat) : Int) else IntKind.wrap .i64 ((i : Int) + 1)) = ((q : Nat) : Int) := by
      rw [hkl, w64 (n := (i : Int) + 1) (by omega)]
      split <;> omega
    rw [hmin, w64 (n := (i : Int) + 1) (by omega), show ((i : Int) + 1) = ((i + 1 : Nat) : Int) by omega]
    intro w4 hw4
    have ed := Ext.drew' hw4
    have e04 := e03.then0 ed
    have hk4 := hk3.ext ed
    have c1 := (h.ext0 e04).ci.cut 0 i (by omega) (by omega)
    rw [List.drop_zero] at c1
    have d1 := (h.ext0 e04).ki.cut 0 q (by omega) hq1
    rw [List.drop_zero] at d1
    refine VLd.s c (Rd.of_bk hk4 rfl) (VCk.i (by omega) (VLd.s k (Rd.of_bk hk4 rfl) (VCk.i (by omega) (VLd.s c (Rd.of_bk hk4 rfl) (VIx.old h.ci.1 hi fun a hra => VLd.i1 (t := .str) (n.cs[i]).key ((hra.ext e04).fld0 rfl) (VLd.s c (Rd.of_bk hk4 rfl) (VCk.i (by omega) (VLd.s k (Rd.of_bk hk4 rfl) (VCk.i (by omega) ?_)))))))))
    simp only [Int.toNat_natCast]
    refine VCall.i (twin_spec ⟨cutB c.base c.cap 4 0, i - 0, c.cap - 0⟩ ⟨cutB k.base k.cap 1 0, q - 0, k.cap - 0⟩ ⟨false, n.cs.take i, n.ks.take q⟩ w4 ⟨c1, d1⟩ (by simp only [List.length_take]; omega)) ?_
    rintro e w5 ⟨c1', k1', rfl, h1, e5⟩
    have e05 := e04.then0 e5
    have hk5 := hk4.ext e5
    refine exW.i3 (t := .bool) (u := .sl) (v := .sl) false c1' k1' rfl ⟨Rd.of_bk hk5 rfl, Rd.of_bk hk5 rfl, (hra.ext e05).fld0 rfl, Rd.of_bk hk5 rfl, ?_⟩
    have c2 := (h.ext0 e05).ci.cut (i + 1) n.cs.length (by omega) (by omega)
    rw [List.take_length, ← hl] at c2
    have d2 := (h.ext0 e05).ki.cut q n.ks.length (by omega) (by omega)
    rw [List.take_length, ← hkl] at d2
    refine VCall.i (twin_spec ⟨cutB c.base c.cap 4 (i + 1), c.len - (i + 1), c.cap - (i + 1)⟩ ⟨cutB k.base k.cap 1 q, k.len - q, k.cap - q⟩ ⟨false, n.cs.drop (i + 1), n.ks.drop q⟩ w5 ⟨c2, d2⟩ (by simp only [List.length_drop]; omega)) ?_
    rintro e w6 ⟨c2', k2', rfl, h2, e6⟩
    have e06 := e05.then0 e6
    have hk6 := hk5.ext e6
    refine exW.i3 (t := .bool) (u := .sl) (v := .sl) false c2' k2' rfl ⟨(hra.ext e06).fld0 rfl, Rd.of_bk hk6 rfl, ?_⟩
    exact fin (j := 0) rfl rfl h1 ed.size e5.size h2 e6 e06 hk6 (((hr3.ext ed).ext e5).ext e6) (((hs3.ext ed).ext e5).ext e6) (fun e => (hra.ext e).fld0 rfl)
end Go.Proofs.Ytknohdgcigcmdaa
