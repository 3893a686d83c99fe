/-
  Package node, the document's: a node in new memory.
-/
import Derived.Test.YtknohdgcigcmdaaNodeT
namespace Go.Proofs.Ytknohdgcigcmdaa
open Go.RowKit
set_option maxRecDepth 100000

theorem newCells {w0 W : World} {b5 : Nat} {c : Sl} {L : List Ce} (hk : Bk W b5 [] 47) (hb : w0.heap.size ≤ b5) (e0 : Ext [] w0 W) (h : Seg W c.base c.len 4 (ceR.cells L)) (hL : L.length ≤ 1000) {K : Sl → World → Prop} (kk : ∀ l W', OwnR ceR 47 w0 W' l L → Ext [] w0 W' → Ext [b5] W W' → K l W') :
    VApp none W 47 4 48 #[.string ByteArray.empty, .string ByteArray.empty, .int .i64 0, .int .i64 0] (some ⟨b5, 0, none⟩) 0 0 c.len (fun news => Seg W c.base c.len 4 news) K := by
  have ho : OwnR ceR 47 w0 W ⟨some ⟨b5, 0, none⟩, 0, 0⟩ [] := ⟨Row.of_bk hk (by simp [Rec.cells]) (by omega), by simp [rowB]; exact hb⟩
  have hn : c.len = L.length := Seg.rlen (r := ceR) h
  exact VApp.rec (r := ceR) (s := ⟨some ⟨b5, 0, none⟩, 0, 0⟩) (L := []) ho e0 h hn.symm rfl (by simp only [List.length_nil]; omega) (by simp only [List.length_nil]; omega) fun s' w' h' e' e2 _ => kk s' w' h' e' e2
set_option maxHeartbeats 1000000 in
theorem xTwin_spec (c k : Sl) (n : Nd) (w : World) (h : NIn w c k n) (hs : n.cs.length ≤ 1000 ∧ n.ks.length ≤ 1000) : Calls Try.prog 36 #[.agg (nhC n.leaf c k).toArray] w fun e w' => ∃ c' k' : Sl, e = .returned (.agg (nhC n.leaf c' k').toArray) ∧ OwnN 47 w w' c' k' n ∧ Ext [] w w' := by
  refine sh_butteryref06_Twin_ok _ _ _ _ _ ?_
  unfold sh_butteryref06_Twin
  refine VNw.i fun nb w1 hnb hk1 e1 => VNw.i fun b2 w2 hb2 hz2 e2 => ?_
  have hk2 : Bk w2 nb (nhC n.leaf c k) 25 := hk1.ext e2
  have hz2 : Bk w2 b2 (nhC false ⟨none, 0, 0⟩ ⟨none, 0, 0⟩) 25 := hz2
  have e02 := e1.then0 e2
  have z1 := e1.size
  have lnb := hk1.lt
  have lb2 := hz2.lt
  refine ⟨fun W => ∃ c' k' : Sl, Bk W b2 (nhC n.leaf c' k') 25 ∧ OwnN 47 w W c' k' n ∧ Ext [] w W, ?_, ?_⟩
  · intro w3 hw3
    have ed := Ext.drew' hw3
    have e03 := e02.then0 ed
    have hk3 := hk2.ext ed
    have hz3 := hz2.ext ed
    have h3 := h.ext0 e03
    have z3 := e03.size
    have ln3 := hk3.lt
    have lz3 := hz3.lt
    have fin : ∀ {W : World} {lc lk : Sl}, OwnR ceR 47 w W lc n.cs → OwnR itR 3 w W lk n.ks → Ext [] w W → Bk W b2 (nhC false ⟨none, 0, 0⟩ ⟨none, 0, 0⟩) 25 →
        VSt none W ⟨b2, 0, none⟩ [.bool n.leaf, .slice lc.base lc.len lc.cap, .slice lk.base lk.len lk.cap] fun (w8 : World) => ∃ c' k' : Sl, Bk w8 b2 (nhC n.leaf c' k') 25 ∧ OwnN 47 w w8 c' k' n ∧ Ext [] w w8 := by
      intro W lc lk hc hk he hz
      refine VSt.bk hz rfl (by simp [nhC]) fun w8 h8 e8 => ⟨lc, lk, h8, ⟨hc.ext e8 (fun b hb hm => ?_), hk.ext e8 (fun b hb hm => ?_)⟩, he.then e8 (fun i hi hlt => by simp at hi; omega)⟩
      · simp at hm; subst hm
        obtain ⟨_, hzz⟩ := hc.1.bk_of hb
        exact hz.neT hzz (by decide) rfl
      · simp at hm; subst hm
        obtain ⟨_, hzz⟩ := hk.1.bk_of hb
        exact hz.neT hzz (by decide) rfl
    refine VLd.i1 (t := .bool) n.leaf (Rd.of_bk hk3 rfl) (VLd.s c (Rd.of_bk hk3 rfl) (VLd.s k (Rd.of_bk hk3 rfl) ⟨?_, ?_⟩))
    · refine VNw.i fun b5 w4 hb5 hk5 e4 => ⟨Rd.of_bk (hk3.ext e4) rfl, Rd.of_bk (hk3.ext e4) rfl, Rd.of_bk (hk3.ext e4) rfl, ?_, ?_⟩
      · have z4 := e4.size
        refine newCells hk5 (by omega) (e03.then0 e4) (h3.ext0 e4).ci.1 hs.1 fun lc w5 hc5 e05 e5 => ?_
        have hn5 := (hk3.ext e4).ext e5 (by simp; omega)
        have hz5 := (hz3.ext e4).ext e5 (by simp; omega)
        refine ⟨Rd.of_bk hn5 rfl, Rd.of_bk hn5 rfl, ?_⟩
        refine VNw.i fun b9 w6 hb9 hk9 e6 => ⟨Rd.of_bk (hn5.ext e6) rfl, Rd.of_bk (hn5.ext e6) rfl, ?_⟩
        have z5 := e5.size
        refine newKids hk9 (by omega) (e05.then0 e6) (h.ext0 (e05.then0 e6)).ki.1 hs.2 fun lk w7 hk7 e07 e7 => ?_
        have hc7 := (hc5.ext0 e6).ext e7 (fun b hb hm => by have := hc5.1.lt b hb; simp at hm; omega)
        exact ⟨Rd.of_bk ((hn5.ext e6).ext e7 (by simp; omega)) rfl, fin hc7 hk7 e07 ((hz5.ext e6).ext e7 (by simp; omega))⟩
      · have z4 := e4.size
        refine VNw.i fun b9 w5 hb9 hk9 e5 => ⟨Rd.of_bk ((hk3.ext e4).ext e5) rfl, Rd.of_bk ((hk3.ext e4).ext e5) rfl, Rd.of_bk ((hk3.ext e4).ext e5) rfl, ?_⟩
        have l5 := hk5.lt
        refine newCells (hk5.ext e5) (by omega) ((e03.then0 e4).then0 e5) ((h3.ext0 e4).ext0 e5).ci.1 hs.1 fun lc w6 hc6 e06 e6 => ?_
        have hn6 := ((hk3.ext e4).ext e5).ext e6 (by simp; omega)
        have hz6 := ((hz3.ext e4).ext e5).ext e6 (by simp; omega)
        have h96 := hk9.ext e6 (by simp; omega)
        refine ⟨Rd.of_bk hn6 rfl, Rd.of_bk hn6 rfl, ?_⟩
        refine newKids h96 (by omega) e06 (h.ext0 e06).ki.1 hs.2 fun lk w7 hk7 e07 e7 => ?_
        have hc7 := hc6.ext e7 (fun b hb hm => by
          simp at hm; subst hm
          obtain ⟨_, hzz⟩ := hc6.1.bk_of hb
          exact hzz.neT h96 (by decide) rfl)
        exact ⟨Rd.of_bk (hn6.ext e7 (by simp; omega)) rfl, fin hc7 hk7 e07 (hz6.ext e7 (by simp; omega))⟩
    · refine VNw.i fun b9 w4 hb9 hk9 e4 => ⟨Rd.of_bk (hk3.ext e4) rfl, Rd.of_bk (hk3.ext e4) rfl, Rd.of_bk (hk3.ext e4) rfl, ?_⟩
      have z4 := e4.size
      have l9 := hk9.lt
      refine VNw.i fun b5 w5 hb5 hk5 e5 => ⟨Rd.of_bk ((hk3.ext e4).ext e5) rfl, Rd.of_bk ((hk3.ext e4).ext e5) rfl, Rd.of_bk ((hk3.ext e4).ext e5) rfl, ?_⟩
      refine newCells hk5 (by omega) ((e03.then0 e4).then0 e5) ((h3.ext0 e4).ext0 e5).ci.1 hs.1 fun lc w6 hc6 e06 e6 => ?_
      have hn6 := ((hk3.ext e4).ext e5).ext e6 (by simp; omega)
      have hz6 := ((hz3.ext e4).ext e5).ext e6 (by simp; omega)
      have h96 := (hk9.ext e5).ext e6 (by simp; omega)
      refine ⟨Rd.of_bk hn6 rfl, Rd.of_bk hn6 rfl, ?_⟩
      refine newKids h96 (by omega) e06 (h.ext0 e06).ki.1 hs.2 fun lk w7 hk7 e07 e7 => ?_
      have hc7 := hc6.ext e7 (fun b hb hm => by
        simp at hm; subst hm
        obtain ⟨_, hzz⟩ := hc6.1.bk_of hb
        exact hzz.neT h96 (by decide) rfl)
      exact ⟨Rd.of_bk (hn6.ext e7 (by simp; omega)) rfl, fin hc7 hk7 e07 (hz6.ext e7 (by simp; omega))⟩
  rintro w18 ⟨c', k', hz18, hN, e18⟩
  exact VLd.nh n.leaf c' k' (Rd.of_bk hz18 rfl) ⟨c', k', rfl, hN, e18⟩
end Go.Proofs.Ytknohdgcigcmdaa
