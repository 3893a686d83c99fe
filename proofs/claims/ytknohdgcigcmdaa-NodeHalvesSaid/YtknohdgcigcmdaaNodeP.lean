/-
  Package node: what the statements use (printed by gen_p.py).
-/
import Derived.Test.YtknohdgcigcmdaaNodeO
namespace Go.Proofs.Ytknohdgcigcmdaa
open Go.RowKit
set_option maxRecDepth 100000

theorem newKids {w0 W : World} {b8 : Nat} {k : Sl} {L : List Int} (hk : Bk W b8 [] 3) (hb : w0.heap.size ≤ b8) (e0 : Ext [] w0 W) (h : Seg W k.base k.len 1 (itR.cells L)) (hL : L.length ≤ 1000) {K : Sl → World → Prop} (kk : ∀ l W', OwnR itR 3 w0 W' l L → Ext [] w0 W' → Ext [b8] W W' → K l W') :
    VApp none W 3 1 8 #[.int .i64 0] (some ⟨b8, 0, none⟩) 0 0 k.len (fun news => Seg W k.base k.len 1 news) K := by
  have ho : OwnR itR 3 w0 W ⟨some ⟨b8, 0, none⟩, 0, 0⟩ [] := ⟨Row.of_bk hk (by simp [Rec.cells]) (by omega), by simp [rowB]; exact hb⟩
  have hn : k.len = L.length := Seg.rlen (r := itR) h
  exact VApp.rec (r := itR) (s := ⟨some ⟨b8, 0, none⟩, 0, 0⟩) (L := []) ho e0 h hn.symm rfl (by simp only [List.length_nil]; omega) (by simp only [List.length_nil]; omega) fun s' w' h' e' e2 _ => kk s' w' h' e' e2

set_option maxHeartbeats 1000000 in
theorem given_spec (c k : Sl) (n : Nd) (w : World) (h : NIn w c k n) (hs : n.cs.length ≤ 1000 ∧ n.ks.length ≤ 1000) : Calls Try.prog 10 #[.agg (nhC n.leaf c k).toArray] w fun e w' => ∃ c' k' : Sl, e = .returned (.agg (nhC n.leaf c' k').toArray) ∧ OwnN 48 w w' c' k' n ∧ Ext [] w w' := by
  refine sh_butterylaw06_given_ok _ _ _ _ _ ?_
  unfold sh_butterylaw06_given
  have hl := h.ci.1.rlen
  have hkl := h.ki.1.rlen
  refine VNw.i fun nb w1 hnb hk1 e1 => VNw.i fun b2 w2 hb2 hz2 e2 => ?_
  have hk1 : Bk w1 nb (nhC n.leaf c k) 25 := hk1
  have hz2 : Bk w2 b2 (nhC false ⟨none, 0, 0⟩ ⟨none, 0, 0⟩) 30 := hz2
  have z1 := e1.size
  have e02 := e1.then0 e2
  have hk2 := hk1.ext e2
  have lb2 := hz2.lt
  refine ⟨fun p W => ∃ (mb : Nat) (k' : Sl), p = some ⟨mb, 0, none⟩ ∧ DS 48 30 w W mb b2 n.leaf ⟨none, 0, 0⟩ k' [] n.ks ∧ Bk W nb (nhC n.leaf c k) 25, ?_, ?_⟩
  · intro w3 hw3
    have ed := Ext.drew' hw3
    have e03 := e02.then0 ed
    have hk3 := hk2.ext ed
    have hz3 := hz2.ext ed
    have h3 := h.ext0 e03
    have z3 := e03.size
    have ln3 := hk3.lt
    have lz3 := hz3.lt
    have lnb := hk1.lt
    have fin : ∀ {W : World} {mb : Nat} {l : Sl}, Bk W mb (nhC false ⟨none, 0, 0⟩ ⟨none, 0, 0⟩) 30 → OwnR itR 3 w W l n.ks → Ext [] w W → Bk W nb (nhC n.leaf c k) 25 → Bk W b2 (nhC false ⟨none, 0, 0⟩ ⟨none, 0, 0⟩) 30 → w.heap.size ≤ mb → mb ≠ b2 → nb ≠ mb →
        VSt none W ⟨mb, 0, none⟩ [.bool n.leaf, .slice none 0 0, .slice l.base l.len l.cap] fun (w7 : World) => ∃ (mb_1 : Nat) (k' : Sl), some (⟨mb, 0, none⟩ : Addr) = some ⟨mb_1, 0, none⟩ ∧ DS 48 30 w w7 mb_1 b2 n.leaf ⟨none, 0, 0⟩ k' [] n.ks ∧ Bk w7 nb (nhC n.leaf c k) 25 := by
      intro W mb l hm ho he hn hz gm nm nn
      refine VSt.bk hm rfl (by simp [nhC]) fun w7 hk7 e7 => ⟨mb, l, rfl, ⟨hk7, hz.ext e7 (by simpa using fun e => nm e.symm), OwnR.nil _ _ _ _, ho.ext e7 (fun b hb hm2 => ?_), he.then e7 (fun i hi hlt => by simp at hi; omega), gm, nm⟩, hn.ext e7 (by simpa using nn)⟩
      simp at hm2; subst hm2
      obtain ⟨_, hzz⟩ := ho.1.bk_of hb
      exact hm.neT hzz (by decide) rfl
    refine VLd.i1 (t := .bool) n.leaf (Rd.of_bk hk3 rfl) (VLd.s k (Rd.of_bk hk3 rfl) ⟨?_, ?_⟩)
    · refine VNw.i fun b8 w4 hb8 hk8 e4 => ⟨Rd.of_bk (hk3.ext e4) rfl, Rd.of_bk (hk3.ext e4) rfl, ?_, ?_⟩
      · refine newKids hk8 (by omega) (e03.then0 e4) (h3.ext0 e4).ki.1 hs.2 fun l w5 h5 e05 e5 => ⟨Rd.of_bk ((hk3.ext e4).ext e5 (by simp; omega)) rfl, ?_⟩
        have z5 := e5.size
        have z4 := e4.size
        refine VNw.i fun mb w6 hmb hk6 e6 => ⟨Rd.of_bk (((hk3.ext e4).ext e5 (by simp; omega)).ext e6) rfl, ?_⟩
        exact fin hk6 (h5.ext0 e6) (e05.then0 e6) (((hk3.ext e4).ext e5 (by simp; omega)).ext e6) (((hz3.ext e4).ext e5 (by simp; omega)).ext e6) (by omega) (by omega) (by omega)
      · refine VNw.i fun mb w5 hmb hk5 e5 => ⟨Rd.of_bk ((hk3.ext e4).ext e5) rfl, Rd.of_bk ((hk3.ext e4).ext e5) rfl, ?_⟩
        have z4 := e4.size
        have l8 := hk8.lt
        refine newKids (hk8.ext e5) (by omega) ((e03.then0 e4).then0 e5) ((h3.ext0 e4).ext0 e5).ki.1 hs.2 fun l w6 h6 e06 e6 => ⟨Rd.of_bk (((hk3.ext e4).ext e5).ext e6 (by simp; omega)) rfl, ?_⟩
        exact fin (hk5.ext e6 (by simp; omega)) h6 e06 (((hk3.ext e4).ext e5).ext e6 (by simp; omega)) (((hz3.ext e4).ext e5).ext e6 (by simp; omega)) (by omega) (by omega) (by omega)
    · refine VNw.i fun mb w4 hmb hk4 e4 => ⟨Rd.of_bk (hk3.ext e4) rfl, Rd.of_bk (hk3.ext e4) rfl, ?_⟩
      refine VNw.i fun b8 w5 hb8 hk5 e5 => ⟨Rd.of_bk ((hk3.ext e4).ext e5) rfl, Rd.of_bk ((hk3.ext e4).ext e5) rfl, ?_⟩
      have z4 := e4.size
      have l4 := hk4.lt
      refine newKids hk5 (by omega) ((e03.then0 e4).then0 e5) ((h3.ext0 e4).ext0 e5).ki.1 hs.2 fun l w6 h6 e06 e6 => ⟨Rd.of_bk (((hk3.ext e4).ext e5).ext e6 (by simp; omega)) rfl, ?_⟩
      exact fin ((hk4.ext e5).ext e6 (by simp; omega)) h6 e06 (((hk3.ext e4).ext e5).ext e6 (by simp; omega)) (((hz3.ext e4).ext e5).ext e6 (by simp; omega)) (by omega) (by omega) (by omega)
  rintro p w15 ⟨mb, k', rfl, D15, hk15⟩
  refine ⟨fun kk i W => ∃ (m : Nat) (c' : Sl), i = (m : Int) ∧ m ≤ n.cs.length ∧ kk = n.cs.length - m ∧ DS 48 30 w W mb b2 n.leaf c' k' (n.cs.take m) n.ks ∧ Bk W nb (nhC n.leaf c k) 25, ⟨_, 0, ⟨none, 0, 0⟩, rfl, by omega, rfl, by simpa using D15, hk15⟩, ?_⟩
  rintro kk i w16 ⟨m, c', rfl, hm, rfl, D16, hk16⟩
  simp only [onPtr, add_blk]
  refine VLd.s c (Rd.of_bk hk16 rfl) (VIf.mk (fun hd => ?_) (fun hd => ?_))
  · have hm' : m < n.cs.length := by rw [hl] at hd; simp at hd; omega
    obtain ⟨x, hx⟩ : ∃ x, x = n.cs[m] := ⟨_, rfl⟩
    refine VLd.s c (Rd.of_bk hk16 rfl) (VIx.i' (r := ceR) (h.ext0 D16.e).ci.1 hm' fun a hr => VLd.ce (n.cs[m]) hr ?_)
    rw [← hx]
    refine VNw.i fun cb w17 hcb hk17 e17 => VSt.bk hk17 rfl (by simp) fun w18 hk18 e18 => ?_
    have hk18 : Bk w18 cb (ceC x) 47 := hk18
    have e1618 : Ext [] w16 w18 := e17.then e18 (fun i hi hlt => by simp at hi; omega)
    have D18 := D16.ext0 e1618
    refine VLd.s c' (Rd.of_bk D18.n rfl) (VLd.i1 (t := .str) x.key (Rd.of_bk hk18 rfl) (VLd.i1 (t := .str) x.val (Rd.of_bk hk18 rfl) (VLd.i1 (t := .int .i64) x.long (Rd.of_bk hk18 rfl) (VLd.i1 (t := .int .i64) x.size (Rd.of_bk hk18 rfl) ?_))))
    refine VNw.i fun b36 w19 hb36 hk36 e19 => ?_
    have hk36 : Bk w19 b36 (ceC x) 48 := hk36
    refine (D18.ext0 e19).cell hk36 (by rw [List.length_take]; omega) (by decide) (by decide) (by decide) fun c2 w21 D21 e21 hM => ?_
    rw [w64 (n := (m : Int) + 1) (by omega)]
    refine VSet.i ⟨_, (show n.cs.length - (m + 1) < n.cs.length - m by omega), m + 1, c2, rfl, by omega, rfl, ?_, ((hk16.ext e1618).ext e19).ext e21 (fun hi => ?_)⟩
    · rw [List.take_succ_eq_append_getElem hm', ← hx]
      exact D21
    · obtain ⟨cs, t, hb, ht⟩ := hM _ hi
      have := (hk16.ext e1618).ext e19
      rcases ht with rfl | rfl | rfl
      · exact hb.neT this (by decide) rfl
      · exact hb.neT this (by decide) rfl
      · exact hb.neT this (by decide) rfl
  · have hmm : m = n.cs.length := by rw [hl] at hd; simp at hd; omega
    subst hmm
    rw [List.take_length] at D16
    refine VLd.nh n.leaf c' k' (Rd.of_bk D16.n rfl) (VSt.bk D16.z rfl (by simp [nhC]) fun w22 hk22 e22 => ?_)
    have hk22 : Bk w22 b2 (nhC n.leaf c' k') 30 := hk22
    refine VLd.nh n.leaf c' k' (Rd.of_bk hk22 rfl) ⟨c', k', rfl, ⟨D16.co.ext e22 fun i hi hm => ?_, D16.ko.ext e22 fun i hi hm => ?_⟩, D16.e.then e22 (fun i hi hlt => by simp at hi; omega)⟩
    · simp at hm; subst hm
      obtain ⟨_, z1⟩ := D16.co.1.bk_of hi
      exact z1.neT D16.z (by decide) rfl
    · simp at hm; subst hm
      obtain ⟨_, z1⟩ := D16.ko.1.bk_of hi
      exact D16.z.neT z1 (by decide) rfl
set_option maxHeartbeats 1000000 in
theorem back_spec (c k : Sl) (n : Nd) (w : World) (h : NIn w c k n) (hs : n.cs.length ≤ 1000 ∧ n.ks.length ≤ 1000) : Calls Try.prog 17 #[.agg (nhC n.leaf c k).toArray] w fun e w' => ∃ c' k' : Sl, e = .returned (.agg (nhC n.leaf c' k').toArray) ∧ OwnN 47 w w' c' k' n ∧ Ext [] w w' := by
  refine sh_butterylaw06_back_ok _ _ _ _ _ ?_
  unfold sh_butterylaw06_back
  have hl := h.ci.1.rlen
  have hkl := h.ki.1.rlen
  refine VNw.i fun nb w1 hnb hk1 e1 => VNw.i fun b2 w2 hb2 hz2 e2 => ?_
  have hk1 : Bk w1 nb (nhC n.leaf c k) 30 := hk1
  have hz2 : Bk w2 b2 (nhC false ⟨none, 0, 0⟩ ⟨none, 0, 0⟩) 25 := hz2
  have z1 := e1.size
  have e02 := e1.then0 e2
  have hk2 := hk1.ext e2
  have lb2 := hz2.lt
  refine ⟨fun p W => ∃ (mb : Nat) (k' : Sl), p = some ⟨mb, 0, none⟩ ∧ DS 47 25 w W mb b2 n.leaf ⟨none, 0, 0⟩ k' [] n.ks ∧ Bk W nb (nhC n.leaf c k) 30, ?_, ?_⟩
  · intro w3 hw3
    have ed := Ext.drew' hw3
    have e03 := e02.then0 ed
    have hk3 := hk2.ext ed
    have hz3 := hz2.ext ed
    have h3 := h.ext0 e03
    have z3 := e03.size
    have ln3 := hk3.lt
    have lz3 := hz3.lt
    have lnb := hk1.lt
    have fin : ∀ {W : World} {mb : Nat} {l : Sl}, Bk W mb (nhC false ⟨none, 0, 0⟩ ⟨none, 0, 0⟩) 25 → OwnR itR 3 w W l n.ks → Ext [] w W → Bk W nb (nhC n.leaf c k) 30 → Bk W b2 (nhC false ⟨none, 0, 0⟩ ⟨none, 0, 0⟩) 25 → w.heap.size ≤ mb → mb ≠ b2 → nb ≠ mb →
        VSt none W ⟨mb, 0, none⟩ [.bool n.leaf, .slice none 0 0, .slice l.base l.len l.cap] fun (w7 : World) => ∃ (mb_1 : Nat) (k' : Sl), some (⟨mb, 0, none⟩ : Addr) = some ⟨mb_1, 0, none⟩ ∧ DS 47 25 w w7 mb_1 b2 n.leaf ⟨none, 0, 0⟩ k' [] n.ks ∧ Bk w7 nb (nhC n.leaf c k) 30 := by
      intro W mb l hm ho he hn hz gm nm nn
      refine VSt.bk hm rfl (by simp [nhC]) fun w7 hk7 e7 => ⟨mb, l, rfl, ⟨hk7, hz.ext e7 (by simpa using fun e => nm e.symm), OwnR.nil _ _ _ _, ho.ext e7 (fun b hb hm2 => ?_), he.then e7 (fun i hi hlt => by simp at hi; omega), gm, nm⟩, hn.ext e7 (by simpa using nn)⟩
      simp at hm2; subst hm2
      obtain ⟨_, hzz⟩ := ho.1.bk_of hb
      exact hm.neT hzz (by decide) rfl
    refine VLd.i1 (t := .bool) n.leaf (Rd.of_bk hk3 rfl) (VLd.s k (Rd.of_bk hk3 rfl) ⟨?_, ?_⟩)
    · refine VNw.i fun b8 w4 hb8 hk8 e4 => ⟨Rd.of_bk (hk3.ext e4) rfl, Rd.of_bk (hk3.ext e4) rfl, ?_, ?_⟩
      · refine newKids hk8 (by omega) (e03.then0 e4) (h3.ext0 e4).ki.1 hs.2 fun l w5 h5 e05 e5 => ⟨Rd.of_bk ((hk3.ext e4).ext e5 (by simp; omega)) rfl, ?_⟩
        have z5 := e5.size
        have z4 := e4.size
        refine VNw.i fun mb w6 hmb hk6 e6 => ⟨Rd.of_bk (((hk3.ext e4).ext e5 (by simp; omega)).ext e6) rfl, ?_⟩
        exact fin hk6 (h5.ext0 e6) (e05.then0 e6) (((hk3.ext e4).ext e5 (by simp; omega)).ext e6) (((hz3.ext e4).ext e5 (by simp; omega)).ext e6) (by omega) (by omega) (by omega)
      · refine VNw.i fun mb w5 hmb hk5 e5 => ⟨Rd.of_bk ((hk3.ext e4).ext e5) rfl, Rd.of_bk ((hk3.ext e4).ext e5) rfl, ?_⟩
        have z4 := e4.size
        have l8 := hk8.lt
        refine newKids (hk8.ext e5) (by omega) ((e03.then0 e4).then0 e5) ((h3.ext0 e4).ext0 e5).ki.1 hs.2 fun l w6 h6 e06 e6 => ⟨Rd.of_bk (((hk3.ext e4).ext e5).ext e6 (by simp; omega)) rfl, ?_⟩
        exact fin (hk5.ext e6 (by simp; omega)) h6 e06 (((hk3.ext e4).ext e5).ext e6 (by simp; omega)) (((hz3.ext e4).ext e5).ext e6 (by simp; omega)) (by omega) (by omega) (by omega)
    · refine VNw.i fun mb w4 hmb hk4 e4 => ⟨Rd.of_bk (hk3.ext e4) rfl, Rd.of_bk (hk3.ext e4) rfl, ?_⟩
      refine VNw.i fun b8 w5 hb8 hk5 e5 => ⟨Rd.of_bk ((hk3.ext e4).ext e5) rfl, Rd.of_bk ((hk3.ext e4).ext e5) rfl, ?_⟩
      have z4 := e4.size
      have l4 := hk4.lt
      refine newKids hk5 (by omega) ((e03.then0 e4).then0 e5) ((h3.ext0 e4).ext0 e5).ki.1 hs.2 fun l w6 h6 e06 e6 => ⟨Rd.of_bk (((hk3.ext e4).ext e5).ext e6 (by simp; omega)) rfl, ?_⟩
      exact fin ((hk4.ext e5).ext e6 (by simp; omega)) h6 e06 (((hk3.ext e4).ext e5).ext e6 (by simp; omega)) (((hz3.ext e4).ext e5).ext e6 (by simp; omega)) (by omega) (by omega) (by omega)
  rintro p w15 ⟨mb, k', rfl, D15, hk15⟩
  refine ⟨fun kk i W => ∃ (m : Nat) (c' : Sl), i = (m : Int) ∧ m ≤ n.cs.length ∧ kk = n.cs.length - m ∧ DS 47 25 w W mb b2 n.leaf c' k' (n.cs.take m) n.ks ∧ Bk W nb (nhC n.leaf c k) 30, ⟨_, 0, ⟨none, 0, 0⟩, rfl, by omega, rfl, by simpa using D15, hk15⟩, ?_⟩
  rintro kk i w16 ⟨m, c', rfl, hm, rfl, D16, hk16⟩
  simp only [onPtr, add_blk]
  refine VLd.s c (Rd.of_bk hk16 rfl) (VIf.mk (fun hd => ?_) (fun hd => ?_))
  · have hm' : m < n.cs.length := by rw [hl] at hd; simp at hd; omega
    obtain ⟨x, hx⟩ : ∃ x, x = n.cs[m] := ⟨_, rfl⟩
    refine VLd.s c (Rd.of_bk hk16 rfl) (VIx.i' (r := ceR) (h.ext0 D16.e).ci.1 hm' fun a hr => VLd.ce (n.cs[m]) hr ?_)
    rw [← hx]
    refine VNw.i fun cb w17 hcb hk17 e17 => VSt.bk hk17 rfl (by simp) fun w18 hk18 e18 => ?_
    have hk18 : Bk w18 cb (ceC x) 48 := hk18
    have e1618 : Ext [] w16 w18 := e17.then e18 (fun i hi hlt => by simp at hi; omega)
    have D18 := D16.ext0 e1618
    refine VLd.s c' (Rd.of_bk D18.n rfl) (VLd.i1 (t := .str) x.key (Rd.of_bk hk18 rfl) (VLd.i1 (t := .str) x.val (Rd.of_bk hk18 rfl) (VLd.i1 (t := .int .i64) x.long (Rd.of_bk hk18 rfl) (VLd.i1 (t := .int .i64) x.size (Rd.of_bk hk18 rfl) ?_))))
    refine VNw.i fun b36 w19 hb36 hk36 e19 => ?_
    have hk36 : Bk w19 b36 (ceC x) 47 := hk36
    refine (D18.ext0 e19).cell hk36 (by rw [List.length_take]; omega) (by decide) (by decide) (by decide) fun c2 w21 D21 e21 hM => ?_
    rw [w64 (n := (m : Int) + 1) (by omega)]
    refine VSet.i ⟨_, (show n.cs.length - (m + 1) < n.cs.length - m by omega), m + 1, c2, rfl, by omega, rfl, ?_, ((hk16.ext e1618).ext e19).ext e21 (fun hi => ?_)⟩
    · rw [List.take_succ_eq_append_getElem hm', ← hx]
      exact D21
    · obtain ⟨cs, t, hb, ht⟩ := hM _ hi
      have := (hk16.ext e1618).ext e19
      rcases ht with rfl | rfl | rfl
      · exact hb.neT this (by decide) rfl
      · exact hb.neT this (by decide) rfl
      · exact hb.neT this (by decide) rfl
  · have hmm : m = n.cs.length := by rw [hl] at hd; simp at hd; omega
    subst hmm
    rw [List.take_length] at D16
    refine VLd.nh n.leaf c' k' (Rd.of_bk D16.n rfl) (VSt.bk D16.z rfl (by simp [nhC]) fun w22 hk22 e22 => ?_)
    have hk22 : Bk w22 b2 (nhC n.leaf c' k') 25 := hk22
    refine VLd.nh n.leaf c' k' (Rd.of_bk hk22 rfl) ⟨c', k', rfl, ⟨D16.co.ext e22 fun i hi hm => ?_, D16.ko.ext e22 fun i hi hm => ?_⟩, D16.e.then e22 (fun i hi hlt => by simp at hi; omega)⟩
    · simp at hm; subst hm
      obtain ⟨_, z1⟩ := D16.co.1.bk_of hi
      exact z1.neT D16.z (by decide) rfl
    · simp at hm; subst hm
      obtain ⟨_, z1⟩ := D16.ko.1.bk_of hi
      exact D16.z.neT z1 (by decide) rfl
end Go.Proofs.Ytknohdgcigcmdaa
