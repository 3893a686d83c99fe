/-
  Package parts: PartsCut: a message is cut into the packets that the document says, or refused.
-/
import Derived.Test.YthpbkkjggnejcaaPartsB
namespace Go.Proofs.Ythpbkkjggnejcaa
open Go.RowKit
set_option maxRecDepth 100000

theorem PartsCut_law (n : Int) (s : Sl) (l : List UInt8) (w : World) (h : In w s l) :
    Calls Try.prog 3 #[.int .i64 n, .slice s.base s.len s.cap] w fun e w' => e = .returned (.bool true) ∧ Ext [] w w' := by
  refine sh_butterylaw11_PartsCut_ok _ _ _ _ ?_
  unfold sh_butterylaw11_PartsCut
  have hlen := h.len
  refine VIf.mk (fun hc => ⟨rfl, Ext.refl _ _⟩) (fun hc => ?_)
  have hc : l.length ≤ 20000 := by simp at hc; omega
  refine VNw.i fun b1 w1 hb hk e1 => ?_
  refine VApp.clone hb hk e1 h.1 (by omega) fun s2 w2 hs e2 => ?_
  refine ⟨fun k i W => ∃ m : Nat, i = (m : Int) ∧ m ≤ 2 ∧ k = 2 - m ∧ Ext [] w2 W, ⟨_, 0, rfl, by omega, rfl, Ext.refl _ _⟩, ?_⟩
  rintro k1 i w3 ⟨m, rfl, hm, rfl, e3⟩
  refine VIf.mk (fun hd => ?_) (fun hd => ⟨rfl, e2.then0 e3⟩)
  have hm' : m < 2 := by simp at hd; omega
  have hs3 := hs.ext0 e3
  have h3 := (h.ext0 e2).ext0 e3
  refine VCall.i (Cut_spec n s2 l w3 hs3.in_) ?_
  rintro e w4 ⟨t, X, rfl, hXm, hX, e4⟩
  refine exW.i2 (t := .sl) (u := .int .i64) t _ rfl (VSet.i ?_)
  have h4 := h3.ext0 e4
  refine VStr.i _ h4.1 fun x hx => ?_
  refine VCall.i (refCut_spec n x w4) ?_
  rw [hx]
  rintro e w5 ⟨r, Y, rfl, hYm, hY, e5⟩
  refine exW.i2 (t := .sl) (u := .int .i64) r _ rfl (VSet.i ?_)
  have hXY : X.map (·.2) = Y.map (·.2) := hXm.trans hYm.symm
  have hlXY : X.length = Y.length := by have := congrArg List.length hXY; simpa using this
  have htl : t.len = X.length := by have := hX.er.len; rw [List.length_map] at this; exact this
  have hrl : r.len = Y.length := by have := hY.er.len; rw [List.length_map] at this; exact this
  have hne : ((cutP n l).1 != (cutP n l).1 || (((t.len : Nat) : Int) != ((r.len : Nat) : Int))) = false := by rw [htl, hrl, hlXY]; simp
  rw [hne]
  have e35 := e4.then0 e5
  refine VStr.i _ (hs3.ext0 e35).seg fun x1 hx1 => VStr.i _ (h3.ext0 e35).1 fun x2 hx2 => ?_
  have heq : (!(x1.toList == x2.toList)) = false := by rw [strEq, hx1, hx2]; simp
  rw [heq]
  refine VIf.f rfl ?_
  have hX5 := hX.ext0 e5
  have hcap := hX.er.cap
  refine ⟨fun k i W => ∃ q : Nat, i = (q : Int) ∧ q ≤ X.length ∧ k = X.length - q ∧ OwnR slR 22 w3 W t (X.map (·.1)) ∧ (∀ j (hj : j < X.length), q ≤ j → Own w3 W (X[j]).1 (X[j]).2) ∧ OwnSS w4 W r Y ∧ Ext [] w3 W,
    ⟨_, 0, rfl, by omega, rfl, hX5.er, fun j hj _ => hX5.ea j hj, hY, e35⟩, ?_⟩
  rintro k2 i w6 ⟨q, rfl, hq, rfl, ht6, hX6, hY6, e6⟩
  refine VIf.mk (fun hd2 => ?_) (fun hd2 => ?_)
  rotate_left
  · rw [w64 (n := (m : Int) + 1) (by omega)]
    exact VSet.i ⟨_, (show 2 - (m + 1) < 2 - m by omega), m + 1, rfl, by omega, rfl, e3.then0 e6⟩
  have hq' : q < X.length := by simp at hd2; omega
  have hqY : q < Y.length := by omega
  intro w7 hw7
  have ed := Ext.drew' hw7
  have ht7 := ht6.ext0 ed
  have hY7 := hY6.ext0 ed
  have hXq := (hX6 q hq' (Nat.le_refl _)).ext0 ed
  have hXi : ∀ {W : World}, OwnR slR 22 w3 W t (X.map (·.1)) → ∀ {K : Addr → Prop}, (∀ a, Rd W (a.add (q * 1)) [.slice (X[q]).1.base (X[q]).1.len (X[q]).1.cap] → K a) → VIx none t.base t.len (q : Int) K := fun ho K k => by
    refine VIx.i' (r := slR) ho.in_.1 (show q < (X.map (·.1)).length by simpa using hq') fun a hr => k a ?_
    rw [List.getElem_map] at hr
    exact hr
  refine hXi ht7 fun a hr => VLd.s (X[q]).1 hr (VStr.i _ hXq.seg fun y1 hy1 => ?_)
  refine VIx.i' (r := slR) hY7.er.in_.1 (show q < (Y.map (·.1)).length by simpa using hqY) fun a2 hr2 => ?_
  rw [List.getElem_map] at hr2
  refine VLd.s (Y[q]).1 hr2 (VStr.i _ (hY7.ea q hqY).seg fun y2 hy2 => ?_)
  have hsame : (X[q]).2 = (Y[q]).2 := by
    have h1 : (X.map (·.2))[q]'(by simpa using hq') = (Y.map (·.2))[q]'(by simpa using hqY) := by simp only [hXY]
    simpa using h1
  refine VIf.f (by rw [strEq, hy1, hy2, hsame]; simp) ?_
  have e37 := e6.then0 ed
  refine ⟨fun k i W => ∃ (z : Nat) (l' : List UInt8), i = (z : Int) ∧ z ≤ (X[q]).1.len ∧ k = (X[q]).1.len - z ∧ OwnR slR 22 w3 W t (X.map (·.1)) ∧ Own w3 W (X[q]).1 l' ∧ (∀ j (hj : j < X.length), q + 1 ≤ j → Own w3 W (X[j]).1 (X[j]).2) ∧ OwnSS w4 W r Y ∧ Ext [] w3 W,
    ⟨_, 0, _, rfl, by omega, rfl, ht7, hXq, fun j hj hle => (hX6 j hj (by omega)).ext0 ed, hY7, e37⟩, ?_⟩
  rintro k3 i w8 ⟨z, l', rfl, hz, rfl, ht8, hq8, hX8, hY8, e8⟩
  refine hXi ht8 fun a3 hr3 => VLd.s (X[q]).1 hr3 (VIf.mk (fun hd3 => ?_) (fun hd3 => ?_))
  · have hz' : z < (X[q]).1.len := by simpa using hd3
    refine hXi ht8 fun a4 hr4 => VLd.s (X[q]).1 hr4 ?_
    have hcq := hq8.cap
    refine Row.put (v := 9) hq8.1 hz' fun w9 h9 e9 => ?_
    rw [w64 (n := (z : Int) + 1) (by omega)]
    have hq8' : ∀ b ∈ rowB (X[q]).1, w3.heap.size ≤ b := hq8.2
    have hold : ∀ b ∈ rowB (X[q]).1, b < w4.heap.size := (hX.ea q hq').lt
    have keepY : ∀ {s : Sl} {l : List UInt8}, Own w4 w8 s l → Own w4 w9 s l := fun ho => ⟨ho.1.ext e9 fun b hb hb' => by
      have := ho.2 b hb
      have := hold b hb'
      omega, ho.2⟩
    refine VSet.i ⟨_, (show (X[q]).1.len - (z + 1) < (X[q]).1.len - z by omega), z + 1, _, rfl, by omega, rfl, ?_, ⟨h9, hq8.2⟩, fun j hj hle => ?_, ⟨?_, fun j hj => keepY (hY8.ea j hj), hY8.es⟩, e8.then e9 (fun i hi hlt => by have := hq8' i hi; omega)⟩
    · exact ht8.ext e9 fun b hb hb' => hq8.sepR ht8 (by decide) b hb' hb
    · have ho := hX8 j hj hle
      exact ⟨ho.1.ext e9 (hX.es j q hj hq' (by omega)), ho.2⟩
    · exact hY8.er.ext e9 fun b hb hb' => hq8.sepR hY8.er (by decide) b hb' hb
  · rw [w64 (n := (q : Int) + 1) (by omega)]
    exact VSet.i ⟨_, (show X.length - (q + 1) < X.length - q by omega), q + 1, rfl, by omega, rfl, ht8, hX8, hY8, e8⟩
end Go.Proofs.Ythpbkkjggnejcaa
