/-
  Package rlog: the examples.
-/
import Derived.Test.YtkekjbdppabmhaaRlogK
import Derived.Test.YtkekjbdppabmhaaCodeD
namespace Go.Proofs.Ytkekjbdppabmhaa
open Go.RowKit
set_option maxRecDepth 100000

theorem wr1 : wrE (noE 1) = [1, 1, 0, 0] := by
  have hs : encS ByteArray.empty = [0] := by
    unfold encS
    rw [if_pos (by decide)]
    show enc 0 ++ [] = [0]
    rw [enc_0]; rfl
  have h1 : encC 1 = [1] := by unfold encC; rw [if_pos (by decide)]; exact enc_1
  have h0 : encC 0 = [0] := by unfold encC; rw [if_pos (by decide)]; exact enc_0
  unfold wrE
  rw [if_pos (by rfl)]
  unfold encE
  show (((encC 1 ++ encC 1) ++ encS ByteArray.empty) ++ encC 0) ++ [] = _
  rw [hs, h1, h0]; rfl
def gA : Lg := ⟨5, 1, [noE 1, noE 2]⟩
def gB : Lg := ⟨5, 1, [noE 1, noE 2, noE 2]⟩
def gC : Lg := ⟨5, 1, [noE 3]⟩
theorem newA : newE 5 1 [noE 1, noE 2] = 0 := by decide
theorem merA : mergeO gA 6 1 [noE 2, noE 2] = ((8, 0), gB) := by rfl
theorem merB : mergeO gB 6 2 [] = ((0, 50), gB) := by rfl
theorem merC : mergeO gB 5 1 [noE 3] = ((6, 0), gC) := by rfl
theorem LIn.of_bk {w : World} {b n : Nat} {X : List Er} {L : List En} (h : Bk w b (erR.cells X) 28) (hn : X.length = n) (hl : X.length = L.length) (h63 : n ≤ 9223372036854775807) (hE : ∀ i (h : i < X.length) (h' : i < L.length), EIn w X[i] L[i]) : LIn w ⟨some ⟨b, 0, none⟩, n, n⟩ L :=
  ⟨X, ⟨Seg.of_bk h (by simp) (by rw [Rec.cells_len, hn]), Nat.le_refl _, h63⟩, hl, hE⟩
theorem no2 (w : World) (a b : Int) : ∀ i (h : i < [noR a, noR b].length) (h' : i < [noE a, noE b].length), EIn w [noR a, noR b][i] [noE a, noE b][i]
  | 0, _, _ => no_in w a
  | 1, _, _ => no_in w b
theorem no1 (w : World) (a : Int) : ∀ i (h : i < [noR a].length) (h' : i < [noE a].length), EIn w [noR a][i] [noE a][i]
  | 0, _, _ => no_in w a
theorem no_lists {L : List En} (h : ∀ e ∈ L, ∃ t, e = noE t) : ∀ e ∈ L, e.list.length ≤ 100000000 := fun e he => by obtain ⟨t, rfl⟩ := h e he; exact Nat.zero_le _
set_option maxHeartbeats 1000000 in
theorem awake_spec (w : World) : Calls Try.prog 8 #[] w fun e w' => e = .returned (.bool true) ∧ Ext [] w w' := by
  refine sh_butterylaw14_awake_ok _ _ ?_
  unfold sh_butterylaw14_awake
  refine VCall.i (noop_spec 1 w) ?_
  rintro e w1 ⟨rfl, e1⟩
  refine exW.er (noR 1) rfl (VCall.i (noop_spec 2 w1) ?_)
  rintro e w2 ⟨rfl, e2⟩
  refine exW.er (noR 2) rfl (VNw.i fun b15 w3 hb15 hk3 e3 => ?_)
  have hk3 : Bk w3 b15 (erR.cells [noR 1, noR 2]) 28 := hk3
  have e03 := (e1.then0 e2).then0 e3
  have hL3 : LIn w3 ⟨some ⟨b15, 0, none⟩, 2, 2⟩ [noE 1, noE 2] := LIn.of_bk hk3 rfl rfl (by omega) (no2 w3 1 2)
  have hnew := New_spec 5 1 _ _ w3 hL3 (by decide) (no_lists (by simp; exact ⟨⟨_, rfl⟩, ⟨_, rfl⟩⟩))
  rw [newA] at hnew
  refine VCall.i hnew ?_
  rintro e w4 ⟨p, rfl, -, hp, e4⟩
  obtain ⟨g, s4, rfl, h4⟩ := hp rfl
  have e04 := e03.then0 e4
  have hg0 : w3.heap.size ≤ g := h4.gb
  have z3 := e03.size
  have h4 : LogAt w w4 g gA s4 := h4.mono z3
  refine exW.i2 (t := .ptr) (u := .int .i64) _ _ rfl (VSet.i (VIf.f rfl ?_))
  refine VCall.i (noop_spec 2 w4) ?_
  rintro e w5 ⟨rfl, e5⟩
  refine exW.er (noR 2) rfl (VCall.i (noop_spec 2 w5) ?_)
  rintro e w6 ⟨rfl, e6⟩
  refine exW.er (noR 2) rfl (VNw.i fun b25 w7 hb25 hk7 e7 => ?_)
  have hk7 : Bk w7 b25 (erR.cells [noR 2, noR 2]) 28 := hk7
  have e47 := (e5.then0 e6).then0 e7
  have hL7 : LIn w7 ⟨some ⟨b25, 0, none⟩, 2, 2⟩ [noE 2, noE 2] := LIn.of_bk hk7 rfl rfl (by omega) (no2 w7 2 2)
  have hm1 := Merge_spec w w7 g gA s4 _ 6 1 _ (h4.ext0 e47) hL7 (by decide) (by decide) (no_lists (by simp; exact ⟨_, rfl⟩))
  rw [merA] at hm1
  refine VCall.i hm1 ?_
  rintro e w8 ⟨s8, rfl, h8, e8⟩
  have gg := h4.gb
  have e08 : Ext [] w w8 := (e04.then0 e47).then e8 (fun i hi hlt => by simp at hi; omega)
  refine exW.i2 (t := .int .i64) (u := .int .i64) _ _ rfl (VSet.i (VSet.i ?_))
  have hm2 := Merge_spec w w8 g gB s8 nSl 6 2 [] h8 (LIn.nil _) (by decide) (by decide) (by simp)
  rw [merB] at hm2
  refine VCall.i hm2 ?_
  rintro e w9 ⟨s9, rfl, h9, e9⟩
  have e09 : Ext [] w w9 := e08.then e9 (fun i hi hlt => by simp at hi; omega)
  refine exW.i2 (t := .int .i64) (u := .int .i64) _ _ rfl (VSet.i (VSet.i ?_))
  refine VCall.i (noop_spec 1 w9) ?_
  rintro e w10 ⟨rfl, e10⟩
  refine exW.er (noR 1) rfl ?_
  have hw := Write_spec (noR 1) (noE 1) w10 (no_in _ 1)
  rw [wr1] at hw
  refine VCall.i hw ?_
  rintro e w11 ⟨sb, rfl, ob, e11⟩
  have lb := ob.len
  have e911 := e10.then0 e11
  refine exW.i2 (t := .sl) (u := .int .i64) sb 0 rfl (VSet.i (VCall.i (noop_spec 3 w11) ?_))
  rintro e w12 ⟨rfl, e12⟩
  refine exW.er (noR 3) rfl (VNw.i fun b42 w13 hb42 hk13 e13 => ?_)
  have hk13 : Bk w13 b42 (erR.cells [noR 3]) 28 := hk13
  have hL13 : LIn w13 ⟨some ⟨b42, 0, none⟩, 1, 1⟩ [noE 3] := LIn.of_bk hk13 rfl rfl (by omega) (no1 w13 3)
  have e913 := (e911.then0 e12).then0 e13
  have hm3 := Merge_spec w w13 g gB s9 _ 5 1 _ (h9.ext0 e913) hL13 (by decide) (by decide) (no_lists (by simp; exact ⟨_, rfl⟩))
  rw [merC] at hm3
  refine VCall.i hm3 ?_
  rintro e w14 ⟨s14, rfl, h14, e14⟩
  have e014 : Ext [] w w14 := (e09.then0 e913).then e14 (fun i hi hlt => by simp at hi; omega)
  refine exW.i2 (t := .int .i64) (u := .int .i64) _ _ rfl (VSet.i (VSet.i (VCall.i (Last_spec w w14 g gC s14 h14) ?_)))
  rintro e w15 ⟨rfl, e15⟩
  refine exW.i2 (t := .int .i64) (u := .int .i64) _ _ rfl (VSet.i (VSet.i ?_))
  have hgt : g < w10.heap.size := by have := h9.k.lt; have := e10.size; omega
  have o15 : Own w10 w15 sb [1, 1, 0, 0] := ((((ob.ext0 e12).ext0 e13)).other (t := ⟨some ⟨g, 0, none⟩, 0, 0⟩) e14 (fun b hb hm => by
    have h1 := ob.2 b hb
    simp [rowB] at hm; omega)).ext0 e15
  rw [lb]
  have s15 := o15.seg
  rw [lb] at s15
  refine VByte.t (ad := fun a => a) [1, 1, 0, 0] 0 s15 rfl (fun a => by simp [add_zero]) (by decide) 1 rfl ?_
  refine VByte.t (ad := fun a => a.add 1) [1, 1, 0, 0] 1 s15 rfl (fun a => rfl) (by decide) 1 rfl ?_
  refine VByte.t (ad := fun a => a.add 2) [1, 1, 0, 0] 2 s15 rfl (fun a => rfl) (by decide) 0 rfl ?_
  refine VByte.t (ad := fun a => a.add 3) [1, 1, 0, 0] 3 s15 rfl (fun a => rfl) (by decide) 0 rfl ?_
  exact ⟨rfl, e014.then0 e15⟩
end Go.Proofs.Ytkekjbdppabmhaa
