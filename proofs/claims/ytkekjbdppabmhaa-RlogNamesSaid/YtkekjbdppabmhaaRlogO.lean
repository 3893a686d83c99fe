/-
  Package rlog: RlogNames.
-/
import Derived.Test.YtkekjbdppabmhaaRlogM
namespace Go.Proofs.Ytkekjbdppabmhaa
open Go.RowKit
set_option maxRecDepth 100000

theorem nul_seg {w : World} {b : Nat} {t : TypeId} {n : Nat} (h : Bk w b (madeCells #[.int .u8 0] (n * 1)).toList t) : Seg w (some ⟨b, 0, none⟩) n 1 (bc (List.replicate n 0)) := by
  rw [made8] at h
  exact Seg.of_bk h (by simp) (by simp [bc])
theorem nul_size {s : ByteArray} {n : Nat} (h : s.data.toList = List.replicate n 0) : s.size = n := by
  rw [ba_size, h, List.length_replicate]
def gM : Lg := ⟨2147483646, 1, []⟩
def gN : Lg := ⟨2147483646, 1, [noE 1]⟩
theorem newM : newE 2147483647 0 [noE 1] = 70 := by decide
theorem newN : newE 2147483646 1 [] = 0 := by decide
theorem appM : appE gM (noE 1) = 0 := by rfl
theorem appM' : appG gM (noE 1) = gN := by rfl
theorem appN : appE gN (noE 1) = 70 := by rfl
theorem appN' : appG gN (noE 1) = gN := by rfl
theorem merN : mergeO gN 2147483647 1 [noE 1] = ((0, 70), gN) := by rfl
theorem wrote {s : ByteArray} {n : Nat} (h : s.size = n) (w : World) : Calls Try.prog 23 #[.agg #[.int .i64 1, .int .u8 2, .string s, .slice none 0 0]] w fun r w' => ∃ s' : Sl, r = .returned (.tuple #[.slice s'.base s'.len s'.cap, .int .i64 (if n ≤ 256 then 0 else 1)]) ∧ Ext [] w w' := by
  refine (Write_spec ⟨1, 2, s, nSl⟩ ⟨1, 2, s, []⟩ w ⟨rfl, rfl, rfl, InR.nil _⟩).mono ?_
  rintro r w' ⟨s', rfl, -, e⟩
  have hok : okE ⟨1, 2, s, []⟩ = decide (n ≤ 256) := by
    unfold okE
    simp [h]
  refine ⟨s', ?_, e⟩
  rw [hok]
  by_cases hn : n ≤ 256
  · rw [decide_eq_true hn, if_pos hn]; rfl
  · rw [decide_eq_false hn, if_neg hn]; rfl
set_option maxHeartbeats 1000000 in
theorem Names_law (w : World) : Calls Try.prog 7 #[] w fun e w' => e = .returned (.bool true) ∧ Ext [] w w' := by
  refine sh_butterylaw14_RlogNames_ok _ _ ?_
  unfold sh_butterylaw14_RlogNames
  refine VCall.i (Base_nil w) ?_
  rintro e w1 ⟨rfl, e1⟩
  refine exW.i2 (t := .int .i64) (u := .int .i64) _ _ rfl (VSet.i (VSet.i (VCall.i (Last_nil w1) ?_)))
  rintro e w2 ⟨rfl, e2⟩
  refine exW.i2 (t := .int .i64) (u := .int .i64) _ _ rfl (VSet.i (VSet.i (VCall.i (Term_nil 0 w2) ?_)))
  rintro e w3 ⟨rfl, e3⟩
  refine exW.i2 (t := .int .i64) (u := .bool) _ _ rfl (VSet.i (VCall.i (Entry_nil 0 w3) ?_))
  rintro e w4 ⟨rfl, e4⟩
  refine ⟨zEr.t, zEr.k, zEr.d, zEr.s, false, rfl, VNw.i fun b8 w5 hb8 hk5 e5 => VSt.bk hk5 rfl (by simp) fun w6 hk6 e6 => ?_⟩
  have e46 : Ext [] w4 w6 := e5.then e6 (fun i hi hlt => by simp at hi; omega)
  refine VCall.i (Members_nil 9 w6) ?_
  rintro e w7 ⟨rfl, e7⟩
  have hmn := Merge_nil 0 0 nSl w7
  refine exW.i2 (t := .sl) (u := .bool) nSl false rfl (VCall.i hmn ?_)
  rintro e w8 ⟨rfl, e8⟩
  refine exW.i2 (t := .int .i64) (u := .int .i64) _ _ rfl (VSet.i (VSet.i ?_))
  have e08 : Ext [] w w8 := ((((((e1.then0 e2).then0 e3).then0 e4).then0 e46).then0 e7).then0 e8)
  refine VNw.i fun nb w9 hnb hk9 e9 => VSt.bk hk9 rfl (by simp) fun w10 hk10 e10 => ?_
  have hk10 : Bk w10 nb (erC (noR 1)) 28 := hk10
  have e810 : Ext [] w8 w10 := e9.then e10 (fun i hi hlt => by simp at hi; omega)
  refine VLd.er (noR 1) (Rd.of_bk hk10 rfl) (VNw.i fun b60 w11 hb60 hk11 e11 => ?_)
  have hk11 : Bk w11 b60 (erC (noR 1)) 28 := hk11
  have hn1 := New_spec 2147483647 0 ⟨some ⟨b60, 0, none⟩, 1, 1⟩ [noE 1] w11 (one_in hk11 (no_in _ 1)) (by decide) (no_lists (by simp; exact ⟨_, rfl⟩))
  rw [newM] at hn1
  refine VCall.i hn1 ?_
  rintro e w12 ⟨p, rfl, hpn, -, e12⟩
  refine exW.i2 (t := .ptr) (u := .int .i64) p 70 rfl (VSet.i ?_)
  have hn2 := New_spec 2147483646 1 nSl [] w12 (LIn.nil _) (by decide) (by simp)
  rw [newN] at hn2
  refine VCall.i hn2 ?_
  rintro e w13 ⟨q, rfl, -, hq, e13⟩
  obtain ⟨g, sg, rfl, hg⟩ := hq rfl
  have hg : LogAt w12 w13 g gM sg := hg
  refine exW.i2 (t := .ptr) (u := .int .i64) (some ⟨g, 0, none⟩) 0 rfl (VSet.i (VIf.f rfl ?_))
  intro w14 hw14
  have ed := Ext.drew' hw14
  have e012 := ((e08.then0 e810).then0 e11).then0 e12
  have e014 := (e012.then0 e13).then0 ed
  have hk12 := (hk10.ext e11).ext e12
  have hk14 := (hk12.ext e13).ext ed
  have hg14 := hg.ext0 ed
  have lnb := hk12.lt
  have z12 := e012.size
  refine VLd.er (noR 1) (Rd.of_bk hk14 rfl) (VLd.er (noR 1) (Rd.of_bk hk14 rfl) ?_)
  have ha1 := Append_spec w12 w14 g gM sg (noR 1) (noE 1) hg14 (no_in _ 1) (.inr trivial) (by decide) (by decide)
  rw [appM, appM'] at ha1
  refine VCall.i ha1 ?_
  rintro e w15 ⟨s15, M15, rfl, hg15, e15, hM15⟩
  have hk15 := hk14.ext e15 (fun hi => by have := hM15 _ hi; omega)
  have e015 : Ext [] w w15 := e014.then e15 (fun i hi hlt => by have := hM15 _ hi; omega)
  refine exW.i1 (t := .int .i64) _ rfl ⟨Rd.of_bk hk15 rfl, ?_⟩
  have ha2 := Append_spec w12 w15 g gN s15 (noR 1) (noE 1) hg15 (no_in _ 1) (.inr trivial) (by decide) (by decide)
  rw [appN, appN'] at ha2
  refine VCall.i ha2 ?_
  rintro e w16 ⟨s16, M16, rfl, hg16, e16, hM16⟩
  have hk16 := hk15.ext e16 (fun hi => by have := hM16 _ hi; omega)
  have e016 : Ext [] w w16 := e015.then e16 (fun i hi hlt => by have := hM16 _ hi; omega)
  refine exW.i1 (t := .int .i64) _ rfl (VSet.i (VSet.i (VLd.er (noR 1) (Rd.of_bk hk16 rfl) (VNw.i fun b79 w17 hb79 hk17 e17 => ?_))))
  have hk17 : Bk w17 b79 (erC (noR 1)) 28 := hk17
  have hm := Merge_spec w12 w17 g gN s16 ⟨some ⟨b79, 0, none⟩, 1, 1⟩ 2147483647 1 [noE 1] (hg16.ext0 e17) (one_in hk17 (no_in _ 1)) (by decide) (by decide) (no_lists (by simp; exact ⟨_, rfl⟩))
  rw [merN] at hm
  refine VCall.i hm ?_
  rintro e w18 ⟨s18, rfl, hg18, e18⟩
  have gge := hg.gb
  have hk18 := (hk16.ext e17).ext e18 (by simp; omega)
  have e018 : Ext [] w w18 := (e016.then0 e17).then e18 (fun i hi hlt => by simp at hi; omega)
  refine exW.i2 (t := .int .i64) (u := .int .i64) _ _ rfl (VSet.i (VSet.i ?_))
  refine VMk.i (by omega) (by omega) (by omega) (by omega) fun b84 w19 hb84 hk19 e19 => ?_
  refine VStr.i (List.replicate 257 0) (nul_seg (n := 257) hk19) fun s85 h85 => VCall.i (wrote (nul_size h85) w19) ?_
  rintro e w20 ⟨s20, rfl, e20⟩
  refine exW.i2 (t := .sl) (u := .int .i64) s20 _ rfl (VSet.i ?_)
  refine VMk.i (by omega) (by omega) (by omega) (by omega) fun b91 w21 hb91 hk21 e21 => ?_
  refine VStr.i (List.replicate 256 0) (nul_seg (n := 256) hk21) fun s92 h92 => VCall.i (wrote (nul_size h92) w21) ?_
  rintro e w22 ⟨s22, rfl, e22⟩
  refine exW.i2 (t := .sl) (u := .int .i64) s22 _ rfl (VSet.i ?_)
  have e1822 := ((e19.then0 e20).then0 e21).then0 e22
  have hk22 := hk18.ext e1822
  have e022 := e018.then0 e1822
  refine VLd.er (noR 1) (Rd.of_bk hk22 rfl) ?_
  refine VCall.opt (Append_nil (noR 1) w22) fun w23 e23 => exW.i1 (t := .int .i64) _ rfl ?_
  refine VCall.opt (Cut_nil 0 w23) fun w24 e24 => exW.i1 (t := .int .i64) _ rfl ?_
  refine VCall.opt (Reset_nil 0 0 w24) fun w25 e25 => exW.i1 (t := .int .i64) _ rfl ?_
  refine VCall.opt (Above_nil 0 0 w25) fun w26 e26 => exW.i1 (t := .bool) _ rfl ?_
  refine VCall.opt (From_nil 0 9 w26) fun w27 e27 => exW.i1 (t := .sl) nSl rfl ?_
  refine VCall.opt (Copy_nil w27) fun w28 e28 => exW.i1 (t := .ptr) none rfl ?_
  refine VCall.opt (awake_spec w28) fun w29 e29 => exW.i1 (t := .bool) true rfl ⟨?_, ((((((e022.then0 e23).then0 e24).then0 e25).then0 e26).then0 e27).then0 e28).then0 e29⟩
  rfl
end Go.Proofs.Ytkekjbdppabmhaa
