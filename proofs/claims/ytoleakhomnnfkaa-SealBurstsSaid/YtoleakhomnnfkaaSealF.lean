/-
  Package seal: the laws of sums, frames, back, names.
-/
import Derived.Test.YtoleakhomnnfkaaSealE
namespace Go.Proofs.Ytoleakhomnnfkaa
open Go.RowKit
set_option maxRecDepth 100000

def good (w : World) (e : Ending) (w' : World) : Prop := e = .returned (.bool true) ∧ Ext [] w w'

theorem awake_ctl : openF ((frame 7 [97, 98]).set 0 6) = (0, [], 30) := by decide +kernel
theorem awake_spec (w : World) : Calls Try.prog 9 #[] w (good w) := by
  refine sh_butterylaw02_awake_ok _ _ ?_
  unfold sh_butterylaw02_awake
  refine VNw.i fun b w1 hb hk e1 => ?_
  have hk : Bk w1 b (bc [97, 98]) 5 := hk
  refine VMark.bk hk fun w2 hk2 e2 => ?_
  have e2 : Ext [] w w2 := e1.then e2 (fun i hi hlt => by simp at hi; omega)
  refine VCall.i (Seal_spec 7 ⟨some ⟨b, 0, none⟩, 2, 2⟩ [97, 98] w2 (Seg.of_bk hk2 rfl rfl)) ?_
  rintro e w3 ⟨s3, rfl, h3, e3⟩
  have h3 : Own w2 w3 s3 (frame 7 [97, 98]) := h3
  have hl3 : s3.len = 9 := h3.len
  refine exW.i2 (t := .sl) s3 _ rfl (VSet.i ?_)
  rw [hl3, show sealE [97, 98] = 0 by decide]
  have hs := h3.seg
  have hlen : (frame 7 [97, 98]).length = 9 := rfl
  rw [hl3] at hs
  have e3 := e2.then0 e3
  refine VByte.t _ 0 hs rfl (fun _ => rfl) (by omega) 7 rfl ?_
  refine VByte.t _ 1 hs rfl (fun _ => rfl) (by omega) 2 rfl ?_
  refine VByte.t _ 2 hs rfl (fun _ => rfl) (by omega) 0 rfl ?_
  refine VByte.t _ 3 hs rfl (fun _ => rfl) (by omega) 97 rfl ?_
  refine VIf.f (by decide) ?_
  refine VCall.i (Open_spec ⟨s3.base, 9, s3.cap⟩ (frame 7 [97, 98]) w3 (by have := h3.in_; unfold In at this ⊢; rw [hl3] at this; exact this)) ?_
  rintro e w4 ⟨s4, rfl, h4, e4⟩
  rw [open_frame 7 [97, 98] (by simp)] at h4
  refine exW.i3 (u := .sl) _ s4 _ rfl (VSet.i (VSet.i ?_))
  rw [open_frame 7 [97, 98] (by simp)]
  have h34 := h3.ext0 e4
  obtain ⟨b3, rest, hb3, hk3, hge⟩ := h34.bk (by omega)
  have hlt := hk3.lt
  have hput := Row.put (g := none) (v := 6) (q := 0) h34.1 (by omega) (K := fun W => VCall none Try.prog 14 #[.slice s3.base 9 s3.cap] W (.tuple #[.int .u8 0, .slice none 0 0, .int .i64 0]) fun (r55_0 : Int) (r55_1 : Sl) (r55_2 : Int) (w6 : World) =>
    VSet r55_0 fun (v5 : Int) =>
    VSet r55_2 fun (f_7 : Int) =>
    VStr (some (((0 : Int) == 0) && ((((7 : UInt8).toNat : Nat) : Int) == 7))) w6 s4.base s4.len fun (s67 : ByteArray) =>
    good w (.returned (.bool (((((0 : Int) == 0) && ((((7 : UInt8).toNat : Nat) : Int) == 7)) && (s67.toList == (ByteArray.mk #[97, 98]).toList)) && (f_7 == 30)))) w6) (fun w5 h5 e5 => by
    have h5 : Own w2 w5 s3 ((frame 7 [97, 98]).set 0 6) := ⟨h5, h34.2⟩
    have e5' : Ext [] w w5 := (e3.then0 e4).then e5 (fun i hi hlt => by have := h34.2 i hi; have := e2.size; omega)
    refine VCall.i (Open_spec ⟨s3.base, 9, s3.cap⟩ ((frame 7 [97, 98]).set 0 6) w5 (by have := h5.in_; unfold In at this ⊢; rw [hl3] at this; exact this)) ?_
    rintro e w6 ⟨s6, rfl, h6, e6⟩
    refine exW.i3 (u := .sl) _ s6 _ rfl (VSet.i (VSet.i ?_))
    rw [awake_ctl]
    have h46 : Own w3 w5 s4 [97, 98] := h4.other e5 (fun x hx hx3 => by have := h4.2 x hx; have := h3.1.lt x hx3; omega)
    refine VStr.i [97, 98] (h46.ext0 e6).seg fun sx hsx => ?_
    refine ⟨?_, e5'.then0 e6⟩
    rw [strEq, hsx]
    rfl)
  rw [hl3] at hput
  simpa using hput

theorem SealSums_law (s : Sl) (l : List UInt8) (r : BitVec 32) (w : World) (h : In w s l) :
    Calls Try.prog 6 #[.slice s.base s.len s.cap, .int .u32 ((r.toNat : Nat) : Int)] w (good w) := by
  refine sh_butterylaw02_SealSums_ok _ _ _ _ ?_
  unfold sh_butterylaw02_SealSums
  have hn := h.len
  refine VIf.mk (fun hc => ?_) (fun hc => ?_)
  · refine VCall.i (awake_spec w) ?_
    rintro e w1 ⟨rfl, e1⟩
    exact exW.i1 _ rfl ⟨rfl, e1⟩
  have hl : l.length ≤ 20000 := by simp at hc; omega
  refine VNw.i fun b w1 hb hk e1 => ?_
  refine VApp.clone hb hk e1 h.1 (by omega) fun s2 w2 h2 e2 => ?_
  refine VCall.i (Sum_spec s2 l w2 h2.seg (by omega)) ?_
  rintro e w3 ⟨rfl, e3⟩
  refine exW.i1 (t := .int .u32) _ rfl ?_
  have e3 := e2.then0 e3
  refine VCall.i (XSum_spec s l w3 (h.1.ext0 e3) (by omega)) ?_
  rintro e w4 ⟨rfl, rfl⟩
  refine exW.i1 (t := .int .u32) _ rfl (VCall.on (by simp) ?_)
  have h23 : Own w w4 s2 l := ⟨(h2.1.ext0 (by assumption)), h2.2⟩
  refine VCall.i (More_spec r s2 l w4 h23.seg (by omega)) ?_
  rintro e w5 ⟨rfl, e5⟩
  refine exW.i1 (t := .int .u32) _ rfl (VCall.on (by simp) ?_)
  have e5 := e3.then0 e5
  refine VCall.i (XMore_spec r s l w5 (h.1.ext0 e5) (by omega)) ?_
  rintro e w6 ⟨rfl, rfl⟩
  refine exW.i1 (t := .int .u32) _ rfl (VCall.on (by simp) ?_)
  refine VCall.i (XSame_spec s2 s l l w6 (h23.ext0 (by assumption)).seg (h.1.ext0 e5) (by omega)) ?_
  rintro e w7 ⟨rfl, e7⟩
  refine exW.i1 (t := .bool) _ rfl (VCall.on (by simp) ?_)
  refine VCall.i (awake_spec w7) ?_
  rintro e w8 ⟨rfl, e8⟩
  exact exW.i1 (t := .bool) _ rfl ⟨by simp, (e5.then0 e7).then0 e8⟩

theorem sealL_len (k : UInt8) (l : List UInt8) : (sealL k l).length ≤ 8199 := by
  unfold sealL; split
  · simp
  · rw [frame_len]; omega
theorem openF_len (l : List UInt8) : (openF l).2.1.length ≤ 8192 := by
  unfold openF; split
  · rename_i hf; split
    · rename_i hw; exact (frame_open hf hw).2
    · simp
  · simp

theorem SealFrames_law (k : UInt8) (s t : Sl) (l m : List UInt8) (w : World) (h : In w s l) (h' : In w t m) :
    Calls Try.prog 3 #[.int .u8 ((k.toNat : Nat) : Int), .slice s.base s.len s.cap, .slice t.base t.len t.cap] w (good w) := by
  refine sh_butterylaw02_SealFrames_ok _ _ _ _ _ ?_
  unfold sh_butterylaw02_SealFrames
  have hn := h.len
  have hn' := h'.len
  refine VIf.mk (fun hc => ?_) (fun hc => ?_)
  · refine VCall.i (awake_spec w) ?_
    rintro e w1 ⟨rfl, e1⟩
    exact exW.i1 _ rfl ⟨rfl, e1⟩
  have hl : l.length ≤ 20000 := by simp at hc; omega
  have hm : m.length ≤ 20000 := by simp at hc; omega
  refine VNw.i fun b w1 hb hk e1 => ?_
  refine VApp.clone hb hk e1 h.1 (by omega) fun s2 w2 h2 e2 => ?_
  refine VNw.i fun b3 w3 hb3 hk3 e3 => ?_
  refine VApp.clone hb3 hk3 e3 (h'.1.ext0 e2) (by omega) fun s4 w4 h4 e24 => ?_
  have e4 := e2.then0 e24
  have h24 := h2.ext0 e24
  have hL := sealL_len k l
  refine VCall.i (XSeal_spec k s l w4 (h.1.ext0 e4)) ?_
  rintro e w5 ⟨x1, rfl, k1, e5⟩
  refine exW.i2 (t := .sl) x1 _ rfl (VSet.i ?_)
  refine VCall.i (Seal_spec k s2 l w5 (h24.ext0 e5).seg) ?_
  rintro e w6 ⟨x2, rfl, k2, e6⟩
  refine exW.i2 (t := .sl) x2 _ rfl (VSet.i ?_)
  refine VCall.i (Seal_spec k s2 l w6 ((h24.ext0 e5).ext0 e6).seg) ?_
  rintro e w7 ⟨x3, rfl, k3, e7⟩
  refine exW.i2 (t := .sl) x3 _ rfl (VSet.i ?_)
  refine VCall.on (by simp) (VCall.i (XSame_spec x2 x1 _ _ w7 (k2.ext0 e7).seg ((k1.ext0 e6).ext0 e7).seg (by omega)) ?_)
  rintro e w8 ⟨rfl, e8⟩
  refine exW.i1 (t := .bool) _ rfl (VIf.f (by simp) ?_)
  have e68 := e7.then0 e8
  have e58 := e6.then0 e68
  refine Own.fill 0x55 rfl (k2.ext0 e68) (fun w9 l9 k9 hl9 e9 e59 => ?_) e58
  refine VNw.i fun b10 w10 hb10 hk10 e10 => ?_
  have hk10 : Bk w10 b10 (bc [1, 2, 3]) 5 := hk10
  refine VApp.own (k9.ext0 e10) (e59.then0 e10) (news := [1, 2, 3]) (Seg.of_bk hk10 rfl rfl) rfl (by omega) fun s11 w11 k11 e11 e11' => ?_
  have X : Ext (rowB x2) w7 w11 := ((((Ext.refl (rowB x2) w7).then0 e8).then e9 (fun _ h _ => h)).then0 e10).then e11' (fun _ h _ => h)
  have k1' : Own w4 w11 x1 (sealL k l) := ((k1.ext0 e6).ext0 e7).other X (Own.apart k1 (Nat.le_refl _) k2)
  have k3' : Own w6 w11 x3 (sealL k l) := k3.other X (Own.apart' k2 (Nat.le_refl _) k3)
  have h11 : Own w w11 s2 l := (((h24.ext0 e5).ext0 e6).ext0 e7).other X (Own.apart (h24.ext0 e5) (Nat.le_refl _) k2)
  have h411 : Own w2 w11 s4 m := (((h4.ext0 e5).ext0 e6).ext0 e7).other X (Own.apart (h4.ext0 e5) (Nat.le_refl _) k2)
  have e5w := e4.then0 e5
  have e11w := e5w.then0 e11
  have hg : (!(((s11.len : Nat) : Int) != (IntKind.wrap .i64 (((x1.len : Nat) : Int) + 3)))) = true := by
    rw [k11.len, k1.len, List.length_append, hl9, w64 (by omega)]; simp
  refine VCall.on hg (VCall.i (XSame_spec x3 x1 _ _ w11 k3'.seg k1'.seg (by omega)) ?_)
  rintro e w12 ⟨rfl, e12⟩
  refine exW.i1 (t := .bool) _ rfl (VCall.on (by simpa using hg) (VCall.i (XSame_spec s2 s l l w12 (h11.ext0 e12).seg (h.1.ext0 (e11w.then0 e12)) (by omega)) ?_))
  rintro e w13 ⟨rfl, e13⟩
  refine exW.i1 (t := .bool) _ rfl (VIf.f (by simpa using hg) ?_)
  have e1113 := e12.then0 e13
  have e13w := e11w.then0 e1113
  have h413 := h411.ext0 e1113
  clear hg k1' k3' h11 X k11 k9 e9 e10 e8 e59 e58 e68
  have hM := openF_len m
  refine VCall.i (XOpen_spec t m w13 (h'.ext0 e13w)) ?_
  rintro e w14 ⟨y1, rfl, q1, e14⟩
  refine exW.i3 (u := .sl) _ y1 _ rfl (VSet.i (VSet.i ?_))
  refine VCall.i (Open_spec s4 m w14 (h413.ext0 e14).in_) ?_
  rintro e w15 ⟨y2, rfl, q2, e15⟩
  refine exW.i3 (u := .sl) _ y2 _ rfl (VSet.i (VSet.i ?_))
  refine VCall.i (Open_spec s4 m w15 ((h413.ext0 e14).ext0 e15).in_) ?_
  rintro e w16 ⟨y3, rfl, q3, e16⟩
  refine exW.i3 (u := .sl) _ y3 _ rfl (VSet.i (VSet.i ?_))
  refine VCall.on (by simp) (VCall.i (XSame_spec y2 y1 _ _ w16 (q2.ext0 e16).seg ((q1.ext0 e15).ext0 e16).seg (by omega)) ?_)
  rintro e w17 ⟨rfl, e17⟩
  refine exW.i1 (t := .bool) _ rfl (VIf.f (by simp) ?_)
  refine Own.fill 0x55 rfl ((q2.ext0 e16).ext0 e17) (fun w18 l18 q18 hl18 e18 e1518 => ?_) ((e15.then0 e16).then0 e17)
  refine VNw.i fun b19 w19 hb19 hk19 e19 => ?_
  have hk19 : Bk w19 b19 (bc [1, 2, 3]) 5 := hk19
  refine VApp.own (q18.ext0 e19) (e1518.then0 e19) (news := [1, 2, 3]) (Seg.of_bk hk19 rfl rfl) rfl (by omega) fun s20 w20 q20 e20 e20' => ?_
  have X : Ext (rowB y2) w16 w20 := ((((Ext.refl (rowB y2) w16).then0 e17).then e18 (fun _ h _ => h)).then0 e19).then e20' (fun _ h _ => h)
  have q1' : Own w13 w20 y1 (openF m).2.1 := ((q1.ext0 e15).ext0 e16).other X (Own.apart q1 (Nat.le_refl _) q2)
  have q3' : Own w15 w20 y3 (openF m).2.1 := q3.other X (Own.apart' q2 (Nat.le_refl _) q3)
  have h420 : Own w2 w20 s4 m := (((h413.ext0 e14).ext0 e15).ext0 e16).other X (Own.apart (h413.ext0 e14) (Nat.le_refl _) q2)
  have e20w := (e13w.then0 e14).then0 e20
  have hg : (((s20.len : Nat) : Int) == (IntKind.wrap .i64 (((y1.len : Nat) : Int) + 3))) = true := by
    rw [q20.len, q1.len, List.length_append, hl18, w64 (by omega)]; simp
  refine VCall.on hg (VCall.i (XSame_spec y3 y1 _ _ w20 q3'.seg q1'.seg (by omega)) ?_)
  rintro e w21 ⟨rfl, e21⟩
  refine exW.i1 (t := .bool) _ rfl (VCall.on (by simpa using hg) (VCall.i (XSame_spec s4 t m m w21 (h420.ext0 e21).seg (h'.1.ext0 (e20w.then0 e21)) (by omega)) ?_))
  rintro e w22 ⟨rfl, e22⟩
  refine exW.i1 (t := .bool) _ rfl (VCall.on (by simpa using hg) (VCall.i (awake_spec w22) ?_))
  rintro e w23 ⟨rfl, e23⟩
  exact exW.i1 (t := .bool) _ rfl ⟨by simpa using hg, ((e20w.then0 e21).then0 e22).then0 e23⟩
end Go.Proofs.Ytoleakhomnnfkaa
