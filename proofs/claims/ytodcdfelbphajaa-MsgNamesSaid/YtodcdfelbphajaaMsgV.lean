/-
  Package msg, outright: works, MsgBack, MsgOnly.
-/
import Derived.Test.YtodcdfelbphajaaMsgU
import Derived.Test.YtodcdfelbphajaaCodeD
namespace Go.Proofs.Ytodcdfelbphajaa
open Go.RowKit
set_option maxRecDepth 100000

def pw : MP := ⟨{ sc0 with f0 := 8, f1 := 2 }, [], [], [(⟨#[97]⟩, ⟨#[98]⟩)], []⟩
def bw : List UInt8 := [8, 4, 0, 0, 0, 0, 0, 0, 0, 0, 0, 0, 0, 0, 0, 0, 0, 0, 0, 0, 0, 0, 0, 0, 0, 0, 0, 1, 1, 97, 1, 98, 0, 0, 0, 0, 0]
theorem encC_s (n : Nat) (h : n < 128) : encC (n : Int) = [UInt8.ofNat n] := by
  unfold encC
  rw [if_pos (by omega), Int.toNat_natCast, enc_small h]
theorem encC_0 : encC 0 = [0] := encC_s 0 (by omega)
theorem encC_1 : encC 1 = [1] := encC_s 1 (by omega)
theorem encC_8 : encC 8 = [8] := encC_s 8 (by omega)
theorem cNum_0 : cNum 0 = [0] := by
  show enc 0 = [0]
  exact enc_0
theorem cNum_2 : cNum 2 = [4] := by
  show enc 4 = [4]
  rw [enc_small (by omega)]; rfl
theorem cFlag_f : cFlag false = [0] := by
  show enc 0 = [0]
  exact enc_0
theorem encT_e : encT ByteArray.empty = [0] := by
  have : ByteArray.empty.size = 0 := rfl
  rw [encT_eq (by omega)]
  unfold encS
  rw [if_pos (by omega), this, enc_0]; rfl
theorem encT_one (c : UInt8) : encT ⟨#[c]⟩ = [1, c] := by
  have : (⟨#[c]⟩ : ByteArray).size = 1 := rfl
  rw [encT_eq (by omega)]
  unfold encS
  rw [if_pos (by omega), this, enc_1]; rfl
theorem encM_pw : encM pw = bw := by
  unfold encM pw sc0 cRes cInts
  simp only [List.flatMap_cons, List.flatMap_nil, List.length_nil, List.length_cons, encC_8, cNum_0, cNum_2, cFlag_f, encT_e, cPr, encT_one, List.append_nil, List.nil_append, List.cons_append]
  rw [show ((0 : Nat) : Int) = 0 from rfl, show ((0 + 1 : Nat) : Int) = 1 from rfl, encC_0, encC_1]
  rfl
theorem EO_pw : EO pw := by
  refine ⟨?_, ?_, ?_, ?_, ?_, ?_, ?_, ?_, ?_, ?_, ?_, ?_⟩
  all_goals first
    | (intro n hn; simp [pw, sc0] at hn; rcases hn with rfl | rfl <;> (unfold i64ok; omega))
    | (intro n hn; simp [pw, sc0] at hn; subst hn; unfold i64ok; omega)
    | (intro n hn; simp [pw] at hn)
    | (show u8ok _; unfold u8ok pw sc0; simp)
    | (show i64ok _; unfold i64ok pw sc0; simp)
theorem encP_of {p : MP} (hk : 1 ≤ p.c.f0 ∧ p.c.f0 ≤ 19) (hl : (encM p).length ≤ 8192) : encP p = (0, encM p) := by
  unfold encP
  rw [if_neg (by omega), if_neg (by omega)]
theorem pw_len : (encM pw).length ≤ 8192 := by rw [encM_pw]; decide
theorem encP_pw : encP pw = (0, bw) := by rw [encP_of (by constructor <;> decide) pw_len, encM_pw]
theorem decM_pw : decM bw = (pw, 0) := by rw [← encM_pw]; exact dec_enc (okM.of EO_pw pw_len) (by constructor <;> decide) pw_len
theorem Rd.at0 {α : Type} {r : Rec α} {w : World} {a : Addr} {x : α} (h : Rd w (a.add (0 * r.k)) (r.f x)) : Rd w a (r.f x) := by
  rw [Nat.zero_mul, add_zero] at h
  exact h
set_option maxHeartbeats 1000000 in
theorem works_spec (w : World) : Calls Try.prog 18 #[] w fun e w' => e = .returned (.bool true) ∧ Ext [] w w' := by
  refine sh_butterylaw13_works_ok _ _ ?_
  unfold sh_butterylaw13_works
  refine VNw.i fun b7 w1 hb7 hk7 e1 => VNw.i fun mb w2 hmb hk2 e2 => VSt.bk hk2 rfl (by simp) fun w3 hk3 e3 => ?_
  have hk3 : Bk w3 mb (mvF ⟨pw.c, ⟨none, 0, 0⟩, ⟨none, 0, 0⟩, ⟨some ⟨b7, 0, none⟩, 1, 1⟩, ⟨none, 0, 0⟩⟩) 34 := hk3
  have e13 : Ext [] w1 w3 := e2.then e3 (fun i hi hlt => by simp at hi; omega)
  have hk73 : Bk w3 b7 (prR.cells [(⟨#[97]⟩, ⟨#[98]⟩)]) 52 := hk7.ext e13
  have hm : MIn w3 ⟨pw.c, ⟨none, 0, 0⟩, ⟨none, 0, 0⟩, ⟨some ⟨b7, 0, none⟩, 1, 1⟩, ⟨none, 0, 0⟩⟩ pw [] := ⟨rfl, ⟨InR.nil _, by simp⟩, rfl, InR.nil _, ⟨Seg.of_bk hk73 rfl rfl, Nat.le_refl _, by simp⟩, InR.nil _⟩
  refine VLd.mv _ (Rd.of_bk hk3 rfl) ?_
  refine VCall.i (Encode_spec _ pw [] w3 hm EO_pw) ?_
  rintro e w4 ⟨s, rfl, hs, e4⟩
  rw [encP_pw] at hs ⊢
  refine exW.i2 (t := .sl) (u := .int .i64) s 0 rfl (VSet.i ?_)
  refine VCall.i (Decode_spec s bw w4 hs.seg (by decide)) ?_
  rintro e w5 ⟨x, U, rfl, hx, e5⟩
  rw [decM_pw] at hx ⊢
  refine exW.mvc x 0 rfl ?_
  refine VNw.i fun xb w6 hxb hk6 e6 => VSt.bk hk6 rfl (by simp) fun w7 hk7' e7 => VSet.i ?_
  have hk7' : Bk w7 xb (mvF x) 34 := hk7'
  have e57 : Ext [] w5 w7 := e6.then e7 (fun i hi hlt => by simp at hi; omega)
  intro w8 hw8
  have ed := Ext.drew' hw8
  have e48 := (e5.then0 e57).then0 ed
  have e38 := e4.then0 e48
  have hx8 := ((hx.ext0 e57).ext0 ed)
  have hkx := hk7'.ext ed
  have hs8 := hs.ext0 e48
  have hl := hs.len
  have hxc := hx.c
  have hsg := hs8.seg
  have hpi := hx8.in_.pi
  have hpl := hpi.len
  refine VByte.t bw 0 hsg rfl (fun a => by simp [add_zero]) (by decide) 8 rfl ?_
  refine VByte.t bw 1 hsg rfl (fun a => by simp) (by decide) 4 rfl ?_
  refine VLd.i1 (t := .int .u8) x.c.f0 (Rd.of_bk hkx rfl) (VLd.i1 (t := .int .i64) x.c.f1 (Rd.of_bk hkx rfl) ?_)
  refine VLd.s x.p (Rd.of_bk hkx rfl) (VLd.s x.p (Rd.of_bk hkx rfl) ?_)
  refine VIx.rec (r := prR) (j := 0) hpi.1 (by decide) rfl fun a1 hr1 => VLd.i2 (t := .str) (u := .str) _ _ (Rd.at0 hr1) ?_
  refine VLd.s _ (Rd.of_bk (hk3.ext e38) rfl) (VIx.rec (r := prR) (L := [(⟨#[97]⟩, ⟨#[98]⟩)]) (j := 0) (hm.ext0 e38).pi.1 (by decide) rfl fun a2 hr2 => VLd.i2 (t := .str) (u := .str) _ _ (Rd.at0 hr2) ?_)
  refine VLd.mv x (Rd.of_bk hkx rfl) (VLd.mv _ (Rd.of_bk (hk3.ext e38) rfl) ?_)
  have g0 : (((s.len : Nat) : Int) > 3) = True := by rw [hl]; simp [bw]
  have g1 : x.c.f0 = 8 := by rw [hxc]; rfl
  have g2 : x.c.f1 = 2 := by rw [hxc]; rfl
  have g3 : x.p.len = 1 := by rw [hpl]; rfl
  have cond : (((((((((((0 : Int) == 0) && ((0 : Int) == 0)) && (decide (((s.len : Nat) : Int) > 3))) && ((8 : Int) == 8)) && ((4 : Int) == 4)) && (x.c.f0 == 8)) && (x.c.f1 == 2)) && (((x.p.len : Nat) : Int) == 1)) && (((pw.P[0]'(by decide)).1.toList == ((⟨#[97]⟩ : ByteArray), (⟨#[98]⟩ : ByteArray)).1.toList) && ((pw.P[0]'(by decide)).2.toList == ((⟨#[97]⟩ : ByteArray), (⟨#[98]⟩ : ByteArray)).2.toList)))) = true := by
    rw [g1, g2, g3]
    have hp0 : (pw.P[0]'(by decide)) = ((⟨#[97]⟩ : ByteArray), (⟨#[98]⟩ : ByteArray)) := rfl
    rw [hp0]
    simp only [g0]
    simp
  refine VCall.on cond (VCall.i (Same_spec x _ pw pw U [] w8 hx8.in_ (hm.ext0 e38)) ?_)
  rintro e w9 ⟨rfl, e9⟩
  rw [decide_eq_true (rfl : pw = pw)]
  refine exW.i1 (t := .bool) true rfl ⟨?_, ((e1.then0 e13).then0 e38).then0 e9⟩
  exact congrArg (fun c => Ending.returned (.bool (c && true))) cond
set_option maxHeartbeats 1000000 in
theorem MsgBack_law (a b : MV) (p q : MP) (X Y : List EX) (w : World) (h : MIn w a p X) (k : MIn w b q Y) (hp : EO p) (hq : EO q) :
    Calls Try.prog 7 #[mva a, mva b] w fun e w' => e = .returned (.bool true) ∧ Ext [] w w' := by
  unfold mva
  apply sh_butterylaw13_MsgBack_ok
  unfold sh_butterylaw13_MsgBack
  refine VNw.i fun b1 w1 hb1 ha e1 => VNw.i fun b2 w2 hb2 hb e2 => ?_
  have ha : Bk w2 b1 (mvF a) 34 := ha.ext e2
  have hb : Bk w2 b2 (mvF b) 34 := hb
  have e02 := e1.then0 e2
  refine VCall.i (works_spec w2) ?_
  rintro e w3 ⟨rfl, e3⟩
  refine exW.i1 (t := .bool) true rfl (VIf.f rfl ?_)
  have e03 := e02.then0 e3
  have ha3 := ha.ext e3
  have hb3 := hb.ext e3
  refine VLd.mv a (Rd.of_bk ha3 rfl) ?_
  refine VCall.i (Encode_spec a p X w3 (h.ext0 e03) hp) ?_
  rintro e w4 ⟨s, rfl, hs, e4⟩
  refine exW.i2 (t := .sl) (u := .int .i64) s (encP p).1 rfl (VSet.i ?_)
  have e04 := e03.then0 e4
  have hs0 := hs.len
  refine VIf.mk (fun hc => ⟨?_, e04⟩) (fun hc => ?_)
  · unfold encP at hc hs0 ⊢
    split at hc
    · rename_i h1
      rw [if_pos h1] at hs0 ⊢
      rw [hs0]; rfl
    · rename_i h1
      rw [if_neg h1] at hs0 ⊢
      split at hc
      · rename_i h2
        rw [if_pos h2] at hs0 ⊢
        rw [hs0]; rfl
      · simp at hc
  have hE : encP p = (0, encM p) ∧ (1 ≤ p.c.f0 ∧ p.c.f0 ≤ 19) ∧ (encM p).length ≤ 8192 := by
    unfold encP at hc ⊢
    split at hc
    · simp at hc
    · rename_i h1
      rw [if_neg h1]
      split at hc
      · simp at hc
      · rename_i h2
        rw [if_neg h2]
        exact ⟨rfl, by omega, by omega⟩
  obtain ⟨hE, hk1, hl⟩ := hE
  rw [hE] at hs hs0
  have hs : Own w3 w4 s (encM p) := hs
  have hs0 : s.len = (encM p).length := hs0
  have hD := dec_enc (okM.of hp hl) hk1 hl
  refine VCall.i (Decode_spec s (encM p) w4 hs.seg (by omega)) ?_
  rintro e w5 ⟨x, U, rfl, hx, e5⟩
  rw [hD] at hx ⊢
  refine exW.mvc x 0 rfl ?_
  refine VNw.i fun xb w6 hxb hk6 e6 => VSt.bk hk6 rfl (by simp) fun w7 hk7 e7 => VSet.i ?_
  have hk7 : Bk w7 xb (mvF x) 34 := hk7
  have e57 : Ext [] w5 w7 := e6.then e7 (fun i hi hlt => by simp at hi; omega)
  have e47 := e5.then0 e57
  have ha7 := (ha3.ext e4).ext e47
  refine VLd.mv x (Rd.of_bk hk7 rfl) (VLd.mv a (Rd.of_bk ha7 rfl) ?_)
  have h7 := (h.ext0 e04).ext0 e47
  refine VCall.on rfl (VCall.i (Same_spec x a p p U X w7 (hx.ext0 e57).in_ h7) ?_)
  rintro e w8 ⟨rfl, e8⟩
  rw [decide_eq_true (rfl : p = p)]
  refine exW.i1 (t := .bool) true rfl (VIf.f (by rw [hs0]; simp; omega) ?_)
  have e48 := e47.then0 e8
  have e08 := e04.then0 e48
  have ha8 := ha7.ext e8
  have hb8 := (hb3.ext e4).ext e48
  refine VLd.mv b (Rd.of_bk hb8 rfl) ?_
  refine VCall.i (Encode_spec b q Y w8 (k.ext0 e08) hq) ?_
  rintro e w9 ⟨t, rfl, ht, e9⟩
  refine exW.i2 (t := .sl) (u := .int .i64) t (encP q).1 rfl (VSet.i ?_)
  intro w10 hw10
  have ed := Ext.drew' hw10
  have e810 := e9.then0 ed
  have hs10 := (hs.ext0 e48).ext0 e810
  have ht10 := ht.ext0 ed
  refine VStr.i _ hs10.seg fun s1 hs1 => VStr.i _ ht10.seg fun s2 hs2 => ?_
  refine VLd.mv a (Rd.of_bk (ha8.ext e810) rfl) (VLd.mv b (Rd.of_bk (hb8.ext e810) rfl) ?_)
  have e010 := e08.then0 e810
  refine callIf (Same_spec a b p q X Y w10 (h.ext0 e010) (k.ext0 e010)) fun r w11 hr e11 => ?_
  refine ⟨fun _ => by rw [bc_str, hs2]; exact (ht10.ext0 e11).seg, fun _ => by rw [bc_str, hs1]; exact (hs10.ext0 e11).seg, ?_, e010.then0 e11⟩
  by_cases hf : (encP q).1 = 0
  · have hn : ((encP q).1 != 0) = false := by simp [hf]
    rw [hn] at hr ⊢
    rw [hr rfl, strEq, hs1, hs2]
    have hEq : encP q = (0, encM q) ∧ (1 ≤ q.c.f0 ∧ q.c.f0 ≤ 19) := by
      unfold encP at hf ⊢
      split at hf
      · simp at hf
      · rename_i h1
        rw [if_neg h1]
        split at hf
        · simp at hf
        · rename_i h2
          rw [if_neg h2]
          exact ⟨rfl, by omega⟩
    rw [hEq.1]
    by_cases hpq : p = q
    · subst hpq; simp
    · have : encM p ≠ encM q := fun e => hpq (encM_inj hp hq hk1 hEq.2 hl e)
      simp [hpq, this]
  · have hn : ((encP q).1 != 0) = true := by simp [hf]
    rw [hn]; rfl
set_option maxHeartbeats 1000000 in
theorem MsgOnly_law (b : Sl) (l : List UInt8) (cut : Int) (w : World) (h : In w b l) :
    Calls Try.prog 8 #[.slice b.base b.len b.cap, .int .i64 cut] w fun e w' => e = .returned (.bool true) ∧ Ext [] w w' := by
  refine sh_butterylaw13_MsgOnly_ok _ _ _ _ ?_
  unfold sh_butterylaw13_MsgOnly
  have hlen := h.len
  refine VCall.i (works_spec w) ?_
  rintro e w1 ⟨rfl, e1⟩
  refine exW.i1 (t := .bool) true rfl (VIf.mk (fun hc => ?_) (fun hc => ?_))
  · refine VCall.i (works_spec w1) ?_
    rintro e w2 ⟨rfl, e2⟩
    exact exW.i1 (t := .bool) true rfl ⟨rfl, e1.then0 e2⟩
  have hc : l.length ≤ 20000 := by simp at hc; omega
  have h1 := h.ext0 e1
  refine VCall.i (Decode_spec b l w1 h1.1 (by omega)) ?_
  rintro e w3 ⟨x, U, rfl, hx, e3⟩
  refine exW.mvc x _ rfl ?_
  refine VNw.i fun xb w4 hxb hk4 e4 => VSt.bk hk4 rfl (by simp) fun w5 hk5 e5 => VSet.i ?_
  have hk5 : Bk w5 xb (mvF x) 34 := hk5
  have e35 : Ext [] w3 w5 := e4.then e5 (fun i hi hlt => by simp at hi; omega)
  have e15 := e3.then0 e35
  refine VIf.mk (fun hd => ?_) (fun hd => ?_)
  · have hd : (decM l).2 ≠ 0 := by simpa using hd
    have hx := hx.c
    rw [dec_bad hd] at hx ⊢
    refine VLd.i1 (t := .int .u8) x.c.f0 (Rd.of_bk hk5 rfl) ⟨?_, e1.then0 e15⟩
    rw [hx]; rfl
  have hd : (decM l).2 = 0 := by simpa using hd
  obtain ⟨ho, hk1, henc, hl8⟩ := enc_dec hd
  refine VLd.mv x (Rd.of_bk hk5 rfl) ?_
  refine VCall.i (Encode_spec x (decM l).1 U w5 (hx.ext0 e35).in_ (EOk.of ho).eo) ?_
  rintro e w6 ⟨s, rfl, hs, e6⟩
  rw [encP_of hk1 (by rw [henc]; exact hl8), henc] at hs ⊢
  refine exW.i2 (t := .sl) (u := .int .i64) s 0 rfl (VSet.i ?_)
  have hs : Own w5 w6 s l := hs
  have h6 := (h1.ext0 e15).ext0 e6
  refine VStr.i _ hs.seg fun s1 hs1 => VStr.i _ h6.1 fun s2 hs2 => ?_
  have heq : (!(s1.toList == s2.toList)) = false := by rw [strEq, hs1, hs2]; simp
  rw [heq]
  refine VIf.f rfl ?_
  have hpos : 0 < l.length := by rw [← henc]; exact encM_pos _ hk1
  have hu : IntKind.wrap .u64 ((b.len : Nat) : Int) = (l.length : Int) := by rw [w64u, hlen]; omega
  rw [hu]
  obtain ⟨n, hn, hnl⟩ : ∃ n : Nat, IntKind.wrap .i64 (Int.tmod (IntKind.wrap .u64 cut) (l.length : Int)) = (n : Int) ∧ n < l.length := by
    rw [w64u]
    have h0 : 0 ≤ cut % 18446744073709551616 := Int.emod_nonneg _ (by omega)
    rw [Int.tmod_eq_emod_of_nonneg h0]
    have h2 := Int.emod_nonneg (cut % 18446744073709551616) (show (l.length : Int) ≠ 0 by omega)
    have h3 := Int.emod_lt_of_pos (cut % 18446744073709551616) (show (0 : Int) < (l.length : Int) by omega)
    rw [w64 (by omega)]
    exact ⟨_, (Int.toNat_of_nonneg h2).symm, by omega⟩
  rw [hn]
  have hcap := h.2
  refine VCk.i (by omega) (VCk.i (by omega) ?_)
  rw [Int.toNat_natCast]
  have hcut := h6.cut 0 n (by omega) (by omega)
  rw [List.drop_zero] at hcut
  refine VCall.i (Decode_spec ⟨cutB b.base b.cap 1 0, n - 0, b.cap - 0⟩ (l.take n) w6 hcut.1 (by rw [List.length_take]; omega)) ?_
  rintro e w7 ⟨y, V, rfl, hy, e7⟩
  have hbad := dec_bad (dec_cut hd hnl)
  rw [hbad]
  refine exW.mvc y 4 rfl ?_
  refine VNw.i fun yb w8 hyb hk8 e8 => VSt.bk hk8 rfl (by simp) fun w9 hk9 e9 => VSet.i ?_
  have e79 : Ext [] w7 w9 := e8.then e9 (fun i hi hlt => by simp at hi; omega)
  exact ⟨rfl, (((e1.then0 e15).then0 e6).then0 e7).then0 e79⟩
end Go.Proofs.Ytodcdfelbphajaa
