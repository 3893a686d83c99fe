/-
  Package parts: PartsForms.
-/
import Derived.Test.YthpbkkjggnejcaaPartsN
namespace Go.Proofs.Ythpbkkjggnejcaa
open Go.RowKit
set_option maxRecDepth 100000

theorem takeP_code (A : Ab) (fr : Int) (l : List UInt8) : (takeP A fr l).2.2.2 = (readP l).2 := by
  unfold takeP
  by_cases h : (readP l).2 = 0
  · rw [if_neg (by simpa using h), h]
    split
    · rfl
    · split <;> rfl
  · rw [if_pos h]
theorem OutR.je {w0 w1 W W' : World} {t : Sl} {l : List UInt8} (h : OutR w1 W t l) (e : JEx w0 W W') : OutR w1 W' t l := by
  obtain ⟨q1, q2⟩ := h
  refine ⟨q1, q2.imp id ?_⟩
  rintro ⟨b, rest, hb, hk, hw⟩
  exact ⟨b, rest, hb, e.bk hk (by decide), hw⟩
abbrev Fm := Int × Int × Int × Bool
def fmR : Rec Fm := ⟨fun x => [.int .i64 x.1, .int .i64 x.2.1, .int .i64 x.2.2.1, .bool x.2.2.2], 4, fun _ => rfl, fun _ => rfl, by omega⟩
def fms : List Fm := [(21, 22, 212, true), (21, 22, 213, false), (21, 23, 380, false), (22, 23, 1, false), (1, 2, 0, false), (1, 2, 1, true), (1, 2, 380, true), (1, 2, 381, false), (0, 2, 379, false), (0, 2, 380, true), (0, 1, 0, true), (0, 1, 381, false), (1, 1, 5, false), (0, 0, 0, false)]
theorem fms_ok : ∀ x ∈ fms, (0 ≤ x.1 ∧ x.1 ≤ 30) ∧ (0 ≤ x.2.1 ∧ x.2.1 ≤ 30) ∧ (0 ≤ x.2.2.1 ∧ x.2.2.1 ≤ 381) ∧ decide (validP x.1 x.2.1 x.2.2.1.toNat) = x.2.2.2 := by decide
theorem ext_size (x : ByteArray) (k : Nat) (h : k ≤ x.size) : (ByteArray.extract x 0 k).size = k := by
  rw [ba_size, ext_list, List.length_take, List.length_drop, ← ba_size]
  omega
/-- the document's packet, in a statement -/
theorem pktGo {n p c : Int} {x : ByteArray} {W : World} (hx : x.size ≤ 8000) {K : Sl → World → Prop} (k : ∀ s W', In W' s (pkt n p c x.data.toList) → Ext [] W W' → K s W') :
    VCall none Try.prog 14 #[.int .i64 n, .int .i64 p, .int .i64 c, .string x] W (.slice none 0 0) fun (s : Sl) (W' : World) => K s W' := by
  refine VCall.i (Packet_spec n p c x W hx) ?_
  rintro e w' ⟨s, rfl, ho, e'⟩
  exact exW.i1 (t := .sl) s rfl (k s w' ho.in_ e')
theorem body5 : ([5, 0, 1, 0] : List UInt8) = bodyP 5 0 1 [] := by
  have h5 : encC 5 = [5] := by
    show encC ((5 : Nat) : Int) = _
    unfold encC
    rw [if_pos (by omega), Int.toNat_natCast, enc_small (by omega)]; rfl
  have h0 : encC 0 = [0] := by
    show encC ((0 : Nat) : Int) = _
    unfold encC
    rw [if_pos (by omega), Int.toNat_natCast, enc_small (by omega)]; rfl
  have h1 : encC 1 = [1] := by
    show encC ((1 : Nat) : Int) = _
    unfold encC
    rw [if_pos (by omega), Int.toNat_natCast, enc_small (by omega)]; rfl
  unfold bodyP encB
  rw [h5, h0, h1, List.length_nil, enc_small (by omega)]
  rfl
set_option maxHeartbeats 1000000 in
theorem PartsForms_law (w : World) : Calls Try.prog 4 #[] w fun e w' => e = .returned (.bool true) ∧ Ext [] w w' := by
  refine sh_butterylaw11_PartsForms_ok _ _ ?_
  unfold sh_butterylaw11_PartsForms
  refine VMk.i (by omega) (by omega) (by omega) (by omega) fun b w1 hb hk1 e1 => ?_
  have hin := mk_in 381 rfl (by omega) hk1
  obtain ⟨z, hz⟩ : ∃ z : List UInt8, z = List.replicate 381 0 := ⟨_, rfl⟩
  rw [← hz] at hin
  have hzl : z.length = 381 := by rw [hz, List.length_replicate]
  refine VStr.i _ hin.1 fun big hbig => ?_
  have hbs : big.size = 381 := by rw [ba_size, hbig, hzl]
  refine VNw.i fun fb w2 hfb hk2 e2 => ?_
  have hk2 : Bk w2 fb (fmR.cells fms) _ := hk2
  have e02 := e1.then0 e2
  refine ⟨fun k i W => ∃ m : Nat, i = (m : Int) ∧ m ≤ 14 ∧ k = 14 - m ∧ Bk W fb (fmR.cells fms) _ ∧ Ext [] w W, ⟨_, 0, rfl, by omega, rfl, hk2, e02⟩, ?_⟩
  rintro k i w3 ⟨m, rfl, hm, rfl, hk3, e03⟩
  refine VIf.mk (fun hd => ?_) (fun hd => ?_)
  · have hm' : m < 14 := by simp at hd; omega
    have hseg : Seg w3 (some ⟨fb, 0, none⟩) 14 fmR.k (fmR.cells fms) := Seg.of_bk hk3 rfl rfl
    obtain ⟨x, hx⟩ : ∃ x, x = fms[m]'hm' := ⟨_, rfl⟩
    obtain ⟨⟨p0, p1⟩, ⟨c0, c1⟩, ⟨s0, s1⟩, hv⟩ := fms_ok x (by rw [hx]; exact List.getElem_mem _)
    refine VIx.i' (r := fmR) hseg (show m < fms.length from hm') fun a hr => ?_
    have hr : Rd w3 (a.add (m * fmR.k)) (fmR.f x) := by rw [hx]; exact hr
    refine ⟨x.1, x.2.1, x.2.2.1, x.2.2.2, hr, ?_⟩
    refine VNw.i fun xb w4 hxb hk4 e4 => VSt.bk hk4 rfl (by simp) fun w5 hk5 e5 => ?_
    have hk5 : Bk w5 xb (fmR.f x) _ := hk5
    have e35 : Ext [] w3 w5 := e4.then e5 (fun i hi hlt => by simp at hi; omega)
    refine newGo fun jb w6 hJ e6 => ?_
    intro w7 hw7
    have ed := Ext.drew' hw7
    have hk7 := (hk5.ext e6).ext ed
    refine VLd.i1 (t := .int .i64) x.1 (Rd.of_bk hk7 rfl) (VLd.i1 (t := .int .i64) x.2.1 (Rd.of_bk hk7 rfl) (VLd.i1 (t := .int .i64) x.2.2.1 (Rd.of_bk hk7 rfl) ?_))
    refine VCk.i (by rw [hbs]; omega) ?_
    obtain ⟨n, hn⟩ : ∃ n : Nat, x.2.2.1 = (n : Int) := ⟨_, (Int.toNat_of_nonneg s0).symm⟩
    rw [hn, Int.toNat_natCast] at hv
    rw [hn, Int.toNat_natCast]
    have hes := ext_size big n (by omega)
    refine pktGo (by omega) fun s w8 hs e8 => ?_
    have e05 := e03.then0 e35
    have hrp := readP_pkt 5 x.1 x.2.1 (ByteArray.extract big 0 n) (by omega) (by omega) (by omega) (by omega)
    rw [hes] at hrp
    refine ((hJ.ext0 ed).ext0 e8).take hs fun o w9 hJ9 _ x9 => VSet.i ?_
    rw [takeP_code]
    have hk9 := x9.bk (hk7.ext e8) (by decide)
    have e09 := x9.ext (((e05.then0 e6).then0 ed).then0 e8) e05.size
    refine VLd.i1 (t := .bool) x.2.2.2 (Rd.of_bk hk9 rfl) (VIf.f ?_ ?_)
    · rw [hrp, ← hv]
      by_cases hval : validP x.1 x.2.1 n
      · rw [if_pos hval]; simp [hval]
      · rw [if_neg hval]; simp [hval]
    · refine ⟨_, (show 14 - (m + 1) < 14 - m by omega), m + 1, w64 (n := (m : Int) + 1) (by omega), by omega, rfl, ?_, e09⟩
      exact x9.bk ((((hk3.ext e35).ext e6).ext ed).ext e8) (by decide)
  -- which part stays of two at one place
  refine VMk.i (by omega) (by omega) (by omega) (by omega) fun b2 w10 hb2 hk10 e10 => ?_
  obtain ⟨r, hr⟩ : ∃ r : List UInt8, r = List.replicate 379 0 := ⟨_, rfl⟩
  have hrl : r.length = 379 := by rw [hr, List.length_replicate]
  have hk10 : Bk w10 b2 (bc (0 :: r)) 5 := by
    have h1 : (0 : UInt8) :: r = List.replicate 380 0 := by rw [hr]; exact (List.replicate_succ).symm
    rw [h1, ← made8]
    exact hk10
  have hbl : (bc (0 :: r)).length = 380 := by rw [bc_len, List.length_cons, hrl]
  refine VIx.i (by omega) (by omega) (VSt.bk hk10 rfl (by rw [hbl]; simp) fun w11 hk11 e11 => ?_)
  have hk11 : Bk w11 b2 (bc (7 :: r)) 5 := hk11
  have e011 : Ext [] w w11 := e03.then0 (e10.then e11 (fun i hi hlt => by simp at hi; omega))
  refine newGo fun jb w12 hJ e12 => ?_
  have hk12 := hk11.ext e12
  refine VStr.i (7 :: r) (Seg.of_bk hk12 (by rw [List.drop_zero, List.take_of_length_le (by rw [bc_len, List.length_cons, hrl]; omega)]) (by rw [bc_len, List.length_cons, hrl])) fun so hso => ?_
  have hss : so.size = 380 := by rw [ba_size, hso, List.length_cons, hrl]
  have z11 := e011.size
  have hv0 : validP 0 2 380 := by decide
  -- the first
  refine pktGo (by omega) fun s1 w13 hs1 e13 => ?_
  have hr1 := readP_pkt 5 0 2 so (by omega) (by omega) (by omega) (by omega)
  rw [hss, if_pos hv0] at hr1
  have t1 := take_new (A := []) (fr := 1) (N := 2) (pl := 0) hr1 rfl (by omega) (by omega) (by simp)
  refine (hJ.ext0 e13).take hs1 fun o1 w14 hJ14 _ x14 => VSet.i ?_
  rw [t1] at hJ14 ⊢
  have e014 := x14.ext ((e011.then0 e12).then0 e13) z11
  have hA1 : (putS (List.replicate 2 none) 0 so : Slots) = [some so, none] := rfl
  rw [hA1] at hJ14
  refine VCk.i (by rw [hbs]; omega) ?_
  -- another at its place
  have hes := ext_size big 380 (by omega)
  refine pktGo (by omega) fun s2 w15 hs2 e15 => ?_
  have hr2 := readP_pkt 5 0 2 (ByteArray.extract big 0 380) (by omega) (by omega) (by omega) (by omega)
  rw [hes, if_pos hv0] at hr2
  have hf1 : findA ([] ++ [((1, 5), [some so, none])]) (1, 5) = some [some so, none] := rfl
  have hp2 : putS [some so, none] 0 (ByteArray.extract big 0 380) = [some so, none] := by unfold putS; rw [if_neg]; simp
  have t2 := take_more (A := [] ++ [((1, 5), [some so, none])]) (fr := 1) (N := 2) (pl := 0) hr2 hf1 rfl (by omega) (by rw [hp2]; exact Nat.zero_lt_one)
  rw [hp2] at t2
  refine (hJ14.ext0 e15).take hs2 fun o2 w16 hJ16 _ x16 => VSet.i ?_
  rw [t2] at hJ16 ⊢
  have e016 := x16.ext (e014.then0 e15) z11
  have hA2 : setA ([] ++ [((1, 5), [some so, none])]) (1, 5) [some so, none] = [((1, 5), [some so, none])] := rfl
  rw [hA2] at hJ16
  -- the last
  have hxs : (ByteArray.mk #[120]).size = 1 := rfl
  refine pktGo (by omega) fun s3 w17 hs3 e17 => ?_
  have hr3 := readP_pkt 5 1 2 (ByteArray.mk #[120]) (by omega) (by omega) (by omega) (by omega)
  rw [hxs, if_pos (by decide)] at hr3
  have hf3 : findA [((1, 5), [some so, none])] (1, 5) = some [some so, none] := rfl
  have hp3 : putS [some so, none] 1 (ByteArray.mk #[120]) = [some so, some (ByteArray.mk #[120])] := rfl
  have t3 := take_last (A := [((1, 5), [some so, none])]) (fr := 1) (N := 2) (pl := 1) hr3 hf3 rfl (by omega) (by rw [hp3]; exact Nat.lt_irrefl 0)
  rw [hp3] at t3
  refine (hJ16.ext0 e17).take hs3 fun o3 w18 hJ18 ho18 x18 => VSet.i ?_
  rw [t3] at hJ18 ho18 ⊢
  have e018 := x18.ext (e016.then0 e17) z11
  have hjn : joinS [some so, some (ByteArray.mk #[120])] = 7 :: (r ++ [120]) := by
    show so.data.toList ++ ([120] ++ []) = _
    rw [hso]; rfl
  rw [hjn] at ho18
  have hA3 : dropA [((1, 5), [some so, none])] (1, 5) = [] := rfl
  rw [hA3] at hJ18
  -- of another kind
  have seals : ∀ k : UInt8, sealE ([5, 0, 1, 0] : List UInt8) = 0 ∧ sealL k [5, 0, 1, 0] = frame k [5, 0, 1, 0] := fun k => ⟨rfl, rfl⟩
  refine VNw.i fun b19 w19 hb19 hk19 e19 => ?_
  have hk19 : Bk w19 b19 (bc [5, 0, 1, 0]) 5 := hk19
  refine VMark.bk hk19 fun w20 hk20 e20 => ?_
  have e1820 : Ext [] w18 w20 := e19.then e20 (fun i hi hlt => by simp at hi; omega)
  refine VCall.i (XSeal_spec 2 ⟨some ⟨b19, 0, none⟩, 4, 4⟩ [5, 0, 1, 0] w20 (Seg.of_bk hk20 rfl rfl)) ?_
  rintro e w21 ⟨sk, rfl, hsk, e21⟩
  rw [(seals 2).1, (seals 2).2] at *
  refine exW.i2 (t := .sl) (u := .int .i64) sk 0 rfl (VSet.i ?_)
  refine VNw.i fun b22 w22 hb22 hk22 e22 => ?_
  have hk22 : Bk w22 b22 (bc [5, 0, 1, 0]) 5 := hk22
  refine VMark.bk hk22 fun w23 hk23 e23 => ?_
  have e2123 : Ext [] w21 w23 := e22.then e23 (fun i hi hlt => by simp at hi; omega)
  refine VCall.i (XSeal_spec 1 ⟨some ⟨b22, 0, none⟩, 4, 4⟩ [5, 0, 1, 0] w23 (Seg.of_bk hk23 rfl rfl)) ?_
  rintro e w24 ⟨sr, rfl, hsr, e24⟩
  rw [(seals 1).1, (seals 1).2] at *
  refine exW.i2 (t := .sl) (u := .int .i64) sr 0 rfl (VSet.i ?_)
  have e1824 := ((e1820.then0 e21).then0 e2123).then0 e24
  have hsk24 := (hsk.ext0 e2123).ext0 e24
  have hro2 : openF (frame 2 [5, 0, 1, 0]) = (2, [5, 0, 1, 0], 0) := open_frame 2 _ (by decide)
  have hrk : (readP (frame 2 [5, 0, 1, 0])).2 = 4 := by
    unfold readP
    rw [hro2]
    simp
  refine (hJ18.ext0 e1824).take hsk24.in_ fun o4 w25 hJ25 _ x25 => VSet.i ?_
  rw [take_bad (by rw [hrk]; decide), hrk] at hJ25 ⊢
  have e025 := x25.ext (e018.then0 e1824) z11
  have hsr25 := x25.own hsr
  have hpk : frame 1 [5, 0, 1, 0] = pkt 5 0 1 ByteArray.empty.data.toList := by
    unfold pkt
    rw [body5]; rfl
  rw [hpk] at hsr25
  have hr4 := readP_pkt 5 0 1 ByteArray.empty (by omega) (by omega) (by omega) (by decide)
  have hes0 : ByteArray.empty.size = 0 := rfl
  rw [hes0, if_pos (by decide)] at hr4
  refine hJ25.take hsr25.in_ fun o5 w26 hJ26 _ x26 => VSet.i ?_
  rw [take_one hr4 rfl] at hJ26 ⊢
  have e026 := x26.ext e025 z11
  have ho26 := ((ho18.ext0 e1824).je x25).je x26
  have hll : (7 :: (r ++ [120]) : List UInt8).length = 381 := by simp [hrl]
  have hol : o3.len = 381 := by rw [ho26.1]; exact hll
  have g380 : (7 :: (r ++ [120]) : List UInt8).getD 380 0 = 120 := by
    rw [List.getD_cons_succ, List.getD_eq_getElem?_getD, List.getElem?_append_right (by omega), hrl]; rfl
  refine VByte.t _ 0 ho26.seg rfl (fun a => by simp [add_zero]) (by rw [hll]; omega) 7 rfl ?_
  refine VByte.t _ 380 ho26.seg rfl (fun a => by simp) (by rw [hll]; omega) 120 (by rw [g380]; rfl) ?_
  refine ⟨?_, e026⟩
  rw [hol]
  rfl
end Go.Proofs.Ythpbkkjggnejcaa
