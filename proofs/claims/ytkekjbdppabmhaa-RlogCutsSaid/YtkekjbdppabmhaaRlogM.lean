/-
  Package rlog: RlogEntries.
-/
import Derived.Test.YtkekjbdppabmhaaRlogL
namespace Go.Proofs.Ytkekjbdppabmhaa
open Go.RowKit
set_option maxRecDepth 100000

theorem one_in {w : World} {b : Nat} {x : Er} {e : En} (hk : Bk w b (erC x) 28) (h : EIn w x e) : LIn w ⟨some ⟨b, 0, none⟩, 1, 1⟩ [e] :=
  LIn.of_bk (X := [x]) (by rw [Rec.cells_one]; exact hk) rfl rfl (by omega) fun i h1 h2 => by
    have : i = 0 := by simp at h1; omega
    subst this
    exact h
theorem EOwn.other {w0 w w' : World} {x : Er} {e : En} {l : List Nat} (h : EOwn w0 w x e) (k : Ext l w w') (hd : ∀ b ∈ rowB x.s, b ∉ l) : EOwn w0 w' x e := ⟨h.ht, h.hk, h.hd, h.ho.ext k hd⟩
set_option maxHeartbeats 2000000 in
theorem Entries_law (x : Er) (en : En) (s : Sl) (l : List UInt8) (w : World) (h : EIn w x en) (hb : In w s l) (hs : bulkE en ≤ 100000000) (hl : l.length ≤ 100000000) :
    Calls Try.prog 5 #[.agg (erC x).toArray, .slice s.base s.len s.cap] w fun e w' => e = .returned (.bool true) ∧ Ext [] w w' := by
  refine sh_butterylaw14_RlogEntries_ok _ _ _ _ _ _ _ ?_
  unfold sh_butterylaw14_RlogEntries
  have hbl := hb.len
  have hll : en.list.length ≤ 100000000 := by unfold bulkE at hs; omega
  refine VNw.i fun eb w1 heb hk1 e1 => ?_
  have hk1 : Bk w1 eb (erC x) 28 := hk1
  refine VLd.er x (Rd.of_bk hk1 rfl) (VNw.i fun b19 w2 hb19 hk2 e2 => ?_)
  have hk2 : Bk w2 b19 (erC x) 28 := hk2
  have e02 := e1.then0 e2
  have hlong := long_spec ⟨some ⟨b19, 0, none⟩, 1, 1⟩ [en] w2 (one_in hk2 (h.ext0 e02)) (by simp) (by simp; exact hs)
  refine VCall.i hlong ?_
  rintro r w3 ⟨rfl, e3⟩
  have e03 := e02.then0 e3
  have hk3 := (hk1.ext e2).ext e3
  refine exW.i1 (t := .bool) _ rfl (VIf.mk (fun hc => ?_) (fun hc => ?_))
  · refine VCall.i (awake_spec w3) ?_
    rintro r w4 ⟨rfl, e4⟩
    exact exW.i1 (t := .bool) true rfl ⟨rfl, e03.then0 e4⟩
  have h3 := h.ext0 e03
  refine VLd.er x (Rd.of_bk hk3 rfl) (VCall.i (xTwin_spec x en w3 h3 hll) ?_)
  rintro r w5 ⟨xi, rfl, hxi, e5⟩
  refine exW.er xi rfl (VNw.i fun b29 w6 hb29 hk6 e6 => ?_)
  have e05 := e03.then0 e5
  refine VApp.clone hb29 hk6 e6 (hb.ext0 e05).1 (by omega) fun sb w7 hsb e57 => ?_
  have e07 := e05.then0 e57
  refine VNw.i fun ib w8 hib hk8 e8 => VSt.bk hk8 rfl (by simp) fun w9 hk9 e9 => ?_
  have hk9 : Bk w9 ib (erC xi) 28 := hk9
  have e79 : Ext [] w7 w9 := e8.then e9 (fun i hi hlt => by simp at hi; omega)
  have e09 := e07.then0 e79
  have he9 := ((hk3.ext e5).ext e57).ext e79
  have hxi9 : EOwn w3 w9 xi en := (hxi.ext0 e57).ext0 e79
  have hsb9 : Own w5 w9 sb l := hsb.ext0 e79
  refine VLd.er x (Rd.of_bk he9 rfl) (VCall.i (xWrite_spec x en w9 (h.ext0 e09)) ?_)
  rintro r w10 ⟨sx, rfl, hox, e10⟩
  refine exW.i2 (t := .sl) (u := .int .i64) sx _ rfl (VSet.i ?_)
  have hi10 := hk9.ext e10
  refine VLd.er xi (Rd.of_bk hi10 rfl) (VCall.i (Write_spec xi en w10 (hxi9.ext0 e10).ein) ?_)
  rintro r w11 ⟨sy, rfl, hoy, e11⟩
  refine exW.i2 (t := .sl) (u := .int .i64) sy _ rfl (VSet.i ?_)
  have e911 := e10.then0 e11
  have hsb11 := hsb9.ext0 e911
  refine VCall.i (Read_spec sb l w11 hsb11.in_ hl) ?_
  rintro r w12 ⟨xr, rfl, hxr, e12⟩
  refine ⟨xr.t, xr.k, xr.d, xr.s, (decE l).2, rfl, ?_⟩
  refine VNw.i fun rb w13 hrb hk13 e13 => VSt.bk hk13 rfl (by simp) fun w14 hk14 e14 => VSet.i ?_
  have hk14 : Bk w14 rb (erC xr) 28 := hk14
  have e1214 : Ext [] w12 w14 := e13.then e14 (fun i hi hlt => by simp at hi; omega)
  have hxr14 := hxr.ext0 e1214
  have hsb14 := (hsb11.ext0 e12).ext0 e1214
  refine VCall.i (Read_spec sb l w14 hsb14.in_ hl) ?_
  rintro r w15 ⟨xa, rfl, hxa, e15⟩
  refine ⟨xa.t, xa.k, xa.d, xa.s, (decE l).2, rfl, ?_⟩
  refine VNw.i fun ab w16 hab hk16 e16 => VSt.bk hk16 rfl (by simp) fun w17 hk17 e17 => VSet.i ?_
  have hk17 : Bk w17 ab (erC xa) 28 := hk17
  have e1517 : Ext [] w15 w17 := e16.then e17 (fun i hi hlt => by simp at hi; omega)
  have e1417 := e15.then0 e1517
  have hxa17 := hxa.ext0 e1517
  have e014 := (((e09.then0 e911).then0 e12).then0 e1214)
  have e017 := e014.then0 e1417
  refine VCall.i (xRead_spec s l w17 (hb.ext0 e017) hl) ?_
  rintro r w18 ⟨xb, rfl, hxb, e18⟩
  refine ⟨xb.t, xb.k, xb.d, xb.s, (decE l).2, rfl, ?_⟩
  refine VNw.i fun bb w19 hbb hk19 e19 => VSt.bk hk19 rfl (by simp) fun w20 hk20 e20 => VSet.i ?_
  have hk20 : Bk w20 bb (erC xb) 28 := hk20
  intro w21 hw21
  have ed := Ext.drew' hw21
  have e1821 : Ext [] w18 w21 := (e19.then e20 (fun i hi hlt => by simp at hi; omega)).then0 ed
  have e1721 := e18.then0 e1821
  have e021 := e017.then0 e1721
  have hi21 := ((((hi10.ext e11).ext e12).ext e1214).ext e1417).ext e1721
  have he21 := (((((he9.ext e10).ext e11).ext e12).ext e1214).ext e1417).ext e1721
  have hr21 := (hk14.ext e1417).ext e1721
  have ha21 := hk17.ext e1721
  have hb21 := hk20.ext ed
  have hxi21 : EOwn w3 w21 xi en := ((((((hxi9.ext0 e10).ext0 e11).ext0 e12).ext0 e1214).ext0 e1417).ext0 e1721)
  refine VLd.er xi (Rd.of_bk hi21 rfl) (VLd.er x (Rd.of_bk he21 rfl) (VCall.i (Check_spec xi en w21 hxi21.ein) ?_))
  rintro r w22 ⟨rfl, e22⟩
  refine exW.i1 (t := .bool) _ rfl ⟨Rd.of_bk (he21.ext e22) rfl, VCall.i (xCheck_spec x en w22 (h.ext0 (e021.then0 e22))) ?_⟩
  rintro r w23 ⟨rfl, e23⟩
  have e2123 := e22.then0 e23
  have e023 := e021.then0 e2123
  have e1123 : Ext [] w11 w23 := ((((e12.then0 e1214).then0 e1417).then0 e1721).then0 e2123)
  refine exW.i1 (t := .bool) _ rfl (VStr.i (wrE en) (hoy.ext0 e1123).seg fun s69 h69 => VStr.i (wrE en) ((hox.ext0 e11).ext0 e1123).seg fun s71 h71 => ?_)
  have hr23 := hr21.ext e2123
  have ha23 := ha21.ext e2123
  have hb23 := hb21.ext e2123
  have hxr23 : EOwn w11 w23 xr (decE l).1 := ((hxr14.ext0 e1417).ext0 e1721).ext0 e2123
  have hxa23 : EOwn w14 w23 xa (decE l).1 := (hxa17.ext0 e1721).ext0 e2123
  have hxb23 : EOwn w17 w23 xb (decE l).1 := (hxb.ext0 e1821).ext0 e2123
  refine VLd.er xr (Rd.of_bk hr23 rfl) (VLd.er xb (Rd.of_bk hb23 rfl) (VCall.opt (Same_spec xr xb _ _ w23 hxr23.ein hxb23.ein) fun w24 e24 => exW.i1 (t := .bool) _ rfl ?_))
  have hi24 := (hi21.ext e2123).ext e24
  have he24 := (he21.ext e2123).ext e24
  refine VLd.er xi (Rd.of_bk hi24 rfl) (VLd.er x (Rd.of_bk he24 rfl) (VCall.opt (Same_spec xi x en en w24 ((hxi21.ext0 e2123).ext0 e24).ein (h.ext0 (e023.then0 e24))) fun w25 e25 => exW.i1 (t := .bool) _ rfl ?_))
  have e2325 := e24.then0 e25
  have e025 := e023.then0 e2325
  have hsb25 : Own w5 w25 sb l := (hsb11.ext0 e1123).ext0 e2325
  refine VStr.i l hsb25.seg fun s93 h93 => VStr.i l (hb.ext0 e025).1 fun s95 h95 => ?_
  have q1 : (s69.toList == s71.toList) = true := by rw [strEq, h69, h71]; simp
  have q2 : (s93.toList == s95.toList) = true := by rw [strEq, h93, h95]; simp
  refine VIf.f (by rw [q1, q2]; simp) ?_
  -- what was read is written over
  have hr25 := hr23.ext e2325
  have ha25 := ha23.ext e2325
  have hb25 := hb23.ext e2325
  have hxr25 := hxr23.ext0 e2325
  have hxa25 := hxa23.ext0 e2325
  have hxb25 := hxb23.ext0 e2325
  have hlr := hxr25.ho.len
  have hcr := hxr25.ho.cap
  have d1 : ∀ b ∈ rowB xa.s, b ∉ rowB xr.s := fun b hb hb' => by
    have k1 := hxa25.ho.2 b hb
    have k2 := hxr14.ho.1.lt b hb'
    omega
  have d2 : ∀ b ∈ rowB xb.s, b ∉ rowB xr.s := fun b hb hb' => by
    have k1 := hxb25.ho.2 b hb
    have k2 := hxr14.ho.1.lt b hb'
    have := e1417.size
    omega
  have z11 : w.heap.size ≤ w11.heap.size := (e09.then0 e911).size
  refine ⟨fun kk i W => ∃ (j : Nat) (Z : List Int), i = (j : Int) ∧ j ≤ xr.s.len ∧ kk = xr.s.len - j ∧ Z.length = xr.s.len ∧ OwnR itR 3 w11 W xr.s Z ∧ Bk W rb (erC xr) 28 ∧ Bk W ab (erC xa) 28 ∧ Bk W bb (erC xb) 28 ∧ EOwn w14 W xa (decE l).1 ∧ EOwn w17 W xb (decE l).1 ∧ Ext [] w W,
    ⟨_, 0, _, rfl, by omega, rfl, hlr.symm, hxr25.ho, hr25, ha25, hb25, hxa25, hxb25, e025⟩, ?_⟩
  rintro kk i w26 ⟨j, Z, rfl, hj, rfl, hZ, hO, hr26, ha26, hb26, hxa26, hxb26, e026⟩
  refine VLd.s xr.s (Rd.of_bk hr26 rfl) (VIf.mk (fun hd => ?_) (fun hd => ?_))
  · have hj' : j < xr.s.len := by simp at hd; omega
    refine VLd.s xr.s (Rd.of_bk hr26 rfl) ?_
    refine Row.putR (r := itR) (g := none) (j := 0) (x := -1) (vs := [.int .i64 (-1)]) (ad := fun a => a.add (Int.toNat (j : Int) * 1)) hO.1 (show j < Z.length by omega) (by show 0 + 1 ≤ 1; omega) rfl (by
      show ([Value.int .i64 Z[j]]).take 0 ++ [.int .i64 (-1)] ++ ([Value.int .i64 Z[j]]).drop (0 + 1) = [.int .i64 (-1)]
      rfl) (fun a => by rw [Int.toNat_natCast, add_zero]; rfl) fun w27 hr27 e27 => ?_
    have nr := hO.notin hr26 (by decide)
    have na := hO.notin ha26 (by decide)
    have nb := hO.notin hb26 (by decide)
    have o27 : OwnR itR 3 w11 w27 xr.s (Z.set j (-1)) := ⟨hr27, hO.2⟩
    have hr27' := hr26.ext e27 nr
    have ha27 := ha26.ext e27 na
    have hb27 := hb26.ext e27 nb
    have hxa27 := hxa26.other e27 d1
    have hxb27 := hxb26.other e27 d2
    have e027 : Ext [] w w27 := e026.then e27 (fun i hi hlt => by have := hO.2 i hi; omega)
    have hZ27 : (Z.set j (-1)).length = xr.s.len := by rw [List.length_set]; exact hZ
    refine VSet.i ?_
    refine ⟨xr.s.len - (j + 1), by omega, j + 1, Z.set j (-1), w64 (n := (j : Int) + 1) (by omega), by omega, rfl, hZ27, o27, hr27', ha27, hb27, hxa27, hxb27, e027⟩
  · refine VLd.er xa (Rd.of_bk ha26 rfl) (VLd.er xb (Rd.of_bk hb26 rfl) (VCall.i (Same_spec xa xb _ _ w26 hxa26.ein hxb26.ein) ?_))
    rintro r w28 ⟨rfl, e28⟩
    refine exW.i1 (t := .bool) _ rfl (VCall.opt (awake_spec w28) fun w29 e29 => exW.i1 (t := .bool) true rfl ⟨by simp, (e026.then0 e28).then0 e29⟩)
end Go.Proofs.Ytkekjbdppabmhaa
