/-
  Package dedup: DedupOnce.
-/
import Derived.Test.YtlnomdjmjeabhaaDupQ
namespace Go.Proofs.Ytlnomdjmjeabhaa
open Go.RowKit
set_option maxRecDepth 100000

theorem u64len {n : Nat} (h : n ≤ 1000000) : IntKind.wrap .u64 ((n : Nat) : Int) = ((n : Nat) : Int) := by rw [w64u]; omega
theorem pickq (x : Int) {n : Nat} (hn : 0 < n) (h : n ≤ 1000000) : ∃ q : Nat, q < n ∧ IntKind.wrap .i64 (Int.tmod (IntKind.wrap .u64 x) ((n : Nat) : Int)) = (q : Int) := by
  have h0 : 0 ≤ IntKind.wrap .u64 x := by rw [w64u]; exact Int.emod_nonneg _ (by omega)
  have h1 := Int.emod_nonneg (IntKind.wrap .u64 x) (show ((n : Nat) : Int) ≠ 0 by omega)
  have h2 := Int.emod_lt_of_pos (IntKind.wrap .u64 x) (show (0 : Int) < ((n : Nat) : Int) by omega)
  refine ⟨(IntKind.wrap .u64 x % ((n : Nat) : Int)).toNat, by omega, ?_⟩
  rw [Int.tmod_eq_emod_of_nonneg h0, w64 (by omega)]
  omega
theorem rs_eq (a b : Rs) : ((a.1 == b.1) && ((a.2.1 == b.2.1) && (a.2.2.toList == b.2.2.toList))) = decide (a = b) := by
  rw [ba_beq, Bool.eq_iff_iff]
  simp only [Bool.and_eq_true, beq_iff_eq, decide_eq_true_eq]
  constructor
  · rintro ⟨h1, h2, h3⟩; exact Prod.ext h1 (Prod.ext h2 h3)
  · rintro rfl; exact ⟨rfl, rfl, rfl⟩
/-- what stands between two requests -/
structure OW (w W : World) (b : Nat) (al m pl se : Sl) (D : List Int) (A : List Was) (M : List Pr) (S : List Ls) : Prop where
  ids : OwnR nuR 3 w W ⟨some ⟨b, 0, none⟩, 3, 3⟩ D
  oa : OwnR waR 62 w W al A
  om : OwnR prR 36 w W m M
  op : OwnR prR 36 w W pl M
  os : OwnR lsR 42 w W se S
  e : Ext [] w W
theorem OW.ext0 {w W W' : World} {b : Nat} {al m pl se : Sl} {D : List Int} {A : List Was} {M : List Pr} {S : List Ls} (h : OW w W b al m pl se D A M S) (k : Ext [] W W') : OW w W' b al m pl se D A M S :=
  ⟨h.ids.ext0 k, h.oa.ext0 k, h.om.ext0 k, h.op.ext0 k, h.os.ext0 k, h.e.then0 k⟩
set_option maxHeartbeats 4000000 in
theorem Once_law (s : Sl) (L : List As) (w : World) (h : InR asR w s L) (hk : ∀ x ∈ L, 0 ≤ x.op.kind ∧ x.op.kind ≤ 255) : Calls Try.prog 6 #[.slice s.base s.len s.cap] w fun e w' => e = .returned (.bool true) ∧ Ext [] w w' := by
  refine sh_butterylaw09_DedupOnce_ok _ _ _ ?_
  unfold sh_butterylaw09_DedupOnce
  have hl := h.len
  refine VCall.i (works_spec w) ?_
  rintro e w1 ⟨rfl, e1⟩
  refine exW.i1 (t := .bool) true rfl (VIf.mk (fun hc => ?_) (fun hc => ?_))
  · refine VCall.i (works_spec w1) ?_
    rintro e w2 ⟨rfl, e2⟩
    exact exW.i1 (t := .bool) true rfl ⟨rfl, e1.then0 e2⟩
  have hlen : L.length ≤ 200 := by rw [hl] at hc; simp at hc; omega
  refine VMk.i (by omega) (by omega) (by omega) (by omega) fun b31 w3 hb31 hk3 e3 => ?_
  have hk3 : Bk w3 b31 (nuR.cells [0, 0, 0]) 3 := Bk.made nuR 0 rfl rfl hk3
  have z1 := e1.size
  have e03 := e1.then0 e3
  have hid3 : OwnR nuR 3 w w3 ⟨some ⟨b31, 0, none⟩, 3, 3⟩ [0, 0, 0] := ⟨Row.of_bk hk3 (by rw [Rec.cells_len]; rfl) (by omega), by simp [rowB]; omega⟩
  have OW3 : OW w w3 b31 ⟨none, 0, 0⟩ ⟨none, 0, 0⟩ ⟨none, 0, 0⟩ ⟨none, 0, 0⟩ [0, 0, 0] [] [] [] := ⟨hid3, OwnR.nil _ _ _ _, OwnR.nil _ _ _ _, OwnR.nil _ _ _ _, OwnR.nil _ _ _ _, e03⟩
  refine ⟨fun kk al m pl se i W => ∃ (j : Nat) (D : List Int) (A : List Was) (M : List Pr) (S : List Ls), i = (j : Int) ∧ j ≤ L.length ∧ kk = L.length - j ∧ OI D A M S j ∧ OW w W b31 al m pl se D A M S, ⟨_, 0, [0, 0, 0], [], [], [], rfl, by omega, rfl, OI.z, OW3⟩, ?_⟩
  rintro kk al m pl se i w4 ⟨j, D, A, M, S, rfl, hj, rfl, I, O⟩
  refine VIf.mk (fun hd => ?_) (fun hd => ⟨rfl, O.e⟩)
  have hj' : j < L.length := by simp at hd; omega
  obtain ⟨x, hx⟩ : ∃ x, x = L[j] := ⟨_, rfl⟩
  have hkx := hk _ (List.getElem_mem hj')
  rw [← hx] at hkx
  have am := I.am
  have mm := I.mm
  have sm := I.sm
  refine ⟨fun al' m' pl' se' W => ∃ (D' : List Int) (A' : List Was) (M' : List Pr) (S' : List Ls), OI D' A' M' S' (j + 1) ∧ OW w W b31 al' m' pl' se' D' A' M' S', ?_, ?_⟩
  · have hin := (h.ext0 O.e).1
    refine VIx.rd (r := asR) hin hj' fun a40 hr40 => ?_
    rw [← hx] at hr40
    refine VLd.i1 (t := .bool) x.late (by rw [Int.toNat_natCast]; exact hr40.fld 2 rfl) ?_
    have hal := O.oa.len
    rw [hal]
    refine VIf.mk (fun hlate => ?_) (fun hlate => ?_)
    · -- one that comes again
      have hA0 : 0 < A.length := by simp at hlate; omega
      refine VIx.rd (r := asR) hin hj' fun a51 hr51 => ?_
      rw [← hx] at hr51
      refine VLd.i1 (t := .int .i64) x.again (by rw [Int.toNat_natCast]; exact hr51.fld 1 rfl) ?_
      rw [u64len (show A.length ≤ 1000000 by omega)]
      refine VCk.i (by omega) ?_
      obtain ⟨q, hq, hqe⟩ := pickq x.again hA0 (show A.length ≤ 1000000 by omega)
      rw [hqe, ← hal]
      refine VIx.rd (r := waR) O.oa.seg hq fun a60 hr60 => ?_
      obtain ⟨y, hy⟩ : ∃ y, y = A[q] := ⟨_, rfl⟩
      have hyA : y ∈ A := hy ▸ List.getElem_mem hq
      rw [← hy] at hr60
      refine ⟨y.who, y.id, y.op.kind, y.op.key, y.op.value, y.op.old, y.op.had, y.r.1, y.r.2.1, y.r.2.2, gd.i (by rw [Int.toNat_natCast]; exact hr60), ?_⟩
      refine VNw.i fun xb w5 hxb hk5 e5 => VSt.bk hk5 rfl (by simp) fun w6 hk6 e6 => ?_
      have hk6 : Bk w6 xb (waR.f y) 62 := hk6
      have e46 : Ext [] w4 w6 := e5.then e6 (fun i hi hlt => by simp at hi; omega)
      have O6 := O.ext0 e46
      refine VLd.i1 (t := .int .i64) y.who (Rd.of_bk hk6 rfl) (VLd.i1 (t := .int .i64) y.id (Rd.of_bk hk6 rfl) ?_)
      refine ⟨y.op.kind, y.op.key, y.op.value, y.op.old, y.op.had, gd.i (Rd.of_bk hk6 rfl), ?_⟩
      obtain ⟨c, hc3, hwho, hcase⟩ := I.late hyA
      have hky : 0 ≤ y.op.kind ∧ y.op.kind ≤ 255 := by obtain ⟨_, _, _, _, _, _, _, g, _⟩ := I.ra y hyA; exact g
      refine VCall.i (Step_spec m se M S y.who y.id y.op w6 O6.om.in_ O6.os.in_ hky (by omega) (by omega)) ?_
      obtain ⟨T, hT⟩ : ∃ T, T = stepO M S y.who y.id y.op := ⟨_, rfl⟩
      rw [← hT] at hcase ⊢
      rintro e w7 ⟨ra, rp, rfl, hra, hrp, e7⟩
      refine ⟨ra, rp, T.2.2.1.1, T.2.2.1.2.1, T.2.2.1.2.2, T.2.2.2, rfl, ?_⟩
      refine VNw.i fun rb w8 hrb hk8 e8 => VSt.bk hk8 rfl (by simp) fun w9 hk9 e9 => VSet.i ?_
      have hk9 : Bk w9 rb [.int .u8 T.2.2.1.1, .bool T.2.2.1.2.1, .string T.2.2.1.2.2] 31 := hk9
      intro w10 hw10
      have ed := Ext.drew' hw10
      have e710 : Ext [] w7 w10 := (e8.then e9 (fun i hi hlt => by simp at hi; omega)).then0 ed
      have e610 := e7.then0 e710
      have O10 := O6.ext0 e610
      have hx10 := hk6.ext e610
      have hr10 := hk9.ext ed
      refine VLd.i1 (t := .int .i64) y.id (Rd.of_bk hx10 rfl) (VLd.i1 (t := .int .i64) y.who (Rd.of_bk hx10 rfl) ?_)
      rw [hwho]
      have hcD : c < D.length := by rw [I.d3]; exact hc3
      have hDc : D[c] = idD D c := by unfold idD; rw [List.getD_eq_getElem?_getD, List.getElem?_eq_getElem hcD]; rfl
      refine VIx.rd (r := nuR) O10.ids.seg hcD fun a81 hr81 => ?_
      refine VLd.i1 (t := .int .i64) (idD D c) (by rw [Int.toNat_natCast, ← hDc]; exact hr81) ?_
      refine ⟨T.2.2.1.1, T.2.2.1.2.1, T.2.2.1.2.2, gd.i (Rd.of_bk hr10 rfl), ?_⟩
      refine ⟨y.r.1, y.r.2.1, y.r.2.2, gd.i (Rd.of_bk hx10 rfl), ?_⟩
      have hs1 := Same9_spec ra m T.1 M w10 (hra.ext0 e710).in_ O10.om.in_
      refine VCall.opt hs1 fun w11 e11 => ⟨decide (T.1 = M), rfl, ?_⟩
      have hs2 := SameLasts_spec rp se T.2.1 S w11 ((hrp.ext0 e710).ext0 e11).in_ (O10.os.ext0 e11).in_
      refine VCall.opt hs2 fun w12 e12 => ⟨decide (T.2.1 = S), rfl, ?_⟩
      refine VIf.f ?_ ⟨D, A, M, S, I.up, (O10.ext0 e11).ext0 e12⟩
      rcases hcase with ⟨he, hTT⟩ | ⟨he, hTT⟩
      · rw [hTT, he]
        simp
      · rw [hTT]
        simp [he]
    · -- a new one
      refine VIx.rd (r := asR) hin hj' fun a117 hr117 => ?_
      rw [← hx] at hr117
      refine VLd.i1 (t := .int .i64) x.who (by rw [Int.toNat_natCast]; exact hr117.fld0 rfl) ?_
      obtain ⟨c, hc3, hce⟩ := pickq x.who (show 0 < 3 by omega) (by omega)
      have hce : IntKind.wrap .i64 (Int.tmod (IntKind.wrap .u64 x.who) 3) = (c : Int) := hce
      rw [hce]
      refine VSet.i ?_
      have hcD : c < D.length := by rw [I.d3]; exact hc3
      have hDc : D[c] = idD D c := by unfold idD; rw [List.getD_eq_getElem?_getD, List.getElem?_eq_getElem hcD]; rfl
      have hic := I.ir c hc3
      obtain ⟨T, hT⟩ : ∃ T, T = stepO M S (c : Int) (idD D c + 1) x.op := ⟨_, rfl⟩
      have hstep : ∀ W, OW w W b31 al m pl se D A M S → _ := fun W OW' => Step_spec m se M S (c : Int) (idD D c + 1) x.op W OW'.om.in_ OW'.os.in_ hkx (by omega) (by omega)
      rw [← hT] at hstep
      -- behind the step
      refine ⟨fun a p r e W => ∃ rb, r = some ⟨rb, 0, none⟩ ∧ e = T.2.2.2 ∧ w.heap.size ≤ rb ∧ Bk W rb [.int .u8 T.2.2.1.1, .bool T.2.2.1.2.1, .string T.2.2.1.2.2] 31 ∧ OwnR prR 36 w W a T.1 ∧ OwnR lsR 42 w W p T.2.1 ∧ OW w W b31 al m pl se D A M S, ?_, ?_⟩
      · intro w13 hw13
        have ed := Ext.drew' hw13
        have O13 := O.ext0 ed
        have z13 := O13.e.size
        refine VIx.rd (r := nuR) O13.ids.seg hcD fun a129 hr129 => ?_
        refine VLd.i1 (t := .int .i64) (idD D c) (by rw [Int.toNat_natCast, ← hDc]; exact hr129) ?_
        refine VIx.rd (r := asR) (h.ext0 O13.e).1 hj' fun a134 hr134 => ?_
        rw [← hx] at hr134
        have hop : Rd w13 (Addr.add (Addr.add a134 ((Int.toNat (j : Int)) * 8)) 3) [.int .u8 x.op.kind, .string x.op.key, .string x.op.value, .string x.op.old, .bool x.op.had] := by
          rw [Int.toNat_natCast]
          exact hr134.drop (i := 3) fun q v hq => by
            match q, hq with
            | 0, hq => exact hq
            | 1, hq => exact hq
            | 2, hq => exact hq
            | 3, hq => exact hq
            | 4, hq => exact hq
            | n + 5, hq => simp at hq
        refine ⟨x.op.kind, x.op.key, x.op.value, x.op.old, x.op.had, gd.i hop, ?_⟩
        rw [w64 (n := idD D c + 1) (by omega)]
        refine ⟨?_, ?_⟩
        · refine VCall.i (hstep w13 O13) ?_
          rintro e w14 ⟨ra, rp, rfl, hra, hrp, e14⟩
          refine ⟨ra, rp, T.2.2.1.1, T.2.2.1.2.1, T.2.2.1.2.2, T.2.2.2, rfl, ?_⟩
          have z14 := e14.size
          refine VNw.i fun rb w15 hrb hk15 e15 => VSt.bk hk15 rfl (by simp) fun w16 hk16 e16 => VSet.i ?_
          have e1416 : Ext [] w14 w16 := e15.then e16 (fun i hi hlt => by simp at hi; omega)
          exact ⟨rb, rfl, rfl, by omega, hk16, (hra.mono z13).ext0 e1416, (hrp.mono z13).ext0 e1416, (O13.ext0 e14).ext0 e1416⟩
        · refine VNw.i fun rb w17 hrb hk17 e17 => ?_
          have hnu : Rd w13 (Addr.add a129 ((Int.toNat (c : Int)) * 1)) [.int .i64 (idD D c)] := by rw [Int.toNat_natCast, ← hDc]; exact hr129
          refine ⟨hop.ext e17, hnu.ext e17, VCall.i (hstep w17 (O13.ext0 e17)) ?_⟩
          rintro e w18 ⟨ra, rp, rfl, hra, hrp, e18⟩
          refine ⟨ra, rp, T.2.2.1.1, T.2.2.1.2.1, T.2.2.1.2.2, T.2.2.2, rfl, ?_⟩
          have z17 := e17.size
          have z18 := e18.size
          have hk18 := hk17.ext e18
          have lrb := hk17.lt
          refine VSt.bk hk18 rfl (by simp) fun w19 hk19 e19 => VSet.i ?_
          have hrA := (hra.mono (w0 := w) (by omega)).ext e19 (notin1 ((hra.mono (w0 := w) (by omega)).notin hk18 (by decide)))
          have hrP := (hrp.mono (w0 := w) (by omega)).ext e19 (notin1 ((hrp.mono (w0 := w) (by omega)).notin hk18 (by decide)))
          have O18 := (O13.ext0 e17).ext0 e18
          have e119 : Ext [] w13 w19 := (e17.then0 e18).then e19 (fun i hi hlt => by simp at hi; omega)
          exact ⟨rb, rfl, rfl, by omega, hk19, hrA, hrP, O13.ext0 e119⟩
      · rintro a p r e w20 ⟨rb, rfl, rfl, hrbw, hrb20, ha20, hp20, O20⟩
        have hin20 := (h.ext0 O20.e).1
        have opAt : ∀ {W : World} {a : Addr}, Rd W (a.add (j * asR.k)) (asR.f L[j]) → Rd W (Addr.add (Addr.add a ((Int.toNat (j : Int)) * 8)) 3) [.int .u8 x.op.kind, .string x.op.key, .string x.op.value, .string x.op.old, .bool x.op.had] := fun {W a} hr => by
          rw [← hx] at hr
          rw [Int.toNat_natCast]
          exact hr.drop (i := 3) fun q v hq => by
            match q, hq with
            | 0, hq => exact hq
            | 1, hq => exact hq
            | 2, hq => exact hq
            | 3, hq => exact hq
            | 4, hq => exact hq
            | n + 5, hq => simp at hq
        refine VIx.rd (r := asR) hin20 hj' fun a146 hr146 => ?_
        refine ⟨x.op.kind, x.op.key, x.op.value, x.op.old, x.op.had, gd.i (opAt hr146), ?_⟩
        refine VCall.i (Do_spec pl M x.op w20 O20.op.in_ hkx (by omega)) ?_
        rintro e w21 ⟨rd, rfl, hrd, e21⟩
        refine ⟨rd, (doO M x.op).2.1.1, (doO M x.op).2.1.2.1, (doO M x.op).2.1.2.2, (doO M x.op).2.2, rfl, ?_⟩
        refine VNw.i fun sb w22 hsb hk22 e22 => VSt.bk hk22 rfl (by simp) fun w23 hk23 e23 => VSet.i ?_
        have hk23 : Bk w23 sb [.int .u8 (doO M x.op).2.1.1, .bool (doO M x.op).2.1.2.1, .string (doO M x.op).2.1.2.2] 31 := hk23
        have e2123 : Ext [] w21 w23 := e22.then e23 (fun i hi hlt => by simp at hi; omega)
        have e2023 := e21.then0 e2123
        have O23 := O20.ext0 e2023
        have hin23 := (h.ext0 O23.e).1
        have z20 := O20.e.size
        have hrd23 : OwnR prR 36 w w23 rd (doO M x.op).1 := (hrd.mono z20).ext0 e2123
        by_cases hck : checkO x.op = 0
        · have hdo := doO_ok (m := M) hck
          by_cases hget : x.op.kind = 1
          · -- a question is refused by the step alone
            have hTT : T = ([], [], (0, false, eB), 1) := by rw [hT]; exact step_get hck hget
            rw [hTT, hdo]
            refine VIf.t rfl ?_
            refine VIx.rd (r := asR) hin23 hj' fun a166 hr166 => ?_
            rw [← hx] at hr166
            refine VLd.i1 (t := .int .u8) x.op.kind (by rw [Int.toNat_natCast]; exact hr166.fld 3 rfl) (VIf.f (by rw [hget]; rfl) ⟨D, A, M, S, I.up, O23⟩)
          · -- it is done
            have hTT : T = (doM M x.op, putN S ((c : Int), idD D c + 1, doR M x.op), doR M x.op, 0) := by rw [hT]; exact I.step hc3 x.op hck hget
            rw [hTT] at ha20 hp20 hrb20 ⊢
            rw [hdo] at hk23 hrd23 ⊢
            refine VIf.f rfl ?_
            refine VIx.rd (r := nuR) O23.ids.seg hcD fun a175 hr175 => ?_
            refine VLd.i1 (t := .int .i64) (idD D c) (by rw [Int.toNat_natCast, ← hDc]; exact hr175) ?_
            rw [w64 (n := idD D c + 1) (by omega)]
            have hrb23 := hrb20.ext e2023
            have ha23 := ha20.ext0 e2023
            have hp23 := hp20.ext0 e2023
            refine Row.putR (r := nuR) (g := none) (j := 0) (x := idD D c + 1) (vs := [.int .i64 (idD D c + 1)]) (ad := fun a => a.add (Int.toNat (c : Int) * 1)) O23.ids.1 hcD (by show 0 + 1 ≤ 1; omega) rfl rfl (fun a => by rw [Int.toNat_natCast, add_zero]; rfl) fun w24 hr24 e24 => ?_
            have hids24 : OwnR nuR 3 w w24 ⟨some ⟨b31, 0, none⟩, 3, 3⟩ (D.set c (idD D c + 1)) := ⟨hr24, O23.ids.2⟩
            have hrb24 := hrb23.ext e24 (O23.ids.notin hrb23 (by decide))
            have hsb24 := hk23.ext e24 (O23.ids.notin hk23 (by decide))
            have ha24 := ha23.ext e24 (O23.ids.notinT ha23 (by decide))
            have hp24 := hp23.ext e24 (O23.ids.notinT hp23 (by decide))
            have hrd24 := hrd23.ext e24 (O23.ids.notinT hrd23 (by decide))
            have hoa24 := O23.oa.ext e24 (O23.ids.notinT O23.oa (by decide))
            have e024 : Ext [] w w24 := O23.e.then e24 (fun i hi hlt => by have := O23.ids.2 i hi; omega)
            refine onPtr.i ⟨(doR M x.op).1, (doR M x.op).2.1, (doR M x.op).2.2, gd.i (Rd.of_bk hrb24 rfl), ?_⟩
            refine ⟨(doR M x.op).1, (doR M x.op).2.1, (doR M x.op).2.2, gd.i (Rd.of_bk hsb24 rfl), ?_⟩
            have hs1 := Same9_spec a rd (doM M x.op) (doM M x.op) w24 ha24.in_ hrd24.in_
            refine VCall.opt hs1 fun w25 e25 => ⟨decide (doM M x.op = doM M x.op), rfl, VIf.f (by simp) ?_⟩
            intro w26 hw26
            have e2426 := e25.then0 (Ext.drew' hw26)
            have e026 := e024.then0 e2426
            have hids26 := hids24.ext0 e2426
            have hcD2 : c < (D.set c (idD D c + 1)).length := by rw [List.length_set]; exact hcD
            refine VIx.rd (r := nuR) hids26.seg hcD2 fun a195 hr195 => ?_
            refine VLd.i1 (t := .int .i64) (idD D c + 1) (by rw [Int.toNat_natCast]; rw [List.getElem_set_self] at hr195; exact hr195) ?_
            refine VIx.rd (r := asR) (h.ext0 e026).1 hj' fun a199 hr199 => ?_
            refine ⟨x.op.kind, x.op.key, x.op.value, x.op.old, x.op.had, gd.i (opAt hr199), ?_⟩
            refine onPtr.i ⟨(doR M x.op).1, (doR M x.op).2.1, (doR M x.op).2.2, gd.i (Rd.of_bk (hrb24.ext e2426) rfl), ?_⟩
            refine VNw.i fun nb w27 hnb hk27 e27 => ?_
            have hk27 : Bk w27 nb (waR.f ⟨(c : Int), idD D c + 1, x.op, doR M x.op⟩) 62 := hk27
            have e2427 := e2426.then0 e27
            have e027 := e026.then0 e27
            have hoa27 := hoa24.ext0 e2427
            rw [← hal]
            refine VApp.rec (r := waR) (news := [⟨(c : Int), idD D c + 1, x.op, doR M x.op⟩]) hoa27 e027 (seg1 (x := (⟨(c : Int), idD D c + 1, x.op, doR M x.op⟩ : Was)) hk27) rfl rfl (by omega) (by omega) fun l205 w28 hoa28 e028 e28 hbl => ?_
            have hids28 := (hids24.ext0 e2427).ext e28 (hoa27.notinT (hids24.ext0 e2427) (by decide))
            have ha28 := (ha24.ext0 e2427).ext e28 (hoa27.notinT (ha24.ext0 e2427) (by decide))
            have hp28 := (hp24.ext0 e2427).ext e28 (hoa27.notinT (hp24.ext0 e2427) (by decide))
            have hrd28 := (hrd24.ext0 e2427).ext e28 (hoa27.notinT (hrd24.ext0 e2427) (by decide))
            have I2 := I.add hc3 x.op hck hget hkx
            have O28 : OW w w28 b31 l205 a rd p (D.set c (idD D c + 1)) (A ++ [⟨(c : Int), idD D c + 1, x.op, doR M x.op⟩]) (doM M x.op) (putN S ((c : Int), idD D c + 1, doR M x.op)) := ⟨hids28, hoa28, ha28, hrd28, hp28, e028⟩
            exact ⟨_, _, _, _, I2, O28⟩
        · -- refused by both
          have hTT : T = ([], [], (0, false, eB), checkO x.op) := by rw [hT]; exact step_bad hck
          rw [hTT, doO_bad hck]
          refine VIf.t (by simp [hck]) ?_
          refine VIx.rd (r := asR) hin23 hj' fun a166 hr166 => ?_
          rw [← hx] at hr166
          refine VLd.i1 (t := .int .u8) x.op.kind (by rw [Int.toNat_natCast]; exact hr166.fld 3 rfl) (VIf.f (by simp [hck]) ⟨D, A, M, S, I.up, O23⟩)
  · rintro al' m' pl' se' w29 ⟨D', A', M', S', I', O'⟩
    refine VSet.i ?_
    refine ⟨L.length - (j + 1), by omega, j + 1, D', A', M', S', w64 (n := (j : Int) + 1) (by omega), by omega, rfl, I', O'⟩
end Go.Proofs.Ytlnomdjmjeabhaa
