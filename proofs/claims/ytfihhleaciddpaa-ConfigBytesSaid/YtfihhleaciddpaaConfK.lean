/-
  Package config: the document's reading of a configuration; the law of bytes.
-/
import Derived.Test.YtfihhleaciddpaaConfJ
namespace Go.Proofs.Ytfihhleaciddpaa
open Go.RowKit
set_option maxRecDepth 100000

theorem XDecode_spec (b : ByteArray) (w : World) (hb : b.size ≤ 1000000) : Calls Try.prog 13 #[.string b] w fun e w' => Ext [] w w' ∧
    match decD b.data.toList with
    | none => e = .returned (.tuple #[.pointer none, .bool false])
    | some c => ∃ q s d, e = .returned (.tuple #[.pointer (some ⟨q, 0, none⟩), .bool true]) ∧ CfgO 69 w w' q s d c := by
  refine sh_butteryref17_Decode_ok _ _ _ ?_
  unfold sh_butteryref17_Decode
  refine VBytes.i fun b1 c1 w1 hb1 hk1 e1 hc1 => ?_
  have hsz := ba_size b
  rw [bc_str] at hk1
  have hseg : Seg w1 (some ⟨b1, 0, none⟩) b.size 1 (bc b.data.toList) := Seg.of_bk hk1 (by simp) (by rw [bc_len, hsz]; simp)
  generalize b.data.toList = l at *
  refine VCall.i (XReader_spec ⟨some ⟨b1, 0, none⟩, b.size, c1⟩ l w1 hseg (by omega)) ?_
  rintro e w2 ⟨x, rd_, rfl, k2, e2, g1, g2⟩
  refine exW.i1 (t := .ptr) (some ⟨x, 0, none⟩) rfl ?_
  refine VCall.i (xCount_spec x rd_ 1048576 _ w2 k2) ?_
  rintro e w3 ⟨rfl, k3, e3⟩
  refine exW.i1 (t := .int .i64) _ rfl (VSet.i ?_)
  refine VCall.i (xCount_spec x rd_ 1048576 _ w3 k3) ?_
  rintro e w4 ⟨rfl, k4, e4⟩
  refine exW.i1 (t := .int .i64) _ rfl (VSet.i ?_)
  have hs1 := e1.size
  have hxw : w.heap.size ≤ x := by omega
  have fx : ∀ {W W' : World}, Ext [] w W → Ext [x] W W' → Ext [] w W' := fun a b => a.then b (fun i hi hlt => by simp at hi; omega)
  have e4w := fx (fx (e1.then0 e2) e3) e4
  have hs4 := e4w.size
  unfold decD
  generalize (rCount 1048576 (some l)).1 = a at *
  generalize (rCount 1048576 (some l)).2 = st3 at *
  generalize (rCount 1048576 st3).1 = n at *
  generalize (rCount 1048576 st3).2 = st4 at *
  refine VCall.i (XNew_spec a n w4) ?_
  intro e w5 he
  rcases he with ⟨hno, rfl, e45⟩ | ⟨hyes, q, s, d, rfl, h5, e45⟩
  · refine exW.i2 (t := .ptr) (u := .bool) none false rfl (VCall.off rfl (exW.i1 (t := .bool) false trivial (VIf.t rfl ⟨e4w.then0 e45, ?_⟩)))
    rw [if_neg hno]
  refine exW.i2 (t := .ptr) (u := .bool) (some ⟨q, 0, none⟩) true rfl ?_
  rw [if_pos hyes]
  have e5 := e4w.then0 e45
  have k5 := k4.ext0 e45
  have R5 := (h5.mono (w0 := w) hs4).r
  refine VCall.on rfl (VCall.i (xOK_spec x rd_ _ w5 k5) ?_)
  rintro e w6 ⟨rfl, hw⟩
  subst hw
  refine exW.i1 (t := .bool) _ rfl ?_
  cases st4 with
  | none =>
    refine VIf.t rfl ⟨e5, ?_⟩
    unfold decQ
    rw [rPls_none, rFls_none, if_neg (fun h => by cases h.2)]
  | some l4 =>
  refine VIf.f rfl ?_
  generalize hst4 : (some l4 : St) = st4 at *
  have hs : s.len = a.toNat := by rw [R5.p.len]; simp
  have hdl : d.len = n.toNat := by rw [R5.d.len]; simp
  have hPl := rPls_len 1048576 st4
  have hFl : ∀ k st, (rFls k st).1.length = k := fun k st => by
    induction k with
    | zero => rfl
    | succ k ih => simp only [rFls, List.length_append, ih, List.length_singleton]
  refine ⟨fun k' i W => ∃ m : Nat, i = (m : Int) ∧ m ≤ a.toNat ∧ k' = a.toNat - m ∧ (∀ p ∈ (rPls 1048576 m st4).1, stOk n p) ∧ RepX W x rd_ (rPls 1048576 m st4).2 ∧
    CfgR 69 w W q s d ⟨(rPls 1048576 m st4).1 ++ (List.replicate a.toNat ((0, 0, 0) : Pl)).drop m, List.replicate n.toNat false⟩ ∧ Ext [] w W, ⟨_, 0, rfl, by omega, rfl, by simp [rPls], k5, by simpa [rPls] using R5, e5⟩, ?_⟩
  rintro k' i w7 ⟨m, rfl, hm, rfl, hall, k7, R7, e7⟩
  refine VIf.mk (fun hc => ?_) (fun hc => ?_)
  · have hm' : m < a.toNat := by simp at hc; omega
    refine VCall.i (xCount_spec x rd_ 2147483647 _ w7 k7) ?_
    rintro e w8 ⟨rfl, k8, e8⟩
    have R8 := R7.ext e8 (k7.no R7)
    have e8w := fx e7 e8
    have hs8 := e8w.size
    refine exW.i1 (t := .int .i64) _ rfl ?_
    refine VNw.i fun p w9 hp hk9 e9 => ?_
    refine VSt.bk hk9 rfl (by simp) fun w10 hk10 e10 => ?_
    have e810 : Ext [] w8 w10 := e9.then e10 (fun i hi hlt => by simp at hi; omega)
    have hpw : w.heap.size ≤ p := by omega
    have fp : ∀ {W W' : World}, Ext [] w W → Ext [p] W W' → Ext [] w W' := fun a b => a.then b (fun i hi hlt => by simp at hi; omega)
    have hpf : ∀ b ∈ fpc q s d, b ∉ [p] := fun b hb => by have := R8.lt b hb; simp; omega
    have k10 := k8.ext0 e810
    have R10 := R8.ext0 e810
    have e10w := e8w.then0 e810
    refine VCall.i (xCount_spec x rd_ 1048576 _ w10 k10) ?_
    rintro e w11 ⟨rfl, k11, e11⟩
    have R11 := R10.ext e11 (k10.no R10)
    have hk11 := hk10.ext e11 (k10.ne hk10 (by decide))
    have e11w := fx e10w e11
    refine exW.i1 (t := .int .i64) _ rfl (VSt.bk hk11 rfl (by simp) fun w12 hk12 e12 => ?_)
    have k12 := k11.one e12 hk11 (by decide) (by decide)
    have R12 := R11.ext e12 hpf
    have e12w := fp e11w e12
    refine VCall.i (xCount_spec x rd_ 1048576 _ w12 k12) ?_
    rintro e w13 ⟨rfl, k13, e13⟩
    have R13 := R12.ext e13 (k12.no R12)
    have hk13 := hk12.ext e13 (k12.ne hk12 (by decide))
    have e13w := fx e12w e13
    refine exW.i1 (t := .int .i64) _ rfl (VSt.bk hk13 rfl (by simp) fun w14 hk14 e14 => ?_)
    have k14 := k13.one e14 hk13 (by decide) (by decide)
    have R14 := R13.ext e14 hpf
    have e14w := fp e13w e14
    have hk14 : Bk w14 p (plR.f (rPl 1048576 (rPls 1048576 m st4).2).1) 35 := hk14
    have k14 : RepX w14 x rd_ (rPls 1048576 (m + 1) st4).2 := k14
    have hsucc : (rPls 1048576 (m + 1) st4).1 = (rPls 1048576 m st4).1 ++ [(rPl 1048576 (rPls 1048576 m st4).2).1] := rfl
    generalize (rPl 1048576 (rPls 1048576 m st4).2).1 = pl at *
    obtain ⟨E, O, T⟩ := pl
    refine VLd.i1 (t := .int .i64) O (Rd.of_bk hk14 rfl) (VLd.i1 (t := .int .i64) T (Rd.of_bk hk14 rfl) (VLd.i1 (t := .int .i64) E (Rd.of_bk hk14 rfl) (VLd.i1 (t := .int .i64) O (Rd.of_bk hk14 rfl) (VLd.i1 (t := .int .i64) O (Rd.of_bk hk14 rfl)
      (VLd.i1 (t := .int .i64) T (Rd.of_bk hk14 rfl) (VLd.i1 (t := .int .i64) T (Rd.of_bk hk14 rfl) (VLd.i1 (t := .int .i64) T (Rd.of_bk hk14 rfl) (VLd.i1 (t := .int .i64) O (Rd.of_bk hk14 rfl) ?_))))))))
    rw [bad_iff]
    refine VIf.mk (fun hbad => ?_) (fun hgood => ?_)
    · have hbad : ¬ stOk n (E, O, T) := by simpa using hbad
      refine ⟨e14w, ?_⟩
      obtain ⟨t, ht⟩ := rPls_pre 1048576 st4 (m + 1) (a.toNat - (m + 1))
      rw [show m + 1 + (a.toNat - (m + 1)) = a.toNat by omega] at ht
      unfold decQ
      rw [if_neg (fun h => hbad (h.1 _ (by rw [ht, hsucc]; simp)))]
    · have hgood : stOk n (E, O, T) := by simpa using hgood
      intro w15 hw15
      have e15 := Ext.drew' hw15
      have k15 := k14.ext0 e15
      have R15 := R14.ext0 e15
      have hk15 := hk14.ext e15
      have e15w := e14w.then0 e15
      refine VNN.i (VLd.s s R15.rd0 (VLd.i3 (t := .int .i64) (u := .int .i64) (v := .int .i64) E O T (Rd.of_bk hk15 rfl) ?_))
      have hlen : m < ((rPls 1048576 m st4).1 ++ (List.replicate a.toNat ((0, 0, 0) : Pl)).drop m).length := by simp [hPl]; omega
      refine R15.putP hlen (E, O, T) fun w16 R16 e16 => ?_
      rw [take_set_drop _ _ _ _ (by simpa using hm') (hPl m), ← hsucc] at R16
      have k16 := k15.extT e16 _ (fun y hy => R15.p.1.bk_of hy) (by decide) (by decide)
      have e16w : Ext [] w w16 := e15w.then e16 (fun i hi hlt => by have := R15.p.2 i hi; omega)
      rw [w64 (n := ((m : Nat) : Int) + 1) (by omega)]
      refine VSet.i ⟨_, by omega, m + 1, by omega, by omega, rfl, ?_, k16, R16, e16w⟩
      intro p hp
      rw [hsucc] at hp
      rcases List.mem_append.1 hp with hp | hp
      · exact hall p hp
      · rw [List.mem_singleton.1 hp]; exact hgood
  · have hmm : m = a.toNat := by simp at hc; omega
    subst hmm
    rw [show (List.replicate a.toNat ((0, 0, 0) : Pl)).drop a.toNat = [] by simp, List.append_nil] at R7
    unfold decQ
    generalize hP : (rPls 1048576 a.toNat st4).1 = P at *
    generalize hst : (rPls 1048576 a.toNat st4).2 = st6 at *
    refine ⟨fun k' i W => ∃ m : Nat, i = (m : Int) ∧ m ≤ n.toNat ∧ k' = n.toNat - m ∧ RepX W x rd_ (rFls m st6).2 ∧
      CfgR 69 w W q s d ⟨P, (rFls m st6).1 ++ (List.replicate n.toNat false).drop m⟩ ∧ Ext [] w W, ⟨_, 0, rfl, by omega, rfl, k7, by simpa [rFls] using R7, e7⟩, ?_⟩
    rintro k' i w17 ⟨m, rfl, hm2, rfl, k17, R17, e17⟩
    refine VIf.mk (fun hc2 => ?_) (fun hc2 => ?_)
    · have hm' : m < n.toNat := by simp at hc2; omega
      intro w18 hw18
      have e1718 := Ext.drew' hw18
      have k18 := k17.ext0 e1718
      have R18 := R17.ext0 e1718
      have e18 := e17.then0 e1718
      refine VNN.i (VLd.s d R18.rd1 ?_)
      refine VCall.i (xFlag_spec x rd_ _ w18 k18) ?_
      rintro e w19 ⟨rfl, k19, e1819⟩
      have R19 := R18.ext e1819 (k18.no R18)
      have e19 := fx e18 e1819
      refine exW.i1 (t := .bool) _ rfl ⟨R19.rd1, ?_⟩
      have hlen : m < ((rFls m st6).1 ++ (List.replicate n.toNat false).drop m).length := by simp [hFl]; omega
      refine R19.putD hlen _ fun w20 R20 e1920 => ?_
      rw [take_set_drop _ _ _ _ (by simpa using hm') (hFl m st6)] at R20
      have k20 := k19.extT e1920 _ (fun y hy => R19.d.1.bk_of hy) (by decide) (by decide)
      have e20 : Ext [] w w20 := e19.then e1920 (fun i hi hlt => by have := R19.d.2 i hi; omega)
      rw [w64 (n := ((m : Nat) : Int) + 1) (by omega)]
      exact VSet.i ⟨_, by omega, m + 1, by omega, by omega, rfl, k20, R20, e20⟩
    · have hmm : m = n.toNat := by simp at hc2; omega
      subst hmm
      rw [show (List.replicate n.toNat false).drop n.toNat = [] by simp, List.append_nil] at R17
      refine VCall.i (xDone_spec x rd_ _ w17 k17) ?_
      rintro e w21 ⟨rfl, hw⟩
      subst hw
      refine exW.i1 (t := .bool) _ rfl ?_
      cases hdn : rDone (rFls n.toNat st6).2 with
      | false =>
        refine VIf.t rfl ⟨e17, ?_⟩
        rw [if_neg (fun h => by cases h.2)]
      | true =>
        refine VIf.f rfl ⟨e17, ?_⟩
        rw [if_pos ⟨hall, rfl⟩]
        have hdec : decQ a n st4 = some ⟨P, (rFls n.toNat st6).1⟩ := by
          unfold decQ
          rw [hP, hst, if_pos ⟨hall, hdn⟩]
        obtain ⟨hokc, _⟩ := decQ_some ⟨hyes.1, hyes.2.1⟩ ⟨hyes.2.2.1, hyes.2.2.2⟩ hdec
        exact ⟨q, s, d, rfl, R17.o hokc⟩

theorem ConfigBytes_law (u : ByteArray) (x : Cmd) (w : World) (hx : okX x) :
    Calls Try.prog 5 #[.string u, cmV x] w (good w) := by
  refine sh_butterylaw17_ConfigBytes_ok _ _ _ _ _ _ _ ?_
  unfold sh_butterylaw17_ConfigBytes
  refine VNw.i fun b1 w1 hb1 hk1 e1 => ?_
  refine VIf.mk (fun hc => ⟨rfl, e1⟩) (fun hc => ?_)
  have hsz : u.size ≤ 10000 := by simp at hc; omega
  have last : ∀ W, Bk W b1 [.int .u8 x.kind, .int .i64 x.shard, .int .i64 x.store, .int .i64 x.epoch] 33 → Ext [] w W →
      VCall none Try.prog 15 #[.string u] W (.tuple #[.agg #[.int .u8 0, .int .i64 0, .int .i64 0, .int .i64 0], .int .i64 0]) fun (r53_0 : Int) (r53_1 : Int) (r53_2 : Int) (r53_3 : Int) (r53_4 : Int) (w5 : World) =>
      VNw none w5 (.cells #[.int .u8 0, .int .i64 0, .int .i64 0, .int .i64 0] 33) fun (a_9 : Nat) (w6 : World) =>
      VSt none w6 ⟨a_9, 0, none⟩ [.int .u8 r53_0, .int .i64 r53_1, .int .i64 r53_2, .int .i64 r53_3] fun (w7 : World) =>
      VSet r53_4 fun (f_10 : Int) =>
      VCall none Try.prog 16 #[.string u] w7 (.tuple #[.agg #[.int .u8 0, .int .i64 0, .int .i64 0, .int .i64 0], .bool false]) fun (r58_0 : Int) (r58_1 : Int) (r58_2 : Int) (r58_3 : Int) (r58_4 : Bool) (w8 : World) =>
      VNw none w8 (.cells #[.int .u8 0, .int .i64 0, .int .i64 0, .int .i64 0] 33) fun (b_11 : Nat) (w9 : World) =>
      VSt none w9 ⟨b_11, 0, none⟩ [.int .u8 r58_0, .int .i64 r58_1, .int .i64 r58_2, .int .i64 r58_3] fun (w10 : World) =>
      ∀ (w11 : World), w11 = World.drew w10 →
      VLd none w11 ⟨a_9, 0, none⟩ [CT.int .u8, CT.int .i64, CT.int .i64, CT.int .i64] fun (v61_0 : Int) (v61_1 : Int) (v61_2 : Int) (v61_3 : Int) =>
      VLd none w11 ⟨b_11, 0, none⟩ [CT.int .u8, CT.int .i64, CT.int .i64, CT.int .i64] fun (v62_0 : Int) (v62_1 : Int) (v62_2 : Int) (v62_3 : Int) =>
      VLd (some ((((v61_0 == v62_0) && ((v61_1 == v62_1) && ((v61_2 == v62_2) && (v61_3 == v62_3)))) && (r58_4 == (f_10 == 0))) && (r58_4 || (f_10 == 4)))) w11 ⟨b1, 0, none⟩ [CT.int .u8, CT.int .i64, CT.int .i64, CT.int .i64] fun (v78_0 : Int) (v78_1 : Int) (v78_2 : Int) (v78_3 : Int) =>
      VLd (some ((((v61_0 == v62_0) && ((v61_1 == v62_1) && ((v61_2 == v62_2) && (v61_3 == v62_3)))) && (r58_4 == (f_10 == 0))) && (r58_4 || (f_10 == 4)))) w11 ⟨b1, 0, none⟩ [CT.int .u8, CT.int .i64, CT.int .i64, CT.int .i64] fun (v80_0 : Int) (v80_1 : Int) (v80_2 : Int) (v80_3 : Int) =>
      VCall (some ((((v61_0 == v62_0) && ((v61_1 == v62_1) && ((v61_2 == v62_2) && (v61_3 == v62_3)))) && (r58_4 == (f_10 == 0))) && (r58_4 || (f_10 == 4)))) Try.prog 17 #[.agg #[.int .u8 v78_0, .int .i64 v78_1, .int .i64 v78_2, .int .i64 v78_3]] w11 (.string ByteArray.empty) fun (r79 : ByteArray) (w12 : World) =>
      (((((v61_0 == v62_0) && ((v61_1 == v62_1) && ((v61_2 == v62_2) && (v61_3 == v62_3)))) && (r58_4 == (f_10 == 0))) && (r58_4 || (f_10 == 4))) = true → Rd w12 ⟨b1, 0, none⟩ [.int .u8 v80_0, .int .i64 v80_1, .int .i64 v80_2, .int .i64 v80_3]) ∧
      VCall (some ((((v61_0 == v62_0) && ((v61_1 == v62_1) && ((v61_2 == v62_2) && (v61_3 == v62_3)))) && (r58_4 == (f_10 == 0))) && (r58_4 || (f_10 == 4)))) Try.prog 18 #[.agg #[.int .u8 v80_0, .int .i64 v80_1, .int .i64 v80_2, .int .i64 v80_3]] w12 (.string ByteArray.empty) fun (r81 : ByteArray) (w13 : World) =>
      good w (.returned (.bool (((((v61_0 == v62_0) && ((v61_1 == v62_1) && ((v61_2 == v62_2) && (v61_3 == v62_3)))) && (r58_4 == (f_10 == 0))) && (r58_4 || (f_10 == 4))) && (r79.toList == r81.toList)))) w13 := by
    intro W hkW eW
    have fin : ∀ (y : Cmd) (ok : Bool) (f : Int), ok = (f == 0) → (ok || (f == 4)) = true → ∀ w5 : World, Bk w5 b1 [.int .u8 x.kind, .int .i64 x.shard, .int .i64 x.store, .int .i64 x.epoch] 33 → Ext [] w w5 →
        (∀ W', Calls Try.prog 16 #[.string u] W' fun e w' => e = .returned (.tuple #[cmV y, .bool ok]) ∧ Ext [] W' w') →
        VNw none w5 (.cells #[.int .u8 0, .int .i64 0, .int .i64 0, .int .i64 0] 33) fun (a_9 : Nat) (w6 : World) =>
        VSt none w6 ⟨a_9, 0, none⟩ [.int .u8 y.kind, .int .i64 y.shard, .int .i64 y.store, .int .i64 y.epoch] fun (w7 : World) =>
        VSet f fun (f_10 : Int) =>
        VCall none Try.prog 16 #[.string u] w7 (.tuple #[.agg #[.int .u8 0, .int .i64 0, .int .i64 0, .int .i64 0], .bool false]) fun (r58_0 : Int) (r58_1 : Int) (r58_2 : Int) (r58_3 : Int) (r58_4 : Bool) (w8 : World) =>
        VNw none w8 (.cells #[.int .u8 0, .int .i64 0, .int .i64 0, .int .i64 0] 33) fun (b_11 : Nat) (w9 : World) =>
        VSt none w9 ⟨b_11, 0, none⟩ [.int .u8 r58_0, .int .i64 r58_1, .int .i64 r58_2, .int .i64 r58_3] fun (w10 : World) =>
        ∀ (w11 : World), w11 = World.drew w10 →
        VLd none w11 ⟨a_9, 0, none⟩ [CT.int .u8, CT.int .i64, CT.int .i64, CT.int .i64] fun (v61_0 : Int) (v61_1 : Int) (v61_2 : Int) (v61_3 : Int) =>
        VLd none w11 ⟨b_11, 0, none⟩ [CT.int .u8, CT.int .i64, CT.int .i64, CT.int .i64] fun (v62_0 : Int) (v62_1 : Int) (v62_2 : Int) (v62_3 : Int) =>
        VLd (some ((((v61_0 == v62_0) && ((v61_1 == v62_1) && ((v61_2 == v62_2) && (v61_3 == v62_3)))) && (r58_4 == (f_10 == 0))) && (r58_4 || (f_10 == 4)))) w11 ⟨b1, 0, none⟩ [CT.int .u8, CT.int .i64, CT.int .i64, CT.int .i64] fun (v78_0 : Int) (v78_1 : Int) (v78_2 : Int) (v78_3 : Int) =>
        VLd (some ((((v61_0 == v62_0) && ((v61_1 == v62_1) && ((v61_2 == v62_2) && (v61_3 == v62_3)))) && (r58_4 == (f_10 == 0))) && (r58_4 || (f_10 == 4)))) w11 ⟨b1, 0, none⟩ [CT.int .u8, CT.int .i64, CT.int .i64, CT.int .i64] fun (v80_0 : Int) (v80_1 : Int) (v80_2 : Int) (v80_3 : Int) =>
        VCall (some ((((v61_0 == v62_0) && ((v61_1 == v62_1) && ((v61_2 == v62_2) && (v61_3 == v62_3)))) && (r58_4 == (f_10 == 0))) && (r58_4 || (f_10 == 4)))) Try.prog 17 #[.agg #[.int .u8 v78_0, .int .i64 v78_1, .int .i64 v78_2, .int .i64 v78_3]] w11 (.string ByteArray.empty) fun (r79 : ByteArray) (w12 : World) =>
        (((((v61_0 == v62_0) && ((v61_1 == v62_1) && ((v61_2 == v62_2) && (v61_3 == v62_3)))) && (r58_4 == (f_10 == 0))) && (r58_4 || (f_10 == 4))) = true → Rd w12 ⟨b1, 0, none⟩ [.int .u8 v80_0, .int .i64 v80_1, .int .i64 v80_2, .int .i64 v80_3]) ∧
        VCall (some ((((v61_0 == v62_0) && ((v61_1 == v62_1) && ((v61_2 == v62_2) && (v61_3 == v62_3)))) && (r58_4 == (f_10 == 0))) && (r58_4 || (f_10 == 4)))) Try.prog 18 #[.agg #[.int .u8 v80_0, .int .i64 v80_1, .int .i64 v80_2, .int .i64 v80_3]] w12 (.string ByteArray.empty) fun (r81 : ByteArray) (w13 : World) =>
        good w (.returned (.bool (((((v61_0 == v62_0) && ((v61_1 == v62_1) && ((v61_2 == v62_2) && (v61_3 == v62_3)))) && (r58_4 == (f_10 == 0))) && (r58_4 || (f_10 == 4))) && (r79.toList == r81.toList)))) w13 := by
      intro y ok f hok h4 w5 hk5 e5 hcall
      refine VNw.i fun b6 w6 hb6 hk6 e6 => ?_
      refine VSt.bk hk6 rfl (by simp) fun w7 hk7 e7 => VSet.i ?_
      have e57 : Ext [] w5 w7 := e6.then e7 (fun i hi hlt => by simp at hi; omega)
      have hk57 := hk5.ext e57
      refine VCall.i (hcall w7) ?_
      rintro e w8 ⟨rfl, e8⟩
      refine ⟨(y.kind : Int), (y.shard : Int), (y.store : Int), (y.epoch : Int), (ok : Bool), rfl, ?_⟩
      refine VNw.i fun b9 w9 hb9 hk9 e9 => ?_
      refine VSt.bk hk9 rfl (by simp) fun w10 hk10 e10 => ?_
      have e810 : Ext [] w8 w10 := e9.then e10 (fun i hi hlt => by simp at hi; omega)
      intro w11 hw11
      have e1011 := Ext.drew' hw11
      have e711 := (e8.then0 e810).then0 e1011
      have hk7' := hk7.ext e711
      have hk10' := hk10.ext e1011
      have hkx := hk57.ext e711
      have e11 := (e5.then0 e57).then0 e711
      refine ⟨(y.kind : Int), (y.shard : Int), (y.store : Int), (y.epoch : Int), gd.i (Rd.of_bk hk7' rfl), ?_⟩
      refine ⟨(y.kind : Int), (y.shard : Int), (y.store : Int), (y.epoch : Int), gd.i (Rd.of_bk hk10' rfl), ?_⟩
      refine ⟨(x.kind : Int), (x.shard : Int), (x.store : Int), (x.epoch : Int), gd.i (Rd.of_bk hkx rfl), ?_⟩
      refine ⟨(x.kind : Int), (x.shard : Int), (x.store : Int), (x.epoch : Int), gd.i (Rd.of_bk hkx rfl), ?_⟩
      have hcond : ((((y.kind == y.kind) && ((y.shard == y.shard) && ((y.store == y.store) && (y.epoch == y.epoch)))) && (ok == (f == 0))) && (ok || (f == 4))) = true := by rw [h4, hok]; simp
      rw [hcond]
      refine VCall.on rfl (VCall.i (Command_spec x w11 hx) ?_)
      rintro e w12 ⟨s12, rfl, hs12, e12⟩
      refine exW.i1 (t := .str) s12 rfl ⟨fun _ => Rd.of_bk (hkx.ext e12) rfl, ?_⟩
      refine VCall.on rfl (VCall.i (XCommand_spec x w12 hx) ?_)
      rintro e w13 ⟨s13, rfl, hs13, e13⟩
      refine exW.i1 (t := .str) s13 rfl ⟨?_, (e11.then0 e12).then0 e13⟩
      rw [strEq, hs12, hs13]; simp
    refine VCall.i (ReadCommand_spec u W (by omega)) ?_
    rintro e w5 ⟨rfl, e5⟩
    have hrc : ∀ W', _ := fun W' => XReadCommand_spec u W' (by omega)
    cases hd : decX u.data.toList with
    | none =>
      rw [hd] at hrc
      refine ⟨(0 : Int), (0 : Int), (0 : Int), (0 : Int), (4 : Int), rfl, ?_⟩
      exact fin ⟨0, 0, 0, 0⟩ false 4 rfl rfl w5 (hkW.ext e5) (eW.then0 e5) hrc
    | some y =>
      rw [hd] at hrc
      refine ⟨(y.kind : Int), (y.shard : Int), (y.store : Int), (y.epoch : Int), (0 : Int), rfl, ?_⟩
      exact fin y true 0 rfl rfl w5 (hkW.ext e5) (eW.then0 e5) hrc
  refine VCall.i (Decode_spec u w1 (by omega)) ?_
  rintro e w2 ⟨e2, hdec⟩
  have hxd : ∀ W', _ := fun W' => XDecode_spec u W' (by omega)
  rw [dec_same] at hxd
  cases hd : decI u.data.toList with
  | none =>
    rw [hd] at hdec hxd
    obtain rfl := hdec
    refine exW.i2 (t := .ptr) (u := .int .i64) none 4 rfl (VSet.i ?_)
    refine VCall.i (hxd w2) ?_
    rintro e w3 ⟨e3, rfl⟩
    refine exW.i2 (t := .ptr) (u := .bool) none false rfl ?_
    refine VCall.off rfl (exW.i1 (t := .bool) false trivial (VIf.f rfl ?_))
    exact last w3 ((hk1.ext e2).ext e3) ((e1.then0 e2).then0 e3)
  | some c =>
    rw [hd] at hdec hxd
    obtain ⟨q, s, d, rfl, g2⟩ := hdec
    refine exW.i2 (t := .ptr) (u := .int .i64) (some ⟨q, 0, none⟩) 0 rfl (VSet.i ?_)
    refine VCall.i (hxd w2) ?_
    rintro e w3 ⟨e3, q3, s3, d3, rfl, g3⟩
    refine exW.i2 (t := .ptr) (u := .bool) (some ⟨q3, 0, none⟩) true rfl ?_
    refine VCall.on rfl (VCall.i (stands_spec w1 w2 w3 q q3 s d s3 d3 c (g2.ext0 e3) g3) ?_)
    rintro e w4 ⟨rfl, e4⟩
    refine exW.i1 (t := .bool) true rfl (VIf.f rfl ?_)
    exact last w4 (((hk1.ext e2).ext e3).ext e4) (((e1.then0 e2).then0 e3).then0 e4)
end Go.Proofs.Ytfihhleaciddpaa
