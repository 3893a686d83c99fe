/-
  Package net: the law of order.
-/
import Derived.Test.YtkflggahjmmdhaaNetC
namespace Go.Proofs.Ytkflggahjmmdhaa
open Go.RowKit
set_option maxRecDepth 100000

/-- a step of the law's -/
structure Stp where
  kind : Int
  from_ : Int
  to : Int
  data : ByteArray
  n : Int
instance : Inhabited Stp := ⟨⟨0, 0, 0, ByteArray.empty, 0⟩⟩
def stR : Rec Stp := ⟨fun s => [.int .u8 s.kind, .int .i64 s.from_, .int .i64 s.to, .string s.data, .int .i64 s.n], 5, fun _ => rfl, fun _ => rfl, by omega⟩
def Stp.pk (s : Stp) : Pk := (s.from_, s.to, s.data)
def blR : Rec Bool := ⟨fun b => [.bool b], 1, fun _ => rfl, fun _ => rfl, by omega⟩

theorem NM.send_ok {N : NM} {p : Pk} (h : N.sendE p = 0) : N.send p = { N with L := N.L ++ [p] } := by
  unfold NM.sendE at h
  unfold NM.send
  split at h
  · cases h
  · unfold NM.addE at h
    unfold NM.add
    rename_i h1
    rw [if_neg h1]
    split at h
    · rename_i h2; rw [if_pos h2]
    · cases h
theorem NM.send_no {N : NM} {p : Pk} (h : N.sendE p ≠ 0) : (N.send p).L = N.L := by
  unfold NM.sendE at h
  unfold NM.send
  split at h
  · rename_i h1; rw [if_pos h1]
  · unfold NM.addE at h
    unfold NM.add
    rename_i h1
    rw [if_neg h1]
    split at h
    · exact absurd rfl h
    · rename_i h2; rw [if_neg h2]
theorem NM.take0 {N : NM} : (N.take 0).L = N.L.drop 1 := by
  unfold NM.take NM.has
  cases hl : N.L with
  | nil => simp [hl]
  | cons x r => simp [hl]
theorem NM.has0 {N : NM} {S : List Pk} {at_ : Nat} (h : N.L = S.drop at_) : N.has 0 = decide (at_ < S.length) := by
  unfold NM.has
  rw [h, decide_eq_decide, List.length_drop]
  omega
theorem NM.look0 {N : NM} {S : List Pk} {at_ : Nat} (h : N.L = S.drop at_) (hl : at_ < S.length) : N.look 0 = S[at_] := by
  have hh : N.has 0 = true := by rw [NM.has0 h]; simpa using hl
  obtain ⟨h1, h2⟩ := look_has hh
  rw [h2]
  simp only [h]
  rw [List.getElem_drop]
  simp
theorem ba_eta (b : ByteArray) : (ByteArray.mk b.data.toList.toArray) = b := by obtain ⟨⟨l⟩⟩ := b; rfl

theorem NetOrder_law (s t : Sl) (L : List Stp) (T : List Bool) (w : World) (h : InR stR w s L) (k : InR blR w t T) :
    Calls Try.prog 4 #[.slice s.base s.len s.cap, .slice t.base t.len t.cap] w (good w) := by
  refine sh_butterylaw10_NetOrder_ok _ _ _ _ ?_
  unfold sh_butterylaw10_NetOrder
  have hn := h.len
  have kn := k.len
  rcases Nat.lt_or_ge 150 s.len with hbig | hbig
  · refine VCall.off (by simp; omega) (exW.i1 (t := .bool) false trivial (VIf.t (by simp) ?_))
    refine VCall.i (awake_spec w) ?_
    rintro e w1 ⟨rfl, e1⟩
    exact exW.i1 _ rfl ⟨rfl, e1⟩
  refine VCall.on (by simp; omega) (VCall.i (awake_spec w) ?_)
  rintro e w1 ⟨rfl, e1⟩
  refine exW.i1 (t := .bool) _ rfl (VIf.f (by simp; omega) ?_)
  refine VCall.i (New_ok (most := 1000) (by omega) w1) ?_
  rintro e w2 ⟨q, rfl, h2, e2⟩
  have h2 := h2.mono (w0 := w) e1.size
  have e2 := e1.then0 e2
  refine exW.i2 (t := .ptr) (u := .int .i64) (some ⟨q, 0, none⟩) 0 rfl (VSet.i (VIf.f rfl ?_))
  refine ⟨fun k' sn at_ i W => ∃ (j a : Nat) (q0 : Sl) (N : NM) (S : List Pk), i = (j : Int) ∧ at_ = (a : Int) ∧ j ≤ L.length ∧ k' = L.length - j ∧ a ≤ S.length ∧ S.length ≤ j ∧ N.L = S.drop a ∧
    NetO 58 35 w W q q0 N ∧ OwnR pkR 35 w W sn S ∧ (∀ b ∈ rowB sn, b ∉ fp q q0) ∧ Ext [] w W,
    ⟨_, 0, 0, ⟨none, 0, 0⟩, ⟨1000, 0, []⟩, [], rfl, rfl, by omega, rfl, by simp, by simp, rfl, h2, OwnR.nil _ _ _ _, by simp [rowB], e2⟩, ?_⟩
  rintro k' sn at_ i w4 ⟨j, a, q0, N, S, rfl, rfl, hj, rfl, haS, hSj, hNL, h4, hS4, hd4, e4⟩
  have hSl := hS4.len
  have hScap := hS4.cap
  refine VIf.mk (fun hc => ?_) (fun hc => ?_)
  · have hj' : j < L.length := by simp at hc; omega
    -- behind a round
    have next : ∀ (sn' : Sl) (a' : Nat) (W : World), (∃ (q0 : Sl) (N : NM) (S : List Pk), a' ≤ S.length ∧ S.length ≤ j + 1 ∧ N.L = S.drop a' ∧ NetO 58 35 w W q q0 N ∧ OwnR pkR 35 w W sn' S ∧ (∀ b ∈ rowB sn', b ∉ fp q q0) ∧ Ext [] w W) →
      (∃ k'', k'' < L.length - j ∧ ∃ (j' a : Nat) (q0 : Sl) (N : NM) (S : List Pk), IntKind.wrap .i64 ((j : Int) + 1) = (j' : Int) ∧ ((a' : Nat) : Int) = (a : Int) ∧ j' ≤ L.length ∧ k'' = L.length - j' ∧ a ≤ S.length ∧ S.length ≤ j' ∧ N.L = S.drop a ∧
        NetO 58 35 w W q q0 N ∧ OwnR pkR 35 w W sn' S ∧ (∀ b ∈ rowB sn', b ∉ fp q q0) ∧ Ext [] w W) := by
      rintro sn' a' W ⟨q0, N, S, g1, g2, g3, g4, g5, g6, g7⟩
      rw [w64 (n := (j : Int) + 1) (by omega)]
      exact ⟨_, by omega, j + 1, a', q0, N, S, by omega, rfl, by omega, rfl, g1, g2, g3, g4, g5, g6, g7⟩
    refine ⟨fun sn' at' W => ∃ a' : Nat, at' = (a' : Int) ∧ ∃ (q0 : Sl) (N : NM) (S : List Pk), a' ≤ S.length ∧ S.length ≤ j + 1 ∧ N.L = S.drop a' ∧ NetO 58 35 w W q q0 N ∧ OwnR pkR 35 w W sn' S ∧ (∀ b ∈ rowB sn', b ∉ fp q q0) ∧ Ext [] w W, ?_, ?_⟩
    · refine ⟨fun sn' W => ∃ (q0 : Sl) (N : NM) (S : List Pk), a ≤ S.length ∧ S.length ≤ j + 1 ∧ N.L = S.drop a ∧ NetO 58 35 w W q q0 N ∧ OwnR pkR 35 w W sn' S ∧ (∀ b ∈ rowB sn', b ∉ fp q q0) ∧ Ext [] w W, ?_, ?_⟩
      · intro w5 hw5
        have e45 := Ext.drew' hw5
        have e5 := e4.then0 e45
        obtain ⟨ad, had, hrd⟩ := (h.1.ext0 e5).rec_at hj'
        rw [had]
        refine VIx.i (by omega) (by omega) (VLd.i1 _ (hrd.fld 1 rfl) ?_)
        refine VIx.i (by omega) (by omega) (VLd.i1 _ (hrd.fld 2 rfl) ?_)
        refine VIx.i (by omega) (by omega) (VLd.i1 _ (hrd.fld 3 rfl) ?_)
        refine VBytes.i fun b c w6 hb6 hk6 e6 hc6 => ?_
        have e46 := e45.then0 e6
        have e06 := e4.then0 e46
        refine ⟨(hrd.fld 2 rfl).ext e6, (hrd.fld 1 rfl).ext e6, ?_⟩
        have hsz : L[j].data.size = L[j].data.data.toList.length := by
          show L[j].data.data.size = _; simp
        have hseg : Seg w6 (some ⟨b, 0, none⟩) L[j].data.size 1 (bc L[j].data.data.toList) := Seg.of_bk (by rw [bc_str] at hk6; exact hk6) (by simp) (by rw [bc_len, hsz]; simp)
        have h6 := h4.ext0 e46
        have hS6 := hS4.ext0 e46
        refine VCall.i (Send_spec w w6 q q0 ⟨some ⟨b, 0, none⟩, L[j].data.size, c⟩ N L[j].from_ L[j].to L[j].data.data.toList e06 h6 hseg) ?_
        rintro e w7 ⟨rfl, ha⟩
        rw [ba_eta] at ha ⊢
        obtain ⟨q1, h7, e7, ea7, na7⟩ := ha.all h6 e06
        have hS7 := hS6.ext ea7 hd4
        have hd7 : ∀ b ∈ rowB sn, b ∉ fp q q1 := fun b hb => na7 b (hd4 b hb) (hS6.1.lt b hb)
        refine exW.i1 (t := .int .i64) _ rfl (VIf.mk (fun hz => ?_) (fun hz => ?_))
        · have hz' : N.sendE (L[j].from_, L[j].to, L[j].data) = 0 := by simpa using hz
          rw [NM.send_ok hz'] at h7
          intro w8 hw8
          have e78 := Ext.drew' hw8
          have e8 := e7.then0 e78
          obtain ⟨ad2, had2, hrd2⟩ := (h.1.ext0 e8).rec_at hj'
          obtain rfl : ad2 = ad := by rw [had] at had2; cases had2; rfl
          refine VIx.i (by omega) (by omega) (VLd.i1 _ (hrd2.fld 1 rfl) ?_)
          refine VIx.i (by omega) (by omega) (VLd.i1 _ (hrd2.fld 2 rfl) ?_)
          refine VIx.i (by omega) (by omega) (VLd.i1 _ (hrd2.fld 3 rfl) ?_)
          refine VNw.i fun b9 w9 hb9 hk9 e9 => ?_
          have e79 := e78.then0 e9
          have hS9 := hS7.ext0 e79
          have h9 := h7.ext0 e79
          refine VApp.rec (r := pkR) hS9 (e7.then0 e79) (news := [L[j].pk]) (Seg.of_bk hk9 rfl rfl) rfl rfl (by omega) (by omega) fun s10 w10 hS10 e10 ea10 hb10 => ?_
          have hd10 : ∀ b ∈ rowB s10, b ∉ fp q q1 := fun b hb => by
            rcases hb10 b hb with h' | h'
            · exact hd7 b h'
            · intro hx; have := h9.lt b hx; omega
          refine ⟨q1, _, S ++ [L[j].pk], by simp; omega, by simp; omega, ?_, h9.ext ea10 (fun x hx hx' => hd7 x hx' hx), hS10, hd10, e10⟩
          simp only
          rw [hNL, List.drop_append_of_le_length haS]; rfl
        · have hz' : N.sendE (L[j].from_, L[j].to, L[j].data) ≠ 0 := by simpa using hz
          exact ⟨q1, _, S, haS, by omega, by rw [NM.send_no hz']; exact hNL, h7, hS7, hd7, e7⟩
      · rintro sn' w11 ⟨q0, N, S, haS, hSj, hNL, h11, hS11, hd11, e11⟩
        have hSl := hS11.len
        have hScap := hS11.cap
        -- does it take?
        have hgo : ∀ v : Bool, (VIf ((decide (((j : Nat) : Int) < ((t.len : Nat) : Int))) && v) (
            VCall none Try.prog 10 #[.pointer (some ⟨q, 0, none⟩), .int .i64 0] w11 (.tuple #[.agg #[.int .i64 0, .int .i64 0, .string ByteArray.empty], .bool false]) fun (r84_0 : Int) (r84_1 : Int) (r84_2 : ByteArray) (r84_3 : Bool) (w12 : World) =>
            VNw none w12 (.cells #[.int .i64 0, .int .i64 0, .string ByteArray.empty] 35) fun (p_10 : Nat) (w13 : World) =>
            VSt none w13 ⟨p_10, 0, none⟩ [.int .i64 r84_0, .int .i64 r84_1, .string r84_2] fun (w14 : World) =>
            ∀ (w15 : World), w15 = World.drew w14 →
            VLd (some ((!(!(r84_3 == (decide (((a : Nat) : Int) < ((sn'.len : Nat) : Int)))))) && r84_3)) w15 ⟨p_10, 0, none⟩ [CT.int .i64, CT.int .i64, CT.str] fun (v96_0 : Int) (v96_1 : Int) (v96_2 : ByteArray) =>
            VIx (some ((!(!(r84_3 == (decide (((a : Nat) : Int) < ((sn'.len : Nat) : Int)))))) && r84_3)) sn'.base sn'.len ((a : Nat) : Int) fun (a99 : Addr) =>
            VLd (some ((!(!(r84_3 == (decide (((a : Nat) : Int) < ((sn'.len : Nat) : Int)))))) && r84_3)) w15 (Addr.add a99 ((Int.toNat ((a : Nat) : Int)) * 3)) [CT.int .i64, CT.int .i64, CT.str] fun (v100_0 : Int) (v100_1 : Int) (v100_2 : ByteArray) =>
            VIf ((!(r84_3 == (decide (((a : Nat) : Int) < ((sn'.len : Nat) : Int))))) || (r84_3 && (!((v96_0 == v100_0) && ((v96_1 == v100_1) && (v96_2.toList == v100_2.toList)))))) (
              good w (.returned (.bool false)) w15
            ) (
              VIf r84_3 (
                VSet (IntKind.wrap .i64 (((a : Nat) : Int) + 1)) fun (at_8'' : Int) =>
                ∃ a' : Nat, at_8'' = (a' : Int) ∧ ∃ (q0 : Sl) (N : NM) (S : List Pk), a' ≤ S.length ∧ S.length ≤ j + 1 ∧ N.L = S.drop a' ∧ NetO 58 35 w w15 q q0 N ∧ OwnR pkR 35 w w15 ⟨sn'.base, sn'.len, sn'.cap⟩ S ∧ (∀ b ∈ rowB ⟨sn'.base, sn'.len, sn'.cap⟩, b ∉ fp q q0) ∧ Ext [] w w15
              ) (
                ∃ a' : Nat, ((a : Nat) : Int) = (a' : Int) ∧ ∃ (q0 : Sl) (N : NM) (S : List Pk), a' ≤ S.length ∧ S.length ≤ j + 1 ∧ N.L = S.drop a' ∧ NetO 58 35 w w15 q q0 N ∧ OwnR pkR 35 w w15 ⟨sn'.base, sn'.len, sn'.cap⟩ S ∧ (∀ b ∈ rowB ⟨sn'.base, sn'.len, sn'.cap⟩, b ∉ fp q q0) ∧ Ext [] w w15
              )
            )
          ) (
            ∃ a' : Nat, ((a : Nat) : Int) = (a' : Int) ∧ ∃ (q0 : Sl) (N : NM) (S : List Pk), a' ≤ S.length ∧ S.length ≤ j + 1 ∧ N.L = S.drop a' ∧ NetO 58 35 w w11 q q0 N ∧ OwnR pkR 35 w w11 ⟨sn'.base, sn'.len, sn'.cap⟩ S ∧ (∀ b ∈ rowB ⟨sn'.base, sn'.len, sn'.cap⟩, b ∉ fp q q0) ∧ Ext [] w w11
          )) := by
          intro v
          refine VIf.mk (fun _ => ?_) (fun _ => ⟨a, rfl, q0, N, S, haS, hSj, hNL, h11, hS11, hd11, e11⟩)
          refine VCall.i (Take_spec w w11 q q0 N 0 e11 h11) ?_
          rintro e w12 ⟨rfl, ha⟩
          obtain ⟨q1, h12, e12, ea12, na12⟩ := ha.all h11 e11
          have hS12 := hS11.ext ea12 hd11
          have hd12 : ∀ b ∈ rowB sn', b ∉ fp q q1 := fun b hb => na12 b (hd11 b hb) (hS11.1.lt b hb)
          refine exW.i4 (t := .int .i64) (u := .int .i64) (v := .str) (q := .bool) _ _ _ _ rfl ?_
          refine VNw.i fun b13 w13 hb13 hk13 e13 => ?_
          refine VSt.bk hk13 rfl (by simp) fun w14 hk14 e14 => ?_
          have e1214 : Ext [] w12 w14 := e13.then e14 (fun i hi hlt => by simp at hi; omega)
          intro w15 hw15
          have e1415 := Ext.drew' hw15
          have e1215 := e1214.then0 e1415
          have h15 := h12.ext0 e1215
          have hS15 := hS12.ext0 e1215
          have e15 := e12.then0 e1215
          refine VLd.i3 _ _ _ (Rd.of_bk (hk14.ext e1415) rfl) ?_
          have hh := NM.has0 hNL
          by_cases hal : a < S.length
          · have hlook := NM.look0 hNL hal
            have hh' : N.has 0 = true := by rw [hh]; simpa using hal
            obtain ⟨ad, had, hrd⟩ := hS15.seg.rec_at hal
            rw [had]
            refine VIx.i (by omega) (by omega) (VLd.i3 _ _ _ hrd ?_)
            rw [hh', hlook]
            refine VIf.f (by simp; omega) (VIf.t rfl ?_)
            rw [w64 (n := (a : Int) + 1) (by omega)]
            refine VSet.i ⟨a + 1, by omega, q1, _, S, by omega, hSj, ?_, h15, ?_, ?_, e15⟩
            · rw [NM.take0, hNL, List.drop_drop]
            · rw [← had]; exact hS15
            · rw [← had]; exact hd12
          · have hh' : N.has 0 = false := by rw [hh]; simpa using hal
            rw [hh']
            refine ⟨⟨0, 0, none⟩, fun e => (by simp at e), (0 : Int), (0 : Int), ByteArray.empty, fun e => (by simp at e), ?_⟩
            refine VIf.f (by simp; omega) (VIf.f rfl ?_)
            refine ⟨a, rfl, q1, _, S, haS, hSj, ?_, h15, hS15, hd12, e15⟩
            unfold NM.take
            rw [hh']
            exact hNL
        by_cases hjt : j < T.length
        · obtain ⟨ad, had, hrd⟩ := (k.1.ext0 e11).rec_at hjt
          have := hgo T[j]
          rw [had] 
          refine VIx.i (by omega) (by omega) (VLd.i1 _ hrd ?_)
          exact this
        · refine ⟨⟨0, 0, none⟩, fun e => (by simp at e; omega), true, fun e => (by simp at e; omega), ?_⟩
          exact hgo true
    · rintro sn' at' w16 ⟨a', rfl, hh⟩
      exact VSet.i (next ⟨sn'.base, sn'.len, sn'.cap⟩ a' w16 hh)
  · refine ⟨fun k' at' W => ∃ (a : Nat) (q0 : Sl) (N : NM), at' = (a : Int) ∧ a ≤ S.length ∧ k' = S.length - a ∧ N.L = S.drop a ∧ NetO 58 35 w W q q0 N ∧ OwnR pkR 35 w W sn S ∧ (∀ b ∈ rowB sn, b ∉ fp q q0) ∧ Ext [] w W,
      ⟨_, a, q0, N, rfl, haS, rfl, hNL, h4, hS4, hd4, e4⟩, ?_⟩
    clear haS hNL h4 hS4 hd4 e4 a q0 N
    rintro k' at' w17 ⟨a, q0, N, rfl, haS, rfl, hNL, h17, hS17, hd17, e17⟩
    refine VIf.mk (fun hc => ?_) (fun hc => ?_)
    · have hal : a < S.length := by simp at hc; omega
      refine VCall.i (Take_spec w w17 q q0 N 0 e17 h17) ?_
      rintro e w18 ⟨rfl, ha⟩
      obtain ⟨q1, h18, e18, ea18, na18⟩ := ha.all h17 e17
      have hS18 := hS17.ext ea18 hd17
      have hd18 : ∀ b ∈ rowB sn, b ∉ fp q q1 := fun b hb => na18 b (hd17 b hb) (hS17.1.lt b hb)
      refine exW.i4 (t := .int .i64) (u := .int .i64) (v := .str) (q := .bool) _ _ _ _ rfl ?_
      refine VNw.i fun b19 w19 hb19 hk19 e19 => ?_
      refine VSt.bk hk19 rfl (by simp) fun w20 hk20 e20 => ?_
      have e1820 : Ext [] w18 w20 := e19.then e20 (fun i hi hlt => by simp at hi; omega)
      intro w21 hw21
      have e2021 := Ext.drew' hw21
      have e1821 := e1820.then0 e2021
      have hS21 := hS18.ext0 e1821
      refine VLd.i3 _ _ _ (Rd.of_bk (hk20.ext e2021) rfl) ?_
      have hlook := NM.look0 hNL hal
      have hh' : N.has 0 = true := by rw [NM.has0 hNL]; simpa using hal
      obtain ⟨ad, had, hrd⟩ := hS21.seg.rec_at hal
      rw [had]
      refine VIx.i (by omega) (by omega) (VLd.i3 _ _ _ hrd ?_)
      rw [hh', hlook]
      refine VIf.f (by simp) ?_
      rw [w64 (n := (a : Int) + 1) (by omega)]
      exact VSet.i ⟨_, by omega, a + 1, q1, _, by omega, by omega, rfl, by rw [NM.take0, hNL, List.drop_drop], h18.ext0 e1821, hS21, hd18, e18.then0 e1821⟩
    · have hal : a = S.length := by simp at hc; omega
      subst hal
      refine VCall.i (Len_spec w w17 q q0 N h17) ?_
      rintro e w22 ⟨rfl, hw⟩
      subst hw
      refine exW.i1 (t := .int .i64) _ rfl ⟨?_, e17⟩
      rw [hNL]; simp
end Go.Proofs.Ytkflggahjmmdhaa
