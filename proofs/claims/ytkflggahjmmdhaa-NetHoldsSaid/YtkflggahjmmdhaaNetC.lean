/-
  Package net: the first example; the law of names.
-/
import Derived.Test.YtkflggahjmmdhaaNetB
namespace Go.Proofs.Ytkflggahjmmdhaa
open Go.RowKit
set_option maxRecDepth 100000

def good (w : World) (e : Ending) (w' : World) : Prop := e = .returned (.bool true) ∧ Ext [] w w'
theorem NetO.mono {T e : TypeId} {w0 w1 w : World} {q : Nat} {s : Sl} {N : NM} (h : NetO T e w1 w q s N) (le : w0.heap.size ≤ w1.heap.size) : NetO T e w0 w q s N :=
  ⟨h.bk, h.row.mono le, Nat.le_trans le h.ge, h.m0, h.m1, h.len, h.te⟩
theorem After.out {T e : TypeId} {w0 w w' : World} {q : Nat} {s : Sl} {N N' : NM} (h : After T e w0 w w' q s N') (k : NetO T e w0 w q s N) (e0 : Ext [] w0 w) : ∃ s', NetO T e w0 w' q s' N' ∧ Ext [] w0 w' := by
  obtain ⟨s', h1, h2, _⟩ := h
  exact ⟨s', h1, e0.then h2 (fun i hi hlt => by have := k.ges i hi; omega)⟩
theorem After.all {T e : TypeId} {w0 w w' : World} {q : Nat} {s : Sl} {N N' : NM} (h : After T e w0 w w' q s N') (k : NetO T e w0 w q s N) (e0 : Ext [] w0 w) :
    ∃ s', NetO T e w0 w' q s' N' ∧ Ext [] w0 w' ∧ Ext (fp q s) w w' ∧ ∀ b, b ∉ fp q s → b < w.heap.size → b ∉ fp q s' := by
  obtain ⟨s', h1, h2, h3⟩ := h
  refine ⟨s', h1, e0.then h2 (fun i hi hlt => by have := k.ges i hi; omega), h2, fun b hb hlt hb' => ?_⟩
  simp only [fp, List.mem_cons, not_or] at hb hb'
  rcases hb' with hb' | hb'
  · exact hb.1 hb'
  · rcases h3 b hb' with h' | h'
    · exact hb.2 h'
    · omega
theorem New_ok {most : Int} (h : 0 ≤ most ∧ most ≤ 1000) (w : World) : Calls Try.prog 8 #[.int .i64 most] w fun e w' =>
    ∃ q, e = .returned (.tuple #[.pointer (some ⟨q, 0, none⟩), .int .i64 0]) ∧ NetO 58 35 w w' q ⟨none, 0, 0⟩ ⟨most, 0, []⟩ ∧ Ext [] w w' := by
  refine (New_spec most w).mono fun e w' he => ?_
  rwa [if_neg (by omega)] at he
theorem New_no {most : Int} (h : ¬ (0 ≤ most ∧ most ≤ 1000)) (w : World) : Calls Try.prog 8 #[.int .i64 most] w fun e w' =>
    e = .returned (.tuple #[.pointer none, .int .i64 1]) ∧ Ext [] w w' := by
  refine (New_spec most w).mono fun e w' he => ?_
  rwa [if_pos (by omega)] at he

/-- some bytes of the call's own, sent -/
theorem Send_lit {w0 w w' w'' : World} {q b n : Nat} {s : Sl} {N : NM} (f to : Int) (l : List UInt8) (e0 : Ext [] w0 w'') (h : NetO 58 35 w0 w'' q s N) (hk : Bk w'' b (bc l) 5) (hn : l.length = n) :
    Calls Try.prog 9 #[.pointer (some ⟨q, 0, none⟩), .int .i64 f, .int .i64 to, .slice (some ⟨b, 0, none⟩) n n] w'' fun e w' => e = .returned (.int .i64 (N.sendE (f, to, ⟨l.toArray⟩))) ∧ After 58 35 w0 w'' w' q s (N.send (f, to, ⟨l.toArray⟩)) :=
  Send_spec w0 w'' q s ⟨some ⟨b, 0, none⟩, n, n⟩ N f to l e0 h (Seg.of_bk hk (by simp) (by rw [bc_len, hn]; simp))

def pa : Pk := (1, 2, ⟨[97].toArray⟩)
def pb : Pk := (2, 1, ⟨[98].toArray⟩)
def pc3 : Pk := (1, 2, ⟨[99].toArray⟩)
theorem awake_spec (w : World) : Calls Try.prog 7 #[] w (good w) := by
  refine sh_butterylaw10_awake_ok _ _ ?_
  unfold sh_butterylaw10_awake
  refine VCall.i (New_ok (most := 2) (by omega) w) ?_
  rintro e w1 ⟨q, rfl, h1, e1⟩
  refine exW.i2 (t := .ptr) (u := .int .i64) (some ⟨q, 0, none⟩) _ rfl (VSet.i ?_)
  refine VNw.on rfl (VNw.i fun b2 w2 hb2 hk2 e2 => ?_)
  have hk2 : Bk w2 b2 (bc [97]) 5 := hk2
  refine VMark.on rfl (VMark.bk hk2 fun w3 hk3 e3 => ?_)
  have e13 : Ext [] w1 w3 := e2.then e3 (fun i hi hlt => by simp at hi; omega)
  have e3 := e1.then0 e13
  have h3 := h1.ext0 e13
  refine VCall.on rfl (VCall.i (Send_lit (w := w) (w' := w) 1 2 [97] e3 h3 hk3 rfl) ?_)
  rintro e w4 ⟨rfl, ha⟩
  obtain ⟨s4, h4, e4⟩ := ha.out h3 e3
  refine exW.i1 (t := .int .i64) 0 rfl ?_
  refine VNw.on rfl (VNw.i fun b5 w5 hb5 hk5 e5 => ?_)
  have hk5 : Bk w5 b5 (bc [98]) 5 := hk5
  refine VMark.on rfl (VMark.bk hk5 fun w6 hk6 e6 => ?_)
  have e46 : Ext [] w4 w6 := e5.then e6 (fun i hi hlt => by simp at hi; omega)
  have e6 := e4.then0 e46
  have h6 := h4.ext0 e46
  refine VCall.on rfl (VCall.i (Send_lit (w := w) (w' := w) 2 1 [98] e6 h6 hk6 rfl) ?_)
  rintro e w7 ⟨rfl, ha⟩
  obtain ⟨s7, h7, e7⟩ := ha.out h6 e6
  refine exW.i1 (t := .int .i64) 0 rfl ?_
  refine VNw.on rfl (VNw.i fun b8 w8 hb8 hk8 e8 => ?_)
  have hk8 : Bk w8 b8 (bc [99]) 5 := hk8
  refine VMark.on rfl (VMark.bk hk8 fun w9 hk9 e9 => ?_)
  have e79 : Ext [] w7 w9 := e8.then e9 (fun i hi hlt => by simp at hi; omega)
  have e9 := e7.then0 e79
  have h9 := h7.ext0 e79
  refine VCall.on rfl (VCall.i (Send_lit (w := w) (w' := w) 1 2 [99] e9 h9 hk9 rfl) ?_)
  rintro e w10 ⟨rfl, ha⟩
  obtain ⟨s10, h10, e10⟩ := ha.out h9 e9
  refine exW.i1 (t := .int .i64) 3 rfl ?_
  refine VCall.on rfl (VCall.i (Lost_spec w w10 q s10 _ h10) ?_)
  rintro e w11 ⟨rfl, hw⟩
  subst hw
  refine exW.i1 (t := .int .i64) 1 rfl (VIf.f rfl ?_)
  refine VCall.i (Take_spec w w11 q s10 _ 0 e10 h10) ?_
  rintro e w12 ⟨rfl, ha⟩
  obtain ⟨s12, h12, e12⟩ := ha.out h10 e10
  refine exW.i4 (t := .int .i64) (u := .int .i64) (v := .str) (q := .bool) 1 2 ⟨[97].toArray⟩ true rfl ?_
  refine VNw.i fun b13 w13 hb13 hk13 e13 => ?_
  refine VSt.bk hk13 rfl (by simp) fun w14 hk14 e14 => ?_
  have e1214 : Ext [] w12 w14 := e13.then e14 (fun i hi hlt => by simp at hi; omega)
  have e14 := e12.then0 e1214
  have h14 := h12.ext0 e1214
  have hlt14 := h14.lt
  have n14 : b13 ∉ fp q s12 := fun hx => by have := h12.lt _ hx; omega
  refine VCall.i (Double_spec w w14 q s12 _ 0 e14 h14) ?_
  rintro e w15 ⟨rfl, ha⟩
  obtain ⟨s15, h15, e15, ea15, na15⟩ := ha.all h14 e14
  have hk15 : Bk w15 b13 _ _ := hk14.ext ea15 n14
  have n15 := na15 b13 n14 hk14.lt
  refine exW.i1 (t := .int .i64) 0 rfl (VSet.i ?_)
  refine VCall.i (Look_spec w w15 q s15 _ 1 h15) ?_
  rintro e w16 ⟨rfl, e1516⟩
  have e16 := e15.then0 e1516
  have h16 := h15.ext0 e1516
  have hk16 := hk15.ext e1516
  refine exW.i4 (t := .int .i64) (u := .int .i64) (v := .str) (q := .bool) 2 1 ⟨[98].toArray⟩ true rfl ?_
  refine VNw.i fun b17 w17 hb17 hk17 e17 => ?_
  refine VSt.bk hk17 rfl (by simp) fun w18 hk18 e18 => ?_
  have e1618 : Ext [] w16 w18 := e17.then e18 (fun i hi hlt => by simp at hi; omega)
  have e18 := e16.then0 e1618
  have h18 := h16.ext0 e1618
  have hkp18 := hk16.ext e1618
  have n18 : b17 ∉ fp q s15 := fun hx => by have := h16.lt _ hx; omega
  refine VCall.i (Take_spec w w18 q s15 _ 2 e18 h18) ?_
  rintro e w19 ⟨rfl, ha⟩
  obtain ⟨s19, h19, e19, ea19, _⟩ := ha.all h18 e18
  have hq19 : Bk w19 b17 _ _ := hk18.ext ea19 n18
  have hp19 : Bk w19 b13 _ _ := hkp18.ext ea19 n15
  refine exW.i4 (t := .int .i64) (u := .int .i64) (v := .str) (q := .bool) 0 0 ByteArray.empty false rfl ?_
  refine VNw.i fun b20 w20 hb20 hk20 e20 => ?_
  refine VSt.bk hk20 rfl (by simp) fun w21 hk21 e21 => ?_
  have e1921 : Ext [] w19 w21 := e20.then e21 (fun i hi hlt => by simp at hi; omega)
  refine VLd.i3 _ _ _ (Rd.of_bk (hp19.ext e1921) rfl) ?_
  refine VLd.i3 _ _ _ (Rd.of_bk (hq19.ext e1921) rfl) ?_
  exact ⟨by rw [strEq, strEq]; rfl, e19.then0 e1921⟩

/-! nobody's net -/
theorem Len_nil (w : World) : Calls Try.prog 13 #[.pointer none] w fun e w' => e = .returned (.int .i64 0) ∧ w' = w := by
  refine sh_net_Net_Len_ok none _ _ ?_
  unfold sh_net_Net_Len
  exact VIf.t rfl ⟨rfl, rfl⟩
theorem Lost_nil (w : World) : Calls Try.prog 21 #[.pointer none] w fun e w' => e = .returned (.int .i64 0) ∧ w' = w := by
  refine sh_net_Net_Lost_ok none _ _ ?_
  unfold sh_net_Net_Lost
  exact VIf.t rfl ⟨rfl, rfl⟩
theorem All_nil (w : World) : Calls Try.prog 20 #[.pointer none] w fun e w' => e = .returned (.slice none 0 0) ∧ w' = w := by
  refine sh_net_Net_All_ok none _ _ ?_
  unfold sh_net_Net_All
  exact VIf.t rfl ⟨rfl, rfl⟩
theorem Copy_nil (w : World) : Calls Try.prog 19 #[.pointer none] w fun e w' => e = .returned (.pointer none) ∧ w' = w := by
  refine sh_net_Net_Copy_ok none _ _ ?_
  unfold sh_net_Net_Copy
  exact VIf.t rfl ⟨rfl, rfl⟩
theorem Send_nil (w : World) (f to : Int) (t : Sl) : Calls Try.prog 9 #[.pointer none, .int .i64 f, .int .i64 to, .slice t.base t.len t.cap] w fun e w' => e = .returned (.int .i64 2) ∧ w' = w := by
  refine sh_net_Net_Send_ok none _ _ _ _ _ ?_
  unfold sh_net_Net_Send
  exact VIf.t rfl ⟨rfl, rfl⟩
theorem Double_nil (w : World) (i : Int) : Calls Try.prog 12 #[.pointer none, .int .i64 i] w fun e w' => e = .returned (.int .i64 2) ∧ w' = w := by
  refine sh_net_Net_Double_ok none _ _ _ ?_
  unfold sh_net_Net_Double
  exact VIf.t rfl ⟨rfl, rfl⟩
theorem Look_nil (w : World) : Calls Try.prog 11 #[.pointer none, .int .i64 0] w fun e w' => e = .returned (.tuple #[.agg #[.int .i64 0, .int .i64 0, .string ByteArray.empty], .bool false]) ∧ Ext [] w w' := by
  refine sh_net_Net_Look_ok none _ _ _ ?_
  unfold sh_net_Net_Look
  refine VNw.i fun b w1 hb hk e1 => ?_
  refine VCall.pure (v := .int .i64 0) (Len_nil w1) (exW.i1 (t := .int .i64) 0 rfl (VIf.t rfl ?_))
  refine VSt.bk hk rfl (by simp) fun w2 hk2 e2 => ?_
  refine VLd.i3 (0 : Int) (0 : Int) ByteArray.empty (Rd.of_bk hk2 rfl) ?_
  exact ⟨rfl, e1.then e2 (fun i hi hlt => by simp at hi; omega)⟩
theorem Take_nil (w : World) : Calls Try.prog 10 #[.pointer none, .int .i64 0] w fun e w' => e = .returned (.tuple #[.agg #[.int .i64 0, .int .i64 0, .string ByteArray.empty], .bool false]) ∧ Ext [] w w' := by
  refine sh_net_Net_Take_ok none _ _ _ ?_
  unfold sh_net_Net_Take
  refine VNw.i fun b w1 hb hk e1 => ?_
  refine VCall.i (Look_nil w1) ?_
  rintro e w2 ⟨rfl, e2⟩
  refine exW.i4 (t := .int .i64) (u := .int .i64) (v := .str) (q := .bool) 0 0 ByteArray.empty false rfl ?_
  refine VNw.i fun b3 w3 hb3 hk3 e3 => ?_
  refine VSt.bk hk3 rfl (by simp) fun w4 hk4 e4 => ?_
  have e24 : Ext [] w2 w4 := e3.then e4 (fun i hi hlt => by simp at hi; omega)
  have hkb4 := (hk.ext e2).ext e24
  refine ⟨fun W => W = w4, VIf.f rfl rfl, ?_⟩
  rintro w9 rfl
  refine VLd.i3 (0 : Int) (0 : Int) ByteArray.empty (Rd.of_bk hk4 rfl) ?_
  refine VSt.bk hkb4 rfl (by simp) fun w10 hk10 e10 => ?_
  refine VLd.i3 (0 : Int) (0 : Int) ByteArray.empty (Rd.of_bk hk10 rfl) ?_
  exact ⟨rfl, ((e1.then0 e2).then0 e24).then e10 (fun i hi hlt => by simp at hi; omega)⟩

theorem NetNames_law (w : World) : Calls Try.prog 6 #[] w (good w) := by
  refine sh_butterylaw10_NetNames_ok _ _ ?_
  unfold sh_butterylaw10_NetNames
  refine VCall.i (Look_nil w) ?_
  rintro e w1 ⟨rfl, e1⟩
  refine exW.i4 (t := .int .i64) (u := .int .i64) (v := .str) (q := .bool) 0 0 ByteArray.empty false rfl ?_
  refine VNw.i fun b2 w2 hb2 hk2 e2 => ?_
  refine VSt.bk hk2 rfl (by simp) fun w3 hk3 e3 => ?_
  have e3 : Ext [] w w3 := (e1.then0 e2).then e3 (fun i hi hlt => by simp at hi; have := e1.size; omega)
  refine VCall.i (Take_nil w3) ?_
  rintro e w4 ⟨rfl, e4⟩
  have e4 := e3.then0 e4
  refine exW.i4 (t := .int .i64) (u := .int .i64) (v := .str) (q := .bool) 0 0 ByteArray.empty false rfl ?_
  refine VNw.i fun b5 w5 hb5 hk5 e5 => ?_
  refine VSt.bk hk5 rfl (by simp) fun w6 hk6 e6 => ?_
  have e6 : Ext [] w w6 := (e4.then0 e5).then e6 (fun i hi hlt => by simp at hi; have := e4.size; omega)
  refine VCall.i (New_no (most := 1001) (by omega) w6) ?_
  rintro e w7 ⟨rfl, e7⟩
  have e7 := e6.then0 e7
  refine exW.i2 (t := .ptr) (u := .int .i64) none 1 rfl (VSet.i ?_)
  refine VCall.i (New_no (most := -1) (by omega) w7) ?_
  rintro e w8 ⟨rfl, e8⟩
  have e8 := e7.then0 e8
  refine exW.i2 (t := .ptr) (u := .int .i64) none 1 rfl (VSet.i ?_)
  refine VCall.i (New_ok (most := 1000) (by omega) w8) ?_
  rintro e w9 ⟨q, rfl, h9, e9⟩
  refine exW.i2 (t := .ptr) (u := .int .i64) (some ⟨q, 0, none⟩) 0 rfl (VSet.i ?_)
  refine VCall.i (New_ok (most := 0) (by omega) w9) ?_
  rintro e w10 ⟨q', rfl, h10, e10⟩
  have e10' := e8.then0 (e9.then0 e10)
  have k10 := h9.ext0 e10
  refine exW.i2 (t := .ptr) (u := .int .i64) (some ⟨q', 0, none⟩) 0 rfl (VSet.i ?_)
  refine VCall.i (Send_nil w10 1 2 ⟨none, 0, 0⟩) ?_
  rintro e w11 ⟨rfl, hw⟩
  subst hw
  refine exW.i1 (t := .int .i64) 2 rfl (VCall.on rfl (VCall.i (Double_nil w11 0) ?_))
  rintro e w12 ⟨rfl, hw⟩
  subst hw
  refine exW.i1 (t := .int .i64) 2 rfl (VCall.on rfl (VCall.i (Len_nil w12) ?_))
  rintro e w13 ⟨rfl, hw⟩
  subst hw
  refine exW.i1 (t := .int .i64) 0 rfl (VCall.on rfl (VCall.i (Lost_nil w13) ?_))
  rintro e w14 ⟨rfl, hw⟩
  subst hw
  refine exW.i1 (t := .int .i64) 0 rfl (VCall.on rfl (VCall.i (All_nil w14) ?_))
  rintro e w15 ⟨rfl, hw⟩
  subst hw
  refine exW.i1 (t := .sl) ⟨none, 0, 0⟩ rfl (VCall.on rfl (VCall.i (Copy_nil w15) ?_))
  rintro e w16 ⟨rfl, hw⟩
  subst hw
  refine exW.i1 (t := .ptr) none rfl (VMk.on rfl ?_)
  refine VMk.i (by omega) (by omega) (by omega) (by omega) fun b17 w17 hb17 hk17 e17 => ?_
  rw [show Int.toNat 401 = 401 by rfl, made8] at hk17
  have e17' := (e9.then0 e10).then0 e17
  have k17 := k10.ext0 e17
  refine VCall.on rfl (VCall.i (Send_lit (w := w8) (w' := w8) 1 2 (List.replicate 401 0) e17' k17 hk17 (by simp)) ?_)
  rintro e w18 ⟨rfl, ha⟩
  have he : NM.sendE ⟨1000, 0, []⟩ (1, 2, ⟨(List.replicate 401 (0 : UInt8)).toArray⟩) = 40 := by decide +kernel
  have hs : NM.send ⟨1000, 0, []⟩ (1, 2, ⟨(List.replicate 401 (0 : UInt8)).toArray⟩) = ⟨1000, 0, []⟩ := by unfold NM.send; rw [if_pos (by decide +kernel)]
  rw [hs] at ha
  rw [he]
  obtain ⟨s18, k18, e18, ea18, na18⟩ := ha.all k17 e17'
  refine exW.i1 (t := .int .i64) 40 rfl (VMk.on rfl ?_)
  refine VMk.i (by omega) (by omega) (by omega) (by omega) fun b19 w19 hb19 hk19 e19 => ?_
  rw [show Int.toNat 400 = 400 by rfl, made8] at hk19
  have k19 := k18.ext0 e19
  have e19' := e18.then0 e19
  refine VCall.on rfl (VCall.i (Send_lit (w := w8) (w' := w8) 1 2 (List.replicate 400 0) e19' k19 hk19 (by simp)) ?_)
  rintro e w20 ⟨rfl, ha⟩
  have he : NM.sendE ⟨1000, 0, []⟩ (1, 2, ⟨(List.replicate 400 (0 : UInt8)).toArray⟩) = 0 := by decide +kernel
  rw [he]
  obtain ⟨s20, k20, e20, ea20, na20⟩ := ha.all k19 e19'
  refine exW.i1 (t := .int .i64) 0 rfl ?_
  -- the other net, of no room
  have hq : ∀ b ∈ fp q' ⟨none, 0, 0⟩, b ∉ fp q s18 := by
    intro b hb
    simp [fp, rowB] at hb
    subst hb
    have h1 : b ∉ fp q ⟨none, 0, 0⟩ := by
      simp [fp, rowB]
      have := h9.bk.lt; have := h10.ge
      omega
    exact na18 b h1 (by have := h10.bk.lt; have := e17.size; omega)
  have g17 := h10.ext0 e17
  have g18 := g17.ext ea18 (fun b hb => by
    simp [fp, rowB] at hb ⊢
    subst hb
    have := h9.bk.lt; have := h10.ge
    omega)
  have g19 := g18.ext0 e19
  have g20 := g19.ext ea20 hq
  have g20' := g20.mono (w0 := w8) e9.size
  refine VCall.on rfl (VCall.i (Send_spec w8 w20 q' ⟨none, 0, 0⟩ ⟨none, 0, 0⟩ ⟨0, 0, []⟩ 1 2 [] e20 g20' (In.nil _).1) ?_)
  rintro e w21 ⟨rfl, ha⟩
  obtain ⟨s21, k21, e21, ea21, na21⟩ := ha.all g20' e20
  refine exW.i1 (t := .int .i64) 3 rfl (VCall.on rfl (VCall.i (Lost_spec w8 w21 q' s21 _ k21) ?_))
  rintro e w22 ⟨rfl, hw⟩
  subst hw
  refine exW.i1 (t := .int .i64) 1 rfl (VCall.on rfl (VCall.i (awake_spec w22) ?_))
  rintro e w23 ⟨rfl, e23⟩
  exact exW.i1 (t := .bool) true rfl ⟨rfl, (e8.then0 e21).then0 e23⟩
end Go.Proofs.Ytkflggahjmmdhaa
