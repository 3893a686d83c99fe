/-
  Package config: commands written and read; the law of what goes on.
-/
import Derived.Test.YtfihhleaciddpaaConfF
namespace Go.Proofs.Ytfihhleaciddpaa
open Go.RowKit
set_option maxRecDepth 100000

def nums (x : Cmd) : List Int := [x.shard, x.store, x.epoch]
def encN (L : List Int) : List UInt8 := L.flatMap fun n => enc (zz n)
theorem encX_eq (x : Cmd) : encX x = encC x.kind ++ encN (nums x) := by unfold encX encN nums; simp
theorem zz_len {n : Int} (h : -9223372036854775808 ≤ n ∧ n ≤ 9223372036854775807) : (enc (zz n)).length ≤ 10 := enc_len10 (zz_lt h)
theorem encN_len {L : List Int} (h : ∀ n ∈ L, -9223372036854775808 ≤ n ∧ n ≤ 9223372036854775807) : (encN L).length ≤ 10 * L.length := by
  induction L with
  | nil => simp [encN]
  | cons n L ih =>
    have h1 := zz_len (h n (by simp))
    have h2 := ih (fun m hm => h m (by simp [hm]))
    unfold encN at h2 ⊢
    simp only [List.flatMap_cons, List.length_append, List.length_cons]
    omega
theorem nums_in {x : Cmd} (h : okX x) : ∀ n ∈ nums x, -9223372036854775808 ≤ n ∧ n ≤ 9223372036854775807 := by
  obtain ⟨_, h2, h3, h4⟩ := h
  intro n hn
  simp only [nums, List.mem_cons, List.not_mem_nil, or_false] at hn
  rcases hn with rfl | rfl | rfl
  · exact h2
  · exact h3
  · exact h4
theorem Command_spec (x : Cmd) (w : World) (h : okX x) : Calls Try.prog 17 #[cmV x] w fun e w' => ∃ b : ByteArray, e = .returned (.string b) ∧ b.data.toList = encX x ∧ Ext [] w w' := by
  refine sh_config_Command_ok _ _ _ _ _ _ ?_
  unfold sh_config_Command
  have hk := h.1
  refine VNw.i fun b1 w1 hb1 hk1 e1 => ?_
  refine VLd.i1 _ (Rd.of_bk hk1 rfl) ?_
  rw [w64 (n := x.kind) (by omega)]
  refine VCall.i (Count_spec ⟨none, 0, 0⟩ [] x.kind w1 (Seg.nil _ _ _) (by simp)) ?_
  rintro e w2 ⟨b2, rfl, k2, e2⟩
  have hk2 := hk1.ext e2
  refine exW.i1 (t := .sl) b2 rfl (VLd.i1 _ (Rd.of_bk hk2 rfl) (VLd.i1 _ (Rd.of_bk hk2 rfl) (VLd.i1 _ (Rd.of_bk hk2 rfl) ?_)))
  refine VNw.i fun b3 w3 hb3 hk3 e3 => ?_
  have hk3 : Bk w3 b3 ((nums x).map (Value.int .i64)) 3 := hk3
  have e12 := e1.then0 e2
  have hlen : (nums x).length = 3 := rfl
  refine ⟨fun k b i W => ∃ m : Nat, i = (m : Int) ∧ m ≤ 3 ∧ k = 3 - m ∧ Own w W b (encC x.kind ++ encN ((nums x).take m)) ∧ Bk W b3 ((nums x).map (Value.int .i64)) 3 ∧ Ext [] w W, ⟨_, 0, rfl, by omega, rfl, by simpa [encN] using (k2.mono e1.size).ext0 e3, hk3, e12.then0 e3⟩, ?_⟩
  rintro k b i w4 ⟨m, rfl, hm, rfl, k4, hk4, e4⟩
  refine VIf.mk (fun hc => ?_) (fun hc => ?_)
  · have hm' : m < 3 := by simp at hc; omega
    refine VIx.i (by omega) (by omega) ?_
    simp only [add_blk, Int.toNat_natCast, Nat.zero_add, Nat.mul_one]
    have hrd : Rd w4 ⟨b3, m, none⟩ [.int .i64 ((nums x)[m]'(by omega))] := Rd.of_bk hk4 (by
      rw [← List.map_drop, List.drop_eq_getElem_cons (by omega)]; rfl)
    refine VLd.i1 _ hrd (VSet.i ?_)
    have hin := nums_in h
    have hl1 := encN_len (L := (nums x).take m) (fun n hn => hin n (List.mem_of_mem_take hn))
    have hl2 := encC_len x.kind
    rw [List.length_take] at hl1
    refine VCall.i (Num_spec b _ ((nums x)[m]'(by omega)) w4 k4.seg (by rw [List.length_append]; omega) (hin _ (List.getElem_mem _))) ?_
    rintro e w5 ⟨b5, rfl, k5, e5⟩
    refine exW.i1 (t := .sl) b5 rfl ?_
    rw [w64 (n := (m : Int) + 1) (by omega)]
    refine ⟨_, by omega, m + 1, rfl, by omega, rfl, ?_, hk4.ext e5, e4.then0 e5⟩
    have hz : encN ((nums x).take (m + 1)) = encN ((nums x).take m) ++ enc (zz ((nums x)[m]'(by omega))) := by
      rw [List.take_succ_eq_append_getElem (by omega)]; unfold encN; rw [List.flatMap_append]; simp
    rw [hz, ← List.append_assoc]
    exact k5.mono e4.size
  · have hmm : m = 3 := by simp at hc; omega
    subst hmm
    refine VStr.i _ k4.seg fun y hy => ⟨y, rfl, ?_, e4⟩
    rw [hy, encX_eq]; rfl

theorem rCount_le {most : Int} (hm : 0 ≤ most) (st : St) : (rCount most st).1 ≤ most := by
  unfold rCount
  split
  · exact hm
  · split
    · rename_i h; exact h.2.2
    · exact hm
def retX (o : Option Cmd) (e : Int) : Value := match o with
  | none => .tuple #[.agg #[.int .u8 0, .int .i64 0, .int .i64 0, .int .i64 0], .int .i64 e]
  | some x => .tuple #[cmV x, .int .i64 0]
theorem ReadCommand_spec (b : ByteArray) (w : World) (hb : b.size ≤ 1000000) : Calls Try.prog 15 #[.string b] w fun e w' => e = .returned (retX (decX b.data.toList) 4) ∧ Ext [] w w' := by
  refine sh_config_ReadCommand_ok _ _ _ ?_
  unfold sh_config_ReadCommand
  refine VNw.i fun b0 w0 hb0 hk0 e0 => ?_
  refine VBytes.i fun b1 c1 w1 hb1 hk1 e1 hc1 => ?_
  have hsz : b.size = b.data.toList.length := by
    show b.data.size = _; simp
  rw [bc_str] at hk1
  have hseg : Seg w1 (some ⟨b1, 0, none⟩) b.size 1 (bc b.data.toList) := Seg.of_bk hk1 (by simp) (by rw [bc_len, hsz]; simp)
  generalize b.data.toList = l at *
  refine VCall.i (NewReader_spec ⟨some ⟨b1, 0, none⟩, b.size, c1⟩ l w1 hseg (by omega)) ?_
  rintro e w2 ⟨r, rq, rd_, rfl, k2, e2, g1, g2, g3⟩
  refine exW.i1 (t := .ptr) (some ⟨r, 0, none⟩) rfl ?_
  have e02 := (e0.then0 e1).then0 e2
  have hlt0 := hk0.lt
  have hs0 := e0.size
  have hs1 := e1.size
  have hne : b0 ≠ rq := by omega
  refine VCall.i (rCount_spec r rq rd_ 255 _ w2 k2) ?_
  rintro e w3 ⟨rfl, k3, e3⟩
  refine exW.i1 (t := .int .i64) _ rfl ?_
  refine VCall.i (rNum_spec r rq rd_ _ w3 k3) ?_
  rintro e w4 ⟨rfl, k4, e4⟩
  refine exW.i1 (t := .int .i64) _ rfl ?_
  refine VCall.i (rNum_spec r rq rd_ _ w4 k4) ?_
  rintro e w5 ⟨rfl, k5, e5⟩
  refine exW.i1 (t := .int .i64) _ rfl ?_
  refine VCall.i (rNum_spec r rq rd_ _ w5 k5) ?_
  rintro e w6 ⟨rfl, k6, e6⟩
  refine exW.i1 (t := .int .i64) _ rfl ?_
  have e26 : Ext [rq] w2 w6 := ((e3.then e4 (fun i hi _ => hi)).then e5 (fun i hi _ => hi)).then e6 (fun i hi _ => hi)
  have e6w : Ext [] w w6 := e02.then e26 (fun i hi hlt => by simp at hi; omega)
  have hk06 : Bk w6 b0 _ _ := ((hk0.ext e1).ext e2).ext e26 (by simpa using hne)
  refine VNw.i fun b7 w7 hb7 hk7 e7 => ?_
  refine VSt.bk hk7 rfl (by simp) fun w8 hk8 e8 => ?_
  have e68 : Ext [] w6 w8 := e7.then e8 (fun i hi hlt => by simp at hi; omega)
  have k8 := k6.ext0 e68
  have hk08 := hk06.ext e68
  have e8w := e6w.then0 e68
  have hne7 : b0 ≠ b7 := by have := e26.size; have := e02.size; have := e2.size; omega
  refine VCall.i (rDone_spec r rq rd_ _ w8 k8) ?_
  rintro e w9 ⟨rfl, hw⟩
  subst hw
  refine exW.i1 (t := .bool) _ rfl ?_
  have hkind : IntKind.wrap .u8 (rCount 255 (some l)).1 = (rCount 255 (some l)).1 := by
    have h1 := (rCount_pos 255 (some l)).1
    have h2 := rCount_le (most := 255) (by omega) (some l)
    rw [wrap8]; omega
  unfold decX
  cases hd : rDone (rX (some l)).2 with
  | false =>
    have hd' : rDone (rNum (rNum (rNum (rCount 255 (some l)).2).2).2).2 = false := hd
    rw [hd']
    refine VIf.t rfl ?_
    refine VSt.bk hk08 rfl (by simp) fun w10 hk10 e10 => ?_
    refine ⟨(0 : Int), (0 : Int), (0 : Int), (0 : Int), Rd.of_bk hk10 rfl, ?_⟩
    exact ⟨rfl, e8w.then e10 (fun i hi hlt => by simp at hi; omega)⟩
  | true =>
    have hd' : rDone (rNum (rNum (rNum (rCount 255 (some l)).2).2).2).2 = true := hd
    rw [hd']
    refine VIf.f rfl ?_
    refine ⟨(_ : Int), (_ : Int), (_ : Int), (_ : Int), Rd.of_bk hk8 rfl, ?_⟩
    refine VSt.bk hk08 rfl (by simp) fun w10 hk10 e10 => ?_
    refine ⟨(_ : Int), (_ : Int), (_ : Int), (_ : Int), Rd.of_bk hk10 rfl, ?_⟩
    refine ⟨?_, e8w.then e10 (fun i hi hlt => by simp at hi; omega)⟩
    rw [hkind]; rfl

theorem cfg_inj {c c' : CM} (h : c.ok) (h' : c'.ok) (he : encCfg c = encCfg c') : c = c' := by
  have := dec_enc h
  rw [he, dec_enc h'] at this
  exact (Option.some.inj this).symm
theorem okX_of {x : Cmd} (h : (IntKind.min .u8 ≤ x.kind ∧ x.kind ≤ IntKind.max .u8) ∧ (IntKind.min .i64 ≤ x.shard ∧ x.shard ≤ IntKind.max .i64) ∧ (IntKind.min .i64 ≤ x.store ∧ x.store ≤ IntKind.max .i64) ∧ (IntKind.min .i64 ≤ x.epoch ∧ x.epoch ≤ IntKind.max .i64)) : okX x := h
theorem enc_size {c : CM} (h : c.ok) : (encCfg c).length ≤ 1000 := by
  have h1 := encC_len c.P.length
  have h2 := encC_len c.D.length
  have h3 := encP_len c.P
  have h4 := encD_len c.D
  have := h.p
  have := h.d
  unfold encCfg
  simp only [List.length_append]
  omega
theorem encX_size {x : Cmd} (h : okX x) : (encX x).length ≤ 1000 := by
  have h1 := encC_len x.kind
  have h2 := encN_len (nums_in h)
  have : (nums x).length = 3 := rfl
  rw [encX_eq, List.length_append]
  omega
theorem ba_size (b : ByteArray) : b.size = b.data.toList.length := by
  show b.data.size = _; simp

theorem ConfigBack_law (a b : Int) (s t : Sl) (L M : List Cmd) (u : ByteArray) (w : World) (h : InR cmR w s L) (hm : InR cmR w t M) (hM : ∀ x ∈ M, okX x) :
    Calls Try.prog 6 #[.int .i64 a, .int .i64 b, .slice s.base s.len s.cap, .slice t.base t.len t.cap, .string u] w (good w) := by
  refine sh_butterylaw17_ConfigBack_ok _ _ _ _ _ _ _ ?_
  unfold sh_butterylaw17_ConfigBack
  have hn := h.len
  have hmn := hm.len
  refine VCall.i (works_spec w) ?_
  rintro e w1 ⟨rfl, e1⟩
  refine exW.i1 (t := .bool) true rfl (VIf.mk (fun hc => ?_) (fun hc => ?_))
  · refine VCall.i (works_spec w1) ?_
    rintro e w2 ⟨rfl, e2⟩
    exact exW.i1 (t := .bool) true rfl ⟨rfl, e1.then0 e2⟩
  have hL : L.length ≤ 300 ∧ M.length ≤ 300 ∧ u.size ≤ 1000 := by simp at hc; omega
  have m1 := mod_in a 4 (by omega) (by omega)
  have m2 := mod_in b 5 (by omega) (by omega)
  refine VCall.i (New_ok (a := IntKind.wrap .i64 (1 + (IntKind.wrap .i64 (Int.tmod (IntKind.wrap .u64 a) 4)))) (b := IntKind.wrap .i64 (1 + (IntKind.wrap .i64 (Int.tmod (IntKind.wrap .u64 b) 5)))) ⟨m1.1, m1.2, m2.1, m2.2⟩ w1) ?_
  rintro e w2 ⟨q, sp, sd, rfl, h2', e2'⟩
  have h2 := h2'.mono (w0 := w) e1.size
  have e2 := e1.then0 e2'
  refine exW.i2 (t := .ptr) (u := .int .i64) (some ⟨q, 0, none⟩) 0 rfl (VSet.i (VIf.f rfl ?_))
  generalize (⟨List.replicate _ _, List.replicate _ _⟩ : CM) = c0 at h2
  refine ⟨fun k i W => ∃ (j : Nat) (c : CM), i = (j : Int) ∧ j ≤ L.length ∧ k = L.length - j ∧ CfgO 52 w W q sp sd c ∧ Ext [] w W, ⟨_, 0, _, rfl, by omega, rfl, h2, e2⟩, ?_⟩
  rintro k i w4 ⟨j, c, rfl, hj, rfl, h4, e4⟩
  refine VIf.mk (fun hc => ?_) (fun hc => ?_)
  · have hj' : j < L.length := by simp at hc; omega
    obtain ⟨ad, had, hrd⟩ := (h.1.ext0 e4).rec_at hj'
    rw [had]
    refine VIx.i (by omega) (by omega) ?_
    refine ⟨((L[j]).kind : Int), ((L[j]).shard : Int), ((L[j]).store : Int), ((L[j]).epoch : Int), gd.i hrd, ?_⟩
    refine VCall.i (Do_out L[j] h4 e4) ?_
    rintro e w5 ⟨rfl, h5, ea5, e5⟩
    refine exW.i1 (t := .bool) _ rfl ?_
    rw [w64 (n := (j : Int) + 1) (by omega)]
    exact VSet.i ⟨_, by omega, j + 1, _, rfl, by omega, rfl, h5, e5⟩
  clear h2 e2 c0
  refine VCall.i (Encode_spec w w4 q sp sd c h4) ?_
  rintro e w6 ⟨b6, rfl, hb6, e46⟩
  have e6 := e4.then0 e46
  have h6 := h4.ext0 e46
  refine exW.i1 (t := .str) b6 rfl ?_
  have hsz := enc_size h4.ok
  refine VCall.i (Decode_spec b6 w6 (by rw [ba_size, hb6]; omega)) ?_
  rintro e w7 ⟨e67, hdec⟩
  rw [hb6, dec_enc h4.ok] at hdec
  obtain ⟨q2, sp2, sd2, rfl, g7⟩ := hdec
  have hap : ∀ y ∈ fpc q2 sp2 sd2, y ∉ fpc q sp sd := fun y hy hy' => by
    have := h6.lt y hy'
    have := g7.ges y hy
    omega
  have g7 := g7.mono (w0 := w) e6.size
  have e7 := e6.then0 e67
  have h7 := h6.ext0 e67
  refine exW.i2 (t := .ptr) (u := .int .i64) (some ⟨q2, 0, none⟩) 0 rfl (VSet.i (VIf.f rfl ?_))
  refine ⟨fun k i W => ∃ (j : Nat) (c : CM), i = (j : Int) ∧ j ≤ M.length ∧ k = M.length - j ∧ CfgO 52 w W q sp sd c ∧ CfgO 52 w W q2 sp2 sd2 c ∧ Ext [] w W, ⟨_, 0, _, rfl, by omega, rfl, h7, g7, e7⟩, ?_⟩
  clear h7 g7 e7 hb6 hsz hc h4 h6 e46 e6 e67
  rintro k i w8 ⟨j, c, rfl, hj, rfl, h8, g8, e8⟩
  refine VIf.mk (fun hc => ?_) (fun hc => ?_)
  · have hj' : j < M.length := by simp at hc; omega
    obtain ⟨ad, had, hrd⟩ := (hm.1.ext0 e8).rec_at hj'
    have hok := hM _ (List.getElem_mem hj')
    rw [had]
    refine VIx.i (by omega) (by omega) ?_
    refine ⟨((M[j]).kind : Int), ((M[j]).shard : Int), ((M[j]).store : Int), ((M[j]).epoch : Int), gd.i hrd, ?_⟩
    generalize hX : M[j] = x at *
    refine VCall.i (Command_spec x w8 hok) ?_
    rintro e w9 ⟨b9, rfl, hb9, e89⟩
    refine exW.i1 (t := .str) b9 rfl ?_
    have hxs := encX_size hok
    refine VCall.i (ReadCommand_spec b9 w9 (by rw [ba_size, hb9]; omega)) ?_
    rintro e w10 ⟨rfl, e910⟩
    rw [hb9, decX_enc hok]
    refine ⟨(x.kind : Int), (x.shard : Int), (x.store : Int), (x.epoch : Int), (0 : Int), rfl, ?_⟩
    refine VNw.i fun b11 w11 hb11 hk11 e11 => ?_
    refine VSt.bk hk11 rfl (by simp) fun w12 hk12 e12 => VSet.i ?_
    have e1012 : Ext [] w10 w12 := e11.then e12 (fun i hi hlt => by simp at hi; omega)
    intro w13 hw13
    have e1213 := Ext.drew' hw13
    have e813 := ((e89.then0 e910).then0 e1012).then0 e1213
    have e13 := e8.then0 e813
    have h13 := h8.ext0 e813
    have g13 := g8.ext0 e813
    have hk13 : Bk w13 b11 [.int .u8 x.kind, .int .i64 x.shard, .int .i64 x.store, .int .i64 x.epoch] 33 := hk12.ext e1213
    have hb11h : ∀ y ∈ fpc q sp sd, y ≠ b11 := fun y hy e => by have := h8.lt y hy; have := (e89.then0 e910).size; omega
    obtain ⟨ad2, had2, hrd2⟩ := (hm.1.ext0 e13).rec_at hj'
    obtain rfl : ad2 = ad := by rw [had] at had2; cases had2; rfl
    rw [hX] at hrd2
    refine ⟨(x.kind : Int), (x.shard : Int), (x.store : Int), (x.epoch : Int), gd.i (Rd.of_bk hk13 rfl), ?_⟩
    refine VIx.i (by omega) (by omega) ?_
    refine ⟨(x.kind : Int), (x.shard : Int), (x.store : Int), (x.epoch : Int), gd.i hrd2, ?_⟩
    refine VIx.i (by omega) (by omega) ?_
    refine ⟨(x.kind : Int), (x.shard : Int), (x.store : Int), (x.epoch : Int), gd.i hrd2, ?_⟩
    refine ⟨(x.kind : Int), (x.shard : Int), (x.store : Int), (x.epoch : Int), gd.i (Rd.of_bk hk13 rfl), ?_⟩
    refine VCall.on (by simp) (VCall.i (Do_out x h13 e13) ?_)
    rintro e w14 ⟨rfl, h14, ea14, e14⟩
    have g14 := g13.ext ea14 hap
    have hk14 := hk13.ext ea14 (fun hx => hb11h _ hx rfl)
    refine exW.i1 (t := .bool) _ rfl ⟨fun _ => Rd.of_bk hk14 rfl, ?_⟩
    refine VCall.on (by simp) (VCall.i (Do_out x g14 e14) ?_)
    rintro e w15 ⟨rfl, g15, ea15, e15⟩
    have h15 := h14.ext ea15 (fun y hy hy' => hap y hy' hy)
    refine exW.i1 (t := .bool) _ rfl (VCall.on (by simp) (VCall.i (Encode_spec w w15 q sp sd _ h15) ?_))
    rintro e w16 ⟨b16, rfl, hb16, e1516⟩
    refine exW.i1 (t := .str) b16 rfl (VCall.on (by simp) (VCall.i (Encode_spec w w16 q2 sp2 sd2 _ (g15.ext0 e1516)) ?_))
    rintro e w17 ⟨b17, rfl, hb17, e1617⟩
    refine exW.i1 (t := .str) b17 rfl (VIf.f (by rw [strEq, hb16, hb17]; simp) ?_)
    rw [w64 (n := (j : Int) + 1) (by omega)]
    have e1517 := e1516.then0 e1617
    exact VSet.i ⟨_, by omega, j + 1, _, rfl, by omega, rfl, h15.ext0 e1517, g15.ext0 e1517, e15.then0 e1517⟩
  · have last : ∀ W, Ext [] w W → VCall none Try.prog 15 #[.string u] W (.tuple #[.agg #[.int .u8 0, .int .i64 0, .int .i64 0, .int .i64 0], .int .i64 0]) fun (r135_0 : Int) (r135_1 : Int) (r135_2 : Int) (r135_3 : Int) (r135_4 : Int) (w20 : World) =>
        VNw none w20 (.cells #[.int .u8 0, .int .i64 0, .int .i64 0, .int .i64 0] 33) fun (x_20 : Nat) (w21 : World) =>
        VSt none w21 ⟨x_20, 0, none⟩ [.int .u8 r135_0, .int .i64 r135_1, .int .i64 r135_2, .int .i64 r135_3] fun (w22 : World) =>
        VSet r135_4 fun (g_21 : Int) =>
        VLd (some (!(g_21 != 0))) w22 ⟨x_20, 0, none⟩ [CT.int .u8, CT.int .i64, CT.int .i64, CT.int .i64] fun (v141_0 : Int) (v141_1 : Int) (v141_2 : Int) (v141_3 : Int) =>
        VCall (some (!(g_21 != 0))) Try.prog 17 #[.agg #[.int .u8 v141_0, .int .i64 v141_1, .int .i64 v141_2, .int .i64 v141_3]] w22 (.string ByteArray.empty) fun (r142 : ByteArray) (w23 : World) =>
        good w (.returned (.bool ((g_21 != 0) || (r142.toList == u.toList)))) w23 := by
      intro W eW
      refine VCall.i (ReadCommand_spec u W (by omega)) ?_
      rintro e w20 ⟨rfl, e20⟩
      have e20 := eW.then0 e20
      cases hx : decX u.data.toList with
      | none =>
        refine ⟨(0 : Int), (0 : Int), (0 : Int), (0 : Int), (4 : Int), rfl, ?_⟩
        refine VNw.i fun b21 w21 hb21 hk21 e21 => ?_
        refine VSt.bk hk21 rfl (by simp) fun w22 hk22 e22 => VSet.i ?_
        refine ⟨(0 : Int), (0 : Int), (0 : Int), (0 : Int), gd.i (Rd.of_bk hk22 rfl), VCall.off rfl (exW.i1 (t := .str) ByteArray.empty trivial ⟨rfl, ?_⟩)⟩
        exact (e20.then0 e21).then e22 (fun i hi hlt => by simp at hi; have := e20.size; omega)
      | some x =>
        obtain ⟨hok, hxu⟩ := encX_dec hx
        refine ⟨(x.kind : Int), (x.shard : Int), (x.store : Int), (x.epoch : Int), (0 : Int), rfl, ?_⟩
        refine VNw.i fun b21 w21 hb21 hk21 e21 => ?_
        refine VSt.bk hk21 rfl (by simp) fun w22 hk22 e22 => VSet.i ?_
        refine ⟨(x.kind : Int), (x.shard : Int), (x.store : Int), (x.epoch : Int), gd.i (Rd.of_bk hk22 rfl), VCall.on rfl (VCall.i (Command_spec x w22 hok) ?_)⟩
        rintro e w23 ⟨b23, rfl, hb23, e23⟩
        refine exW.i1 (t := .str) b23 rfl ⟨by rw [strEq, hb23, hxu]; simp, ?_⟩
        exact ((e20.then0 e21).then e22 (fun i hi hlt => by simp at hi; have := e20.size; omega)).then0 e23
    refine VCall.i (Decode_spec u w8 (by omega)) ?_
    rintro e w18 ⟨e18, hdec⟩
    have e18w := e8.then0 e18
    cases hd : decI u.data.toList with
    | none =>
      rw [hd] at hdec
      obtain rfl := hdec
      refine exW.i2 (t := .ptr) (u := .int .i64) none 4 rfl (VSet.i (VCall.off rfl (exW.i1 (t := .str) ByteArray.empty trivial (VIf.f rfl ?_))))
      exact last w18 e18w
    | some c' =>
      rw [hd] at hdec
      obtain ⟨q3, sp3, sd3, rfl, g18⟩ := hdec
      obtain ⟨_, hcu⟩ := enc_dec hd
      refine exW.i2 (t := .ptr) (u := .int .i64) (some ⟨q3, 0, none⟩) 0 rfl (VSet.i (VCall.on rfl (VCall.i (Encode_spec w8 w18 q3 sp3 sd3 c' g18) ?_)))
      rintro e w19 ⟨b19, rfl, hb19, e19⟩
      refine exW.i1 (t := .str) b19 rfl (VIf.f (by rw [strEq, hb19, hcu]; simp) ?_)
      exact last w19 (e18w.then0 e19)
end Go.Proofs.Ytfihhleaciddpaa
