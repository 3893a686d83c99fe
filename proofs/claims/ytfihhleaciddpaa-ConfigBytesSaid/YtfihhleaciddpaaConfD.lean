/-
  Package config: the law of one place; what is written; the law of late commands.
-/
import Derived.Test.YtfihhleaciddpaaConfC
namespace Go.Proofs.Ytfihhleaciddpaa
open Go.RowKit
set_option maxRecDepth 100000

/-- which place a command changes -/
def chg (t : Option Nat) (m : Nat) : Int := match t with | some j => if j < m then 1 else 0 | none => 0
theorem one_round {c : CM} (h : c.ok) (x : Cmd) : ∃ t : Option Nat, (∀ m (hm : m < c.P.length), t ≠ some m → ∃ hm' : m < (c.next x).P.length, (c.next x).P[m] = c.P[m]) ∧ (c.next x).P.length = c.P.length ∧
    (∀ j, t = some j → ∃ p', (∃ hj' : j < (c.next x).P.length, (c.next x).P[j] = p') ∧ Turned c x j p') ∧ ((c.act x).isSome = true → t = none → x.kind = 5 ∨ x.kind = 6) ∧ (t ≠ none → (c.act x).isSome = true) := by
  unfold CM.next
  rcases act_cases h x with ha | ⟨D', ha, hk⟩ | ⟨j, p', ha, ht⟩ <;> rw [ha]
  · exact ⟨none, fun m hm _ => ⟨hm, rfl⟩, rfl, fun j e => (by cases e), fun e => (by cases e), fun e => absurd rfl e⟩
  · exact ⟨none, fun m hm _ => ⟨hm, rfl⟩, rfl, fun j e => (by cases e), fun _ _ => hk, fun e => absurd rfl e⟩
  · refine ⟨some j, fun m hm hne => ⟨by simp; exact hm, ?_⟩, by simp, fun i e => ?_, fun _ e => (by cases e), fun _ => rfl⟩
    · have : j ≠ m := fun e => hne (by rw [e])
      simp [List.getElem_set, this]
    · cases e
      exact ⟨p', ⟨by simp; exact ht.lt, by simp⟩, ht⟩

theorem ConfigOne_law (a b : Int) (s : Sl) (L : List Cmd) (w : World) (h : InR cmR w s L) :
    Calls Try.prog 3 #[.int .i64 a, .int .i64 b, .slice s.base s.len s.cap] w (good w) := by
  refine sh_butterylaw17_ConfigOne_ok _ _ _ _ _ ?_
  unfold sh_butterylaw17_ConfigOne
  have hn := h.len
  refine VCall.i (works_spec w) ?_
  rintro e w1 ⟨rfl, e1⟩
  refine exW.i1 (t := .bool) true rfl (VIf.mk (fun hc => ?_) (fun hc => ?_))
  · refine VCall.i (works_spec w1) ?_
    rintro e w2 ⟨rfl, e2⟩
    exact exW.i1 (t := .bool) true rfl ⟨rfl, e1.then0 e2⟩
  have hL : L.length ≤ 300 := by simp at hc; omega
  have m1 := mod_in a 4 (by omega) (by omega)
  have m2 := mod_in b 5 (by omega) (by omega)
  refine VCall.i (New_ok (a := IntKind.wrap .i64 (1 + (IntKind.wrap .i64 (Int.tmod (IntKind.wrap .u64 a) 4)))) (b := IntKind.wrap .i64 (1 + (IntKind.wrap .i64 (Int.tmod (IntKind.wrap .u64 b) 5)))) ⟨m1.1, m1.2, m2.1, m2.2⟩ w1) ?_
  rintro e w2 ⟨q, t, d, rfl, h2', e2'⟩
  have h2 := h2'.mono (w0 := w) e1.size
  have e2 := e1.then0 e2'
  refine exW.i2 (t := .ptr) (u := .int .i64) (some ⟨q, 0, none⟩) 0 rfl (VSet.i (VIf.f rfl ?_))
  generalize (⟨List.replicate _ _, List.replicate _ _⟩ : CM) = c0 at h2
  refine ⟨fun k i W => ∃ (j : Nat) (c : CM), i = (j : Int) ∧ j ≤ L.length ∧ k = L.length - j ∧ CfgO 52 w W q t d c ∧ Ext [] w W, ⟨_, 0, _, rfl, by omega, rfl, h2, e2⟩, ?_⟩
  rintro k i w4 ⟨j, c, rfl, hj, rfl, h4, e4⟩
  refine VIf.mk (fun hc => ?_) (fun hc => ⟨rfl, e4⟩)
  have hj' : j < L.length := by simp at hc; omega
  refine VCall.i (Places_spec w w4 q t d c h4) ?_
  rintro e w5 ⟨p, rfl, p5, e45⟩
  have e5 := e4.then0 e45
  refine exW.i1 (t := .sl) p rfl ?_
  obtain ⟨ad, had, hrd⟩ := (h.1.ext0 e5).rec_at hj'
  rw [had]
  refine VIx.i (by omega) (by omega) ?_
  refine ⟨((L[j]).kind : Int), ((L[j]).shard : Int), ((L[j]).store : Int), ((L[j]).epoch : Int), hrd, ?_⟩
  refine VCall.i (Do_out L[j] (h4.ext0 e45) e5) ?_
  rintro e w6 ⟨rfl, h6, ea6, e6⟩
  have p6 := p5.ext ea6 (fun y hy hy' => by have := h4.lt y hy'; have := p5.2 y hy; omega)
  refine exW.i1 (t := .bool) _ rfl ?_
  refine VCall.i (Places_spec w w6 q t d _ h6) ?_
  rintro e w7 ⟨n, rfl, n7, e67⟩
  have e7 := e6.then0 e67
  have h7 := h6.ext0 e67
  have p7 := p6.ext0 e67
  refine exW.i1 (t := .sl) n rfl ?_
  obtain ⟨u, hsame, hlenN, hturn, hfive, hsome⟩ := one_round h4.ok L[j]
  have hp4 := h4.ok.p
  have hpl := p7.len
  have hnl := n7.len
  generalize hLx : L[j] = x at *
  refine ⟨fun k ch i W => ∃ m : Nat, i = (m : Int) ∧ m ≤ c.P.length ∧ k = c.P.length - m ∧ ch = chg u m ∧ Ext [] w7 W, ⟨_, 0, rfl, by omega, rfl, by unfold chg; cases u <;> simp, Ext.refl _ _⟩, ?_⟩
  rintro k ch i w8 ⟨m, rfl, hm, rfl, rfl, e78⟩
  have e8 := e7.then0 e78
  refine VIf.mk (fun hc2 => ?_) (fun hc2 => ?_)
  · have hm' : m < c.P.length := by simp at hc2; omega
    have hmn : m < (c.next x).P.length := by omega
    refine ⟨fun ch W => ch = chg u (m + 1) ∧ Ext [] w7 W, ?_, ?_⟩
    · intro w9 hw9
      have e89 := Ext.drew' hw9
      have e79 := e78.then0 e89
      obtain ⟨a1, ha1, hr1⟩ := (p7.ext0 e79).seg.rec_at hm'
      obtain ⟨a2, ha2, hr2⟩ := (n7.ext0 e79).seg.rec_at hmn
      rw [ha1, ha2]
      refine VIx.i (by omega) (by omega) (VLd.i3 _ _ _ hr1 (VIx.i (by omega) (by omega) (VLd.i3 _ _ _ hr2 ?_)))
      by_cases hu : u = some m
      · obtain ⟨p', ⟨_, hp'⟩, ht⟩ := hturn m hu
        obtain ⟨_, t2, t2', t3, t4, t5, t6, t7, t8⟩ := ht
        rw [hp']
        refine VIf.f (by simp; omega) ?_
        have hch : chg u m = 0 := by rw [hu]; unfold chg; simp
        have hch' : chg u (m + 1) = 1 := by rw [hu]; unfold chg; simp
        rw [hch, w64 (n := (0 : Int) + 1) (by omega)]
        refine VSet.i ?_
        intro w10 hw10
        have e910 := Ext.drew' hw10
        have e10 := (e8.then0 e89).then0 e910
        have e710 := e79.then0 e910
        obtain ⟨ad2, had2, hrd2⟩ := (h.1.ext0 e10).rec_at hj'
        obtain rfl : ad2 = ad := by rw [had] at had2; cases had2; rfl
        have hr1 := hr1.ext e910
        have hr2 := hr2.ext e910
        rw [hp'] at hr2
        rw [hLx] at hrd2
        have hIL : ∀ {g : Option Bool} {K : Addr → Prop}, K ad2 → VIx g (some ad2) s.len ((j : Nat) : Int) K := fun k => VIx.i (by omega) (by omega) k
        have hI1 : ∀ {g : Option Bool} {K : Addr → Prop}, K a1 → VIx g (some a1) p.len ((m : Nat) : Int) K := fun k => VIx.i (by omega) (by omega) k
        have hI2 : ∀ {g : Option Bool} {K : Addr → Prop}, K a2 → VIx g (some a2) n.len ((m : Nat) : Int) K := fun k => VIx.i (by omega) (by omega) k
        refine hIL (VLd.i1 _ (hrd2.fld 1 rfl) ?_)
        refine hI2 (VLd.i1 _ (hr2.fld0 rfl) (hI1 (VLd.i1 _ (hr1.fld0 rfl) ?_)))
        refine hIL (VLd.i1 _ (hrd2.fld 3 rfl) (hI1 (VLd.i1 _ (hr1.fld0 rfl) ?_)))
        refine hI2 (VLd.i1 _ (hr2.fld 1 rfl) (hI2 (VLd.i1 _ (hr2.fld 2 rfl) (hI2 (VLd.i1 _ (hr2.fld 1 rfl) ?_)))))
        rw [w64 (n := (c.P[m]).1 + 1) (by omega)]
        refine VIf.f (by simp [t2, t3, t4, t6, t7]) ?_
        intro w11 hw11
        have e1011 := Ext.drew' hw11
        have hr1 := hr1.ext e1011
        have hr2 := hr2.ext e1011
        refine hI2 (VLd.i1 _ (hr2.fld 1 rfl) (hI1 (VLd.i1 _ (hr1.fld 1 rfl) (hI1 (VLd.i1 _ (hr1.fld 1 rfl) ?_)))))
        refine hI1 (VLd.i1 _ (hr1.fld 2 rfl) (hI2 (VLd.i1 _ (hr2.fld 1 rfl) (hI2 (VLd.i1 _ (hr2.fld 2 rfl) ?_)))))
        refine VIf.f ?_ ⟨hch'.symm, e710.then0 e1011⟩
        by_cases g1 : p'.2.1 = (c.P[m]).2.1
        · simp [g1]
        · by_cases g2 : (c.P[m]).2.1 = 0
          · simp [g2]
          · obtain ⟨t9, t10⟩ := t8 g1 g2
            simp [t9, t10]
      · obtain ⟨_, hs⟩ := hsame m hm' hu
        rw [hs]
        refine VIf.t (by simp) ⟨?_, e79⟩
        unfold chg
        cases u with
        | none => rfl
        | some j0 =>
          have : j0 ≠ m := fun e => hu (by rw [e])
          simp only
          by_cases hjm : j0 < m
          · rw [if_pos hjm, if_pos (by omega)]
          · rw [if_neg hjm, if_neg (by omega)]
    · rintro ch w12 ⟨rfl, e712⟩
      rw [w64 (n := (m : Int) + 1) (by omega)]
      exact VSet.i ⟨_, by omega, m + 1, rfl, by omega, rfl, rfl, e712⟩
  · have hmm : m = c.P.length := by simp at hc2; omega
    subst hmm
    obtain ⟨ad2, had2, hrd2⟩ := (h.1.ext0 e8).rec_at hj'
    obtain rfl : ad2 = ad := by rw [had] at had2; cases had2; rfl
    rw [hLx] at hrd2
    refine VIx.i (by omega) (by omega) (VLd.i1 _ (hrd2.fld0 rfl) (VIx.i (by omega) (by omega) (VLd.i1 _ (hrd2.fld0 rfl) ?_)))
    have hcond : (((decide (chg u c.P.length > 1)) || ((chg u c.P.length == 1) && (!(c.act x).isSome))) || ((((c.act x).isSome && (chg u c.P.length == 0)) && (x.kind != 5)) && (x.kind != 6))) = false := by
      cases hu : u with
      | none =>
        have h0 : chg none c.P.length = 0 := rfl
        rw [h0]
        cases ha : (c.act x).isSome with
        | false => simp
        | true => rcases hfive ha hu with hk | hk <;> simp [hk]
      | some j0 =>
        obtain ⟨p', _, ht⟩ := hturn j0 hu
        have h1 : chg (some j0) c.P.length = 1 := by unfold chg; simp [ht.lt]
        rw [h1, hsome (by rw [hu]; simp)]
        simp
    refine VIf.f hcond ?_
    rw [w64 (n := (j : Int) + 1) (by omega)]
    exact VSet.i ⟨_, by omega, j + 1, c.next x, rfl, by omega, rfl, h7.ext0 e78, e8⟩

/-! what is written -/
def encP (P : List Pl) : List UInt8 := P.flatMap fun p => encC p.1 ++ encC p.2.1 ++ encC p.2.2
def encD (D : List Bool) : List UInt8 := D.flatMap fun b => enc (if b then 1 else 0)
def encCfg (c : CM) : List UInt8 := encC c.P.length ++ encC c.D.length ++ encP c.P ++ encD c.D
theorem encP_len (P : List Pl) : (encP P).length ≤ 30 * P.length := by
  induction P with
  | nil => simp [encP]
  | cons p P ih =>
    have h1 := encC_len p.1
    have h2 := encC_len p.2.1
    have h3 := encC_len p.2.2
    unfold encP at ih ⊢
    simp only [List.flatMap_cons, List.length_append, List.length_cons]
    omega
theorem flag_len (b : Bool) : (enc (if b then 1 else 0)).length = 1 := by cases b <;> (rw [enc_small (by simp)]; rfl)
theorem encD_len (D : List Bool) : (encD D).length = D.length := by
  induction D with
  | nil => simp [encD]
  | cons b D ih =>
    have := flag_len b
    unfold encD at ih ⊢
    simp only [List.flatMap_cons, List.length_append, List.length_cons]
    omega
theorem Encode_spec (w0 w : World) (q : Nat) (s d : Sl) (c : CM) (h : CfgO 52 w0 w q s d c) :
    Calls Try.prog 11 #[.pointer (some ⟨q, 0, none⟩)] w fun e w' => ∃ b : ByteArray, e = .returned (.string b) ∧ b.data.toList = encCfg c ∧ Ext [] w w' := by
  refine sh_config_Config_Encode_ok _ _ _ ?_
  unfold sh_config_Config_Encode
  have hpl := h.p.len
  have hdl := h.d.len
  have hp4 := h.ok.p
  have hd5 := h.ok.d
  refine VIf.f rfl ?_
  intro w1 hw1
  have e1 := Ext.drew' hw1
  have h1 := h.ext0 e1
  refine VNN.i (VLd.s s h1.rd0 (VNN.i (VLd.s d h1.rd1 ?_)))
  refine VCall.i (Count_spec ⟨none, 0, 0⟩ [] ((s.len : Nat) : Int) w1 (Seg.nil _ _ _) (by simp)) ?_
  rintro e w2 ⟨b2, rfl, k2, e2⟩
  have h2 := h1.ext0 e2
  have c2 := encC_len ((s.len : Nat) : Int)
  refine exW.i1 (t := .sl) b2 rfl ⟨h2.rd1, ?_⟩
  refine VCall.i (Count_spec b2 _ ((d.len : Nat) : Int) w2 k2.seg (by simp only [List.nil_append]; omega)) ?_
  rintro e w3 ⟨b3, rfl, k3, e3⟩
  have e03 := (e1.then0 e2).then0 e3
  have h3 := h2.ext0 e3
  have c3 := encC_len ((d.len : Nat) : Int)
  refine exW.i1 (t := .sl) b3 rfl (VNN.i (VLd.s s h3.rd0 ?_))
  rw [List.nil_append, hpl, hdl] at k3
  rw [hpl] at c2
  rw [hdl] at c3
  refine ⟨fun k b i W => ∃ m : Nat, i = (m : Int) ∧ m ≤ c.P.length ∧ k = c.P.length - m ∧ Own w W b (encC c.P.length ++ encC c.D.length ++ encP (c.P.take m)) ∧ Ext [] w W, ⟨_, 0, rfl, by omega, rfl, by simpa [encP] using k3.mono (e1.then0 e2).size, e03⟩, ?_⟩
  rintro k b i w4 ⟨m, rfl, hm, rfl, k4, e4⟩
  have h4 := h.ext0 e4
  refine VIf.mk (fun hc => ?_) (fun hc => ?_)
  · have hm' : m < c.P.length := by simp at hc; omega
    obtain ⟨a, ha, hrd⟩ := h4.p.seg.rec_at hm'
    rw [ha]
    refine VIx.i (by omega) (by omega) (VLd.i3 _ _ _ hrd ?_)
    refine VNw.i fun b5 w5 hb5 hk5 e5 => ?_
    refine VSt.bk hk5 rfl (by simp) fun w6 hk6 e6 => ?_
    have e46 : Ext [] w4 w6 := e5.then e6 (fun i hi hlt => by simp at hi; omega)
    intro w7 hw7
    have e67 := Ext.drew' hw7
    have e47 := e46.then0 e67
    have hk7 := hk6.ext e67
    have k7 := k4.ext0 e47
    have hlen := encP_len (c.P.take m)
    have htl : (c.P.take m).length ≤ 4 := by rw [List.length_take]; omega
    have q1 := encC_len (c.P[m]).1
    have q2 := encC_len (c.P[m]).2.1
    have q3 := encC_len (c.P[m]).2.2
    have hbase : (encC c.P.length ++ encC c.D.length ++ encP (c.P.take m)).length ≤ 140 := by simp only [List.length_append]; omega
    refine VLd.i1 _ (Rd.of_bk hk7 rfl) (VLd.i1 _ (Rd.of_bk hk7 rfl) (VLd.i1 _ (Rd.of_bk hk7 rfl) ?_))
    refine VCall.i (Count_spec b _ (c.P[m]).1 w7 k7.seg (by omega)) ?_
    rintro e w8 ⟨b8, rfl, k8, e8⟩
    have hk8 := hk7.ext e8
    refine exW.i1 (t := .sl) b8 rfl ⟨Rd.of_bk hk8 rfl, Rd.of_bk hk8 rfl, ?_⟩
    refine VCall.i (Count_spec b8 _ (c.P[m]).2.1 w8 k8.seg (by rw [List.length_append]; omega)) ?_
    rintro e w9 ⟨b9, rfl, k9, e9⟩
    have hk9 := hk8.ext e9
    refine exW.i1 (t := .sl) b9 rfl ⟨Rd.of_bk hk9 rfl, ?_⟩
    refine VCall.i (Count_spec b9 _ (c.P[m]).2.2 w9 k9.seg (by rw [List.length_append, List.length_append]; omega)) ?_
    rintro e w10 ⟨b10, rfl, k10, e10⟩
    refine exW.i1 (t := .sl) b10 rfl ?_
    rw [w64 (n := (m : Int) + 1) (by omega)]
    have ee := ((e4.then0 e47).then0 e8).then0 e9
    refine ⟨_, by omega, m + 1, rfl, by omega, rfl, ?_, ee.then0 e10⟩
    have hz : encP (c.P.take (m + 1)) = encP (c.P.take m) ++ (encC (c.P[m]).1 ++ encC (c.P[m]).2.1 ++ encC (c.P[m]).2.2) := by
      rw [List.take_succ_eq_append_getElem hm']; unfold encP; rw [List.flatMap_append]; simp
    rw [hz, ← List.append_assoc, ← List.append_assoc, ← List.append_assoc]
    exact k10.mono ee.size
  · have hmm : m = c.P.length := by simp at hc; omega
    subst hmm
    rw [List.take_length] at k4
    have hlen := encP_len c.P
    have q1 := encC_len c.P.length
    have q2 := encC_len c.D.length
    refine VNN.i (VLd.s d h4.rd1 ?_)
    refine ⟨fun k b i W => ∃ m : Nat, i = (m : Int) ∧ m ≤ c.D.length ∧ k = c.D.length - m ∧ Own w W b (encC c.P.length ++ encC c.D.length ++ encP c.P ++ encD (c.D.take m)) ∧ Ext [] w W, ⟨_, 0, rfl, by omega, rfl, by simpa [encD] using k4, e4⟩, ?_⟩
    rintro k b' i w5 ⟨m, rfl, hm', rfl, k5, e5⟩
    have h5 := h.ext0 e5
    refine VIf.mk (fun hc => ?_) (fun hc => ?_)
    · have hm2 : m < c.D.length := by simp at hc; omega
      obtain ⟨a, ha, hrd⟩ := h5.d.seg.rec_at hm2
      rw [ha]
      refine VIx.i (by omega) (by omega) (VLd.i1 _ hrd ?_)
      have hl2 := encD_len (c.D.take m)
      rw [List.length_take] at hl2
      refine VCall.i (Flag_spec b' _ c.D[m] w5 k5.seg (by simp only [List.length_append]; omega)) ?_
      rintro e w6 ⟨b6, rfl, k6, e6⟩
      refine exW.i1 (t := .sl) b6 rfl ?_
      rw [w64 (n := (m : Int) + 1) (by omega)]
      refine ⟨_, by omega, m + 1, rfl, by omega, rfl, ?_, e5.then0 e6⟩
      have hz : encD (c.D.take (m + 1)) = encD (c.D.take m) ++ enc (if c.D[m] then 1 else 0) := by
        rw [List.take_succ_eq_append_getElem hm2]; unfold encD; rw [List.flatMap_append]; simp
      rw [hz, ← List.append_assoc]
      exact k6.mono e5.size
    · have hmm : m = c.D.length := by simp at hc; omega
      subst hmm
      rw [List.take_length] at k5
      exact VStr.i _ k5.seg fun x hx => ⟨x, rfl, hx, e5⟩

/-! late -/
/-- a command that can do nothing more -/
def past (c : CM) (y : Cmd) : Prop := (1 ≤ y.kind ∧ y.kind ≤ 4) ∧ ∃ j : Nat, ∃ h : j < c.P.length, y.shard = (j : Int) ∧ y.epoch < (c.P[j]).1
theorem past_none {c : CM} {y : Cmd} (h : past c y) : c.act y = none := by
  obtain ⟨hk, j, hj, hs, he⟩ := h
  unfold CM.act
  rw [if_neg (by omega), if_neg (by omega)]
  split
  · rfl
  · rw [if_pos]
    left
    unfold place
    rw [hs, Int.toNat_natCast, List.getD_eq_getElem?_getD, List.getElem?_eq_getElem hj]
    simp only [Option.getD_some]
    omega
theorem past_next {c : CM} (h : c.ok) {y : Cmd} (hp : past c y) (x : Cmd) : past (c.next x) y := by
  obtain ⟨hk, j, hj, hs, he⟩ := hp
  obtain ⟨u, hsame, hlen, hturn, _, _⟩ := one_round h x
  refine ⟨hk, j, by omega, hs, ?_⟩
  by_cases hu : u = some j
  · obtain ⟨p', ⟨_, hp'⟩, ht⟩ := hturn j hu
    rw [hp', ht.e]; omega
  · obtain ⟨_, h1⟩ := hsame j hj hu
    rw [h1]; exact he
theorem past_done {c : CM} (h : c.ok) {x : Cmd} (ha : (c.act x).isSome = true) (hk : x.kind < 5) : past (c.next x) x := by
  rcases act_cases h x with hn | ⟨D', hd, hk'⟩ | ⟨j, p', hd, ht⟩
  · rw [hn] at ha; cases ha
  · omega
  · unfold CM.next
    rw [hd]
    refine ⟨ht.kind, j, by simp; exact ht.lt, ht.sh, ?_⟩
    simp [ht.e, ht.xe]; omega
end Go.Proofs.Ytfihhleaciddpaa
