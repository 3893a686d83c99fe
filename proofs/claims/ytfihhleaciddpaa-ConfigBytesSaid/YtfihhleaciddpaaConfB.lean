/-
  Package config: what a command does.
-/
import Derived.Test.YtfihhleaciddpaaConfA
namespace Go.Proofs.Ytfihhleaciddpaa
open Go.RowKit
set_option maxRecDepth 100000

theorem VIL.off {c : Bool} {w : World} {base : Option Addr} {n : Nat} {i : Int} {ad : Addr → Addr} {t : CT} {K : ArrP [t]} (hc : c = false) (x : t.D) (k : K x) : VIx (some c) base n i fun a => VLd (some c) w (ad a) [t] K :=
  ⟨⟨0, 0, none⟩, fun e => absurd (hc.symm.trans e) (by simp), x, fun e => absurd (hc.symm.trans e) (by simp), k⟩
theorem VLd.off1 {c : Bool} {w : World} {a : Addr} {t : CT} {K : ArrP [t]} (hc : c = false) (x : t.D) (k : K x) : VLd (some c) w a [t] K := ⟨x, fun e => absurd (hc.symm.trans e) (by simp), k⟩
theorem VCk.off {c : Bool} {p K : Prop} (hc : c = false) (k : K) : VCk (some c) p K := ⟨fun e => absurd (hc.symm.trans e) (by simp), k⟩

def cmV (x : Cmd) : Value := .agg #[.int .u8 x.kind, .int .i64 x.shard, .int .i64 x.store, .int .i64 x.epoch]
/-- what stands behind a function that changes a place -/
def TurnPost (c : CM) (x : Cmd) (p : Pl) (b : Nat) (w : World) (e : Ending) (w' : World) : Prop :=
  match turn c x p with
  | none => e = .returned (.bool false) ∧ Ext [] w w'
  | some p' => e = .returned (.bool true) ∧ Bk w' b [.int .i64 p.1, .int .i64 p'.2.1, .int .i64 p'.2.2] 35 ∧ Ext [b] w w'

theorem assign_spec (c : CM) (x : Cmd) (p : Pl) (q : Option Addr) (b : Nat) (w : World) (hk : x.kind = 1) (h : Bk w b [.int .i64 p.1, .int .i64 p.2.1, .int .i64 p.2.2] 35) :
    Calls Try.prog 43 #[.pointer q, .pointer (some ⟨b, 0, none⟩), cmV x] w (TurnPost c x p b w) := by
  refine sh_config_Config_assign_ok _ _ _ _ _ _ _ _ ?_
  unfold sh_config_Config_assign
  refine VNw.i fun b1 w1 hb1 hk1 e1 => ?_
  have h1 := h.ext e1
  unfold TurnPost turn
  rw [if_pos hk]
  refine VNN.i (VLd.i1 _ (Rd.of_bk h1 rfl) (VNN.i (VLd.i1 _ (Rd.of_bk h1 rfl) ?_)))
  refine VIf.mk (fun hc => ?_) (fun hc => ?_)
  · rw [if_pos (by simp at hc; omega)]
    exact ⟨rfl, e1⟩
  · rw [if_neg (by simp at hc; omega)]
    refine VLd.i1 _ (Rd.of_bk hk1 rfl) (VNN.i ?_)
    exact VSt.bk h1 rfl (by simp) fun w2 hk2 e2 => ⟨rfl, hk2, (e1.mono (by simp)).then e2 (fun i hi _ => hi)⟩
theorem abandon_spec (c : CM) (x : Cmd) (p : Pl) (q : Option Addr) (b : Nat) (w : World) (hk : x.kind = 4) (h : Bk w b [.int .i64 p.1, .int .i64 p.2.1, .int .i64 p.2.2] 35) :
    Calls Try.prog 46 #[.pointer q, .pointer (some ⟨b, 0, none⟩), cmV x] w (TurnPost c x p b w) := by
  refine sh_config_Config_abandon_ok _ _ _ _ _ _ _ _ ?_
  unfold sh_config_Config_abandon
  refine VNw.i fun b1 w1 hb1 hk1 e1 => ?_
  have h1 := h.ext e1
  unfold TurnPost turn
  rw [if_neg (by omega), if_neg (by omega), if_neg (by omega)]
  refine VNN.i (VLd.i1 _ (Rd.of_bk h1 rfl) ?_)
  refine VIf.mk (fun hc => ?_) (fun hc => ?_)
  · rw [if_pos (by simpa using hc)]
    exact ⟨rfl, e1⟩
  · rw [if_neg (by simpa using hc)]
    refine VNN.i ?_
    exact VSt.bk h1 rfl (by simp) fun w2 hk2 e2 => ⟨rfl, hk2, (e1.mono (by simp)).then e2 (fun i hi _ => hi)⟩
theorem settle_spec (c : CM) (x : Cmd) (p : Pl) (q : Option Addr) (b : Nat) (w : World) (hk : x.kind = 3) (h : Bk w b [.int .i64 p.1, .int .i64 p.2.1, .int .i64 p.2.2] 35) :
    Calls Try.prog 45 #[.pointer q, .pointer (some ⟨b, 0, none⟩), cmV x] w (TurnPost c x p b w) := by
  refine sh_config_Config_settle_ok _ _ _ _ _ _ _ _ ?_
  unfold sh_config_Config_settle
  refine VNw.i fun b1 w1 hb1 hk1 e1 => ?_
  intro w2 hw2
  have e12 := Ext.drew' hw2
  have e2 := e1.then0 e12
  have h2 := h.ext e2
  have hk2 := hk1.ext e12
  unfold TurnPost turn
  rw [if_neg (by omega), if_neg (by omega), if_pos hk]
  refine VNN.i (VLd.i1 _ (Rd.of_bk h2 rfl) (VNN.i (VLd.i1 _ (Rd.of_bk h2 rfl) (VLd.i1 _ (Rd.of_bk hk2 rfl) ?_))))
  refine VIf.mk (fun hc => ?_) (fun hc => ?_)
  · rw [if_pos (by simpa using hc)]
    exact ⟨rfl, e2⟩
  · rw [if_neg (by simpa using hc)]
    refine VLd.i1 _ (Rd.of_bk hk2 rfl) (VNN.i ?_)
    refine VSt.bk h2 rfl (by simp) fun w3 hk3 e3 => VNN.i ?_
    exact VSt.bk hk3 rfl (by simp) fun w4 hk4 e4 => ⟨rfl, hk4, ((e2.mono (by simp)).then e3 (fun i hi _ => hi)).then e4 (fun i hi _ => hi)⟩
theorem isDown_at {c : CM} {x : Cmd} (hs : c.store x) : ∃ h : x.store.toNat - 1 < c.D.length, isDown c x = c.D[x.store.toNat - 1] := by
  unfold CM.store at hs
  have h : x.store.toNat - 1 < c.D.length := by omega
  exact ⟨h, by unfold isDown; rw [List.getD_eq_getElem?_getD, List.getElem?_eq_getElem h]; rfl⟩
theorem move_spec (w0 : World) (c : CM) (x : Cmd) (p : Pl) (q : Nat) (s d : Sl) (b : Nat) (w : World) (hk : x.kind = 2) (h : Bk w b [.int .i64 p.1, .int .i64 p.2.1, .int .i64 p.2.2] 35) (hc : CfgO 52 w0 w q s d c) (hs : c.store x) :
    Calls Try.prog 44 #[.pointer (some ⟨q, 0, none⟩), .pointer (some ⟨b, 0, none⟩), cmV x] w (TurnPost c x p b w) := by
  refine sh_config_Config_move_ok _ _ _ _ _ _ _ _ ?_
  unfold sh_config_Config_move
  refine VNw.i fun b1 w1 hb1 hk1 e1 => ?_
  intro w2 hw2
  have e12 := Ext.drew' hw2
  have e2 := e1.then0 e12
  have h2 := h.ext e2
  have hk2 := hk1.ext e12
  have hc2 := hc.ext0 e2
  obtain ⟨hlt, hdn⟩ := isDown_at hs
  have hs' : 1 ≤ x.store ∧ x.store ≤ (c.D.length : Int) := hs
  have hdl := hc.d.len
  have hd5 := hc.ok.d
  unfold TurnPost turn
  rw [if_neg (by omega), if_pos hk]
  obtain ⟨a, ha, hrd⟩ := hc2.d.seg.rec_at hlt
  refine VNN.i (VLd.i1 _ (Rd.of_bk h2 rfl) (VNN.i (VLd.i1 _ (Rd.of_bk h2 rfl) (VLd.i1 _ (Rd.of_bk hk2 rfl) (VNN.i (VLd.i1 _ (Rd.of_bk h2 rfl) (VNN.i (VLd.s d hc2.rd1 (VLd.i1 _ (Rd.of_bk hk2 rfl) ?_)))))))))
  rw [w64 (n := x.store - 1) (by omega), ha, show Int.toNat (x.store - 1) = x.store.toNat - 1 by omega]
  refine VIx.i (by omega) (by omega) (VLd.i1 _ hrd ?_)
  rw [← hdn]
  refine VIf.mk (fun hcn => ?_) (fun hcn => ?_)
  · have hyes : p.2.1 = 0 ∨ p.2.2 ≠ 0 ∨ x.store = p.2.1 ∨ isDown c x = true := by
      simp at hcn
      rcases hcn with ((h1 | h1) | h1) | h1
      · exact .inl h1
      · exact .inr (.inl h1)
      · exact .inr (.inr (.inl h1))
      · exact .inr (.inr (.inr h1))
    rw [if_pos hyes]
    exact ⟨rfl, e2⟩
  · rw [if_neg (by simp at hcn; simp [hcn])]
    refine VLd.i1 _ (Rd.of_bk hk2 rfl) (VNN.i ?_)
    exact VSt.bk h2 rfl (by simp) fun w3 hk3 e3 => ⟨rfl, hk3, (e2.mono (by simp)).then e3 (fun i hi _ => hi)⟩

theorem Do_spec (w0 w : World) (q : Nat) (s d : Sl) (c : CM) (x : Cmd) (h : CfgO 52 w0 w q s d c) :
    Calls Try.prog 10 #[.pointer (some ⟨q, 0, none⟩), cmV x] w fun e w' => e = .returned (.bool (c.act x).isSome) ∧ CfgO 52 w0 w' q s d (c.next x) ∧ Ext (fpc q s d) w w' := by
  refine sh_config_Config_Do_ok _ _ _ _ _ _ _ ?_
  unfold sh_config_Config_Do
  have hpl := h.p.len
  have hdl := h.d.len
  have hp4 := h.ok.p
  have hd5 := h.ok.d
  have hnext := CM.next_ok h.ok x
  refine VNw.i fun b1 w1 hb1 hk1 e1 => ?_
  have h1 := h.ext0 e1
  refine VLd.i1 _ (Rd.of_bk hk1 rfl) (VLd.i1 _ (Rd.of_bk hk1 rfl) ?_)
  have nothing : ∀ W, Ext [] w W → c.act x = none → ((Ending.returned (.bool false) = .returned (.bool (c.act x).isSome)) ∧ CfgO 52 w0 W q s d (c.next x) ∧ Ext (fpc q s d) w W) := by
    intro W e ha
    unfold CM.next
    rw [ha]
    exact ⟨rfl, h.ext0 e, e.mono (by simp)⟩
  refine VIf.mk (fun hc => ?_) (fun hc => ?_)
  · refine nothing w1 e1 ?_
    unfold CM.act
    rw [if_pos (by simp at hc; omega)]
  have hk16 : ¬ (x.kind < 1 ∨ 6 < x.kind) := by simp at hc; omega
  intro w2 hw2
  have e12 := Ext.drew' hw2
  have e2 := e1.then0 e12
  have hk2 := hk1.ext e12
  have h2 := h.ext0 e2
  refine VLd.i1 _ (Rd.of_bk hk2 rfl) (VLd.i1 _ (Rd.of_bk hk2 rfl) (VNN.i (VLd.s d h2.rd1 (VLd.i1 _ (Rd.of_bk hk2 rfl) ?_))))
  have hstore : ((decide (x.store ≥ 1)) && (decide (x.store ≤ ((d.len : Nat) : Int)))) = decide (c.store x) := by
    rw [show decide (c.store x) = decide (1 ≤ x.store ∧ x.store ≤ (c.D.length : Int)) from decide_eq_decide.2 Iff.rfl, hdl, Bool.eq_iff_iff]; simp
  rw [hstore]
  refine VIf.mk (fun hc5 => ?_) (fun hc5 => ?_)
  · have h5 : 5 ≤ x.kind := by simpa using hc5
    refine VLd.i1 _ (Rd.of_bk hk2 rfl) ?_
    intro w3 hw3
    have e23 := Ext.drew' hw3
    have e3 := e2.then0 e23
    have hk3 := hk2.ext e23
    have h3 := h.ext0 e3
    refine VNN.i (VLd.s d h3.rd1 (VLd.i1 _ (Rd.of_bk hk3 rfl) ?_))
    by_cases hs : c.store x
    · obtain ⟨hlt, hdn⟩ := isDown_at hs
      have hs' : 1 ≤ x.store ∧ x.store ≤ (c.D.length : Int) := hs
      obtain ⟨a, ha, hrd⟩ := h3.d.seg.rec_at hlt
      rw [w64 (n := x.store - 1) (by omega), ha, show Int.toNat (x.store - 1) = x.store.toNat - 1 by omega]
      refine VIx.i (by omega) (by omega) (VLd.i1 _ hrd ?_)
      rw [← hdn]
      refine VIf.mk (fun hcn => ?_) (fun hcn => ?_)
      · refine nothing w3 e3 ?_
        unfold CM.act
        rw [if_neg hk16, if_pos h5, if_pos (by simp [hs] at hcn; exact .inr (by simpa using hcn))]
      · have hne : ¬ (¬ c.store x ∨ isDown c x = (x.kind == 5)) := by
          simp [hs] at hcn
          rintro (h' | h')
          · exact h' hs
          · rw [h'] at hcn; simp at hcn
        have hact : c.act x = some { c with D := c.D.set (x.store.toNat - 1) (x.kind == 5) } := by
          unfold CM.act
          rw [if_neg hk16, if_pos h5, if_neg hne]
        intro w4 hw4
        have e34 := Ext.drew' hw4
        have e4 := e3.then0 e34
        have hk4 := hk3.ext e34
        have h4 := h.ext0 e4
        refine VNN.i (VLd.s d h4.rd1 (VLd.i1 _ (Rd.of_bk hk4 rfl) ?_))
        rw [w64 (n := x.store - 1) (by omega), show x.store - 1 = ((x.store.toNat - 1 : Nat) : Int) by omega, Int.toNat_natCast]
        refine Row.putR (r := blR) (j := 0) (vs := [.bool (x.kind == 5)]) (x := (x.kind == 5)) h4.d.1 hlt (by show 0 + 1 ≤ 1; omega) rfl rfl (fun a => (add_zero _).symm) fun w5 h5' e5 => ?_
        unfold CM.next at hnext ⊢
        rw [hact] at hnext ⊢
        refine ⟨rfl, ⟨h4.bk.ext e5 h4.qd, h4.p.ext e5 h4.pd, ⟨h5', h4.d.2⟩, h.ge, hnext, h.t1, h.t2⟩, (e4.mono (by simp)).then e5 (fun i hi _ => by simp [fpc, hi])⟩
    · refine VIL.off (by simp [hs]) true (VIf.t (by simp [hs]) ?_)
      refine nothing w3 e3 ?_
      unfold CM.act
      rw [if_neg hk16, if_pos h5, if_pos (.inl hs)]
  · have h5 : ¬ 5 ≤ x.kind := by simpa using hc5
    intro w6 hw6
    have e26 := Ext.drew' hw6
    have e6 := e2.then0 e26
    have hk6 := hk2.ext e26
    have h6 := h.ext0 e6
    refine VLd.i1 _ (Rd.of_bk hk6 rfl) (VLd.i1 _ (Rd.of_bk hk6 rfl) (VNN.i (VLd.s s h6.rd0 (VLd.i1 _ (Rd.of_bk hk6 rfl) ?_))))
    refine VIf.mk (fun hcs => ?_) (fun hcs => ?_)
    · refine nothing w6 e6 ?_
      unfold CM.act
      rw [if_neg hk16, if_neg h5, if_pos]
      simp at hcs
      rcases hcs with (h' | h') | h'
      · exact .inl h'
      · exact .inr (.inl (by omega))
      · exact .inr (.inr h')
    · have hsh : ¬ (x.shard < 0 ∨ (c.P.length : Int) ≤ x.shard ∨ (¬ c.store x ∧ x.kind ≠ 4)) := by
        simp at hcs
        rintro (h' | h' | ⟨h', h''⟩)
        · omega
        · omega
        · exact h'' (hcs.2 h')
      obtain ⟨hi, hplc, hokp⟩ := h.ok.at_ (x := x) (by omega) (by omega)
      intro w7 hw7
      have e67 := Ext.drew' hw7
      have e7 := e6.then0 e67
      have hk7 := hk6.ext e67
      have h7 := h.ext0 e7
      obtain ⟨a, ha, hrd⟩ := h7.p.seg.rec_at hi
      rw [← hplc] at hrd
      refine VNN.i (VLd.s s h7.rd0 (VLd.i1 _ (Rd.of_bk hk7 rfl) ?_))
      rw [ha]
      refine VIx.i (by omega) (by omega) (VLd.i3 _ _ _ hrd ?_)
      refine VNw.i fun b8 w8 hb8 hk8 e8 => ?_
      refine ⟨hrd.ext e8, Rd.of_bk (hk7.ext e8) rfl, by rw [← ha]; exact (h7.ext0 e8).rd0, ?_⟩
      refine VSt.bk hk8 rfl (by simp) fun w9 hk9 e9 => ?_
      have e79 : Ext [] w7 w9 := e8.then e9 (fun i hi hlt => by simp at hi; omega)
      intro w10 hw10
      have e910 := Ext.drew' hw10
      have e710 := e79.then0 e910
      have e10 := e7.then0 e710
      have hk10 := hk7.ext e710
      have hp10 : Bk w10 b8 [.int .i64 (place c x).1, .int .i64 (place c x).2.1, .int .i64 (place c x).2.2] 35 := hk9.ext e910
      have h10 := h.ext0 e10
      refine VLd.i1 _ (Rd.of_bk hp10 rfl) (VLd.i1 _ (Rd.of_bk hk10 rfl) (VLd.i1 _ (Rd.of_bk hp10 rfl) (VLd.i1 _ (Rd.of_bk hk10 rfl) ?_)))
      refine ⟨(x.kind : Int), (x.shard : Int), (x.store : Int), (x.epoch : Int), gd.i (Rd.of_bk hk10 rfl), ?_⟩
      by_cases hep : (place c x).1 ≠ x.epoch ∨ 2147483647 ≤ (place c x).1
      · have hg : (!((((place c x).1 : Int) != (x.epoch : Int)) || (decide ((place c x).1 ≥ 2147483647)))) = false := by
          rcases hep with h' | h'
          · simp [h']
          · simp [h']
        refine VCall.off hg ⟨.nilFunc, .nilFunc, .nilFunc, .nilFunc, .nilFunc, trivial, ?_⟩
        refine ⟨fun e => absurd (hg.symm.trans e) (by simp), fun e => absurd (hg.symm.trans e) (by simp), VCk.off hg (VDyn.off hg (exW.i1 (t := .bool) false trivial (VIf.t (by simp) ?_)))⟩
        refine nothing w10 e10 ?_
        unfold CM.act
        rw [if_neg hk16, if_neg h5, if_neg hsh, if_pos hep]
      · have hg : (!((((place c x).1 : Int) != (x.epoch : Int)) || (decide ((place c x).1 ≥ 2147483647)))) = true := by
          have h1 : (place c x).1 = x.epoch := Decidable.byContradiction fun h' => hep (.inl h')
          have h2 : (place c x).1 < 2147483647 := by omega
          simp; omega
        refine VCall.on hg (VCall.i (changes_spec w10) ?_)
        rintro e w11 ⟨rfl, e1011⟩
        have e11 := e10.then0 e1011
        have h11 := h.ext0 e11
        have hk11 := hk10.ext e1011
        have hp11 := hp10.ext e1011
        refine ⟨_, _, _, _, _, rfl, ?_⟩
        refine ⟨fun _ => Rd.of_bk hk11 rfl, fun _ => Rd.of_bk hk11 rfl, VCk.i (by omega) (VDyn.on hg ?_)⟩
        -- whichever it is
        have hmain : VDyn none Try.prog (Array.getD #[.nilFunc, .func (.func 43) #[] #[], .func (.func 44) #[] #[], .func (.func 45) #[] #[], .func (.func 46) #[] #[]] (Int.toNat x.kind) undef) #[.pointer (some ⟨q, 0, none⟩), .pointer (some ⟨b8, 0, none⟩), cmV x] w11 (.bool false) fun (r : Bool) W => ∃ e, e = Ending.returned (.bool r) ∧ TurnPost c x (place c x) b8 w11 e W := by
          have hk : x.kind = 1 ∨ x.kind = 2 ∨ x.kind = 3 ∨ x.kind = 4 := by omega
          have out : ∀ f, callee Try.prog f = true → Calls Try.prog f #[.pointer (some ⟨q, 0, none⟩), .pointer (some ⟨b8, 0, none⟩), cmV x] w11 (TurnPost c x (place c x) b8 w11) →
              VDyn none Try.prog (.func (.func f) #[] #[]) #[.pointer (some ⟨q, 0, none⟩), .pointer (some ⟨b8, 0, none⟩), cmV x] w11 (.bool false) fun (r : Bool) W => ∃ e, e = Ending.returned (.bool r) ∧ TurnPost c x (place c x) b8 w11 e W := by
            intro f hf hcall
            refine VDyn.i hf (VCall.i hcall ?_)
            intro e W hp
            have hp' := hp
            unfold TurnPost at hp'
            split at hp'
            · exact exW.i1 (t := .bool) false hp'.1 ⟨_, hp'.1, hp⟩
            · exact exW.i1 (t := .bool) true hp'.1 ⟨_, hp'.1, hp⟩
          rcases hk with hk | hk | hk | hk <;> rw [hk]
          · exact out _ (by kernel_rfl) (assign_spec c x _ _ b8 w11 hk hp11)
          · exact out _ (by kernel_rfl) (move_spec w0 c x _ q s d b8 w11 hk hp11 h11 (Decidable.byContradiction fun hs => hsh (.inr (.inr ⟨hs, by omega⟩))))
          · exact out _ (by kernel_rfl) (settle_spec c x _ _ b8 w11 hk hp11)
          · exact out _ (by kernel_rfl) (abandon_spec c x _ _ b8 w11 hk hp11)
        obtain ⟨n, fst, cap, hv, hcl, hcall⟩ := hmain
        refine ⟨n, fst, cap, hv, hcl, ?_⟩
        refine VCall.i hcall ?_
        rintro e w12 ⟨r, hr, e', he', hp⟩
        subst he'
        refine exW.i1 (t := .bool) r hr ?_
        rw [show ((((place c x).1 : Int) != (x.epoch : Int)) || (decide ((place c x).1 ≥ 2147483647))) = false by simpa using hg]
        unfold TurnPost at hp
        cases ht : turn c x (place c x) with
        | none =>
          rw [ht] at hp
          obtain ⟨hr', e12'⟩ := hp
          obtain rfl : r = false := by injection hr' with h; injection h
          refine VIf.t rfl (nothing w12 (e11.then0 e12') ?_)
          unfold CM.act
          rw [if_neg hk16, if_neg h5, if_neg hsh, if_neg hep, ht]; rfl
        | some p' =>
          rw [ht] at hp
          obtain ⟨hr', hp12, e12'⟩ := hp
          obtain rfl : r = true := by injection hr' with h; injection h
          have hact : c.act x = some { c with P := c.P.set x.shard.toNat p' } := by
            unfold CM.act
            rw [if_neg hk16, if_neg h5, if_neg hsh, if_neg hep, ht]; rfl
          have hp1 : p'.1 = (place c x).1 + 1 := by
            unfold turn at ht
            split at ht
            · split at ht <;> cases ht; rfl
            · split at ht
              · split at ht <;> cases ht; rfl
              · split at ht
                · split at ht <;> cases ht; rfl
                · split at ht <;> cases ht; rfl
          have hb8 : ∀ y ∈ fpc q s d, y ≠ b8 := fun y hy e => by have := h7.lt y hy; omega
          have h12 : CfgO 52 w0 w12 q s d c := h11.ext e12' (fun y hy hy' => by simp at hy'; exact hb8 y hy hy')
          have hk12 := hk11.ext e12' (by simp; have := hk7.lt; omega)
          refine VIf.f rfl (VLd.i1 _ (Rd.of_bk hp12 rfl) ?_)
          obtain ⟨_, o1, o2, _⟩ := hokp
          rw [w64 (n := (place c x).1 + 1) (by omega)]
          refine VSt.bk hp12 rfl (by simp) fun w13 hp13 e13 => ?_
          intro w14 hw14
          have e1314 := Ext.drew' hw14
          have e1214 : Ext [b8] w12 w14 := e13.then0 e1314
          have hp14 : Bk w14 b8 [.int .i64 p'.1, .int .i64 p'.2.1, .int .i64 p'.2.2] 35 := by rw [hp1]; exact hp13.ext e1314
          have h14 := h12.ext e1214 (fun y hy hy' => by simp at hy'; exact hb8 y hy hy')
          have hk14 := hk12.ext e1214 (by simp; have := hk7.lt; omega)
          refine VNN.i (VLd.s s h14.rd0 (VLd.i1 _ (Rd.of_bk hk14 rfl) (VLd.i3 _ _ _ (Rd.of_bk hp14 rfl) ?_)))
          rw [show x.shard = ((x.shard.toNat : Nat) : Int) by omega, Int.toNat_natCast]
          refine Row.putR (r := plR) (j := 0) (vs := plR.f p') (x := p') h14.p.1 hi (by show 0 + 3 ≤ 3; omega) rfl rfl (fun a => (add_zero _).symm) fun w15 h15 e15 => ?_
          unfold CM.next at hnext ⊢
          rw [hact] at hnext ⊢
          have e12w : Ext [] w w12 := e11.then e12' (fun i hi hlt => by simp at hi; have := e7.size; omega)
          have e14w : Ext [] w w14 := e12w.then e1214 (fun i hi hlt => by simp at hi; have := e7.size; omega)
          refine ⟨rfl, ⟨h14.bk.ext e15 h14.qp, ⟨h15, h14.p.2⟩, h14.d.ext e15 (fun y hy hy' => h14.pd y hy' hy), h.ge, hnext, h.t1, h.t2⟩, (e14w.mono (by simp)).then e15 (fun i hi _ => by simp [fpc, hi])⟩
end Go.Proofs.Ytfihhleaciddpaa
