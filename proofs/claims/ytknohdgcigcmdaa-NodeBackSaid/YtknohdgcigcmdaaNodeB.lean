/-
  Package node: searches (printed by gen_ix.py); which nodes may be.
-/
import Derived.Test.YtknohdgcigcmdaaNodeA
namespace Go.Proofs.Ytknohdgcigcmdaa
open Go.RowKit
set_option maxRecDepth 100000

def u8R : Rec UInt8 := ⟨fun x => [.int .u8 ((x.toNat : Nat) : Int)], 1, fun _ => rfl, fun _ => rfl, by omega⟩
theorem u8_cells (l : List UInt8) : u8R.cells l = bc l := by
  unfold Rec.cells bc
  induction l with
  | nil => rfl
  | cons x l ih => rw [List.flatMap_cons, List.map_cons, ih]; rfl
theorem In.u8 {w : World} {s : Sl} {l : List UInt8} (h : In w s l) : InR u8R w s l := ⟨by rw [u8_cells]; exact h.1, h.2⟩
theorem any_ix {α : Type} {p : α → Bool} {L : List α} {i : Nat} (hi : i ≤ L.length) (hno : ∀ j (hj : j < L.length), j < i → p L[j] = false) (hyes : ∀ hi : i < L.length, p L[i] = true) : decide ((if i < L.length then (i : Int) else -1) ≥ 0) = L.any p := by
  by_cases h : i < L.length
  · rw [if_pos h]
    have : L.any p = true := List.any_eq_true.2 ⟨L[i], List.getElem_mem h, hyes h⟩
    rw [this]
    simp
  · rw [if_neg h]
    have : L.any p = false := by
      rw [List.any_eq_false]
      intro x hx
      obtain ⟨j, hj, rfl⟩ := List.mem_iff_getElem.1 hx
      rw [hno j hj (by omega)]
      simp
    rw [this]
    rfl
theorem IxC_spec (f : Value) (p : Ce → Bool) (s : Sl) (L : List Ce) (w : World) (h : InR ceR w s L)
    (ask : ∀ (x : Ce) (W : World), Ext [] w W → ∀ K : Bool → World → Prop, (∀ W', Ext [] W W' → K (p x) W') → VDyn none Try.prog f #[.agg (ceC x).toArray] W (.bool false) fun (r : Bool) (W' : World) => K r W') :
    Calls Try.prog 30 #[.slice s.base s.len s.cap, f] w fun e w' =>
      ∃ i : Nat, i ≤ L.length ∧ (∀ j (hj : j < L.length), j < i → p L[j] = false) ∧ (∀ hi : i < L.length, p L[i] = true) ∧ e = .returned (.int .i64 (if i < L.length then (i : Int) else -1)) ∧ Ext [] w w' := by
  refine sh_slices_IndexFunc_ok _ _ _ _ ?_
  unfold sh_slices_IndexFunc
  have hl := h.1.rlen
  have hcap := h.2
  rw [hl]
  refine ⟨fun k i W => ∃ m : Nat, i = (m : Int) ∧ m ≤ L.length ∧ k = L.length - m ∧ (∀ j (hj : j < L.length), j < m → p L[j] = false) ∧ Ext [] w W, ⟨_, 0, rfl, by omega, rfl, fun j hj h0 => by omega, Ext.refl _ _⟩, ?_⟩
  rintro k i w1 ⟨m, rfl, hm, rfl, hno, e1⟩
  refine VIf.mk (fun hc => ?_) (fun hc => ?_)
  · have hm' : m < L.length := by simp at hc; omega
    have h1 := h.1.ext0 e1
    rw [hl] at h1
    refine VSet.i (VIx.i' (r := ceR) h1 hm' fun a hr => VLd.ce (L[m]) hr ?_)
    refine ask (L[m]) w1 e1 _ fun w2 e2 => VIf.mk (fun hd => ?_) (fun hd => ?_)
    · exact VSet.i ⟨m, hm, hno, fun _ => hd, by rw [if_pos hm'], e1.then0 e2⟩
    · refine ⟨_, (show L.length - (m + 1) < L.length - m by omega), m + 1, w64 (n := (m : Int) + 1) (by omega), by omega, rfl, fun j hj hlt => ?_, e1.then0 e2⟩
      by_cases hjm : j < m
      · exact hno j hj hjm
      · obtain rfl : j = m := by omega
        exact hd
  · have hmm : m = L.length := by simp at hc; omega
    exact ⟨m, hm, hno, fun hi => by omega, by rw [if_neg (by omega)], e1⟩
theorem IxI_spec (f : Value) (p : Int → Bool) (s : Sl) (L : List Int) (w : World) (h : InR itR w s L)
    (ask : ∀ (x : Int) (W : World), Ext [] w W → ∀ K : Bool → World → Prop, (∀ W', Ext [] W W' → K (p x) W') → VDyn none Try.prog f #[.int .i64 x] W (.bool false) fun (r : Bool) (W' : World) => K r W') :
    Calls Try.prog 70 #[.slice s.base s.len s.cap, f] w fun e w' =>
      ∃ i : Nat, i ≤ L.length ∧ (∀ j (hj : j < L.length), j < i → p L[j] = false) ∧ (∀ hi : i < L.length, p L[i] = true) ∧ e = .returned (.int .i64 (if i < L.length then (i : Int) else -1)) ∧ Ext [] w w' := by
  refine sh_slices_IndexFunc'_ok _ _ _ _ ?_
  unfold sh_slices_IndexFunc'
  have hl := h.1.rlen
  have hcap := h.2
  rw [hl]
  refine ⟨fun k i W => ∃ m : Nat, i = (m : Int) ∧ m ≤ L.length ∧ k = L.length - m ∧ (∀ j (hj : j < L.length), j < m → p L[j] = false) ∧ Ext [] w W, ⟨_, 0, rfl, by omega, rfl, fun j hj h0 => by omega, Ext.refl _ _⟩, ?_⟩
  rintro k i w1 ⟨m, rfl, hm, rfl, hno, e1⟩
  refine VIf.mk (fun hc => ?_) (fun hc => ?_)
  · have hm' : m < L.length := by simp at hc; omega
    have h1 := h.1.ext0 e1
    rw [hl] at h1
    refine VSet.i (VIx.i' (r := itR) h1 hm' fun a hr => VLd.i1 (t := .int .i64) (L[m]) hr ?_)
    refine ask (L[m]) w1 e1 _ fun w2 e2 => VIf.mk (fun hd => ?_) (fun hd => ?_)
    · exact VSet.i ⟨m, hm, hno, fun _ => hd, by rw [if_pos hm'], e1.then0 e2⟩
    · refine ⟨_, (show L.length - (m + 1) < L.length - m by omega), m + 1, w64 (n := (m : Int) + 1) (by omega), by omega, rfl, fun j hj hlt => ?_, e1.then0 e2⟩
      by_cases hjm : j < m
      · exact hno j hj hjm
      · obtain rfl : j = m := by omega
        exact hd
  · have hmm : m = L.length := by simp at hc; omega
    exact ⟨m, hm, hno, fun hi => by omega, by rw [if_neg (by omega)], e1⟩
theorem HasI_spec (f : Value) (p : Int → Bool) (s : Sl) (L : List Int) (w : World) (h : InR itR w s L)
    (ask : ∀ (x : Int) (W : World), Ext [] w W → ∀ K : Bool → World → Prop, (∀ W', Ext [] W W' → K (p x) W') → VDyn none Try.prog f #[.int .i64 x] W (.bool false) fun (r : Bool) (W' : World) => K r W') :
    Calls Try.prog 42 #[.slice s.base s.len s.cap, f] w fun e w' => e = .returned (.bool (L.any p)) ∧ Ext [] w w' := by
  refine sh_slices_ContainsFunc_ok _ _ _ _ ?_
  unfold sh_slices_ContainsFunc
  refine VCall.i (IxI_spec f p s L w h ask) ?_
  rintro e w1 ⟨i, hi, hno, hyes, rfl, e1⟩
  exact exW.i1 (t := .int .i64) _ rfl ⟨by rw [any_ix hi hno hyes], e1⟩
theorem IxB_spec (f : Value) (p : UInt8 → Bool) (s : Sl) (L : List UInt8) (w : World) (h : InR u8R w s L)
    (ask : ∀ (x : UInt8) (W : World), Ext [] w W → ∀ K : Bool → World → Prop, (∀ W', Ext [] W W' → K (p x) W') → VDyn none Try.prog f #[.int .u8 ((x.toNat : Nat) : Int)] W (.bool false) fun (r : Bool) (W' : World) => K r W') :
    Calls Try.prog 79 #[.slice s.base s.len s.cap, f] w fun e w' =>
      ∃ i : Nat, i ≤ L.length ∧ (∀ j (hj : j < L.length), j < i → p L[j] = false) ∧ (∀ hi : i < L.length, p L[i] = true) ∧ e = .returned (.int .i64 (if i < L.length then (i : Int) else -1)) ∧ Ext [] w w' := by
  refine sh_slices_IndexFunc''_ok _ _ _ _ ?_
  unfold sh_slices_IndexFunc''
  have hl := h.1.rlen
  have hcap := h.2
  rw [hl]
  refine ⟨fun k i W => ∃ m : Nat, i = (m : Int) ∧ m ≤ L.length ∧ k = L.length - m ∧ (∀ j (hj : j < L.length), j < m → p L[j] = false) ∧ Ext [] w W, ⟨_, 0, rfl, by omega, rfl, fun j hj h0 => by omega, Ext.refl _ _⟩, ?_⟩
  rintro k i w1 ⟨m, rfl, hm, rfl, hno, e1⟩
  refine VIf.mk (fun hc => ?_) (fun hc => ?_)
  · have hm' : m < L.length := by simp at hc; omega
    have h1 := h.1.ext0 e1
    rw [hl] at h1
    refine VSet.i (VIx.i' (r := u8R) h1 hm' fun a hr => VLd.i1 (t := .int .u8) (((L[m]).toNat : Nat) : Int) hr ?_)
    refine ask (L[m]) w1 e1 _ fun w2 e2 => VIf.mk (fun hd => ?_) (fun hd => ?_)
    · exact VSet.i ⟨m, hm, hno, fun _ => hd, by rw [if_pos hm'], e1.then0 e2⟩
    · refine ⟨_, (show L.length - (m + 1) < L.length - m by omega), m + 1, w64 (n := (m : Int) + 1) (by omega), by omega, rfl, fun j hj hlt => ?_, e1.then0 e2⟩
      by_cases hjm : j < m
      · exact hno j hj hjm
      · obtain rfl : j = m := by omega
        exact hd
  · have hmm : m = L.length := by simp at hc; omega
    exact ⟨m, hm, hno, fun hi => by omega, by rw [if_neg (by omega)], e1⟩
theorem HasB_spec (f : Value) (p : UInt8 → Bool) (s : Sl) (L : List UInt8) (w : World) (h : InR u8R w s L)
    (ask : ∀ (x : UInt8) (W : World), Ext [] w W → ∀ K : Bool → World → Prop, (∀ W', Ext [] W W' → K (p x) W') → VDyn none Try.prog f #[.int .u8 ((x.toNat : Nat) : Int)] W (.bool false) fun (r : Bool) (W' : World) => K r W') :
    Calls Try.prog 58 #[.slice s.base s.len s.cap, f] w fun e w' => e = .returned (.bool (L.any p)) ∧ Ext [] w w' := by
  refine sh_slices_ContainsFunc'_ok _ _ _ _ ?_
  unfold sh_slices_ContainsFunc'
  refine VCall.i (IxB_spec f p s L w h ask) ?_
  rintro e w1 ⟨i, hi, hno, hyes, rfl, e1⟩
  exact exW.i1 (t := .int .i64) _ rfl ⟨by rw [any_ix hi hno hyes], e1⟩

def kidOk (k : Int) : Bool := (decide (k ≥ 0)) && (decide (k ≤ 2147483647))
theorem askKid {w : World} (x : Int) {K : Bool → World → Prop} (k : ∀ w', Ext [] w w' → K (!kidOk x) w') :
    VDyn none Try.prog (.func (.func 43) #[] #[]) #[.int .i64 x] w (.bool false) fun (r : Bool) (w' : World) => K r w' := by
  refine VDyn.i (by kernel_rfl) (VCall.i (R0 := fun e w' => e = .returned (.bool (!kidOk x)) ∧ Ext [] w w') ?_ ?_)
  · refine sh_node_Check_1_ok _ _ _ ?_
    unfold sh_node_Check_1
    exact VCall.pure (count_pure _ _ _) (exW.i1 (t := .bool) _ rfl ⟨rfl, Ext.refl _ _⟩)
  rintro e w' ⟨rfl, e'⟩
  exact exW.i1 (t := .bool) _ rfl (k w' e')
def stepC (leaf : Bool) (cs : List Ce) (m : Nat) : Bool := mayC leaf (cs.getD m zCe) && (decide (m = 0) || ltB (cs.getD (m - 1) zCe).key (cs.getD m zCe).key)
def okC (leaf : Bool) (cs : List Ce) : Bool := (List.range cs.length).all (stepC leaf cs)
def okN (n : Nd) : Bool := okC n.leaf n.cs && (decide (n.ks.length = if n.leaf then 0 else n.cs.length + 1) && n.ks.all kidOk)
theorem okC_no {leaf : Bool} {cs : List Ce} {m : Nat} (h : m < cs.length) (hs : stepC leaf cs m = false) : okC leaf cs = false := by
  unfold okC
  rw [List.all_eq_false]
  exact ⟨m, List.mem_range.2 h, by rw [hs]; simp⟩
theorem okC_yes {leaf : Bool} {cs : List Ce} (h : ∀ j, j < cs.length → stepC leaf cs j = true) : okC leaf cs = true := by
  unfold okC
  rw [List.all_eq_true]
  intro j hj
  exact h j (List.mem_range.1 hj)
theorem getD_at {α : Type} {L : List α} {m : Nat} (h : m < L.length) (d : α) : L.getD m d = L[m] := by rw [List.getD_eq_getElem?_getD, List.getElem?_eq_getElem h]; rfl
theorem Check_spec (c k : Sl) (n : Nd) (w : World) (h : NIn w c k n) (hsm : n.cs.length ≤ 1000000) : Calls Try.prog 20 #[.agg (nhC n.leaf c k).toArray] w fun e w' => e = .returned (.bool (okN n)) ∧ Ext [] w w' := by
  refine sh_node_Check_ok _ _ _ _ _ ?_
  unfold sh_node_Check
  have hl := h.ci.1.rlen
  have hkl := h.ki.1.rlen
  have hcap := h.ci.2
  have hcapk := h.ki.2
  refine VNw.i fun nb w1 hnb hk1 e1 => ?_
  have hk1 : Bk w1 nb (nhC n.leaf c k) 30 := hk1
  refine VLd.s c (Rd.of_bk hk1 rfl) ?_
  refine ⟨fun kk i W => ∃ m : Nat, i = (m : Int) ∧ m ≤ n.cs.length ∧ kk = n.cs.length - m ∧ (∀ j, j < m → stepC n.leaf n.cs j = true) ∧ Bk W nb (nhC n.leaf c k) 30 ∧ Ext [] w W, ⟨_, 0, rfl, by omega, rfl, fun j hj => absurd hj (by omega), hk1, e1⟩, ?_⟩
  rintro kk i w2 ⟨m, rfl, hm, rfl, hall, hk2, e2⟩
  refine VIf.mk (fun hd => ?_) (fun hd => ?_)
  · have hm' : m < n.cs.length := by rw [hl] at hd; simp at hd; omega
    have h2 := h.ext0 e2
    refine VIx.i' (r := ceR) h2.ci.1 hm' fun a hr => VLd.ce (n.cs[m]) hr ?_
    refine VNw.i fun cb w3 hcb hk3 e3 => VSet.i (VSt.bk hk3 rfl (by simp) fun w4 hk4 e4 => ?_)
    have hk4 : Bk w4 cb (ceC n.cs[m]) 48 := hk4
    have e24 : Ext [] w2 w4 := e3.then e4 (fun i hi hlt => by simp at hi; omega)
    intro w5 hw5
    have ed := Ext.drew' hw5
    have e25 := e24.then0 ed
    have hk5 := hk4.ext ed
    have hn5 := hk2.ext e25
    refine VLd.ce (n.cs[m]) (Rd.of_bk hk5 rfl) (VLd.i1 (t := .bool) n.leaf (Rd.of_bk hn5 rfl) ?_)
    refine VCall.i (may_spec (n.cs[m]) n.leaf w5) ?_
    rintro e w6 ⟨rfl, e6⟩
    refine exW.i1 (t := .bool) _ rfl ?_
    have e26 := e25.then0 e6
    have hn6 := hn5.ext e6
    have hk6 := hk5.ext e6
    have e06 := e2.then0 e26
    have h6 := h.ext0 e06
    refine VLd.s c (Rd.of_bk hn6 rfl) ?_
    have hst : stepC n.leaf n.cs m = (mayC n.leaf n.cs[m] && (decide (m = 0) || ltB (n.cs.getD (m - 1) zCe).key (n.cs[m]).key)) := by unfold stepC; rw [getD_at hm']
    by_cases hm0 : m = 0
    · subst hm0
      refine VIx.off (by simp) fun a2 => VLd.off1 (by simp) ByteArray.empty (VLd.i1 (t := .str) (n.cs[0]).key (Rd.of_bk hk6 rfl) (VIf.mk (fun hq => ⟨?_, e06⟩) (fun hq => ?_)))
      · have hq : mayC n.leaf n.cs[0] = false := by simpa using hq
        unfold okN
        rw [okC_no hm' (by rw [hst, hq]; rfl)]; rfl
      · have hq : mayC n.leaf n.cs[0] = true := by simpa using hq
        refine ⟨_, (show n.cs.length - (0 + 1) < n.cs.length - 0 by omega), 0 + 1, rfl, by omega, rfl, fun j hj => ?_, hn6, e06⟩
        obtain rfl : j = 0 := by omega
        rw [hst, hq]; rfl
    · have hm1 : m - 1 < n.cs.length := by omega
      have hw : IntKind.wrap .i64 ((m : Int) - 1) = ((m - 1 : Nat) : Int) := by rw [w64 (by omega)]; omega
      rw [hw]
      refine VIx.i' (r := ceR) h6.ci.1 hm1 fun a2 hr2 => VLd.i1 (t := .str) (n.cs[m - 1]).key (hr2.fld0 rfl) (VLd.i1 (t := .str) (n.cs[m]).key (Rd.of_bk hk6 rfl) ?_)
      have hcond : ((!(mayC n.leaf n.cs[m])) || ((decide ((m : Int) > 0)) && (!(Op.bytesLess (n.cs[m - 1]).key.toList (n.cs[m]).key.toList)))) = !(stepC n.leaf n.cs m) := by
        rw [hst, getD_at hm1]
        have h1 : decide ((m : Int) > 0) = true := by simp; omega
        have h2 : decide (m = 0) = false := by simp; exact hm0
        rw [h1, h2]
        show _ = !(mayC n.leaf n.cs[m] && (false || Op.bytesLess (n.cs[m - 1]).key.toList (n.cs[m]).key.toList))
        cases mayC n.leaf n.cs[m] <;> cases Op.bytesLess (n.cs[m - 1]).key.toList (n.cs[m]).key.toList <;> rfl
      refine VIf.mk (fun hq => ⟨?_, e06⟩) (fun hq => ?_)
      · have hq : stepC n.leaf n.cs m = false := by simpa using hcond.symm.trans hq
        unfold okN
        rw [okC_no hm' hq]; rfl
      · have hq : stepC n.leaf n.cs m = true := by simpa using hcond.symm.trans hq
        refine ⟨_, (show n.cs.length - (m + 1) < n.cs.length - m by omega), m + 1, w64 (n := (m : Int) + 1) (by omega), by omega, rfl, fun j hj => ?_, hn6, e06⟩
        by_cases hjm : j = m
        · subst hjm; exact hq
        · exact hall j (by omega)
  have hmm : m = n.cs.length := by rw [hl] at hd; simp at hd; omega
  subst hmm
  have hok := okC_yes hall
  have h2 := h.ext0 e2
  refine VLd.s c (Rd.of_bk hk2 rfl) (VSet.i ?_)
  rw [hl, w64 (n := ((n.cs.length : Nat) : Int) + 1) (by omega)]
  refine ⟨fun x W => x = ((if n.leaf then 0 else n.cs.length + 1 : Nat) : Int) ∧ W = w2, ?_, ?_⟩
  · refine VLd.i1 (t := .bool) n.leaf (Rd.of_bk hk2 rfl) (VIf.mk (fun hq => ⟨by rw [hq]; rfl, rfl⟩) (fun hq => ⟨by rw [hq]; rfl, rfl⟩))
  rintro x w7 ⟨rfl, rfl⟩
  refine VLd.s k (Rd.of_bk hk2 rfl) (VLd.s k (Rd.of_bk hk2 rfl) ?_)
  rw [hkl]
  have hb : (((n.ks.length : Nat) : Int) == ((if n.leaf then 0 else n.cs.length + 1 : Nat) : Int)) = decide (n.ks.length = if n.leaf then 0 else n.cs.length + 1) := by
    rw [Bool.eq_iff_iff, beq_iff_eq, decide_eq_true_eq]; omega
  rw [hb]
  have hall2 : (!(n.ks.any fun x => !kidOk x)) = n.ks.all kidOk := by
    rw [List.any_eq_not_all_not]
    simp
  unfold okN
  rw [hok, Bool.true_and, ← hall2]
  cases hdd : decide (n.ks.length = if n.leaf then 0 else n.cs.length + 1) with
  | false => exact VCall.off rfl (exW.i1 (t := .bool) false trivial ⟨rfl, e2⟩)
  | true =>
    have hki := h2.ki
    rw [← hkl]
    refine VCall.on rfl (VCall.i (HasI_spec _ (fun x => !kidOk x) k n.ks w7 hki (fun x W e K kk => askKid x kk)) ?_)
    rintro e w8 ⟨rfl, e8⟩
    exact exW.i1 (t := .bool) _ rfl ⟨rfl, e2.then0 e8⟩
end Go.Proofs.Ytknohdgcigcmdaa
