/-
  Package msg: the same numbers, pairs, last writes, entries.
-/
import Derived.Test.YtodcdfelbphajaaMsgA
namespace Go.Proofs.Ytodcdfelbphajaa
open Go.RowKit
set_option maxRecDepth 100000

abbrev Pr := ByteArray × ByteArray
def prR : Rec Pr := ⟨fun p => [.string p.1, .string p.2], 2, fun _ => rfl, fun _ => rfl, by omega⟩
abbrev Ls := Int × Int × Int × Bool × ByteArray
def lsR : Rec Ls := ⟨fun x => [.int .i64 x.1, .int .i64 x.2.1, .int .u8 x.2.2.1, .bool x.2.2.2.1, .string x.2.2.2.2], 5, fun _ => rfl, fun _ => rfl, by omega⟩
def intR : Rec Int := ⟨fun n => [.int .i64 n], 1, fun _ => rfl, fun _ => rfl, by omega⟩
/-- an entry, and an entry in memory -/
abbrev En := Int × Int × ByteArray × List Int
abbrev EnV := Int × Int × ByteArray × Sl
def enR : Rec EnV := ⟨fun x => [.int .i64 x.1, .int .u8 x.2.1, .string x.2.2.1, .slice x.2.2.2.base x.2.2.2.len x.2.2.2.cap], 4, fun _ => rfl, fun _ => rfl, by omega⟩
abbrev EX := EnV × List Int
def EX.en (x : EX) : En := (x.1.1, x.1.2.1, x.1.2.2.1, x.2)
def ens (X : List EX) : List En := X.map EX.en
structure EsIn (w : World) (s : Sl) (X : List EX) : Prop where
  row : InR enR w s (X.map (·.1))
  all : ∀ x ∈ X, InR intR w x.1.2.2.2 x.2
theorem EsIn.ext0 {w w' : World} {s : Sl} {X : List EX} (h : EsIn w s X) (e : Ext [] w w') : EsIn w' s X := ⟨h.row.ext0 e, fun x hx => (h.all x hx).ext0 e⟩
theorem EsIn.len {w : World} {s : Sl} {X : List EX} (h : EsIn w s X) : s.len = X.length := by rw [h.row.len, List.length_map]
theorem ba_beq (a b : ByteArray) : (a.toList == b.toList) = decide (a = b) := by
  by_cases h : a = b
  · subst h; simp
  · have : a.toList ≠ b.toList := fun e => h (by
      rw [ByteArray.toList_eq, ByteArray.toList_eq] at e
      obtain ⟨⟨x⟩⟩ := a
      obtain ⟨⟨y⟩⟩ := b
      simp at e
      rw [e])
    rw [decide_eq_false h]; simpa using this
theorem VIx.rec {α : Type} {r : Rec α} {g : Option Bool} {w : World} {base : Option Addr} {n j : Nat} {i : Int} {L : List α} {K : Addr → Prop} (h : Seg w base n r.k (r.cells L)) (hi : j < L.length) (hj : i = (j : Int)) (k : ∀ a, Rd w (a.add (j * r.k)) (r.f L[j]) → K a) : VIx g base n i K := by
  obtain ⟨a, ha, hrd⟩ := h.rec_at hi
  have := h.rlen
  subst ha hj
  exact VIx.i (by omega) (by omega) (k a hrd)
theorem VIx.es {g : Option Bool} {w : World} {s : Sl} {X : List EX} {m : Nat} {i : Int} {K : Addr → Prop} (h : EsIn w s X) (hm : m < X.length) (hi : i = (m : Int)) (k : ∀ a, Rd w (a.add (m * 4)) (enR.f X[m].1) → K a) : VIx g s.base s.len i K := by
  refine VIx.rec (r := enR) (L := X.map (·.1)) h.row.1 (by simpa using hm) hi fun a hr => k a ?_
  rw [List.getElem_map] at hr
  exact hr
theorem VLd.i4 {g : Option Bool} {w : World} {a : Addr} {t u v s : CT} {K : ArrP [t, u, v, s]} (x : t.D) (y : u.D) (z : v.D) (p : s.D) (h : Rd w a [t.val x, u.val y, v.val z, s.val p]) (k : K x y z p) : VLd g w a [t, u, v, s] K := ⟨x, y, z, p, gd.i h, k⟩
theorem VLd.i5 {g : Option Bool} {w : World} {a : Addr} {t u v s r : CT} {K : ArrP [t, u, v, s, r]} (x : t.D) (y : u.D) (z : v.D) (p : s.D) (q : r.D) (h : Rd w a [t.val x, u.val y, v.val z, s.val p, r.val q]) (k : K x y z p q) : VLd g w a [t, u, v, s, r] K := ⟨x, y, z, p, q, gd.i h, k⟩
noncomputable instance : DecidableEq Pr := fun a b => Classical.propDecidable (a = b)
noncomputable instance : DecidableEq Ls := fun a b => Classical.propDecidable (a = b)
noncomputable instance : DecidableEq En := fun a b => Classical.propDecidable (a = b)
noncomputable instance : DecidableEq (List Int) := fun a b => Classical.propDecidable (a = b)
noncomputable instance : DecidableEq (List Pr) := fun a b => Classical.propDecidable (a = b)
noncomputable instance : DecidableEq (List Ls) := fun a b => Classical.propDecidable (a = b)
noncomputable instance : DecidableEq (List En) := fun a b => Classical.propDecidable (a = b)
theorem take_succ_eq {α : Type} {L M : List α} {m : Nat} (h : L.take m = M.take m) (hl : m < L.length) (hm : m < M.length) : L.take (m + 1) = M.take (m + 1) ↔ L[m] = M[m] := by
  rw [List.take_succ_eq_append_getElem hl, List.take_succ_eq_append_getElem hm, h, List.append_right_inj]
  exact ⟨fun e => (List.cons.inj e).1, fun e => by rw [e]⟩
/-- a question that is asked under a condition -/
theorem callIf {c : Bool} {f : FuncId} {args : Array Value} {w : World} {d : Bool} (hs : Calls Try.prog f args w fun e w' => e = .returned (.bool d) ∧ Ext [] w w') {K : Bool → World → Prop} (k : ∀ r w', (c = true → r = d) → Ext [] w w' → K r w') :
    VCall (some c) Try.prog f args w (.bool false) fun (r : Bool) (w' : World) => K r w' := by
  cases hc : c
  · exact VCall.off rfl (exW.i1 (t := .bool) false trivial (k _ _ (fun h => by rw [hc] at h; cases h) (Ext.refl _ _)))
  · refine VCall.on rfl (VCall.i hs ?_)
    rintro e w2 ⟨rfl, e2⟩
    exact exW.i1 (t := .bool) d rfl (k d w2 (fun _ => rfl) e2)
theorem ints_spec (a b : Sl) (L M : List Int) (w : World) (h : InR intR w a L) (k : InR intR w b M) :
    Calls Try.prog 24 #[.slice a.base a.len a.cap, .slice b.base b.len b.cap] w fun e w' => e = .returned (.bool (decide (L = M))) ∧ Ext [] w w' := by
  refine sh_butteryref13_ints_ok _ _ _ _ ?_
  unfold sh_butteryref13_ints
  have hl := h.len
  have kl := k.len
  have hc := h.2
  refine VIf.mk (fun hne => ?_) (fun he => ?_)
  · refine ⟨?_, Ext.refl _ _⟩
    rw [decide_eq_false (fun e => by subst e; simp at hne; omega)]
  · have heq : L.length = M.length := by simp at he; omega
    refine ⟨fun k' i W => ∃ m : Nat, i = (m : Int) ∧ m ≤ L.length ∧ k' = L.length - m ∧ L.take m = M.take m ∧ Ext [] w W, ⟨_, 0, rfl, by omega, rfl, rfl, Ext.refl _ _⟩, ?_⟩
    rintro k' i w1 ⟨m, rfl, hm, rfl, ht, e1⟩
    refine VIf.mk (fun hc2 => ?_) (fun hc2 => ?_)
    · have hm' : m < L.length := by simp at hc2; omega
      have hm2 : m < M.length := by omega
      intro w2 hw2
      have e2 := e1.then0 (Ext.drew' hw2)
      refine VIx.rec (r := intR) (h.1.ext0 e2) hm' rfl fun a1 hr1 => VLd.i1 (t := .int .i64) _ hr1 ?_
      refine VIx.rec (r := intR) (k.1.ext0 e2) hm2 rfl fun a2 hr2 => VLd.i1 (t := .int .i64) _ hr2 ?_
      dsimp only
      refine VIf.mk (fun hd => ⟨?_, e2⟩) (fun hd => ?_)
      · rw [decide_eq_false (fun e => by subst e; simp at hd)]
      · have hx : L[m] = M[m] := by
          simpa using hd
        rw [w64 (n := (m : Int) + 1) (by omega)]
        exact VSet.i ⟨_, by omega, m + 1, rfl, by omega, rfl, (take_succ_eq ht hm' hm2).2 hx, e2⟩
    · have hmm : m = L.length := by simp at hc2; omega
      subst hmm
      refine ⟨?_, e1⟩
      rw [List.take_length, heq, List.take_length] at ht
      rw [decide_eq_true ht]
theorem EqualI_spec (a b : Sl) (L M : List Int) (w : World) (h : InR intR w a L) (k : InR intR w b M) :
    Calls Try.prog 19 #[.slice a.base a.len a.cap, .slice b.base b.len b.cap] w fun e w' => e = .returned (.bool (decide (L = M))) ∧ Ext [] w w' := by
  refine sh_slices_Equal_ok _ _ _ _ ?_
  unfold sh_slices_Equal
  have hl := h.len
  have kl := k.len
  have hc := h.2
  refine VIf.mk (fun hne => ?_) (fun he => ?_)
  · refine ⟨?_, Ext.refl _ _⟩
    rw [decide_eq_false (fun e => by subst e; simp at hne; omega)]
  · have heq : L.length = M.length := by simp at he; omega
    refine ⟨fun k' i W => ∃ m : Nat, i = (m : Int) ∧ m ≤ L.length ∧ k' = L.length - m ∧ L.take m = M.take m ∧ Ext [] w W, ⟨_, 0, rfl, by omega, rfl, rfl, Ext.refl _ _⟩, ?_⟩
    rintro k' i w1 ⟨m, rfl, hm, rfl, ht, e1⟩
    refine VIf.mk (fun hc2 => ?_) (fun hc2 => ?_)
    · have hm' : m < L.length := by simp at hc2; omega
      have hm2 : m < M.length := by omega
      refine VSet.i ?_
      intro w2 hw2
      have e2 := e1.then0 (Ext.drew' hw2)
      refine VIx.rec (r := intR) (h.1.ext0 e2) hm' rfl fun a1 hr1 => VLd.i1 (t := .int .i64) _ hr1 ?_
      refine VIx.rec (r := intR) (k.1.ext0 e2) hm2 rfl fun a2 hr2 => VLd.i1 (t := .int .i64) _ hr2 ?_
      dsimp only
      refine VIf.mk (fun hd => ⟨?_, e2⟩) (fun hd => ?_)
      · rw [decide_eq_false (fun e => by subst e; simp at hd)]
      · have hx : L[m] = M[m] := by
          simpa using hd
        rw [w64 (n := (m : Int) + 1) (by omega)]
        exact ⟨_, by omega, m + 1, rfl, by omega, rfl, (take_succ_eq ht hm' hm2).2 hx, e2⟩
    · have hmm : m = L.length := by simp at hc2; omega
      subst hmm
      refine ⟨?_, e1⟩
      rw [List.take_length, heq, List.take_length] at ht
      rw [decide_eq_true ht]
theorem EqualP_spec (a b : Sl) (L M : List Pr) (w : World) (h : InR prR w a L) (k : InR prR w b M) :
    Calls Try.prog 20 #[.slice a.base a.len a.cap, .slice b.base b.len b.cap] w fun e w' => e = .returned (.bool (decide (L = M))) ∧ Ext [] w w' := by
  refine sh_slices_Equal'_ok _ _ _ _ ?_
  unfold sh_slices_Equal'
  have hl := h.len
  have kl := k.len
  have hc := h.2
  refine VIf.mk (fun hne => ?_) (fun he => ?_)
  · refine ⟨?_, Ext.refl _ _⟩
    rw [decide_eq_false (fun e => by subst e; simp at hne; omega)]
  · have heq : L.length = M.length := by simp at he; omega
    refine ⟨fun k' i W => ∃ m : Nat, i = (m : Int) ∧ m ≤ L.length ∧ k' = L.length - m ∧ L.take m = M.take m ∧ Ext [] w W, ⟨_, 0, rfl, by omega, rfl, rfl, Ext.refl _ _⟩, ?_⟩
    rintro k' i w1 ⟨m, rfl, hm, rfl, ht, e1⟩
    refine VIf.mk (fun hc2 => ?_) (fun hc2 => ?_)
    · have hm' : m < L.length := by simp at hc2; omega
      have hm2 : m < M.length := by omega
      refine VSet.i ?_
      intro w2 hw2
      have e2 := e1.then0 (Ext.drew' hw2)
      refine VIx.rec (r := prR) (h.1.ext0 e2) hm' rfl fun a1 hr1 => VLd.i2 (t := .str) (u := .str) _ _ hr1 ?_
      refine VIx.rec (r := prR) (k.1.ext0 e2) hm2 rfl fun a2 hr2 => VLd.i2 (t := .str) (u := .str) _ _ hr2 ?_
      dsimp only
      refine VIf.mk (fun hd => ⟨?_, e2⟩) (fun hd => ?_)
      · rw [decide_eq_false (fun e => by subst e; simp at hd)]
      · have hx : L[m] = M[m] := by
          simp [ba_beq] at hd
          exact Prod.ext hd.1 hd.2
        rw [w64 (n := (m : Int) + 1) (by omega)]
        exact ⟨_, by omega, m + 1, rfl, by omega, rfl, (take_succ_eq ht hm' hm2).2 hx, e2⟩
    · have hmm : m = L.length := by simp at hc2; omega
      subst hmm
      refine ⟨?_, e1⟩
      rw [List.take_length, heq, List.take_length] at ht
      rw [decide_eq_true ht]
theorem EqualQ_spec (a b : Sl) (L M : List Ls) (w : World) (h : InR lsR w a L) (k : InR lsR w b M) :
    Calls Try.prog 21 #[.slice a.base a.len a.cap, .slice b.base b.len b.cap] w fun e w' => e = .returned (.bool (decide (L = M))) ∧ Ext [] w w' := by
  refine sh_slices_Equal''_ok _ _ _ _ ?_
  unfold sh_slices_Equal''
  have hl := h.len
  have kl := k.len
  have hc := h.2
  refine VIf.mk (fun hne => ?_) (fun he => ?_)
  · refine ⟨?_, Ext.refl _ _⟩
    rw [decide_eq_false (fun e => by subst e; simp at hne; omega)]
  · have heq : L.length = M.length := by simp at he; omega
    refine ⟨fun k' i W => ∃ m : Nat, i = (m : Int) ∧ m ≤ L.length ∧ k' = L.length - m ∧ L.take m = M.take m ∧ Ext [] w W, ⟨_, 0, rfl, by omega, rfl, rfl, Ext.refl _ _⟩, ?_⟩
    rintro k' i w1 ⟨m, rfl, hm, rfl, ht, e1⟩
    refine VIf.mk (fun hc2 => ?_) (fun hc2 => ?_)
    · have hm' : m < L.length := by simp at hc2; omega
      have hm2 : m < M.length := by omega
      refine VSet.i ?_
      intro w2 hw2
      have e2 := e1.then0 (Ext.drew' hw2)
      refine VIx.rec (r := lsR) (h.1.ext0 e2) hm' rfl fun a1 hr1 => VLd.i5 (t := .int .i64) (u := .int .i64) (v := .int .u8) (s := .bool) (r := .str) _ _ _ _ _ hr1 ?_
      refine VIx.rec (r := lsR) (k.1.ext0 e2) hm2 rfl fun a2 hr2 => VLd.i5 (t := .int .i64) (u := .int .i64) (v := .int .u8) (s := .bool) (r := .str) _ _ _ _ _ hr2 ?_
      dsimp only
      refine VIf.mk (fun hd => ⟨?_, e2⟩) (fun hd => ?_)
      · rw [decide_eq_false (fun e => by subst e; simp at hd)]
      · have hx : L[m] = M[m] := by
          simp [ba_beq] at hd
          obtain ⟨h1, h2, h3, h4, h5⟩ := hd
          exact Prod.ext h1 (Prod.ext h2 (Prod.ext h3 (Prod.ext h4 h5)))
        rw [w64 (n := (m : Int) + 1) (by omega)]
        exact ⟨_, by omega, m + 1, rfl, by omega, rfl, (take_succ_eq ht hm' hm2).2 hx, e2⟩
    · have hmm : m = L.length := by simp at hc2; omega
      subst hmm
      refine ⟨?_, e1⟩
      rw [List.take_length, heq, List.take_length] at ht
      rw [decide_eq_true ht]
def env (v : EnV) : Value := .agg #[.int .i64 v.1, .int .u8 v.2.1, .string v.2.2.1, .slice v.2.2.2.base v.2.2.2.len v.2.2.2.cap]
theorem sameE_spec (x y : EX) (w : World) (h : InR intR w x.1.2.2.2 x.2) (k : InR intR w y.1.2.2.2 y.2) :
    Calls Try.prog 23 #[env x.1, env y.1] w fun e w' => e = .returned (.bool (decide (x.en = y.en))) ∧ Ext [] w w' := by
  refine sh_msg_Same_1_ok _ _ _ _ _ _ _ _ _ _ ?_
  unfold sh_msg_Same_1
  refine VNw.i fun b1 w1 hb1 hk1 e1 => VNw.i fun b2 w2 hb2 hk2 e2 => ?_
  have hk1 := hk1.ext e2
  have e12 := e1.then0 e2
  refine VLd.i1 _ (Rd.of_bk hk1 rfl) (VLd.i1 _ (Rd.of_bk hk2 rfl) (VLd.i1 _ (Rd.of_bk hk1 rfl) (VLd.i1 _ (Rd.of_bk hk2 rfl) (VLd.i1 _ (Rd.of_bk hk1 rfl) (VLd.i1 _ (Rd.of_bk hk2 rfl) (VLd.s x.1.2.2.2 (Rd.of_bk hk1 rfl) (VLd.s y.1.2.2.2 (Rd.of_bk hk2 rfl) ?_)))))))
  refine callIf (EqualI_spec x.1.2.2.2 y.1.2.2.2 x.2 y.2 w2 (h.ext0 e12) (k.ext0 e12)) fun r w3 hr e3 => ⟨?_, e12.then0 e3⟩
  congr 2
  rw [Bool.eq_iff_iff, Bool.and_eq_true, decide_eq_true_eq]
  constructor
  · rintro ⟨g, rfl⟩
    have := hr g
    simp only [Bool.and_eq_true, beq_iff_eq, ba_beq, decide_eq_true_eq] at g
    exact Prod.ext g.1.1 (Prod.ext g.1.2 (Prod.ext g.2 (of_decide_eq_true this.symm)))
  · intro e
    have e1 : x.1.1 = y.1.1 := congrArg (·.1) e
    have e2 : x.1.2.1 = y.1.2.1 := congrArg (·.2.1) e
    have e3 : x.1.2.2.1 = y.1.2.2.1 := congrArg (·.2.2.1) e
    have e4 : x.2 = y.2 := congrArg (·.2.2.2) e
    have g : (((x.1.1 == y.1.1) && (x.1.2.1 == y.1.2.1)) && (x.1.2.2.1.toList == y.1.2.2.1.toList)) = true := by simp [e1, e2, e3]
    exact ⟨g, by rw [hr g, decide_eq_true e4]⟩
theorem EqualE_spec (a b : Sl) (X Y : List EX) (w : World) (h : EsIn w a X) (k : EsIn w b Y) :
    Calls Try.prog 22 #[.slice a.base a.len a.cap, .slice b.base b.len b.cap, .func (.func 23) #[] #[]] w fun e w' => e = .returned (.bool (decide (ens X = ens Y))) ∧ Ext [] w w' := by
  refine sh_slices_EqualFunc_ok _ _ _ _ _ ?_
  unfold sh_slices_EqualFunc
  have hl := h.len
  have kl := k.len
  have hc := h.row.2
  have lX : (ens X).length = X.length := by simp [ens]
  have lY : (ens Y).length = Y.length := by simp [ens]
  refine VIf.mk (fun hne => ?_) (fun he => ?_)
  · refine ⟨?_, Ext.refl _ _⟩
    rw [decide_eq_false (fun e => by have := congrArg List.length e; simp at hne; omega)]
  · have heq : X.length = Y.length := by simp at he; omega
    refine ⟨fun k' i W => ∃ m : Nat, i = (m : Int) ∧ m ≤ X.length ∧ k' = X.length - m ∧ (ens X).take m = (ens Y).take m ∧ Ext [] w W, ⟨_, 0, rfl, by omega, rfl, rfl, Ext.refl _ _⟩, ?_⟩
    rintro k' i w1 ⟨m, rfl, hm, rfl, ht, e1⟩
    refine VIf.mk (fun hc2 => ?_) (fun hc2 => ?_)
    · have hm' : m < X.length := by simp at hc2; omega
      have hm2 : m < Y.length := by omega
      refine VIx.es (h.ext0 e1) hm' rfl fun a1 hr1 => ⟨((X[m]).1.1 : Int), ((X[m]).1.2.1 : Int), ((X[m]).1.2.2.1 : ByteArray), ((X[m]).1.2.2.2 : Sl), gd.i hr1, ?_⟩
      refine VNw.i fun b1 w2 hb1 hk1 e2 => VSet.i (VSt.bk hk1 rfl (by simp) fun w3 hk3 e3 => ?_)
      have e13 : Ext [] w1 w3 := e2.then e3 (fun i hi hlt => by simp at hi; omega)
      refine VIx.es ((k.ext0 e1).ext0 e13) hm2 rfl fun a2 hr2 => ⟨((Y[m]).1.1 : Int), ((Y[m]).1.2.1 : Int), ((Y[m]).1.2.2.1 : ByteArray), ((Y[m]).1.2.2.2 : Sl), gd.i hr2, ?_⟩
      refine VNw.i fun b2 w4 hb2 hk4 e4 => VSt.bk hk4 rfl (by simp) fun w5 hk5 e5 => ?_
      have e35 : Ext [] w3 w5 := e4.then e5 (fun i hi hlt => by simp at hi; omega)
      have hk35 := hk3.ext e35
      have e15 := e13.then0 e35
      refine ⟨((X[m]).1.1 : Int), ((X[m]).1.2.1 : Int), ((X[m]).1.2.2.1 : ByteArray), ((X[m]).1.2.2.2 : Sl), gd.i (Rd.of_bk hk35 rfl), ?_⟩
      refine ⟨((Y[m]).1.1 : Int), ((Y[m]).1.2.1 : Int), ((Y[m]).1.2.2.1 : ByteArray), ((Y[m]).1.2.2.2 : Sl), gd.i (Rd.of_bk hk5 rfl), ?_⟩
      refine VDyn.i (by kernel_rfl) (VCall.i (sameE_spec X[m] Y[m] w5 (((h.ext0 e1).ext0 e15).all _ (List.getElem_mem hm')) (((k.ext0 e1).ext0 e15).all _ (List.getElem_mem hm2))) ?_)
      rintro e w6 ⟨rfl, e6⟩
      have e06 := (e1.then0 e15).then0 e6
      have hgx : (ens X)[m]'(by omega) = X[m].en := by simp [ens]
      have hgy : (ens Y)[m]'(by omega) = Y[m].en := by simp [ens]
      refine exW.i1 (t := .bool) _ rfl (VIf.mk (fun hd => ⟨?_, e06⟩) (fun hd => ?_))
      · have hd : ¬ (X[m].en = Y[m].en) := by simpa using hd
        rw [decide_eq_false (fun e => hd (by rw [← hgx, ← hgy]; simp only [e]))]
      · have hd : X[m].en = Y[m].en := by simpa using hd
        rw [w64 (n := (m : Int) + 1) (by omega)]
        exact ⟨_, by omega, m + 1, rfl, by omega, rfl, (take_succ_eq ht (by omega) (by omega)).2 (by rw [hgx, hgy]; exact hd), e06⟩
    · have hmm : m = X.length := by simp at hc2; omega
      subst hmm
      refine ⟨?_, e1⟩
      rw [← lX, List.take_length, lX, heq, ← lY, List.take_length] at ht
      rw [decide_eq_true ht]
end Go.Proofs.Ytodcdfelbphajaa
