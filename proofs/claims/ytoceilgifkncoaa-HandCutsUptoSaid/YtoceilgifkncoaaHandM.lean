/-
  Package hand: nobody's sender and receiver; the document's size of a part.
-/
import Derived.Test.YtoceilgifkncoaaHandL
namespace Go.Proofs.Ytoceilgifkncoaa
open Go.RowKit
set_option maxRecDepth 100000

theorem Told_nil (n : Int) (w : World) : Calls Try.prog 19 #[.pointer none, .int .i64 n] w fun e w' => e = .returned (.int .i64 2) ∧ w' = w := by
  refine sh_hand_Sender_Told_ok _ _ _ _ ?_
  unfold sh_hand_Sender_Told
  exact ⟨fun _ => False, VIf.t rfl ⟨rfl, rfl⟩, fun _ h => h.elim⟩
theorem SDone_nil (w : World) : Calls Try.prog 21 #[.pointer none] w fun e w' => e = .returned (.bool false) ∧ Ext [] w w' := by
  refine sh_hand_Sender_Done_ok _ _ _ ?_
  unfold sh_hand_Sender_Done
  intro w1 hw1
  refine VNN.n _ rfl _ ⟨0, 0, none⟩ ⟨(0 : Int), fun e => absurd e (by simp), ?_⟩
  refine VNN.n _ rfl _ ⟨0, 0, none⟩ ⟨(⟨none, 0, 0⟩ : Sl), fun e => absurd e (by simp), ?_⟩
  exact ⟨rfl, Ext.drew' hw1⟩
theorem RDone_nil (w : World) : Calls Try.prog 26 #[.pointer none] w fun e w' => e = .returned (.bool false) ∧ w' = w := by
  refine sh_hand_Receiver_Done_ok _ _ _ ?_
  unfold sh_hand_Receiver_Done
  refine VNN.n _ rfl _ ⟨0, 0, none⟩ ⟨(⟨none, 0, 0⟩ : Sl), fun e => absurd e (by simp), ?_⟩
  exact VCall.off rfl (exW.i1 (t := .bool) false trivial ⟨rfl, rfl⟩)
theorem Parts_nil (w : World) : Calls Try.prog 28 #[.pointer none] w fun e w' => e = .returned (.slice none 0 0) ∧ w' = w := by
  refine sh_hand_Receiver_Parts_ok _ _ _ ?_
  unfold sh_hand_Receiver_Parts
  exact VIf.t rfl ⟨rfl, rfl⟩
theorem Take_nil (k : Int) (v : PtV) (w : World) : Calls Try.prog 25 #[.pointer none, .int .i64 k, ptv v] w fun e w' => e = .returned (.tuple #[.int .i64 0, .bool false, .int .i64 2]) ∧ Ext [] w w' := by
  refine sh_hand_Receiver_Take_ok _ _ _ _ _ _ _ ?_
  unfold sh_hand_Receiver_Take
  exact VNw.i fun b w1 hb hk e1 => VIf.t rfl ⟨rfl, e1⟩
theorem Take_neg (q : Nat) (k : Int) (hk : k < 0) (v : PtV) (w : World) : Calls Try.prog 25 #[.pointer (some ⟨q, 0, none⟩), .int .i64 k, ptv v] w fun e w' => e = .returned (.tuple #[.int .i64 0, .bool false, .int .i64 1]) ∧ Ext [] w w' := by
  refine sh_hand_Receiver_Take_ok _ _ _ _ _ _ _ ?_
  unfold sh_hand_Receiver_Take
  exact VNw.i fun b w1 hb _ e1 => VIf.f rfl (VIf.t (by simpa using hk) ⟨rfl, e1⟩)
theorem wi64 (n : Int) : IntKind.wrap .i64 n = if 9223372036854775808 ≤ n % 18446744073709551616 then n % 18446744073709551616 - 18446744073709551616 else n % 18446744073709551616 := by
  simp [IntKind.wrap, IntKind.bits, IntKind.signed]
theorem wrap_add (a b : Int) : IntKind.wrap .i64 (IntKind.wrap .i64 a + b) = IntKind.wrap .i64 (a + b) := by
  rw [wi64 (IntKind.wrap .i64 a + b), wi64 (a + b), wi64 a]
  repeat' split
  all_goals omega
theorem wrap_add2 (a b : Int) : IntKind.wrap .i64 (a + IntKind.wrap .i64 b) = IntKind.wrap .i64 (a + b) := by
  rw [Int.add_comm, wrap_add, Int.add_comm]
def eP (x : Pr) : Int := ((x.1.size : Nat) : Int) + ((x.2.size : Nat) : Int) + 8
def eQ (x : Ls) : Int := ((x.2.2.2.2.size : Nat) : Int) + 32
def sumP (L : List Pr) : Int := L.foldl (fun n x => n + eP x) 0
def sumQ (n : Int) (L : List Ls) : Int := L.foldl (fun n x => n + eQ x) n
def zs (p : Pt) : Int := sumQ (sumP p.P) p.Q
theorem szP_eq (x : Pr) : szP x = IntKind.wrap .i64 (eP x) := by unfold szP eP; rw [wrap_add]
theorem szQ_eq (x : Ls) : szQ x = IntKind.wrap .i64 (eQ x) := rfl
theorem Size_spec (v : PtV) (p : Pt) (w : World) (h : PtIn w v p) : Calls Try.prog 23 #[ptv v] w fun e w' => e = .returned (.int .i64 (IntKind.wrap .i64 (zs p))) ∧ Ext [] w w' := by
  refine sh_butteryref23_Size_ok _ _ _ _ _ ?_
  unfold sh_butteryref23_Size
  have hn := h.P.len
  have hm := h.Q.len
  have c1 := h.P.2
  have c2 := h.Q.2
  refine VNw.i fun b1 w1 hb1 hk1 e1 => ?_
  refine ⟨fun k n i W => ∃ m : Nat, i = (m : Int) ∧ m ≤ p.P.length ∧ k = p.P.length - m ∧ n = IntKind.wrap .i64 (sumP (p.P.take m)) ∧ Ext [] w1 W, ⟨_, 0, rfl, by omega, rfl, (w64 (n := 0) (by omega)).symm, Ext.refl _ _⟩, ?_⟩
  rintro k n i w2 ⟨m, rfl, hm', rfl, rfl, e2⟩
  have hk2 := hk1.ext e2
  refine VLd.s v.1 (Rd.of_bk hk2 rfl) (VIf.mk (fun hc => ?_) (fun hc => ?_))
  · have hlt : m < p.P.length := by simp at hc; omega
    intro w3 hw3
    have ed := Ext.drew' hw3
    have e3 := e2.then0 ed
    have hk3 := hk2.ext ed
    have h3 := (h.ext0 e1).ext0 e3
    refine VLd.s v.1 (Rd.of_bk hk3 rfl) (VIx.rec (r := prR) h3.P.1 hlt rfl fun a hr => VLd.i1 (t := .str) _ (hr.fld0 rfl) (VLd.s v.1 (Rd.of_bk hk3 rfl) (VIx.rec (r := prR) h3.P.1 hlt rfl fun a hr => VLd.i1 (t := .str) _ (hr.fld 1 rfl) (VSet.i (VSet.i ?_)))))
    rw [wrap_add, Int.add_assoc, wrap_add, Int.add_assoc, wrap_add, w64 (n := (m : Int) + 1) (by omega)]
    refine ⟨_, by omega, m + 1, rfl, by omega, rfl, ?_, e3⟩
    rw [List.take_succ_eq_append_getElem hlt]
    unfold sumP
    rw [List.foldl_append]
    simp only [List.foldl_cons, List.foldl_nil, eP]
    congr 1
  · have hmm : m = p.P.length := by simp at hc; omega
    subst hmm
    rw [List.take_length]
    refine ⟨fun k n i W => ∃ m : Nat, i = (m : Int) ∧ m ≤ p.Q.length ∧ k = p.Q.length - m ∧ n = IntKind.wrap .i64 (sumQ (sumP p.P) (p.Q.take m)) ∧ Ext [] w1 W, ⟨_, 0, rfl, by omega, rfl, rfl, e2⟩, ?_⟩
    rintro k n i w4 ⟨m, rfl, hm2, rfl, rfl, e4⟩
    have hk4 := hk1.ext e4
    have h4 := (h.ext0 e1).ext0 e4
    refine VLd.s v.2.1 (Rd.of_bk hk4 rfl) (VIf.mk (fun hc2 => ?_) (fun hc2 => ?_))
    · have hlt : m < p.Q.length := by simp at hc2; omega
      refine VLd.s v.2.1 (Rd.of_bk hk4 rfl) (VIx.rec (r := lsR) h4.Q.1 hlt rfl fun a hr => VLd.i1 (t := .str) _ (hr.fld 4 rfl) (VSet.i (VSet.i ?_)))
      rw [wrap_add, Int.add_assoc, wrap_add, w64 (n := (m : Int) + 1) (by omega)]
      refine ⟨_, by omega, m + 1, rfl, by omega, rfl, ?_, e4⟩
      rw [List.take_succ_eq_append_getElem hlt]
      unfold sumQ
      rw [List.foldl_append]
      simp only [List.foldl_cons, List.foldl_nil, eQ]
    · have hmm : m = p.Q.length := by simp at hc2; omega
      subst hmm
      rw [List.take_length]
      exact VSet.i ⟨rfl, e1.then0 e4⟩
end Go.Proofs.Ytoceilgifkncoaa
