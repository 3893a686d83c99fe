/-
  Route: the last contracts, and what each law asks first.
-/
import Derived.Test.YthhegdghcnhkbaaRouteB
namespace Go.Proofs.Ythhegdghcnhkbaa
open Go.RowKit

theorem XOwner_spec (a ob eb : Nat) (st tn : Int) (l : List (Int × Int)) (shard : Int) (w : World) (h : RepX w a ob eb st tn l) :
    Calls Try.prog 20 #[.pointer (some ⟨a, 0, none⟩), .int .i64 shard] w fun e w' =>
      e = .returned (.tuple #[.int .i64 (ownerOf l shard).1, .int .i64 (ownerOf l shard).2]) ∧ Ext [] w w' := by
  refine sh_butteryref25_Route_Owner_ok _ _ _ _ ?_
  unfold sh_butteryref25_Route_Owner
  obtain ⟨ha, ho, he, hne⟩ := h
  refine VNN.i ?_
  refine VLd.sl _ _ _ (Rd.of_bk ha rfl) ?_
  refine VIf.mk (fun hc => ?_) (fun hc => ?_)
  · simp at hc
    have : ownerOf l shard = (0, 0) := by unfold ownerOf; rw [if_neg (by omega)]
    rw [this]; exact ⟨rfl, Ext.refl _ _⟩
  · simp at hc
    obtain ⟨i, rfl⟩ : ∃ i : Nat, shard = i := ⟨shard.toNat, by omega⟩
    have hi : i < l.length := by omega
    have hw : ownerOf l i = l[i] := by unfold ownerOf; rw [if_pos (by omega)]; simp [hi]
    intro w1 hw1
    have e1 := Ext.drew' hw1
    have ha1 := ha.ext e1
    refine VNN.i ?_
    refine VLd.sl _ _ _ (Rd.of_bk ha1 rfl) ?_
    refine VIx.i (by omega) (by simp; omega) ?_
    simp only [add_blk, Int.toNat_natCast, Nat.zero_add, Nat.mul_one]
    refine VLd.i1 (l[i]).1 (Rd.of_bk (ho.ext e1) (by simp [List.drop_eq_getElem_cons, hi])) ?_
    refine VNN.i ?_
    refine VLd.sl _ _ _ (Rd.of_bk ha1 rfl) ?_
    refine VIx.i (by omega) (by simp; omega) ?_
    simp only [add_blk, Int.toNat_natCast, Nat.zero_add, Nat.mul_one]
    refine VLd.i1 (l[i]).2 (Rd.of_bk (he.ext e1) (by simp [List.drop_eq_getElem_cons, hi])) ?_
    refine VSet.i (VSet.i ?_)
    rw [hw]; exact ⟨rfl, e1⟩

theorem XTurn_spec (a ob eb : Nat) (st : Int) (k : Nat) (l : List (Int × Int)) (w : World) (hs : 1 ≤ st ∧ st ≤ 5) (hk : k < 1000000) (h : RepX w a ob eb st k l) :
    Calls Try.prog 19 #[.pointer (some ⟨a, 0, none⟩)] w fun e w' =>
      e = .returned (.int .i64 (atOf st (k + 1))) ∧ RepX w' a ob eb st ((k + 1 : Nat) : Int) l ∧ Ext [a] w w' := by
  refine sh_butteryref25_Route_Turn_ok _ _ _ ?_
  unfold sh_butteryref25_Route_Turn
  obtain ⟨ha, ho, he, hne⟩ := h
  have hao := ha.ne ho (by decide)
  have hae := ha.ne he (by decide)
  refine VNN.i ?_
  refine VLd.i1 (k : Int) (Rd.of_bk ha rfl) ?_
  refine VNN.i ?_
  rw [w64 (show -9223372036854775808 ≤ (k : Int) + 1 ∧ (k : Int) + 1 ≤ 9223372036854775807 by omega)]
  refine VSt.bk ha rfl (by simp) fun w1 ha1 e1 => ?_
  intro w2 hw2
  have e2 := Ext.drew' hw2
  have ha2 : Bk w2 a [.slice (some ⟨ob, 0, none⟩) l.length l.length, .slice (some ⟨eb, 0, none⟩) l.length l.length, .int .i64 st, .int .i64 ((k + 1 : Nat) : Int)] 56 := by
    simpa using ha1.ext e2
  refine VNN.i ?_
  refine VLd.i1 ((k + 1 : Nat) : Int) (Rd.of_bk ha2 rfl) ?_
  refine VNN.i ?_
  refine VLd.i1 st (Rd.of_bk ha2 rfl) ?_
  refine VCk.i (by omega) ?_
  have hv : IntKind.wrap .i64 (Int.tmod (IntKind.wrap .i64 (((k + 1 : Nat) : Int) - 1)) st + 1) = atOf st (k + 1) := by
    have hb' := atOf_bd st (k + 1) hs.1
    rw [w64 (show -9223372036854775808 ≤ ((k + 1 : Nat) : Int) - 1 ∧ ((k + 1 : Nat) : Int) - 1 ≤ 9223372036854775807 by omega)]
    unfold atOf at hb' ⊢
    rw [if_neg (by omega)] at hb' ⊢
    simp only [Nat.add_sub_cancel] at hb' ⊢
    rw [show ((k + 1 : Nat) : Int) - 1 = (k : Int) by omega, IntWalk.rem_in _ _ (by omega)]
    exact w64 (by omega)
  rw [hv]
  refine VSet.i ⟨rfl, ⟨ha2, (ho.ext e1 (by simpa using Ne.symm hao)).ext e2, (he.ext e1 (by simpa using Ne.symm hae)).ext e2, hne⟩, e1.then0 e2⟩

/-- the setup's numbers -/
def mayR (s0 s1 s2 s3 s4 s5 s6 s7 s8 s9 s10 s11 s12 : Int) : Bool :=
  decide ((1 ≤ s0 ∧ s0 ≤ 5) ∧ (0 ≤ s1 ∧ s1 ≤ 3) ∧ (1 ≤ s2 ∧ s2 ≤ 3) ∧ (1 ≤ s3 ∧ s3 ≤ 4) ∧ (2000 ≤ s4 ∧ s4 ≤ 65536) ∧ (1 ≤ s5 ∧ s5 ≤ 1000) ∧ (1 ≤ s6 ∧ s6 ≤ 4) ∧ (0 ≤ s7 ∧ s7 ≤ 1000) ∧ (0 ≤ s8 ∧ s8 ≤ 100000) ∧ (8 ≤ s9 ∧ s9 ≤ 1000) ∧
    (1 ≤ s10 ∧ s10 ≤ IntKind.wrap .i64 (Int.tdiv s9 4)) ∧ (1 ≤ s11 ∧ s11 ≤ 1000) ∧ (0 ≤ s12 ∧ s12 ≤ 1000))

theorem May_spec (s0 s1 s2 s3 s4 s5 s6 s7 s8 s9 s10 s11 s12 : Int) (w : World) :
    Calls Try.prog 14 #[.agg #[.int .i64 s0, .int .i64 s1, .int .i64 s2, .int .i64 s3, .int .i64 s4, .int .i64 s5, .int .i64 s6, .int .i64 s7, .int .i64 s8, .int .i64 s9, .int .i64 s10, .int .i64 s11, .int .i64 s12]] w fun e w' =>
      e = .returned (.bool (mayR s0 s1 s2 s3 s4 s5 s6 s7 s8 s9 s10 s11 s12)) ∧ Ext [] w w' := by
  refine sh_route_May_ok _ _ _ _ _ _ _ _ _ _ _ _ _ _ _ ?_
  unfold sh_route_May
  refine VNw.i fun s w1 hs hk e1 => ?_
  repeat (first | refine VLd.i1 _ (Rd.of_bk hk rfl) ?_ | refine VCall.pure (in_spec _ _ _ _) (exW.i1 _ rfl ?_))
  refine ⟨?_, e1⟩
  congr 2
  unfold mayR
  rw [Bool.eq_iff_iff]
  simp only [Bool.and_eq_true, decide_eq_true_eq]
  constructor
  · rintro ⟨⟨⟨⟨⟨⟨⟨⟨⟨h0, h1⟩, h2⟩, h3⟩, h4⟩, ⟨⟨h5, h6⟩, h7⟩, h8⟩, h9⟩, h10⟩, h11⟩, h12⟩
    exact ⟨h0, h1, h2, h3, h4, h5, h6, h9, h10, h7, h8, h11, h12⟩
  · rintro ⟨h0, h1, h2, h3, h4, h5, h6, h9, h10, h7, h8, h11, h12⟩
    exact ⟨⟨⟨⟨⟨⟨⟨⟨⟨h0, h1⟩, h2⟩, h3⟩, h4⟩, ⟨⟨h5, h6⟩, h7⟩, h8⟩, h9⟩, h10⟩, h11⟩, h12⟩

theorem XMay_spec (s0 s1 s2 s3 s4 s5 s6 s7 s8 s9 s10 s11 s12 : Int) (w : World) :
    Calls Try.prog 15 #[.agg #[.int .i64 s0, .int .i64 s1, .int .i64 s2, .int .i64 s3, .int .i64 s4, .int .i64 s5, .int .i64 s6, .int .i64 s7, .int .i64 s8, .int .i64 s9, .int .i64 s10, .int .i64 s11, .int .i64 s12]] w fun e w' =>
      e = .returned (.bool (mayR s0 s1 s2 s3 s4 s5 s6 s7 s8 s9 s10 s11 s12)) ∧ Ext [] w w' := by
  refine sh_butteryref25_May_ok _ _ _ _ _ _ _ _ _ _ _ _ _ _ _ ?_
  unfold sh_butteryref25_May
  refine VNw.i fun s w1 hs hk e1 => ?_
  iterate 10 refine VLd.i1 _ (Rd.of_bk hk rfl) ?_
  have fin : ∀ b : Bool, b = mayR s0 s1 s2 s3 s4 s5 s6 s7 s8 s9 s10 s11 s12 → Ending.returned (.bool b) = .returned (.bool (mayR s0 s1 s2 s3 s4 s5 s6 s7 s8 s9 s10 s11 s12)) := fun b h => by rw [h]
  refine VIf.mk (fun hc => ⟨fin _ ?_, e1⟩) (fun hc => ?_)
  · simp only [Bool.or_eq_true, decide_eq_true_eq] at hc
    symm
    unfold mayR
    simp only [decide_eq_false_iff_not]
    omega
  · iterate 8 refine VLd.i1 _ (Rd.of_bk hk rfl) ?_
    refine VIf.mk (fun hd => ⟨fin _ ?_, e1⟩) (fun hd => ?_)
    · simp only [Bool.or_eq_true, decide_eq_true_eq] at hd
      symm
      unfold mayR
      simp only [decide_eq_false_iff_not]
      omega
    · repeat refine VLd.i1 _ (Rd.of_bk hk rfl) ?_
      refine ⟨fin _ ?_, e1⟩
      simp only [Bool.or_eq_false_iff, decide_eq_false_iff_not] at hc hd
      unfold mayR
      rw [Bool.eq_iff_iff]
      simp only [Bool.and_eq_true, decide_eq_true_eq]
      omega

theorem owner_spec (shard epoch : Int) (w : World) (h : 0 ≤ shard ∧ shard < 1000 ∧ 0 ≤ epoch ∧ epoch < 100000) :
    Calls Try.prog 11 #[.int .i64 shard, .int .i64 epoch] w fun e w' => e = .returned (.int .i64 ((shard + epoch * 7) % 5 + 1)) ∧ w' = w := by
  refine sh_butterylaw25_owner_ok _ _ _ _ ?_
  unfold sh_butterylaw25_owner
  rw [w64 (by omega : -9223372036854775808 ≤ epoch * 7 ∧ epoch * 7 ≤ 9223372036854775807), w64 (by omega : -9223372036854775808 ≤ shard + epoch * 7 ∧ shard + epoch * 7 ≤ 9223372036854775807),
    IntWalk.rem_in _ _ (by omega), w64 (by omega)]
  exact VSet.i ⟨rfl, rfl⟩

theorem works_spec (w : World) : Calls Try.prog 8 #[] w fun e w' => e = .returned (.bool true) ∧ Ext [] w w' := by
  refine sh_butterylaw25_works_ok _ _ ?_
  unfold sh_butterylaw25_works
  refine VCall.i (New_good 2 3 w (by omega)) ?_
  rintro e w1 ⟨a, lb, rfl, h1, e1, ha, hlb⟩
  refine exW.i2 _ _ rfl (VSet.i ?_)
  have hn : ∀ {W W' : World} {M : List Nat}, Ext [] w W → Ext M W W' → (∀ i ∈ M, i = a ∨ i = lb) → Ext [] w W' := fun x y hm => x.then y fun i hi hlt => by rcases hm i hi with h | h <;> omega
  have at0 : (0 : Int) = atOf 3 0 := rfl
  rw [at0] at h1
  refine VCall.on rfl (VCall.i (Learn_spec a lb 3 _ _ 0 3 2 w1 h1) ?_)
  rintro e w2 ⟨rfl, h2, e2⟩
  have e2 := hn e1 e2 (by simp)
  refine exW.i1 _ rfl ?_
  refine VCall.on rfl (VCall.i (Learn_spec a lb 3 _ _ 0 2 1 w2 h2) ?_)
  rintro e w3 ⟨rfl, h3, e3⟩
  have e3 := hn e2 e3 (by simp)
  refine exW.i1 _ rfl ?_
  refine VCall.on rfl (VCall.i (Learn_spec a lb 3 _ _ 0 3 1 w3 h3) ?_)
  rintro e w4 ⟨rfl, h4, e4⟩
  have e4 := hn e3 e4 (by simp)
  refine exW.i1 _ rfl ?_
  refine VIf.f rfl ?_
  refine VCall.i (Owner_spec a lb 3 _ _ 0 w4 h4) ?_
  rintro e w5 ⟨rfl, e5⟩
  have h5 := h4.ext e5 (by simp) (by simp)
  have e5 := hn e4 e5 (by simp)
  refine exW.i2 _ _ rfl (VSet.i (VSet.i ?_))
  refine VCall.i (Owner_spec a lb 3 _ _ 1 w5 h5) ?_
  rintro e w6 ⟨rfl, e6⟩
  have h6 := h5.ext e6 (by simp) (by simp)
  have e6 := hn e5 e6 (by simp)
  refine exW.i2 _ _ rfl (VSet.i (VSet.i ?_))
  refine VCall.on rfl (VCall.i (Learn_spec a lb 3 _ _ 0 4 1 w6 h6) ?_)
  rintro e w7 ⟨rfl, h7, e7⟩
  have e7 := hn e6 e7 (by simp)
  refine exW.i1 _ rfl ?_
  refine VCall.on rfl (VCall.i (Turn_spec a lb 3 0 _ w7 (by omega) h7) ?_)
  rintro e w8 ⟨rfl, h8, e8⟩
  have e8 := hn e7 e8 (by simp)
  refine exW.i1 _ rfl ?_
  refine VCall.on rfl (VCall.i (Turn_spec a lb 3 1 _ w8 (by omega) h8) ?_)
  rintro e w9 ⟨rfl, h9, e9⟩
  have e9 := hn e8 e9 (by simp)
  refine exW.i1 _ rfl ?_
  refine VCall.on rfl (VCall.i (Turn_spec a lb 3 2 _ w9 (by omega) h9) ?_)
  rintro e w10 ⟨rfl, h10, e10⟩
  have e10 := hn e9 e10 (by simp)
  refine exW.i1 _ rfl ?_
  refine VCall.on rfl (VCall.i (Turn_spec a lb 3 3 _ w10 (by omega) h10) ?_)
  rintro e w11 ⟨rfl, h11, e11⟩
  have e11 := hn e10 e11 (by simp)
  refine exW.i1 _ rfl ?_
  exact ⟨rfl, e11⟩
end Go.Proofs.Ythhegdghcnhkbaa
