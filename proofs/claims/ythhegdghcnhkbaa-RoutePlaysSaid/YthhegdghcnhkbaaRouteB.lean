/-
  Route: the other contracts.
-/
import Derived.Test.YthhegdghcnhkbaaRouteA
namespace Go.Proofs.Ythhegdghcnhkbaa
open Go.RowKit

def ownerOf (l : List (Int × Int)) (shard : Int) : Int × Int := if 0 ≤ shard ∧ shard < l.length then l.getD shard.toNat (0, 0) else (0, 0)

theorem Owner_spec (a lb : Nat) (st at_ : Int) (l : List (Int × Int)) (shard : Int) (w : World) (h : RepR w a lb st at_ l) :
    Calls Try.prog 12 #[.pointer (some ⟨a, 0, none⟩), .int .i64 shard] w fun e w' =>
      e = .returned (.tuple #[.int .i64 (ownerOf l shard).1, .int .i64 (ownerOf l shard).2]) ∧ Ext [] w w' := by
  refine sh_route_Route_Owner_ok _ _ _ _ ?_
  unfold sh_route_Route_Owner
  obtain ⟨cap, rest, ha, hl⟩ := h
  refine VNN.i ?_
  refine VLd.sl _ _ _ (Rd.of_bk ha rfl) ?_
  refine VIf.mk (fun hc => ?_) (fun hc => ?_)
  · simp at hc
    have : ownerOf l shard = (0, 0) := by unfold ownerOf; rw [if_neg (by omega)]
    rw [this]; exact ⟨rfl, Ext.refl _ _⟩
  · simp at hc
    obtain ⟨i, rfl⟩ : ∃ i : Nat, shard = i := ⟨shard.toNat, by omega⟩
    have hi : i < l.length := by omega
    have ho : ownerOf l i = l[i] := by unfold ownerOf; rw [if_pos (by omega)]; simp [hi]
    intro w1 hw1
    have e1 := Ext.drew' hw1
    have ha1 := ha.ext e1
    have hl1 := hl.ext e1
    have hat := flatB_at l rest i hi
    refine VNN.i ?_
    refine VLd.sl _ _ _ (Rd.of_bk ha1 rfl) ?_
    refine VIx.i (by omega) (by simp; omega) ?_
    simp only [add_blk, Int.toNat_natCast, Nat.zero_add]
    have hrd := Rd.of_bk (i := i * 2) (vs := [.int .i64 (l[i]).1, .int .i64 (l[i]).2]) hl1 hat
    refine VLd.i1 (l[i]).1 (fun j v hj => hrd j v (by cases j <;> simp_all [CT.val])) ?_
    refine VNN.i ?_
    refine VLd.sl _ _ _ (Rd.of_bk ha1 rfl) ?_
    refine VIx.i (by omega) (by simp; omega) ?_
    simp only [add_blk, Int.toNat_natCast, Nat.zero_add]
    refine VLd.i1 (l[i]).2 (by have := hrd.drop (i := 1) (cs := [.int .i64 (l[i]).2]) (by intro j v hj; cases j <;> simp_all); simpa using this) ?_
    refine VSet.i (VSet.i ?_)
    rw [ho]; exact ⟨rfl, e1⟩

/-- what stands in the field behind k turns -/
def atOf (st : Int) (k : Nat) : Int := if k = 0 then 0 else ((k - 1 : Nat) : Int) % st + 1
theorem atOf_succ (st : Int) (k : Nat) (h : 1 ≤ st) : atOf st (k + 1) = atOf st k % st + 1 := by
  unfold atOf
  rw [if_neg (by omega)]
  by_cases hk : k = 0
  · subst hk; simp
  · rw [if_neg hk]
    simp only [Nat.add_sub_cancel]
    rw [Int.emod_add_emod, show ((k - 1 : Nat) : Int) + 1 = (k : Int) by omega]
theorem atOf_bd (st : Int) (k : Nat) (h : 1 ≤ st) : 0 ≤ atOf st k ∧ atOf st k ≤ st := by
  unfold atOf
  split
  · omega
  · have h1 := Int.emod_nonneg ((k - 1 : Nat) : Int) (show st ≠ 0 by omega)
    have h2 := Int.emod_lt_of_pos ((k - 1 : Nat) : Int) (show 0 < st by omega)
    omega

theorem next_spec (a : Nat) (st : Int) (k : Nat) (rest : List Value) (t : TypeId) (w : World) (hs : 1 ≤ st ∧ st ≤ 5) (h : Bk w a (.int .i64 st :: .int .i64 (atOf st k) :: rest) t) :
    Calls Try.prog 21 #[.pointer (some ⟨a, 0, none⟩)] w fun e w' =>
      e = .returned (.int .i64 (atOf st (k + 1))) ∧ Bk w' a (.int .i64 st :: .int .i64 (atOf st (k + 1)) :: rest) t ∧ Ext [a] w w' := by
  refine sh_route_turn_next_ok _ _ _ ?_
  unfold sh_route_turn_next
  intro w1 hw1
  have e1 := Ext.drew' hw1
  have h1 := h.ext e1
  have hb := atOf_bd st k hs.1
  have hb' := atOf_bd st (k + 1) hs.1
  have hsu := atOf_succ st k hs.1
  refine VNN.i ?_
  refine VLd.i1 (atOf st k) (Rd.of_bk h1 rfl) ?_
  refine VNN.i ?_
  refine VLd.i1 st (Rd.of_bk h1 rfl) ?_
  refine VCk.i (by omega) ?_
  refine VNN.i ?_
  have hv : IntKind.wrap .i64 (Int.tmod (atOf st k) st + 1) = atOf st (k + 1) := by
    rw [IntWalk.rem_in _ _ hb.1, ← hsu]; exact w64 (by omega)
  rw [hv]
  refine VSt.bk h1 rfl (by simp) fun w2 h2 e2 => ?_
  have h2 : Bk w2 a (.int .i64 st :: .int .i64 (atOf st (k + 1)) :: rest) t := by simpa using h2
  refine VNN.i ?_
  refine VLd.i1 (atOf st (k + 1)) (Rd.of_bk h2 rfl) ?_
  refine VSet.i ⟨rfl, h2, (e1.mono (by simp)).then e2 (by simp)⟩

theorem Turn_spec (a lb : Nat) (st : Int) (k : Nat) (l : List (Int × Int)) (w : World) (hs : 1 ≤ st ∧ st ≤ 5) (h : RepR w a lb st (atOf st k) l) :
    Calls Try.prog 13 #[.pointer (some ⟨a, 0, none⟩)] w fun e w' =>
      e = .returned (.int .i64 (atOf st (k + 1))) ∧ RepR w' a lb st (atOf st (k + 1)) l ∧ Ext [a] w w' := by
  refine sh_route_Route_Turn_ok _ _ _ ?_
  unfold sh_route_Route_Turn
  have hne := h.ne
  refine VIf.f rfl ?_
  refine VNN.i ?_
  obtain ⟨cap, rest, ha, hl⟩ := h
  refine VCall.i (next_spec a st k _ _ w hs ha) ?_
  rintro e w1 ⟨rfl, hb, e1⟩
  refine exW.i1 _ rfl ?_
  refine VSet.i ⟨rfl, ⟨cap, rest, hb, hl.ext e1 (by simp; omega)⟩, e1⟩

theorem Clone_spec (s : Sl) (xs : List Value) (w : World) (h : Seg w s.base s.len 2 xs) (h1 : xs.all Value.oneCell' = true) (hl : s.len ≤ 1000000) (hb : s.base.isSome = true) :
    Calls Try.prog 23 #[.slice s.base s.len s.cap] w fun e w' =>
      ∃ s' : Sl, e = .returned (.slice s'.base s'.len s'.cap) ∧ s'.len = s.len ∧ Row w' 53 2 s' xs ∧ Ext [] w w' ∧ (∀ b ∈ rowB s', w.heap.size ≤ b) ∧ s'.base.isSome = true := by
  refine sh_slices_Clone_ok _ _ _ ?_
  unfold sh_slices_Clone
  refine VIf.f (by simp [Option.isSome_iff_exists] at hb ⊢; obtain ⟨a, ha⟩ := hb; simp [ha]) ?_
  refine VNw.i fun b w1 hbs hk e1 => ?_
  have hrow : Row w1 53 2 ⟨some ⟨b, 0, none⟩, 0, 0⟩ [] := Row.of_bk hk rfl (by simp)
  refine VApp.row (news := xs) hrow rfl (h.ext0 e1) h.1 h1 (by omega) (by omega) fun s' w2 hr hlen e2 hfr hsm => ?_
  refine ⟨s', rfl, by simpa using hlen, by simpa using hr, e1.then e2 (fun i hi hlt => by simp [rowB] at hi; omega), fun b' hb' => ?_, ?_⟩
  · rcases hfr b' hb' with h | h
    · simp [rowB] at h; omega
    · have := e1.size; omega
  · exact hsm (.inl rfl)

theorem Copy_spec (a lb : Nat) (st at_ : Int) (l : List (Int × Int)) (w : World) (h : RepR w a lb st at_ l) (hl : l.length ≤ 1000) :
    Calls Try.prog 16 #[.pointer (some ⟨a, 0, none⟩)] w fun e w' =>
      ∃ a' lb' : Nat, e = .returned (.pointer (some ⟨a', 0, none⟩)) ∧ RepR w' a' lb' st at_ l ∧ Ext [] w w' ∧ w.heap.size ≤ a' ∧ w.heap.size ≤ lb' := by
  refine sh_route_Route_Copy_ok _ _ _ ?_
  unfold sh_route_Route_Copy
  obtain ⟨cap, rest, ha, hlb⟩ := h
  refine VIf.f rfl ?_
  intro w1 hw1
  have e1 := Ext.drew' hw1
  have ha1 := ha.ext e1
  have hl1 := hlb.ext e1
  refine VNN.i ?_
  refine VLd.i2 st at_ (Rd.of_bk ha1 rfl) ?_
  refine VNN.i ?_
  refine VLd.sl _ _ _ (Rd.of_bk ha1 rfl) ?_
  have hone : ∀ l : List (Int × Int), (flatB l).all Value.oneCell' = true := by
    intro l; induction l with
    | nil => rfl
    | cons p r ih => obtain ⟨o, e⟩ := p; simpa [flatB, Value.oneCell'] using ih
  refine VCall.i (Clone_spec ⟨some ⟨lb, 0, none⟩, l.length, cap⟩ (flatB l) w1 (Seg.of_bk hl1 (by simp) (flatB_len l)) (hone l) (by simp; omega) rfl) ?_
  rintro e w2 ⟨s', rfl, hlen, hr, e2, hfr, hsm⟩
  refine exW.i1 s' rfl ?_
  have ha2 := ha1.ext e2
  refine ⟨Rd.of_bk ha2 rfl, ?_⟩
  refine VNw.i fun a' w3 ha' hk3 e3 => ?_
  obtain ⟨_, _, _, hr4⟩ := hr.ext0 e3
  rcases hr4 with ⟨hn, _⟩ | ⟨b, r, hb, hk, _⟩
  · rw [hn] at hsm; cases hsm
  · refine ⟨a', b, rfl, ⟨s'.cap, r, ?_, hk⟩, (e1.then0 e2).then0 e3, ?_, ?_⟩
    · rw [hb, hlen] at hk3; simpa using hk3
    · have := e1.size; have := e2.size; omega
    · have := hfr b (by simp [rowB, hb]); have := e1.size; omega

/-- the reference's route in memory -/
def RepX (w : World) (a ob eb : Nat) (st tn : Int) (l : List (Int × Int)) : Prop :=
  Bk w a [.slice (some ⟨ob, 0, none⟩) l.length l.length, .slice (some ⟨eb, 0, none⟩) l.length l.length, .int .i64 st, .int .i64 tn] 56 ∧
    Bk w ob (l.map fun p => .int .i64 p.1) 3 ∧ Bk w eb (l.map fun p => .int .i64 p.2) 3 ∧ ob ≠ eb

theorem RepX.ext {M : List Nat} {w w' : World} {a ob eb : Nat} {st tn : Int} {l : List (Int × Int)} (h : RepX w a ob eb st tn l) (e : Ext M w w') (h1 : a ∉ M) (h2 : ob ∉ M) (h3 : eb ∉ M) : RepX w' a ob eb st tn l :=
  ⟨h.1.ext e h1, h.2.1.ext e h2, h.2.2.1.ext e h3, h.2.2.2⟩

theorem XNew_bad (sh st : Int) (w : World) (h : ¬ (1 ≤ sh ∧ sh ≤ 4 ∧ 1 ≤ st ∧ st ≤ 5)) : Calls Try.prog 17 #[.int .i64 sh, .int .i64 st] w fun e w' => e = .returned (.tuple #[.pointer none, .bool false]) ∧ w' = w := by
  refine sh_butteryref25_New_ok _ _ _ _ ?_
  unfold sh_butteryref25_New
  refine VIf.t ?_ ⟨rfl, rfl⟩
  simp; omega
theorem XNew_good (sh st : Int) (w : World) (h : 1 ≤ sh ∧ sh ≤ 4 ∧ 1 ≤ st ∧ st ≤ 5) : Calls Try.prog 17 #[.int .i64 sh, .int .i64 st] w fun e w' =>
    ∃ a ob eb, e = .returned (.tuple #[.pointer (some ⟨a, 0, none⟩), .bool true]) ∧ RepX w' a ob eb st 0 (List.replicate sh.toNat (0, 0)) ∧ Ext [] w w' ∧ w.heap.size ≤ a ∧ w.heap.size ≤ ob ∧ w.heap.size ≤ eb := by
  refine sh_butteryref25_New_ok _ _ _ _ ?_
  unfold sh_butteryref25_New
  refine VIf.f (by simp; omega) ?_
  have hm := made_list #[.int .i64 0] (by simp) sh.toNat
  simp only [List.size_toArray, List.length_cons, List.length_nil, Nat.zero_add] at hm
  have hm' : ∀ f : Int × Int → Value, f (0, 0) = .int .i64 0 → (madeCells #[.int .i64 0] (sh.toNat * 1)).toList = (List.replicate sh.toNat (0, 0)).map f := by
    intro f hf; rw [hm, List.map_replicate, hf]
    generalize sh.toNat = n
    induction n with
    | zero => rfl
    | succ n ih => simp only [List.replicate_succ, List.flatten_cons, ih]; rfl
  refine ⟨fun p ok w' => ∃ a ob eb : Nat, p = some ⟨a, 0, none⟩ ∧ ok = true ∧ RepX w' a ob eb st 0 (List.replicate sh.toNat (0, 0)) ∧ Ext [] w w' ∧ w.heap.size ≤ a ∧ w.heap.size ≤ ob ∧ w.heap.size ≤ eb, fun w1 hw1 => ?_, ?_⟩
  · have e1 := Ext.drew' hw1
    refine ⟨?_, ?_⟩
    · refine VMk.i (by omega) (by omega) (by omega) (by omega) fun b w2 hb hk e2 => ?_
      refine VMk.i (by omega) (by omega) (by omega) (by omega) fun b' w3 hb' hk' e3 => ?_
      refine VNw.i fun a w4 ha hk4 e4 => ?_
      rw [hm' (fun p => .int .i64 p.1) rfl] at hk
      rw [hm' (fun p => .int .i64 p.2) rfl] at hk'
      have h2 := hk.lt
      have h3 := e1.size; have h4 := e2.size; have h5 := e3.size
      refine ⟨a, b, b', rfl, rfl, ⟨by simpa using hk4, (hk.ext e3).ext e4, hk'.ext e4, by omega⟩, ((e1.then0 e2).then0 e3).then0 e4, by omega, by omega, by omega⟩
    · refine VMk.i (by omega) (by omega) (by omega) (by omega) fun b' w2 hb' hk' e2 => ?_
      refine VMk.i (by omega) (by omega) (by omega) (by omega) fun b w3 hb hk e3 => ?_
      refine VNw.i fun a w4 ha hk4 e4 => ?_
      rw [hm' (fun p => .int .i64 p.1) rfl] at hk
      rw [hm' (fun p => .int .i64 p.2) rfl] at hk'
      have h2 := hk'.lt
      have h3 := e1.size; have h4 := e2.size; have h5 := e3.size
      refine ⟨a, b, b', rfl, rfl, ⟨by simpa using hk4, hk.ext e4, (hk'.ext e3).ext e4, by omega⟩, ((e1.then0 e2).then0 e3).then0 e4, by omega, by omega, by omega⟩
  · rintro p ok w8 ⟨a, ob, eb, rfl, rfl, h⟩
    exact ⟨a, ob, eb, rfl, h⟩

def xlearnOk (st : Int) (l : List (Int × Int)) (shard epoch owner : Int) : Bool :=
  decide (0 ≤ shard ∧ shard < l.length ∧ 1 ≤ owner ∧ owner ≤ st ∧ (l.getD shard.toNat (0, 0)).2 < epoch ∧ epoch ≤ 2147483647)
theorem XLearn_spec (a ob eb : Nat) (st tn : Int) (l : List (Int × Int)) (shard epoch owner : Int) (w : World) (h : RepX w a ob eb st tn l) :
    Calls Try.prog 18 #[.pointer (some ⟨a, 0, none⟩), .int .i64 shard, .int .i64 epoch, .int .i64 owner] w fun e w' =>
      e = .returned (.bool (xlearnOk st l shard epoch owner)) ∧ RepX w' a ob eb st tn (if xlearnOk st l shard epoch owner then l.set shard.toNat (owner, epoch) else l) ∧ Ext [ob, eb] w w' := by
  refine sh_butteryref25_Route_Learn_ok _ _ _ _ _ _ ?_
  unfold sh_butteryref25_Route_Learn
  have h0 := h
  obtain ⟨ha, ho, he, hne⟩ := h
  have hao := ha.ne ho (by decide)
  have hae := ha.ne he (by decide)
  refine VNN.i ?_
  refine VLd.sl _ _ _ (Rd.of_bk ha rfl) ?_
  refine VNN.i ?_
  refine VLd.i1 st (Rd.of_bk ha rfl) ?_
  refine VNN.i ?_
  refine VLd.sl _ _ _ (Rd.of_bk ha rfl) ?_
  by_cases hr : 0 ≤ shard ∧ shard < l.length
  · obtain ⟨i, rfl⟩ : ∃ i : Nat, shard = i := ⟨shard.toNat, by omega⟩
    have hi : i < l.length := by omega
    refine VIx.i (by omega) (by simp; omega) ?_
    simp only [add_blk, Int.toNat_natCast, Nat.zero_add, Nat.mul_one]
    refine VLd.i1 (l[i]).2 (Rd.of_bk he (by simp [List.drop_eq_getElem_cons, hi])) ?_
    have hg : l.getD i (0, 0) = l[i] := by simp [hi]
    refine VIf.mk (fun hc => ?_) (fun hc => ?_)
    · have : xlearnOk st l i epoch owner = false := by
        unfold xlearnOk; simp only [Int.toNat_natCast, hg]; simp at hc ⊢; omega
      exact ⟨by rw [this], by rw [this]; exact h0, Ext.refl _ _⟩
    · have : xlearnOk st l i epoch owner = true := by
        unfold xlearnOk; simp only [Int.toNat_natCast, hg]; simp at hc ⊢; omega
      refine VNN.i ?_
      refine VLd.sl _ _ _ (Rd.of_bk ha rfl) ?_
      refine VIx.i (by omega) (by simp; omega) ?_
      simp only [add_blk, Int.toNat_natCast, Nat.zero_add, Nat.mul_one]
      refine VSt.bk ho rfl (by simp; omega) fun w1 ho1 e1 => ?_
      have ha1 := ha.ext e1 (by simpa using hao)
      have he1 := he.ext e1 (by simpa using Ne.symm hne)
      refine VNN.i ?_
      refine VLd.sl _ _ _ (Rd.of_bk ha1 rfl) ?_
      refine VIx.i (by omega) (by simp; omega) ?_
      simp only [add_blk, Int.toNat_natCast, Nat.zero_add, Nat.mul_one]
      refine VSt.bk he1 rfl (by simp; omega) fun w2 he2 e2 => ?_
      have ha2 := ha1.ext e2 (by simpa using hae)
      have ho2 := ho1.ext e2 (by simpa using hne)
      have hset : ∀ (f : Int × Int → Value) (v : Value), v = f (owner, epoch) → (l.map f).take i ++ [v] ++ (l.map f).drop (i + [v].length) = (l.set i (owner, epoch)).map f := by
        intro f v hv
        subst hv
        rw [List.map_set, List.set_eq_take_append_cons_drop, if_pos (by simpa using hi)]
        simp
      rw [this]
      simp only [if_true, Int.toNat_natCast]
      refine ⟨trivial, ⟨by simpa using ha2, ?_, ?_, hne⟩, (e1.mono (by simp)).then e2 (by simp)⟩
      · rw [← hset (fun p => .int .i64 p.1) _ rfl]; exact ho2
      · rw [← hset (fun p => .int .i64 p.2) _ rfl]; exact he2
  · have hc : ∀ b : Bool, ((((decide (shard < 0)) || (decide (shard ≥ (l.length : Int)))) || b)) = true := by
      intro b; simp; omega
    have : xlearnOk st l shard epoch owner = false := by
      unfold xlearnOk; simp; omega
    have hcc : (!((((decide (shard < 0)) || (decide (shard ≥ (l.length : Int)))) || (decide (owner < 1))) || (decide (owner > st)))) = false := by
      rw [hc]; simp
    refine ⟨⟨0, 0, none⟩, fun e => absurd (hcc.symm.trans e) (by simp), 0, fun e => absurd (hcc.symm.trans e) (by simp), ?_⟩
    refine VIf.t ?_ ?_
    · show (((((decide (shard < 0)) || (decide (shard ≥ (l.length : Int)))) || (decide (owner < 1))) || (decide (owner > st))) || (decide (epoch ≤ 0)) || (decide (epoch > 2147483647))) = true
      rw [hc]; simp
    · exact ⟨by rw [this], by rw [this]; exact h0, Ext.refl _ _⟩
end Go.Proofs.Ythhegdghcnhkbaa
