import Derived.Test.YthhegdghcnhkbaaRouteE
namespace Go.Proofs.Ythhegdghcnhkbaa
open Go.RowKit
set_option maxRecDepth 100000

theorem atOf_apart (st : Int) (h : 1 ≤ st ∧ st ≤ 5) (k t i : Nat) (hi : (i : Int) < st) (ht : t < i) : atOf st (k + 1 + t) ≠ atOf st (k + 1 + i) := by
  unfold atOf
  rw [if_neg (by omega), if_neg (by omega)]
  have : st = 1 ∨ st = 2 ∨ st = 3 ∨ st = 4 ∨ st = 5 := by omega
  rcases this with rfl | rfl | rfl | rfl | rfl <;> omega

theorem RouteTurns_law (stores ahead : Int) (l : Sl) (f : Nat → Int × Int × Int × Int) (w : World)
    (hf : ∀ i, i < l.len → ∃ a0, l.base = some a0 ∧ Rd w (a0.add (i * 4)) [.int .i64 (f i).1, .int .i64 (f i).2.1, .int .i64 (f i).2.2.1, .int .i64 (f i).2.2.2]) :
    Calls Try.prog 4 #[.int .i64 stores, .int .i64 ahead, .slice l.base l.len l.cap] w fun e w' => e = .returned (.bool true) ∧ Ext [] w w' := by
  refine sh_butterylaw25_RouteTurns_ok _ _ _ _ _ ?_
  unfold sh_butterylaw25_RouteTurns
  refine VCall.i (works_spec _) ?_
  rintro e w1 ⟨rfl, e1⟩
  refine exW.i1 _ rfl (VIf.mk (fun hc => ?_) (fun hc => ?_))
  · refine VCall.i (works_spec _) ?_
    rintro e w2 ⟨rfl, e2⟩
    exact exW.i1 _ rfl ⟨rfl, e1.then0 e2⟩
  simp at hc
  have hst : 0 ≤ Int.tmod (IntKind.wrap .u64 stores) 5 ∧ Int.tmod (IntKind.wrap .u64 stores) 5 < 5 := by
    rw [w64u, Int.tmod_eq_emod_of_nonneg (by omega)]; omega
  have hah : 0 ≤ Int.tmod (IntKind.wrap .u64 ahead) 20 ∧ Int.tmod (IntKind.wrap .u64 ahead) 20 < 20 := by
    rw [w64u, Int.tmod_eq_emod_of_nonneg (by omega)]; omega
  generalize Int.tmod (IntKind.wrap .u64 stores) 5 = q at hst
  generalize Int.tmod (IntKind.wrap .u64 ahead) 20 = p at hah
  rw [w64 (show -9223372036854775808 ≤ q ∧ q ≤ 9223372036854775807 by omega), w64 (show -9223372036854775808 ≤ 1 + q ∧ 1 + q ≤ 9223372036854775807 by omega), w64 (show -9223372036854775808 ≤ p ∧ p ≤ 9223372036854775807 by omega)]
  refine VSet.i ?_
  obtain ⟨st, hq⟩ : ∃ st, st = 1 + q := ⟨_, rfl⟩
  rw [← hq]
  have hst : 1 ≤ st ∧ st ≤ 5 := by omega
  rw [w64 (show -9223372036854775808 ≤ st + 1 ∧ st + 1 ≤ 9223372036854775807 by omega)]
  refine VCall.i (New_good 2 st w1 (by omega)) ?_
  rintro e w3 ⟨a, la, rfl, ha3, e3, hao, hlao⟩
  refine exW.i2 _ _ rfl (VSet.i (VIf.f rfl ?_))
  have s1 := e1.size
  have E3 := e1.then0 e3
  refine ⟨fun k i W => ∃ j : Nat, i = (j : Int) ∧ j ≤ p.toNat ∧ k = p.toNat - j ∧ Ext [] w W ∧ ∃ L, RepR W a la st (atOf st j) L, ⟨_, 0, rfl, Nat.zero_le _, rfl, E3, _, ha3⟩, ?_⟩
  clear ha3 e1 e3 E3
  rintro k i w6 ⟨j, rfl, hj, rfl, E6, L, ha6⟩
  refine VIf.mk (fun hc1 => ?_) (fun hc1 => ?_)
  · simp at hc1
    refine VCall.i (Turn_spec a la st j L _ hst ha6) ?_
    rintro e w7 ⟨rfl, ha7, e7⟩
    refine exW.i1 _ rfl ?_
    rw [w64 (show -9223372036854775808 ≤ (j : Int) + 1 ∧ (j : Int) + 1 ≤ 9223372036854775807 by omega)]
    exact VSet.i ⟨_, by omega, j + 1, by omega, by omega, rfl, E6.then e7 (by simp; omega), L, ha7⟩
  · simp at hc1
    refine VMk.i (by omega) (by omega) (by omega) (by omega) (fun m w7 hm hk7 e7 => ?_)
    have hk7 : Bk w7 m ((List.replicate (st + 1).toNat false).map Value.bool) 4 := by
      have := made_list #[.bool false] (by decide) (st + 1).toNat
      rw [show (st + 1).toNat * 1 = (st + 1).toNat * #[Value.bool false].size from rfl, this] at hk7
      have h2 : ∀ n, (List.replicate n #[Value.bool false].toList).flatten = (List.replicate n false).map Value.bool := by
        intro n
        induction n with
        | zero => rfl
        | succ n ih => rw [List.replicate_succ, List.flatten_cons, ih, List.replicate_succ]; rfl
      rw [h2] at hk7
      exact hk7
    have ha7 := ha6.ext e7 (by simp) (by simp)
    have hmo : w.heap.size ≤ m := by have := E6.size; omega
    have E7 := E6.then0 e7
    refine ⟨fun k i W => ∃ t : Nat, i = (t : Int) ∧ (t : Int) ≤ st ∧ k = st.toNat - t ∧ Ext [] w W ∧ (∃ L, RepR W a la st (atOf st (j + t)) L) ∧
      ∃ bs : List Bool, Bk W m (bs.map Value.bool) 4 ∧ bs.length = (st + 1).toNat ∧ ∀ x : Nat, bs[x]? = some true → ∃ t', t' < t ∧ atOf st (j + 1 + t') = x,
      ⟨_, 0, rfl, by omega, rfl, E7, ⟨_, ha7⟩, _, hk7, by simp, fun x hx => by simp [List.getElem?_replicate] at hx⟩, ?_⟩
    clear ha6 ha7 hk7 e7 E6 E7
    rintro k i w8 ⟨t, rfl, ht, rfl, E8, ⟨L, ha8⟩, bs, hk8, hbl, hbs⟩
    refine VIf.mk (fun hc2 => ?_) (fun hc2 => ?_)
    · simp at hc2
      refine ⟨fun W => Ext [] w W ∧ (∃ L, RepR W a la st (atOf st (j + t)) L) ∧ Bk W m (bs.map Value.bool) 4, ?_, ?_⟩
      · refine VIf.mk (fun hc3 => ?_) (fun hc3 => ⟨E8, ⟨L, ha8⟩, hk8⟩)
        simp at hc3
        intro w9 hw9
        have e9 := Ext.drew' hw9
        obtain ⟨a0, hbase, hrd⟩ := hf t hc3
        have hrd6 := (hrd.ext E8 (by simp)).ext e9 (by simp)
        rw [hbase]
        refine VIx.i (by omega) (by omega) ?_
        refine VLd.i1 (f t).2.1 (hrd6.drop (i := 1) (by intro q v hq; cases q <;> simp_all)) ?_
        refine VIx.i (by omega) (by omega) ?_
        refine VLd.i1 (f t).2.2.1 (hrd6.drop (i := 2) (by intro q v hq; cases q <;> simp_all)) ?_
        refine VIx.i (by omega) (by omega) ?_
        refine VLd.i1 (f t).2.2.2 (hrd6.drop (i := 3) (by intro q v hq; cases q <;> simp_all)) ?_
        refine VCall.i (Learn_spec a la st _ L _ _ _ _ (ha8.ext e9 (by simp) (by simp))) ?_
        rintro e w10 ⟨rfl, ha10, e10⟩
        refine exW.i1 _ rfl ⟨(E8.then0 e9).then e10 (by simp; omega), ⟨_, ha10⟩, (hk8.ext e9).ext e10 ?_⟩
        obtain ⟨_, _, _, hla⟩ := ha8
        simpa using hk8.ne hla (by decide)
      · rintro w10 ⟨E10, ⟨L, ha10⟩, hk10⟩
        refine VCall.i (Turn_spec a la st (j + t) L _ hst ha10) ?_
        rintro e w11 ⟨rfl, ha11, e11⟩
        refine exW.i1 _ rfl (VSet.i ?_)
        have hma : m ≠ a := by obtain ⟨_, _, hla, _⟩ := ha10; exact hk10.ne hla (by decide)
        have hk11 := hk10.ext e11 (by simpa using hma)
        have E11 := E10.then e11 (by simp; omega)
        have hb1 : 1 ≤ atOf st (j + t + 1) ∧ atOf st (j + t + 1) ≤ st := by
          have := atOf_bd st (j + t) hst.1
          have h2 := Int.emod_nonneg (atOf st (j + t)) (b := st) (by omega)
          have h3 := Int.emod_lt_of_pos (atOf st (j + t)) (b := st) (by omega)
          rw [atOf_succ _ _ hst.1]; omega
        obtain ⟨s, hs⟩ : ∃ s : Nat, atOf st (j + t + 1) = s := ⟨(atOf st (j + t + 1)).toNat, by omega⟩
        rw [hs] at hb1 ha11 ⊢
        have hsl : s < bs.length := by omega
        have hbv : bs[s] = false := by
          cases hb : bs[s] with
          | false => rfl
          | true =>
            obtain ⟨t', ht', he⟩ := hbs s (by rw [List.getElem?_eq_getElem hsl, hb])
            exact absurd (he.trans (by rw [← hs, show j + 1 + t = j + t + 1 by omega])) (atOf_apart st hst j t' t (by omega) ht')
        refine VIx.i (by omega) (by omega) ?_
        simp only [add_blk, Int.toNat_natCast, Nat.zero_add, Nat.mul_one, Nat.add_zero]
        refine VLd.i1 (t := .bool) false (Rd.of_bk hk11 ?_) ?_
        · rw [← List.map_drop, List.drop_eq_getElem_cons hsl, hbv]; rfl
        refine VIf.f (by simp; omega) ?_
        refine VIx.i (by omega) (by omega) ?_
        simp only [add_blk, Int.toNat_natCast, Nat.zero_add, Nat.mul_one, Nat.add_zero]
        refine VSt.bk hk11 rfl (by simp; omega) fun w12 hk12 e12 => ?_
        rw [w64 (show -9223372036854775808 ≤ (t : Int) + 1 ∧ (t : Int) + 1 ≤ 9223372036854775807 by omega)]
        refine VSet.i ⟨_, by omega, t + 1, by omega, by omega, rfl, E11.then e12 (by simp; omega), ⟨L, ?_⟩, bs.set s true, ?_, by simpa using hbl, ?_⟩
        · rw [show j + (t + 1) = j + t + 1 by omega, hs]
          have hml : m ≠ la := by obtain ⟨_, _, _, hla⟩ := ha10; exact hk10.ne hla (by decide)
          exact ha11.ext e12 (by simpa using Ne.symm hma) (by simpa using Ne.symm hml)
        · have : (bs.set s true).map Value.bool = (bs.map Value.bool).take s ++ [Value.bool true] ++ (bs.map Value.bool).drop (s + 1) := by
            rw [List.map_set, List.set_eq_take_append_cons_drop]
            simp [hsl]
          rw [this]; exact hk12
        · intro x hx
          by_cases hxs : x = s
          · exact ⟨t, by omega, by rw [hxs, ← hs, show j + 1 + t = j + t + 1 by omega]⟩
          · rw [List.getElem?_set_ne (Ne.symm hxs)] at hx
            obtain ⟨t', ht', he⟩ := hbs x hx
            exact ⟨t', by omega, he⟩
    · exact ⟨rfl, E8⟩
end Go.Proofs.Ythhegdghcnhkbaa
