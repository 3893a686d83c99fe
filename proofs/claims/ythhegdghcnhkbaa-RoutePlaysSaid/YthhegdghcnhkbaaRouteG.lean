import Derived.Test.YthhegdghcnhkbaaRouteF
namespace Go.Proofs.Ythhegdghcnhkbaa
open Go.RowKit
set_option maxRecDepth 100000

theorem learn_same (st : Int) (L : List (Int × Int)) (hL : ∀ p ∈ L, 0 ≤ p.2) (shard epoch owner : Int) : xlearnOk st L shard epoch owner = learnOk st L shard epoch owner := by
  unfold xlearnOk learnOk
  by_cases hs : 0 ≤ shard ∧ shard < L.length
  · have hb : 0 ≤ (L.getD shard.toNat (0, 0)).2 := by
      rw [List.getD_eq_getElem?_getD, List.getElem?_eq_getElem (show shard.toNat < L.length by omega)]
      exact hL _ (List.getElem_mem _)
    generalize L.getD shard.toNat (0, 0) = b at hb
    obtain ⟨b1, b2⟩ := b
    simp only at hb
    rw [Bool.eq_iff_iff]
    simp only [Bool.and_eq_true, Bool.or_eq_true, decide_eq_true_eq, beq_iff_eq]
    omega
  · rw [decide_eq_false (by omega), decide_eq_false (by omega)]; rfl
theorem learn_nn (st : Int) (L : List (Int × Int)) (hL : ∀ p ∈ L, 0 ≤ p.2) (shard epoch owner : Int) : ∀ p ∈ learn st L shard epoch owner, 0 ≤ p.2 := by
  unfold learn
  split
  · rename_i h
    intro p hp
    rcases List.mem_or_eq_of_mem_set hp with h1 | h1
    · exact hL p h1
    · subst h1
      unfold learnOk at h
      rw [Bool.and_eq_true, decide_eq_true_eq] at h
      simp only
      omega
  · exact hL
theorem learn_len (st : Int) (L : List (Int × Int)) (shard epoch owner : Int) : (learn st L shard epoch owner).length = L.length := by
  unfold learn; split <;> simp

theorem RoutePlays_law (shards stores : Int) (l : Sl) (f : Nat → Int × Int × Int × Int) (w : World)
    (hf : ∀ i, i < l.len → ∃ a0, l.base = some a0 ∧ Rd w (a0.add (i * 4)) [.int .i64 (f i).1, .int .i64 (f i).2.1, .int .i64 (f i).2.2.1, .int .i64 (f i).2.2.2]) :
    Calls Try.prog 7 #[.int .i64 shards, .int .i64 stores, .slice l.base l.len l.cap] w fun e w' => e = .returned (.bool true) ∧ Ext [] w w' := by
  refine sh_butterylaw25_RoutePlays_ok _ _ _ _ _ ?_
  unfold sh_butterylaw25_RoutePlays
  refine VIf.mk (fun hc => ⟨rfl, Ext.refl _ _⟩) (fun hc => ?_)
  simp at hc
  by_cases hg : 1 ≤ shards ∧ shards ≤ 4 ∧ 1 ≤ stores ∧ stores ≤ 5
  case neg =>
    refine VCall.i (New_bad _ _ _ hg) ?_
    rintro e w1 ⟨rfl, rfl⟩
    refine exW.i2 (t := .ptr) (u := .int .i64) none (1 : Int) rfl (VSet.i ?_)
    refine VCall.i (XNew_bad _ _ _ hg) ?_
    rintro e w1 ⟨rfl, rfl⟩
    exact exW.i2 (t := .ptr) (u := .bool) none false rfl (VIf.t rfl ⟨rfl, Ext.refl _ _⟩)
  refine VCall.i (New_good _ _ w hg) ?_
  rintro e w1 ⟨a, lb, rfl, ha1, e1, hao, hlbo⟩
  refine exW.i2 _ _ rfl (VSet.i ?_)
  refine VCall.i (XNew_good _ _ _ hg) ?_
  rintro e w2 ⟨xa, ob, eb, rfl, hx2, e2, hxao, hobo, hebo⟩
  refine exW.i2 _ _ rfl (VIf.f rfl (VIf.f rfl ?_))
  have s1 := e1.size
  have ha2 := ha1.ext e2 (by simp) (by simp)
  have E2 := e1.then0 e2
  have hst : 1 ≤ stores ∧ stores ≤ 5 := ⟨hg.2.2.1, hg.2.2.2⟩
  refine ⟨fun k r i W => ∃ (j T a lb : Nat) (L : List (Int × Int)), i = (j : Int) ∧ j ≤ l.len ∧ k = l.len - j ∧ T ≤ j ∧ r = some ⟨a, 0, none⟩ ∧ w.heap.size ≤ a ∧ w.heap.size ≤ lb ∧ Ext [] w W ∧
    RepR W a lb stores (atOf stores T) L ∧ RepX W xa ob eb stores T L ∧ (∀ p ∈ L, 0 ≤ p.2) ∧ L.length = shards.toNat,
    ⟨_, 0, 0, a, lb, _, rfl, Nat.zero_le _, rfl, Nat.zero_le _, rfl, hao, hlbo, E2, ha2, hx2, fun p hp => by rw [List.eq_of_mem_replicate hp]; exact Int.le_refl _, by simp⟩, ?_⟩
  clear ha1 hx2 ha2 e1 e2 hao hlbo a lb E2
  rintro k r i w3 ⟨j, T, a, lb, L, rfl, hj, rfl, hT, rfl, hao, hlbo, E3, ha3, hx3, hL, hLl⟩
  refine VIf.mk (fun hc1 => ?_) (fun hc1 => ?_)
  case refine_2 => exact ⟨rfl, E3⟩
  simp at hc1
  obtain ⟨a0, hbase, hrd⟩ := hf j hc1
  have hrd3 := hrd.ext E3 (by simp)
  rw [hbase]
  refine VIx.i (by omega) (by omega) ?_
  refine ⟨(f j).1, (f j).2.1, (f j).2.2.1, (f j).2.2.2, gd.i hrd3, ?_⟩
  refine VNw.i fun s w4 hs4 hk4 e4 => ?_
  refine VSt.bk hk4 rfl (by simp) fun w5 hk5 e5 => ?_
  have hk5 : Bk w5 s [.int .i64 (f j).1, .int .i64 (f j).2.1, .int .i64 (f j).2.2.1, .int .i64 (f j).2.2.2] 30 := hk5
  have hsw : w.heap.size ≤ s := by have := E3.size; omega
  have h35 : Ext [] w3 w5 := e4.then e5 (by simp; omega)
  have E5 := E3.then0 h35
  have ha5 := ha3.ext h35 (by simp) (by simp)
  have hx5 := hx3.ext h35 (by simp) (by simp) (by simp)
  clear ha3 hx3 hrd3 E3 hk4 e4 e5 h35
  refine VLd.i1 (f j).1 (Rd.of_bk hk5 rfl) ?_
  -- what is apart by its type
  have apart : ∀ {W : World} {a lb : Nat} {x : Int} {L L' : List (Int × Int)} {y : Int}, RepR W a lb stores x L → RepX W xa ob eb stores y L' → a ≠ xa ∧ a ≠ ob ∧ a ≠ eb ∧ lb ≠ xa ∧ lb ≠ ob ∧ lb ≠ eb := by
    rintro W a lb x L L' y ⟨_, _, h1, h2⟩ ⟨k1, k2, k3, _⟩
    exact ⟨h1.ne k1 (by decide), h1.ne k2 (by decide), h1.ne k3 (by decide), h2.ne k1 (by decide), h2.ne k2 (by decide), h2.ne k3 (by decide)⟩
  have apartS : ∀ {W : World} {a lb : Nat} {x : Int} {L : List (Int × Int)} {cs : List Value}, RepR W a lb stores x L → Bk W s cs 30 → s ≠ a ∧ s ≠ lb := by
    rintro W a lb x L cs ⟨_, _, h1, h2⟩ k
    exact ⟨k.ne h1 (by decide), k.ne h2 (by decide)⟩
  have apartX : ∀ {W : World} {L : List (Int × Int)} {y : Int} {cs : List Value}, RepX W xa ob eb stores y L → Bk W s cs 30 → s ≠ xa ∧ s ≠ ob ∧ s ≠ eb := by
    rintro W L y cs ⟨k1, k2, k3, _⟩ k
    exact ⟨k.ne k1 (by decide), k.ne k2 (by decide), k.ne k3 (by decide)⟩
  refine ⟨fun r W => ∃ (T a lb : Nat) (L : List (Int × Int)), T ≤ j + 1 ∧ r = some ⟨a, 0, none⟩ ∧ w.heap.size ≤ a ∧ w.heap.size ≤ lb ∧ Ext [] w W ∧
    RepR W a lb stores (atOf stores T) L ∧ RepX W xa ob eb stores T L ∧ (∀ p ∈ L, 0 ≤ p.2) ∧ L.length = shards.toNat, ?_, ?_⟩
  · refine VIf.mk (fun hk => ?_) (fun hk => VIf.mk (fun hk' => ?_) (fun hk' => ?_))
    · intro w6 hw6
      have e6 := Ext.drew' hw6
      have hk6 := hk5.ext e6
      have ha6 := ha5.ext e6 (by simp) (by simp)
      have hx6 := hx5.ext e6 (by simp) (by simp) (by simp)
      have E6 := E5.then0 e6
      clear ha5 hx5 hk5 E5 e6
      refine VLd.i1 (f j).2.1 (Rd.of_bk hk6 rfl) ?_
      refine VLd.i1 (f j).2.2.1 (Rd.of_bk hk6 rfl) ?_
      refine VLd.i1 (f j).2.2.2 (Rd.of_bk hk6 rfl) ?_
      refine VLd.i1 (f j).2.1 (Rd.of_bk hk6 rfl) ?_
      refine VLd.i1 (f j).2.2.1 (Rd.of_bk hk6 rfl) ?_
      refine VLd.i1 (f j).2.2.2 (Rd.of_bk hk6 rfl) ?_
      have p1 := apart ha6 hx6
      have p2 := apartS ha6 hk6
      refine VCall.i (Learn_spec a lb stores _ L _ _ _ _ ha6) ?_
      rintro e w7 ⟨rfl, ha7, e7⟩
      refine exW.i1 _ rfl ?_
      have hk7 := hk6.ext e7 (by simpa using p2.2)
      refine ⟨Rd.of_bk hk7 rfl, Rd.of_bk hk7 rfl, Rd.of_bk hk7 rfl, ?_⟩
      have hx7 := hx6.ext e7 (by simpa using Ne.symm p1.2.2.2.1) (by simpa using Ne.symm p1.2.2.2.2.1) (by simpa using Ne.symm p1.2.2.2.2.2)
      refine VCall.i (XLearn_spec xa ob eb stores _ L _ _ _ _ hx7) ?_
      rintro e w8 ⟨rfl, hx8, e8⟩
      refine exW.i1 _ rfl ?_
      rw [learn_same stores L hL] at hx8 ⊢
      have ha8 := ha7.ext e8 (by simp; omega) (by simp; omega)
      exact VIf.f (by simp) ⟨T, a, lb, _, by omega, rfl, hao, hlbo, (E6.then e7 (by simp; omega)).then e8 (by simp; omega), ha8, hx8, learn_nn _ _ hL _ _ _, by rw [learn_len]; exact hLl⟩
    · have p1 := apart ha5 hx5
      refine VCall.i (Turn_spec a lb stores T L _ hst ha5) ?_
      rintro e w7 ⟨rfl, ha7, e7⟩
      refine exW.i1 _ rfl ?_
      have hx7 := hx5.ext e7 (by simpa using Ne.symm p1.1) (by simpa using Ne.symm p1.2.1) (by simpa using Ne.symm p1.2.2.1)
      refine VCall.i (XTurn_spec xa ob eb stores T L _ hst (by omega) hx7) ?_
      rintro e w8 ⟨rfl, hx8, e8⟩
      refine exW.i1 _ rfl ?_
      have ha8 := ha7.ext e8 (by simp; omega) (by simp; omega)
      exact VIf.f (by simp) ⟨T + 1, a, lb, L, by omega, rfl, hao, hlbo, (E5.then e7 (by simp; omega)).then e8 (by simp; omega), ha8, hx8, hL, hLl⟩
    · refine VCall.i (Copy_spec a lb stores _ L _ ha5 (by omega)) ?_
      rintro e w6 ⟨a', lb', rfl, hc6, e6, ha', hlb'⟩
      refine exW.i1 (t := .ptr) _ rfl ?_
      have ha6 := ha5.ext e6 (by simp) (by simp)
      have hx6 := hx5.ext e6 (by simp) (by simp) (by simp)
      have p1 := apart ha6 hx6
      have l5 := ha5.lt
      have n6 : a ≠ lb' ∧ lb ≠ a' := by
        obtain ⟨_, _, h1, h2⟩ := ha6; obtain ⟨_, _, k1, k2⟩ := hc6
        exact ⟨h1.ne k2 (by decide), h2.ne k1 (by decide)⟩
      refine VCall.i (Learn_spec a lb stores _ L _ _ _ _ ha6) ?_
      rintro e w7 ⟨rfl, ha7, e7⟩
      refine exW.i1 _ rfl ?_
      have hc7 := hc6.ext e7 (by simp; omega) (by simp; omega)
      have hx7 := hx6.ext e7 (by simp; omega) (by simp; omega) (by simp; omega)
      refine VCall.i (Turn_spec a lb stores T _ _ hst ha7) ?_
      rintro e w8 ⟨rfl, ha8, e8⟩
      refine exW.i1 _ rfl ?_
      have := E5.size
      exact ⟨T, a', lb', L, by omega, rfl, by omega, by omega, ((E5.then0 e6).then e7 (by simp; omega)).then e8 (by simp; omega), hc7.ext e8 (by simp; omega) (by simp; omega), hx7.ext e8 (by simp; omega) (by simp; omega) (by simp; omega), hL, hLl⟩
  · clear ha5 hx5 hk5 E5 hL hLl hao hlbo a lb L hT T
    rintro r w6 ⟨T, a, lb, L, hT, rfl, hao, hlbo, E6, ha6, hx6, hL, hLl⟩
    refine ⟨fun k i W => ∃ q : Nat, i = (q : Int) - 1 ∧ q ≤ shards.toNat + 2 ∧ k = shards.toNat + 2 - q ∧ Ext [] w W ∧ RepR W a lb stores (atOf stores T) L ∧ RepX W xa ob eb stores T L,
      ⟨_, 0, rfl, by omega, rfl, E6, ha6, hx6⟩, ?_⟩
    clear ha6 hx6 E6
    rintro k i w7 ⟨q, rfl, hq, rfl, E7, ha7, hx7⟩
    refine VIf.mk (fun hc2 => ?_) (fun hc2 => ?_)
    · simp only [decide_eq_true_eq] at hc2
      refine VCall.i (Owner_spec a lb _ _ _ _ _ ha7) ?_
      rintro e w8 ⟨rfl, e8⟩
      refine exW.i2 _ _ rfl (VSet.i (VSet.i ?_))
      refine VCall.i (XOwner_spec xa ob eb _ _ _ _ _ (hx7.ext e8 (by simp) (by simp) (by simp))) ?_
      rintro e w9 ⟨rfl, e9⟩
      refine exW.i2 _ _ rfl (VSet.i (VSet.i ?_))
      refine VIf.f (by simp) ?_
      rw [w64 (show -9223372036854775808 ≤ (q : Int) - 1 + 1 ∧ (q : Int) - 1 + 1 ≤ 9223372036854775807 by omega)]
      exact VSet.i ⟨_, by omega, q + 1, by omega, by omega, rfl, (E7.then0 e8).then0 e9, (ha7.ext e8 (by simp) (by simp)).ext e9 (by simp) (by simp), (hx7.ext e8 (by simp) (by simp) (by simp)).ext e9 (by simp) (by simp) (by simp)⟩
    · rw [w64 (show -9223372036854775808 ≤ (j : Int) + 1 ∧ (j : Int) + 1 ≤ 9223372036854775807 by omega)]
      exact VSet.i ⟨_, by omega, j + 1, T, a, lb, L, by omega, by omega, rfl, hT, rfl, hao, hlbo, E7, ha7, hx7, hL, hLl⟩
end Go.Proofs.Ythhegdghcnhkbaa
