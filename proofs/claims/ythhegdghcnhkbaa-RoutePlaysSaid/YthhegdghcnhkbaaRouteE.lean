import Derived.Test.YthhegdghcnhkbaaRouteD
namespace Go.Proofs.Ythhegdghcnhkbaa
open Go.RowKit
set_option maxRecDepth 100000

theorem Rd.lt {w : World} {a : Addr} {v : Value} {vs : List Value} (h : Rd w a (v :: vs)) : a.block < w.heap.size := by
  have h0 := h 0 v rfl
  rw [add_zero] at h0
  unfold World.cell? at h0
  cases hb : w.heap[a.block]? with
  | none => rw [hb] at h0; simp at h0
  | some o => exact (Array.getElem?_eq_some_iff.1 hb).1
theorem b3 (x : Int) : bAnd .i64 x 3 = x % 4 := bAnd_mask x 2 (by omega)
theorem b1023 (x : Int) : bAnd .i64 x 1023 = x % 1024 := bAnd_mask x 10 (by omega)

/-! what is believed -/
def own (s e : Int) : Int := (s + e * 7) % 5 + 1
def belAt (M : Nat → Int) (s : Nat) : Int × Int := if M s = 0 then (0, 0) else (own s (M s), M s)
def bel (M : Nat → Int) : List (Int × Int) := [belAt M 0, belAt M 1, belAt M 2, belAt M 3]
def upd (M : Nat → Int) (s : Nat) (e : Int) : Nat → Int := fun x => if x = s then max (M x) e else M x
theorem bel_learn (M : Nat → Int) (hM : ∀ x, 0 ≤ M x) (s : Nat) (hs : s < 4) (e : Int) (he : 0 ≤ e ∧ e ≤ 1023) : learn 5 (bel M) s e (own s e) = bel (upd M s e) := by
  have ho : 1 ≤ own s e ∧ own s e ≤ 5 := by unfold own; omega
  have hs' : s = 0 ∨ s = 1 ∨ s = 2 ∨ s = 3 := by omega
  have hk : learnOk 5 (bel M) s e (own s e) = decide (M s < e) := by
    unfold learnOk
    have hg : (bel M).getD (s : Int).toNat (0, 0) = belAt M s := by rcases hs' with rfl | rfl | rfl | rfl <;> rfl
    have h0 := hM s
    rw [hg]
    unfold belAt
    simp only [show (bel M).length = 4 from rfl]
    by_cases hz : M s = 0
    · rw [if_pos hz, hz]; simp only [beq_self_eq_true, Bool.and_self, Bool.true_or, Bool.and_true]
      exact decide_eq_decide.2 (by omega)
    · rw [if_neg hz]
      have h1 : (own (s : Int) (M s) == 0) = false := by simp [own]; omega
      rw [h1]
      simp only [Bool.false_and, Bool.false_or]
      rw [Bool.eq_iff_iff]; simp only [Bool.and_eq_true, decide_eq_true_eq]
      omega
  unfold learn
  rw [hk]
  by_cases h : M s < e
  · rw [if_pos (by simpa using h)]
    have hx : ∀ x, x ≠ s → belAt (upd M s e) x = belAt M x := fun x hx => by simp [belAt, upd, hx]
    have hy : belAt (upd M s e) s = (own s e, e) := by
      have := hM s
      simp only [belAt, upd, if_true]
      rw [show max (M s) e = e by omega, if_neg (by omega)]
    rcases hs' with rfl | rfl | rfl | rfl <;> simp only [bel, hy] <;> simp [hx]
  · rw [if_neg (by simpa using h)]
    have : upd M s e = M := by
      funext x
      by_cases hx : x = s
      · subst hx; simp only [upd, if_true]; omega
      · simp [upd, hx]
    rw [this]

def Mx (f : Nat → Nat × Int) : Nat → Nat → Int
  | 0 => fun _ => 0
  | i + 1 => upd (Mx f i) (f i).1 (f i).2
theorem upd_nn {M : Nat → Int} (h : ∀ x, 0 ≤ M x) (s : Nat) (e : Int) : ∀ x, 0 ≤ upd M s e x := fun x => by
  have := h x
  simp only [upd]; split <;> omega
theorem Mx_nn (f : Nat → Nat × Int) : ∀ i x, 0 ≤ Mx f i x
  | 0, _ => Int.le_refl _
  | i + 1, x => upd_nn (Mx_nn f i) _ _ x
theorem Mx_mono (f : Nat → Nat × Int) (i : Nat) (x : Nat) : ∀ d, Mx f i x ≤ Mx f (i + d) x
  | 0 => Int.le_refl _
  | d + 1 => by
    have := Mx_mono f i x d
    rw [← Nat.add_assoc]
    simp only [Mx, upd]; split <;> omega
theorem Mx_told (f : Nat → Nat × Int) (i n : Nat) (h : i < n) : (f i).2 ≤ Mx f n (f i).1 := by
  have := Mx_mono f (i + 1) (f i).1 (n - (i + 1))
  rw [show i + 1 + (n - (i + 1)) = n by omega] at this
  simp only [Mx, upd] at this
  simp at this
  omega

theorem bel0 : List.replicate (Int.toNat 4) ((0 : Int), (0 : Int)) = bel (fun _ => 0) := rfl

/-- tell one step -/
theorem tell (a lb : Nat) (M : Nat → Int) (hM : ∀ x, 0 ≤ M x) (s : Nat) (hs : s < 4) (e : Int) (he : 0 ≤ e ∧ e ≤ 1023) (w : World) (h : RepR w a lb 5 0 (bel M)) :
    Calls Try.prog 10 #[.pointer (some ⟨a, 0, none⟩), .int .i64 s, .int .i64 e, .int .i64 (own s e)] w fun e' w' =>
      ∃ r : Bool, e' = .returned (.bool r) ∧ RepR w' a lb 5 0 (bel (upd M s e)) ∧ Ext [lb] w w' := by
  refine (Learn_spec a lb 5 0 (bel M) s e (own s e) w h).mono fun e' w' ⟨h1, h2, h3⟩ => ⟨_, h1, ?_, h3⟩
  rw [bel_learn M hM s hs e he] at h2
  exact h2

theorem RouteNewest_law (l : Sl) (by_ : Int) (f : Nat → Int × Int × Int × Int) (w : World)
    (hf : ∀ i, i < l.len → ∃ a0, l.base = some a0 ∧ Rd w (a0.add (i * 4)) [.int .i64 (f i).1, .int .i64 (f i).2.1, .int .i64 (f i).2.2.1, .int .i64 (f i).2.2.2]) :
    Calls Try.prog 3 #[.slice l.base l.len l.cap, .int .i64 by_] w fun e w' => e = .returned (.bool true) ∧ Ext [] w w' := by
  refine sh_butterylaw25_RouteNewest_ok _ _ _ _ ?_
  unfold sh_butterylaw25_RouteNewest
  refine VCall.i (works_spec _) ?_
  rintro e w1 ⟨rfl, e1⟩
  refine exW.i1 _ rfl (VIf.mk (fun hc => ?_) (fun hc => ?_))
  · refine VCall.i (works_spec _) ?_
    rintro e w2 ⟨rfl, e2⟩
    exact exW.i1 _ rfl ⟨rfl, e1.then0 e2⟩
  simp at hc
  let g : Nat → Nat × Int := fun i => (((f i).2.1 % 4).toNat, (f i).2.2.1 % 1024)
  have hg1 : ∀ i, ((g i).1 : Int) = (f i).2.1 % 4 := fun i => by simp only [g]; omega
  have hg2 : ∀ i, (g i).2 = (f i).2.2.1 % 1024 := fun i => rfl
  have hg : ∀ i, (g i).1 < 4 ∧ 0 ≤ (g i).2 ∧ (g i).2 ≤ 1023 := fun i => by have := hg1 i; have := hg2 i; omega
  clear_value g
  refine VCall.i (New_good 4 5 w1 (by omega)) ?_
  rintro e w3 ⟨a, la, rfl, ha3, e3, hao, hlao⟩
  refine exW.i2 _ _ rfl (VSet.i ?_)
  have haL := ha3.lt
  have haN := ha3.ne
  have s1 := e1.size
  refine VCall.i (New_good 4 5 w3 (by omega)) ?_
  rintro e w4 ⟨b, lb, rfl, hb4, e4, hbo, hlbo⟩
  have hbL := hb4.lt
  have hbN := hb4.ne
  have ha4 := ha3.ext e4 (by simp) (by simp)
  refine exW.i2 _ _ rfl (VSet.i (VIf.f rfl ?_))
  have s3 := e3.size
  have s4 := e4.size
  have e4 := (e1.then0 e3).then0 e4
  rw [bel0] at ha4 hb4
  refine VMk.i (by omega) (by omega) (by omega) (by omega) (fun m w5 hm hk5 e5 => ?_)
  have ha5 := ha4.ext e5 (by simp) (by simp)
  have hb5 := hb4.ext e5 (by simp) (by simp)
  have E5 := e4.then0 e5
  have hk5 : Bk w5 m [.int .i64 (Mx g 0 0), .int .i64 (Mx g 0 1), .int .i64 (Mx g 0 2), .int .i64 (Mx g 0 3)] 3 := by
    have := made_list #[.int .i64 0] (by decide) 4
    rw [show Int.toNat 4 * 1 = 4 * #[Value.int .i64 0].size from rfl, this] at hk5
    exact hk5
  have hmo : ∀ {W W' : World} {M : List Nat}, Ext [] w W → Ext M W W' → (∀ i ∈ M, i = a ∨ i = la ∨ i = b ∨ i = lb ∨ i = m) → Ext [] w W' := fun x y hm => x.then y fun i hi hlt => by rcases hm i hi with h | h | h | h | h <;> omega
  refine ⟨fun k i W => ∃ j : Nat, i = (j : Int) ∧ j ≤ l.len ∧ k = l.len - j ∧ Ext [] w W ∧ RepR W a la 5 0 (bel (Mx g j)) ∧ RepR W b lb 5 0 (bel fun _ => 0) ∧
    Bk W m [.int .i64 (Mx g j 0), .int .i64 (Mx g j 1), .int .i64 (Mx g j 2), .int .i64 (Mx g j 3)] 3, ⟨_, 0, rfl, Nat.zero_le _, rfl, E5, ha5, hb5, hk5⟩, ?_⟩
  clear ha3 ha4 ha5 hb4 hb5 e1 e3 e4 e5 hk5 E5
  rintro k i w6 ⟨j, rfl, hj, rfl, E6, ha6, hb6, hk6⟩
  refine VIf.mk (fun hc1 => ?_) (fun hc1 => ?_)
  · simp at hc1
    obtain ⟨a0, hbase, hrd⟩ := hf j hc1
    have hrd6 := hrd.ext E6 (by simp)
    refine ⟨fun W => Ext [] w W ∧ RepR W a la 5 0 (bel (Mx g (j + 1))) ∧ RepR W b lb 5 0 (bel fun _ => 0) ∧
      Bk W m [.int .i64 (Mx g (j + 1) 0), .int .i64 (Mx g (j + 1) 1), .int .i64 (Mx g (j + 1) 2), .int .i64 (Mx g (j + 1) 3)] 3, ?_, ?_⟩
    · rw [hbase]
      refine VIx.i (by omega) (by omega) ?_
      refine VLd.i1 (f j).2.1 (hrd6.drop (i := 1) (by intro q v hq; cases q <;> simp_all)) (VSet.i ?_)
      refine VIx.i (by omega) (by omega) ?_
      refine VLd.i1 (f j).2.2.1 (hrd6.drop (i := 2) (by intro q v hq; cases q <;> simp_all)) (VSet.i ?_)
      rw [b3, b1023, ← hg1, ← hg2]
      have hgj := hg j
      refine VCall.i (owner_spec (g j).1 (g j).2 w6 (by omega)) ?_
      rintro e w7 ⟨rfl, rfl⟩
      refine exW.i1 _ rfl ?_
      refine VCall.i (tell a la (Mx g j) (Mx_nn g j) (g j).1 hgj.1 (g j).2 hgj.2 _ ha6) ?_
      rintro e w8 ⟨r, rfl, ha8, e8⟩
      refine exW.i1 _ rfl ?_
      have hb8 := hb6.ext e8 (by simp; omega) (by simp; omega)
      have hk8 := hk6.ext e8 (by simp; omega)
      have E8 := hmo E6 e8 (by simp)
      refine VIx.i (by omega) (by omega) ?_
      simp only [add_blk, Int.toNat_natCast, Nat.add_zero, Nat.mul_one]
      have hM1 : ∀ x, Mx g (j + 1) x = if x = (g j).1 then max (Mx g j x) (g j).2 else Mx g j x := fun x => rfl
      generalize hs : (g j).1 = s at *
      have hs4 : s < 4 := by omega
      have hrdm : Rd w8 ⟨m, s, none⟩ [.int .i64 (Mx g j s)] := by
        have : s = 0 ∨ s = 1 ∨ s = 2 ∨ s = 3 := by omega
        rcases this with rfl | rfl | rfl | rfl <;> exact Rd.of_bk hk8 rfl
      simp only [Nat.zero_add]
      refine VLd.i1 (Mx g j s) hrdm ?_
      refine VIf.mk (fun hc2 => ?_) (fun hc2 => ?_)
      · simp at hc2
        refine VIx.i (by omega) (by omega) ?_
        simp only [add_blk, Int.toNat_natCast, Nat.add_zero, Nat.mul_one, Nat.zero_add]
        refine VSt.bk hk8 rfl (by simp; omega) fun w9 hk9 e9 => ?_
        refine ⟨hmo E8 e9 (by simp), by have := ha8.ext e9 (by simp; omega) (by simp; omega); simpa only [Mx, hs] using this, hb8.ext e9 (by simp; omega) (by simp; omega), ?_⟩
        have : s = 0 ∨ s = 1 ∨ s = 2 ∨ s = 3 := by omega
        simp only [hM1]
        have hmx : max (Mx g j s) (g j).2 = (g j).2 := by omega
        rcases this with rfl | rfl | rfl | rfl <;> simpa [hmx] using hk9
      · simp at hc2
        refine ⟨E8, by simpa only [Mx, hs] using ha8, hb8, ?_⟩
        have : ∀ x, Mx g (j + 1) x = Mx g j x := fun x => by rw [hM1]; split <;> (try subst x) <;> omega
        simpa only [this] using hk8
    · rintro w10 ⟨E, h1, h2, h3⟩
      rw [w64 (show -9223372036854775808 ≤ (j : Int) + 1 ∧ (j : Int) + 1 ≤ 9223372036854775807 by omega)]
      exact VSet.i ⟨_, by omega, j + 1, by omega, by omega, rfl, E, h1, h2, h3⟩
  · simp at hc1
    obtain rfl : j = l.len := by omega
    have hby : 0 ≤ Int.tmod (IntKind.wrap .u64 by_) 100 ∧ Int.tmod (IntKind.wrap .u64 by_) 100 < 100 := by
      rw [w64u, Int.tmod_eq_emod_of_nonneg (by omega)]; omega
    generalize Int.tmod (IntKind.wrap .u64 by_) 100 = q at hby
    rw [w64 (show -9223372036854775808 ≤ q ∧ q ≤ 9223372036854775807 by omega), w64 (show -9223372036854775808 ≤ 2 * q ∧ 2 * q ≤ 9223372036854775807 by omega), w64 (show -9223372036854775808 ≤ 2 * q + 1 ∧ 2 * q + 1 ≤ 9223372036854775807 by omega)]
    refine VSet.i ?_
    rw [w64 (show -9223372036854775808 ≤ 2 * (l.len : Int) ∧ 2 * (l.len : Int) ≤ 9223372036854775807 by omega)]
    generalize hn : l.len = n at *
    refine ⟨fun k i W => ∃ (j : Nat) (M : Nat → Int), i = (j : Int) ∧ j ≤ 2 * n ∧ k = 2 * n - j ∧ Ext [] w W ∧ RepR W a la 5 0 (bel (Mx g n)) ∧ RepR W b lb 5 0 (bel M) ∧ (∀ x, 0 ≤ M x ∧ M x ≤ Mx g n x) ∧
      Bk W m [.int .i64 (Mx g n 0), .int .i64 (Mx g n 1), .int .i64 (Mx g n 2), .int .i64 (Mx g n 3)] 3, ⟨_, 0, _, rfl, Nat.zero_le _, rfl, E6, ha6, hb6, fun x => ⟨Int.le_refl _, Mx_nn g n x⟩, hk6⟩, ?_⟩
    clear ha6 hb6 hk6 E6
    rintro k i w6 ⟨j, M, rfl, hj, rfl, E6, ha6, hb6, hM, hk6⟩
    refine VIf.mk (fun hc1 => ?_) (fun hc1 => ?_)
    · simp at hc1
      refine VCk.i (by omega) (VCk.i (by omega) ?_)
      have hk : ∃ t : Nat, Int.tmod (IntKind.wrap .i64 (IntKind.wrap .i64 ((j : Int) * (2 * q + 1)) + IntKind.wrap .i64 (Int.tdiv j n))) n = (t : Int) ∧ t < n := by
        have h1 : (j : Int) * (2 * q + 1) ≤ 400 * 201 := Int.mul_le_mul (by omega) (by omega) (by omega) (by omega)
        have h2 : 0 ≤ (j : Int) * (2 * q + 1) := Int.mul_nonneg (by omega) (by omega)
        have h3 : Int.tdiv (j : Int) n = (j : Int) / n := Int.tdiv_eq_ediv_of_nonneg (by omega)
        have h4 : 0 ≤ (j : Int) / n := Int.ediv_nonneg (by omega) (by omega)
        have h5 : (j : Int) / n ≤ j := Int.ediv_le_self _ (by omega)
        rw [h3, w64 (n := (j : Int) * (2 * q + 1)) (by omega), w64 (n := (j : Int) / n) (by omega), w64 (by omega), Int.tmod_eq_emod_of_nonneg (by omega)]
        have h6 := Int.emod_nonneg ((j : Int) * (2 * q + 1) + (j : Int) / n) (b := n) (by omega)
        have h7 := Int.emod_lt_of_pos ((j : Int) * (2 * q + 1) + (j : Int) / n) (b := n) (by omega)
        exact ⟨_, (Int.toNat_of_nonneg h6).symm, by omega⟩
      obtain ⟨t, ht, htn⟩ := hk
      rw [ht]
      refine VSet.i ?_
      obtain ⟨a0, hbase, hrd⟩ := hf t htn
      have hrd6 := hrd.ext E6 (by simp)
      rw [hbase]
      refine VIx.i (by omega) (by omega) ?_
      refine VLd.i1 (f t).2.1 (hrd6.drop (i := 1) (by intro q v hq; cases q <;> simp_all)) (VSet.i ?_)
      refine VIx.i (by omega) (by omega) ?_
      refine VLd.i1 (f t).2.2.1 (hrd6.drop (i := 2) (by intro q v hq; cases q <;> simp_all)) (VSet.i ?_)
      rw [b3, b1023, ← hg1, ← hg2]
      have hgj := hg t
      refine VCall.i (owner_spec (g t).1 (g t).2 w6 (by omega)) ?_
      rintro e w7 ⟨rfl, rfl⟩
      refine exW.i1 _ rfl ?_
      refine VCall.i (tell b lb M (fun x => (hM x).1) (g t).1 hgj.1 (g t).2 hgj.2 _ hb6) ?_
      rintro e w8 ⟨r, rfl, hb8, e8⟩
      refine exW.i1 _ rfl ?_
      rw [w64 (show -9223372036854775808 ≤ (j : Int) + 1 ∧ (j : Int) + 1 ≤ 9223372036854775807 by omega)]
      refine VSet.i ⟨_, by omega, j + 1, _, by omega, by omega, rfl, hmo E6 e8 (by simp), ha6.ext e8 (by simp; omega) (by simp; omega), hb8, fun x => ⟨upd_nn (fun x => (hM x).1) _ _ x, ?_⟩, hk6.ext e8 (by simp; omega)⟩
      have := (hM x).2
      have := Mx_told g t n htn
      simp only [upd]; split
      · subst x; omega
      · omega
    · refine ⟨fun k i W => ∃ (j : Nat) (M : Nat → Int), i = (j : Int) ∧ j ≤ n ∧ k = n - j ∧ Ext [] w W ∧ RepR W a la 5 0 (bel (Mx g n)) ∧ RepR W b lb 5 0 (bel M) ∧ (∀ x, 0 ≤ M x ∧ M x ≤ Mx g n x ∧ Mx g j x ≤ M x) ∧
        Bk W m [.int .i64 (Mx g n 0), .int .i64 (Mx g n 1), .int .i64 (Mx g n 2), .int .i64 (Mx g n 3)] 3, ⟨_, 0, _, rfl, Nat.zero_le _, rfl, E6, ha6, hb6, fun x => ⟨(hM x).1, (hM x).2, (hM x).1⟩, hk6⟩, ?_⟩
      clear ha6 hb6 hk6 E6
      clear hM M hj hc1
      rintro k i w6 ⟨j, M, rfl, hj, rfl, E6, ha6, hb6, hM, hk6⟩
      refine VIf.mk (fun hc1 => ?_) (fun hc1 => ?_)
      · simp at hc1
        obtain ⟨a0, hbase, hrd⟩ := hf j hc1
        have hrd6 := hrd.ext E6 (by simp)
        rw [hbase]
        refine VIx.i (by omega) (by omega) ?_
        refine VLd.i1 (f j).2.1 (hrd6.drop (i := 1) (by intro q v hq; cases q <;> simp_all)) (VSet.i ?_)
        refine VIx.i (by omega) (by omega) ?_
        refine VLd.i1 (f j).2.2.1 (hrd6.drop (i := 2) (by intro q v hq; cases q <;> simp_all)) (VSet.i ?_)
        rw [b3, b1023, ← hg1, ← hg2]
        have hgj := hg j
        refine VCall.i (owner_spec (g j).1 (g j).2 w6 (by omega)) ?_
        rintro e w7 ⟨rfl, rfl⟩
        refine exW.i1 _ rfl ?_
        refine VCall.i (tell b lb M (fun x => (hM x).1) (g j).1 hgj.1 (g j).2 hgj.2 _ hb6) ?_
        rintro e w8 ⟨r, rfl, hb8, e8⟩
        refine exW.i1 _ rfl ?_
        rw [w64 (show -9223372036854775808 ≤ (j : Int) + 1 ∧ (j : Int) + 1 ≤ 9223372036854775807 by omega)]
        refine VSet.i ⟨_, by omega, j + 1, _, by omega, by omega, rfl, hmo E6 e8 (by simp), ha6.ext e8 (by simp; omega) (by simp; omega), hb8, fun x => ⟨upd_nn (fun x => (hM x).1) _ _ x, ?_⟩, hk6.ext e8 (by simp; omega)⟩
        have := hM x
        have := Mx_told g j n hc1
        simp only [upd, Mx]; split
        · subst x; omega
        · omega
      · simp at hc1
        obtain rfl : j = n := by omega
        obtain rfl : M = Mx g j := by funext x; have := hM x; omega
        clear hM hc1
        refine ⟨fun k i W => ∃ (s : Nat), i = (s : Int) ∧ s ≤ 4 ∧ k = 4 - s ∧ Ext [] w W ∧ RepR W a la 5 0 (bel (Mx g j)) ∧ RepR W b lb 5 0 (bel (Mx g j)) ∧
          Bk W m [.int .i64 (Mx g j 0), .int .i64 (Mx g j 1), .int .i64 (Mx g j 2), .int .i64 (Mx g j 3)] 3, ⟨_, 0, rfl, Nat.zero_le _, rfl, E6, ha6, hb6, hk6⟩, ?_⟩
        clear ha6 hb6 hk6 E6
        rintro k i w6 ⟨s, rfl, hs, rfl, E6, ha6, hb6, hk6⟩
        refine VIf.mk (fun hc1 => ?_) (fun hc1 => ?_)
        · simp at hc1
          have hs4 : s = 0 ∨ s = 1 ∨ s = 2 ∨ s = 3 := by omega
          have hso : ownerOf (bel (Mx g j)) s = belAt (Mx g j) s := by rcases hs4 with rfl | rfl | rfl | rfl <;> rfl
          refine VCall.i (Owner_spec a la _ _ _ s _ ha6) ?_
          rintro e w7 ⟨rfl, e7⟩
          refine exW.i2 _ _ rfl (VSet.i (VSet.i ?_))
          refine VCall.i (Owner_spec b lb _ _ _ s _ (hb6.ext e7 (by simp) (by simp))) ?_
          rintro e w8 ⟨rfl, e8⟩
          refine exW.i2 _ _ rfl (VSet.i (VSet.i ?_))
          have hk8 := (hk6.ext e7).ext e8
          have ha8 := (ha6.ext e7 (by simp) (by simp)).ext e8 (by simp) (by simp)
          have hb8 := (hb6.ext e7 (by simp) (by simp)).ext e8 (by simp) (by simp)
          have E8 := (E6.then0 e7).then0 e8
          have hn0 := Mx_nn g j s
          have hrdm : Rd w8 ⟨m, s, none⟩ [.int .i64 (Mx g j s)] := by
            rcases hs4 with rfl | rfl | rfl | rfl <;> exact Rd.of_bk hk8 rfl
          rw [hso]
          have hsnd : (belAt (Mx g j) s).2 = Mx g j s := by unfold belAt; split <;> simp_all
          rw [hsnd]
          refine VIx.i (by omega) (by omega) ?_
          simp only [add_blk, Int.toNat_natCast, Nat.add_zero, Nat.mul_one, Nat.zero_add]
          refine VLd.i1 (Mx g j s) hrdm ?_
          refine VIx.i (by omega) (by omega) ?_
          simp only [add_blk, Int.toNat_natCast, Nat.add_zero, Nat.mul_one, Nat.zero_add]
          refine VLd.i1 (Mx g j s) hrdm ?_
          have hbd : Mx g j s ≤ 1023 := by
            have : ∀ i, Mx g i s ≤ 1023 := by
              intro i
              induction i with
              | zero => simp [Mx]
              | succ i ih => have := hg i; simp only [Mx, upd]; split <;> omega
            exact this j
          have step : VIf (((((Mx g j s != Mx g j s) || (Mx g j s != Mx g j s)) || ((belAt (Mx g j) s).1 != (belAt (Mx g j) s).1)) || ((decide (Mx g j s > 0)) && ((belAt (Mx g j) s).1 != own s (Mx g j s)))) || ((Mx g j s == 0) && ((belAt (Mx g j) s).1 != 0))) False True := by
            refine VIf.f ?_ trivial
            unfold belAt
            split <;> rename_i hz
            · simp [hz]
            · simp [hz]
          have hcond := step.1
          cases hd : decide (Mx g j s > 0) with
          | false =>
            refine VCall.off (by simp) ?_
            refine exW.i1 (t := .int .i64) (0 : Int) trivial ?_
            refine VIf.f ?_ ?_
            · simp at hd
              have hz : Mx g j s = 0 := by omega
              simp [belAt, hz]
            rw [w64 (show -9223372036854775808 ≤ (s : Int) + 1 ∧ (s : Int) + 1 ≤ 9223372036854775807 by omega)]
            exact VSet.i ⟨_, by omega, s + 1, by omega, by omega, rfl, E8, ha8, hb8, hk8⟩
          | true =>
            simp at hd
            have hz : Mx g j s ≠ 0 := by omega
            refine VCall.on (by simp [hd]) (VCall.i (owner_spec s (Mx g j s) w8 (by omega)) ?_)
            rintro e w9 ⟨rfl, rfl⟩
            refine exW.i1 _ rfl ?_
            refine VIf.f ?_ ?_
            · simp [belAt, hz, own]
            rw [w64 (show -9223372036854775808 ≤ (s : Int) + 1 ∧ (s : Int) + 1 ≤ 9223372036854775807 by omega)]
            exact VSet.i ⟨_, by omega, s + 1, by omega, by omega, rfl, E8, ha8, hb8, hk8⟩
        · exact ⟨rfl, E6⟩
end Go.Proofs.Ythhegdghcnhkbaa
