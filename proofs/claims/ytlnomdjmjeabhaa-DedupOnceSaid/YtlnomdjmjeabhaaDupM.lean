/-
  Package dedup: places, and what is kept apart (printed by walks/laws.py).
-/
import Derived.Test.YtlnomdjmjeabhaaDupL
namespace Go.Proofs.Ytlnomdjmjeabhaa
open Go.RowKit
set_option maxRecDepth 100000

theorem sumW_plain : ∀ (l : List UInt8) (a : Int), 0 ≤ a → a + 255 * (l.length : Int) ≤ 9223372036854775807 → l.foldl (fun s b => IntKind.wrap .i64 (s + ((b.toNat : Nat) : Int))) a = a + ((l.map UInt8.toNat).sum : Nat)
  | [], a, _, _ => by simp
  | x :: l, a, h0, h => by
    have hx := UInt8.toNat_lt x
    simp only [List.length_cons] at h
    rw [List.foldl_cons, w64 (by omega), sumW_plain l _ (by omega) (by omega)]
    simp only [List.map_cons, List.sum_cons]
    omega
theorem sum_le : ∀ l : List UInt8, (l.map UInt8.toNat).sum ≤ 255 * l.length
  | [] => by simp
  | x :: l => by
    have hx := UInt8.toNat_lt x
    have := sum_le l
    simp only [List.map_cons, List.sum_cons, List.length_cons]
    omega
def sumB (k : ByteArray) : Nat := (k.data.toList.map UInt8.toNat).sum
theorem place_sum {k : ByteArray} {n : Int} (hk : k.size ≤ 10000000) (hn : 1 ≤ n) : placeO k n = ((sumB k : Nat) : Int) % n := by
  have hl : k.data.toList.length = k.size := Array.length_toList
  unfold placeO sumW
  rw [if_neg (by omega), sumW_plain _ 0 (by omega) (by rw [hl]; omega), Int.zero_add, Int.tmod_eq_emod_of_nonneg (by omega)]
  rfl
theorem sumB_app (a b : ByteArray) : sumB (a ++ b) = sumB a + sumB b := by
  unfold sumB
  rw [ByteArray.data_append, Array.toList_append, List.map_append, List.sum_append]
theorem places (x : Int) : ∃ n : Int, IntKind.wrap .i64 (1 + (IntKind.wrap .i64 (Int.tmod (IntKind.wrap .u64 x) 1000))) = n ∧ 1 ≤ n ∧ n ≤ 1000 := by
  have h0 : 0 ≤ IntKind.wrap .u64 x := by rw [w64u]; exact Int.emod_nonneg _ (by omega)
  rw [Int.tmod_eq_emod_of_nonneg h0]
  have h1 := Int.emod_nonneg (IntKind.wrap .u64 x) (show (1000 : Int) ≠ 0 by omega)
  have h2 := Int.emod_lt_of_pos (IntKind.wrap .u64 x) (show (0 : Int) < 1000 by omega)
  refine ⟨1 + IntKind.wrap .u64 x % 1000, ?_, by omega, by omega⟩
  rw [w64 (n := IntKind.wrap .u64 x % 1000) (by omega), w64 (by omega)]
theorem VCk.on {c : Bool} {p K : Prop} (h : p) (k : K) : VCk (some c) p K := ⟨gd.i h, k⟩
theorem Places_law (a b : ByteArray) (n : Int) (w : World) (ha : a.size ≤ 2000000) (hb : b.size ≤ 2000000) : Calls Try.prog 9 #[.string a, .string b, .int .i64 n] w fun e w' => e = .returned (.bool true) ∧ Ext [] w w' := by
  refine sh_butterylaw09_DedupPlaces_ok _ _ _ _ _ ?_
  unfold sh_butterylaw09_DedupPlaces
  refine VCall.i (works_spec w) ?_
  rintro e w1 ⟨rfl, e1⟩
  refine ⟨true, rfl, VIf.f rfl ?_⟩
  obtain ⟨q, hq, q1, q2⟩ := places n
  rw [hq]
  refine VSet.i ?_
  have pa := place_sum (k := a) (n := q) (by omega) q1
  have pb := place_sum (k := b) (n := q) (by omega) q1
  have hsz : (a ++ b).size = a.size + b.size := ByteArray.size_append
  have hsz2 : (b ++ a).size = b.size + a.size := ByteArray.size_append
  have pab := place_sum (k := a ++ b) (n := q) (by omega) q1
  have pba := place_sum (k := b ++ a) (n := q) (by omega) q1
  have pa1 := place_sum (k := a) (n := 1) (by omega) (by omega)
  rw [sumB_app] at pab pba
  refine VCall.i (Place_spec a q w1 (by omega)) ?_
  rintro e w2 ⟨rfl, e2⟩
  refine ⟨placeO a q, rfl, VSet.i ?_⟩
  refine VCall.i (Place_spec b q w2 (by omega)) ?_
  rintro e w3 ⟨rfl, e3⟩
  refine ⟨placeO b q, rfl, VSet.i ?_⟩
  intro w4 hw4
  have e04 := ((e1.then0 e2).then0 e3).then0 (Ext.drew' hw4)
  refine VCk.on (by omega) (VCk.on (by omega) ?_)
  refine VCall.opt (Place_spec (a ++ b) q w4 (by omega)) fun w5 e5 => ⟨_, rfl, ?_⟩
  refine VCk.on (by omega) (VCk.on (by omega) ?_)
  refine VCall.opt (Place_spec (b ++ a) q w5 (by omega)) fun w6 e6 => ⟨_, rfl, ?_⟩
  refine VCall.opt (Place_spec (a ++ b) q w6 (by omega)) fun w7 e7 => ⟨_, rfl, ?_⟩
  refine VCall.opt (Place_spec a 1 w7 (by omega)) fun w8 e8 => ⟨_, rfl, ?_, (((e04.then0 e5).then0 e6).then0 e7).then0 e8⟩
  rw [pa, pb, pab, pba, pa1]
  have h1 := Int.emod_nonneg ((sumB a : Nat) : Int) (show q ≠ 0 by omega)
  have h2 := Int.emod_lt_of_pos ((sumB a : Nat) : Int) (show 0 < q by omega)
  have h3 := Int.emod_nonneg ((sumB b : Nat) : Int) (show q ≠ 0 by omega)
  have h4 := Int.emod_lt_of_pos ((sumB b : Nat) : Int) (show 0 < q by omega)
  have h5 : (((sumB a + sumB b : Nat) : Int)) % q = Int.tmod (IntKind.wrap .i64 (((sumB a : Nat) : Int) % q + ((sumB b : Nat) : Int) % q)) q := by
    rw [w64 (by omega), Int.tmod_eq_emod_of_nonneg (by omega), ← Int.add_emod]
    congr 1
  have h6 : ((sumB b + sumB a : Nat) : Int) = ((sumB a + sumB b : Nat) : Int) := by omega
  rw [h6, ← h5]
  have h7 : ((sumB a : Nat) : Int) % 1 = 0 := Int.emod_one _
  rw [h7]
  simp [h1, h2]

theorem seen_apart {l : List Ls} {x : Ls} {who k : Int} (h : x.1 ≠ who) : seenO (putN l x) who k = seenO l who k := by
  unfold seenO
  rw [fstL_put, if_neg h]
theorem seen_own {l : List Ls} {who id : Int} {r : Rs} : (seenO (putN l (who, id, r)) who id) = (r, 0) := by
  unfold seenO
  rw [fstL_put, if_pos rfl]
  simp only
  rw [if_neg (by omega), if_neg (by omega)]
theorem has_apart {m : List Pr} {o : Wo} {k : ByteArray} (h : o.key ≠ k) : hasP (doM m o) k = hasP m k ∧ valP (doM m o) k = valP m k := by
  unfold hasP valP
  rw [do_apart m o k h]
  exact ⟨rfl, rfl⟩
theorem step_cases (m : List Pr) (l : List Ls) (who id : Int) (o : Wo) : ((stepO m l who id o).2.2.2 ≠ 0 ∧ (stepO m l who id o).1 = [] ∧ (stepO m l who id o).2.1 = []) ∨
    ((stepO m l who id o).2.2.2 = 0 ∧ (stepO m l who id o).1 = m ∧ (stepO m l who id o).2.1 = l ∧ (seenO l who id).2 = 0) ∨ ((stepO m l who id o).2.2.2 = 0 ∧ (stepO m l who id o).1 = doM m o ∧ (stepO m l who id o).2.1 = putN l (who, id, doR m o)) := by
  by_cases hc : checkO o = 0
  · by_cases hk : o.kind = 1
    · left; rw [step_get hc hk]; exact ⟨by decide, rfl, rfl⟩
    · by_cases h0 : (seenO l who id).2 = 0
      · right; left; rw [step_old hc hk h0]; exact ⟨rfl, rfl, rfl, h0⟩
      · by_cases h6 : (seenO l who id).2 = 6
        · left; rw [step_late hc hk h6]; exact ⟨by decide, rfl, rfl⟩
        · right; right; rw [step_new hc hk h0 h6]; exact ⟨rfl, rfl, rfl⟩
  · left; rw [step_bad hc]; exact ⟨hc, rfl, rfl⟩
set_option maxHeartbeats 1000000 in
theorem Apart_law (s q : Sl) (m : List Pr) (l : List Ls) (who id : Int) (o : Wo) (key : ByteArray) (other : Int) (w : World) (h : InR prR w s m) (hq : InR lsR w q l) (hk : 0 ≤ o.kind ∧ o.kind ≤ 255) (hb : m.length ≤ 2000000) (hlb : l.length ≤ 2000000) :
    Calls Try.prog 7 #[.slice s.base s.len s.cap, .slice q.base q.len q.cap, .int .i64 who, .int .i64 id, .agg #[.int .u8 o.kind, .string o.key, .string o.value, .string o.old, .bool o.had], .string key, .int .i64 other] w fun e w' => e = .returned (.bool true) ∧ Ext [] w w' := by
  refine sh_butterylaw09_DedupApart_ok _ _ _ _ _ _ _ _ _ _ _ _ _ ?_
  unfold sh_butterylaw09_DedupApart
  refine VNw.i fun op_11 w1 hb1 hk1 e1 => ?_
  have hk1 : Bk w1 op_11 [.int .u8 o.kind, .string o.key, .string o.value, .string o.old, .bool o.had] 24 := hk1
  have z1 := e1.size
  have l1 := hk1.lt
  refine VCall.i (works_spec w1) ?_
  rintro e w2 ⟨rfl, e2⟩
  have z2 := e2.size
  refine ⟨true, rfl, ?_⟩
  refine VIf.f (rfl) ?_
  have hop_11_2 := hk1.ext e2
  refine ⟨o.kind, o.key, o.value, o.old, o.had, gd.i (Rd.of_bk hop_11_2 rfl), ?_⟩
  have e0_2 := e1.then0 e2
  have h_2 := h.ext0 e0_2
  have hq_2 := hq.ext0 e0_2
  refine VCall.i (Step_spec s q m l who id o w2 h_2 hq_2 hk (by omega) (by omega)) ?_
  rintro e w3 ⟨ra, rp, rfl, hA, hP, e3⟩
  have z3 := e3.size
  refine ⟨ra, rp, (stepO m l who id o).2.2.1.1, (stepO m l who id o).2.2.1.2.1, (stepO m l who id o).2.2.1.2.2, (stepO m l who id o).2.2.2, rfl, ?_⟩
  refine VNw.i fun b17 w4 hb4 hk4 e4 => ?_
  have hk4 : Bk w4 b17 [.int .u8 0, .bool false, .string ByteArray.empty] 31 := hk4
  have z4 := e4.size
  have l4 := hk4.lt
  refine VSt.bk hk4 rfl (by simp) fun w5 hk5 e5 => ?_
  have hk5 : Bk w5 b17 [.int .u8 (stepO m l who id o).2.2.1.1, .bool (stepO m l who id o).2.2.1.2.1, .string (stepO m l who id o).2.2.1.2.2] 31 := hk5
  have z5 := e5.size
  refine VSet.i ?_
  refine VIf.mk (fun hc => ?_) (fun hc => ?_)
  · have hne : (stepO m l who id o).2.2.2 ≠ 0 := by simpa using hc
    obtain ⟨hA1, hP1⟩ : (stepO m l who id o).1 = [] ∧ (stepO m l who id o).2.1 = [] := by
      rcases step_cases m l who id o with h1 | h1 | h1
      · exact h1.2
      · exact absurd h1.1 hne
      · exact absurd h1.1 hne
    have la := hA.len
    have lp := hP.len
    rw [hA1] at la
    rw [hP1] at lp
    have e0_3 := e0_2.then0 e3
    have e0_4 := e0_3.then0 e4
    have e0_5 := e0_4.then e5 (fun i hi hlt => by simp at hi; omega)
    exact ⟨by rw [la, lp]; rfl, e0_5⟩
  · have he0 : (stepO m l who id o).2.2.2 = 0 := by simpa using hc
    have hcs : ((stepO m l who id o).1 = m ∧ (stepO m l who id o).2.1 = l ∧ (seenO l who id).2 = 0) ∨ ((stepO m l who id o).1 = doM m o ∧ (stepO m l who id o).2.1 = putN l (who, id, doR m o)) := by
      rcases step_cases m l who id o with h1 | h1 | h1
      · exact absurd he0 h1.1
      · exact .inl h1.2
      · exact .inr h1.2
    refine ⟨fun W => OwnR prR 36 w W ra (stepO m l who id o).1 ∧ OwnR lsR 42 w W rp (stepO m l who id o).2.1 ∧ Ext [] w W, ?_, ?_⟩
    · have e2_4 := e3.then0 e4
      have e2_5 := e2_4.then e5 (fun i hi hlt => by simp at hi; omega)
      have hop_11_5 := hop_11_2.ext e2_5
      refine VLd.i1 (t := CT.str) o.key (Rd.of_bk hop_11_5 rfl) ?_
      refine VIf.mk (fun hc => ?_) (fun hc => ?_)
      · have hkn : o.key ≠ key := by rw [ba_beq] at hc; simp at hc; exact fun e => hc e.symm
        have hsame : hasP (stepO m l who id o).1 key = hasP m key ∧ valP (stepO m l who id o).1 key = valP m key := by
          rcases hcs with h1 | h1
          · rw [h1.1]; exact ⟨rfl, rfl⟩
          · rw [h1.1]; exact has_apart hkn
        have h_5 := h_2.ext0 e2_5
        refine VCall.i (Find_spec s m key w5 h_5) ?_
        rintro e w6 ⟨rfl, e6⟩
        have z6 := e6.size
        refine ⟨(valP m key), (hasP m key), rfl, ?_⟩
        have e3_5 := e4.then e5 (fun i hi hlt => by simp at hi; omega)
        have e3_6 := e3_5.then0 e6
        have hA_6 := hA.ext0 e3_6
        refine VCall.i (Find_spec ra _ key w6 hA_6.in_) ?_
        rintro e w7 ⟨rfl, e7⟩
        have z7 := e7.size
        refine ⟨(valP (stepO m l who id o).1 key), (hasP (stepO m l who id o).1 key), rfl, ?_⟩
        refine VIf.f (by rw [hsame.1, hsame.2]; simp) ?_
        have hA_7 := hA_6.ext0 e7
        have e3_7 := e3_6.then0 e7
        have hP_7 := hP.ext0 e3_7
        have e0_3 := e0_2.then0 e3
        have e0_4 := e0_3.then0 e4
        have e0_5 := e0_4.then e5 (fun i hi hlt => by simp at hi; omega)
        have e0_6 := e0_5.then0 e6
        have e0_7 := e0_6.then0 e7
        exact ⟨(hA_7.mono (by omega)), (hP_7.mono (by omega)), e0_7⟩
      · have e3_5 := e4.then e5 (fun i hi hlt => by simp at hi; omega)
        have hA_5 := hA.ext0 e3_5
        have hP_5 := hP.ext0 e3_5
        have e0_3 := e0_2.then0 e3
        have e0_4 := e0_3.then0 e4
        have e0_5 := e0_4.then e5 (fun i hi hlt => by simp at hi; omega)
        exact ⟨(hA_5.mono (by omega)), (hP_5.mono (by omega)), e0_5⟩
    rintro w8 ⟨hA2, hP2, e0_8⟩
    have z8 := e0_8.size
    refine VIf.mk (fun hc => ?_) (fun hc => ?_)
    · have ho : other = who := by simpa using hc
      refine VCall.i (Seen_spec rp (stepO m l who id o).2.1 who id w8 hP2.in_) ?_
      rintro e w9 ⟨rfl, e9⟩
      have z9 := e9.size
      refine ⟨(seenO (stepO m l who id o).2.1 who id).1.1, (seenO (stepO m l who id o).2.1 who id).1.2.1, (seenO (stepO m l who id o).2.1 who id).1.2.2, (seenO (stepO m l who id o).2.1 who id).2, rfl, ?_⟩
      refine VNw.i fun b23 w10 hb10 hk10 e10 => ?_
      have hk10 : Bk w10 b23 [.int .u8 0, .bool false, .string ByteArray.empty] 31 := hk10
      have z10 := e10.size
      have l10 := hk10.lt
      refine VSt.bk hk10 rfl (by simp) fun w11 hk11 e11 => ?_
      have hk11 : Bk w11 b23 [.int .u8 (seenO (stepO m l who id o).2.1 who id).1.1, .bool (seenO (stepO m l who id o).2.1 who id).1.2.1, .string (seenO (stepO m l who id o).2.1 who id).1.2.2] 31 := hk11
      have z11 := e11.size
      refine VSet.i ?_
      have e0_9 := e0_8.then0 e9
      have e0_10 := e0_9.then0 e10
      have e0_11 := e0_10.then e11 (fun i hi hlt => by simp at hi; omega)
      refine ⟨?_, e0_11⟩
      rcases hcs with h1 | h1
      · rw [h1.2.1, h1.2.2]; rfl
      · rw [h1.2, seen_own]; rfl
    · have ho : ¬ who = other := by intro e; subst e; simp at hc
      have hall : ∀ k, seenO (stepO m l who id o).2.1 other k = seenO l other k := by
        intro k
        rcases hcs with h1 | h1
        · rw [h1.2.1]
        · rw [h1.2]; exact seen_apart ho
      refine ⟨fun kk i_25 W => ∃ j : Nat, kk = 3 - j ∧ i_25 = (j : Int) ∧ j ≤ 3 ∧ OwnR prR 36 w W ra (stepO m l who id o).1 ∧ OwnR lsR 42 w W rp (stepO m l who id o).2.1 ∧ Ext [] w W, ⟨_, 0, rfl, rfl, by omega, hA2, hP2, e0_8⟩, ?_⟩
      rintro kk i_25 w12 ⟨j, rfl, rfl, hj, hA2, hP2, e0_12⟩
      have z12 := e0_12.size
      refine VIf.mk (fun hc => ?_) (fun hc => ?_)
      · have hj2 : j < 3 := by simp at hc; omega
        obtain ⟨kk, hkk⟩ : ∃ kk, kk = IntKind.wrap .i64 ((IntKind.wrap .i64 (id - 1)) + (j : Int)) := ⟨_, rfl⟩
        rw [← hkk]
        refine VSet.i ?_
        have hq_12 := hq.ext0 e0_12
        refine VCall.i (Seen_spec q l other kk w12 hq_12) ?_
        rintro e w13 ⟨rfl, e13⟩
        have z13 := e13.size
        refine ⟨(seenO l other kk).1.1, (seenO l other kk).1.2.1, (seenO l other kk).1.2.2, (seenO l other kk).2, rfl, ?_⟩
        refine VNw.i fun r_27 w14 hb14 hk14 e14 => ?_
        have hk14 : Bk w14 r_27 [.int .u8 0, .bool false, .string ByteArray.empty] 31 := hk14
        have z14 := e14.size
        have l14 := hk14.lt
        refine VSt.bk hk14 rfl (by simp) fun w15 hk15 e15 => ?_
        have hk15 : Bk w15 r_27 [.int .u8 (seenO l other kk).1.1, .bool (seenO l other kk).1.2.1, .string (seenO l other kk).1.2.2] 31 := hk15
        have z15 := e15.size
        refine VSet.i ?_
        have e12_14 := e13.then0 e14
        have e12_15 := e12_14.then e15 (fun i hi hlt => by simp at hi; omega)
        have hP2_15 := hP2.ext0 e12_15
        refine VCall.i (Seen_spec rp (stepO m l who id o).2.1 other kk w15 hP2_15.in_) ?_
        rintro e w16 ⟨rfl, e16⟩
        have z16 := e16.size
        refine ⟨(seenO (stepO m l who id o).2.1 other kk).1.1, (seenO (stepO m l who id o).2.1 other kk).1.2.1, (seenO (stepO m l who id o).2.1 other kk).1.2.2, (seenO (stepO m l who id o).2.1 other kk).2, rfl, ?_⟩
        refine VNw.i fun s_29 w17 hb17 hk17 e17 => ?_
        have hk17 : Bk w17 s_29 [.int .u8 0, .bool false, .string ByteArray.empty] 31 := hk17
        have z17 := e17.size
        have l17 := hk17.lt
        refine VSt.bk hk17 rfl (by simp) fun w18 hk18 e18 => ?_
        have hk18 : Bk w18 s_29 [.int .u8 (seenO (stepO m l who id o).2.1 other kk).1.1, .bool (seenO (stepO m l who id o).2.1 other kk).1.2.1, .string (seenO (stepO m l who id o).2.1 other kk).1.2.2] 31 := hk18
        have z18 := e18.size
        refine VSet.i ?_
        have e15_17 := e16.then0 e17
        have e15_18 := e15_17.then e18 (fun i hi hlt => by simp at hi; omega)
        have hr_27_18 := hk15.ext e15_18
        refine ⟨(seenO l other kk).1.1, (seenO l other kk).1.2.1, (seenO l other kk).1.2.2, gd.i (Rd.of_bk hr_27_18 rfl), ?_⟩
        refine ⟨(seenO (stepO m l who id o).2.1 other kk).1.1, (seenO (stepO m l who id o).2.1 other kk).1.2.1, (seenO (stepO m l who id o).2.1 other kk).1.2.2, gd.i (Rd.of_bk hk18 rfl), ?_⟩
        refine VIf.f (by rw [hall]; simp) ?_
        refine VSet.eq (m := (j : Int) + 1) (w64 (by omega)) ?_
        have e12_16 := e12_15.then0 e16
        have e12_17 := e12_16.then0 e17
        have e12_18 := e12_17.then e18 (fun i hi hlt => by simp at hi; omega)
        have hA2_18 := hA2.ext0 e12_18
        have hP2_18 := hP2_15.ext0 e15_18
        have e0_13 := e0_12.then0 e13
        have e0_14 := e0_13.then0 e14
        have e0_15 := e0_14.then e15 (fun i hi hlt => by simp at hi; omega)
        have e0_16 := e0_15.then0 e16
        have e0_17 := e0_16.then0 e17
        have e0_18 := e0_17.then e18 (fun i hi hlt => by simp at hi; omega)
        exact ⟨_, (show 3 - (j + 1) < 3 - j by omega), j + 1, rfl, rfl, by omega, hA2_18, hP2_18, e0_18⟩
      · exact ⟨rfl, e0_12⟩
end Go.Proofs.Ytlnomdjmjeabhaa
