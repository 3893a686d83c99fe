/-
  Package rlog: RlogPieces.
-/
import Derived.Test.YtkekjbdppabmhaaRlogQ
namespace Go.Proofs.Ytkekjbdppabmhaa
open Go.RowKit
set_option maxRecDepth 100000

/-- an entry without a list, as it stands in memory -/
def rawR (e : En) : Er := ⟨e.term, e.kind, e.data, nSl⟩
theorem raw_in {w : World} {e : En} (h : e.list = []) : EIn w (rawR e) e := ⟨rfl, rfl, rfl, by rw [h]; exact InR.nil _⟩
theorem raw_lin {w : World} {s : Sl} {L : List En} (h : InR erR w s (L.map rawR)) (hl : ∀ e ∈ L, e.list = []) : LIn w s L :=
  ⟨L.map rawR, h, by simp, fun i h1 h2 => by rw [List.getElem_map]; exact raw_in (hl _ (List.getElem_mem h2))⟩
def plR : Rec (Int × Int) := ⟨fun p => [.int .i64 p.1, .int .i64 p.2], 2, fun _ => rfl, fun _ => rfl, by omega⟩
def ints8 (t : List UInt8) : List Int := t.map fun b => ((b.toNat : Nat) : Int)
theorem ints8_getD (t : List UInt8) (j : Nat) : (ints8 t).getD j 0 = (((t.getD j 0).toNat : Nat) : Int) := by
  unfold ints8
  rw [List.getD_eq_getElem?_getD, List.getD_eq_getElem?_getD, List.getElem?_map]
  cases t[j]? <;> rfl
theorem three {v : Int} (h : 0 ≤ v) : IntKind.wrap .i64 (IntKind.wrap .i64 (Int.tmod v 3) * 2) = 2 * (v % 3) := by
  have h1 := Int.emod_nonneg v (show (3 : Int) ≠ 0 by omega)
  have h2 := Int.emod_lt_of_pos v (show (0 : Int) < 3 by omega)
  rw [Int.tmod_eq_emod_of_nonneg h, w64 (n := v % 3) (by omega), w64 (by omega)]
  omega
def startU (T : List Int) (j : Nat) : Int := if j = 0 then 1 else tA T j
theorem startU_next (T : List Int) (j : Nat) : startU T j + 2 * (T.getD j 0 % 3) = tA T (j + 1) := by
  unfold startU
  cases j with
  | zero => rfl
  | succ j => rw [if_neg (by omega)]; rfl
theorem startU_le (T : List Int) (j : Nat) : 1 ≤ startU T j ∧ startU T j ≤ 1 + 4 * (j : Int) := by
  unfold startU
  cases j with
  | zero => simp
  | succ j => rw [if_neg (by omega)]; have := tA_le T j; omega
theorem byA_eq {s : ByteArray} {j : Nat} (h : s.data.toList = [UInt8.ofNat j]) : s = byA j := by
  obtain ⟨⟨x⟩⟩ := s
  simp at h
  subst h
  rfl
def nextU (u : Int) : Int := if u = 0 then 2 else if u % 2 = 1 then u + 1 else u
theorem nextU_in {u : Int} (h : 0 ≤ u) : nextU u % 2 = 0 ∧ 2 ≤ nextU u ∧ u ≤ nextU u ∧ nextU u ≤ u + 2 := by
  unfold nextU
  split
  · omega
  · split <;> omega
theorem noE_ok {u : Int} (h : 1 ≤ u ∧ u ≤ 2147483647) : okE (noE u) = true := by
  unfold okE noE
  rw [if_neg (by simp only; omega), if_pos rfl]
  rfl
theorem pc_0k (T : List Int) {n k : Nat} : (allA T n).take k = pcA T n 0 k := by unfold pcA; rw [List.drop_zero]
/-- what is made of the other terms -/
structure MX (T : List Int) (n k : Nat) (j : Nat) (u : Int) (X : List En) : Prop where
  len : X.length = j
  may : mayB 0 (pcA T n 0 k ++ X) = true
  last : termAt 0 (pcA T n 0 k ++ X) (pcA T n 0 k ++ X).length = u
  bnd : 0 ≤ u ∧ u ≤ 1000 + 10 * (j : Int)
  ev : ∀ e ∈ X, e.term % 2 = 0 ∧ e.list = []
theorem MX.add {T : List Int} {n k j : Nat} {u v : Int} {X : List En} (h : MX T n k j u X) (hj : j < 50) (hv : 0 ≤ v) : MX T n k (j + 1) (nextU (u + 2 * (v % 3))) (X ++ [noE (nextU (u + 2 * (v % 3)))]) := by
  have h1 := Int.emod_nonneg v (show (3 : Int) ≠ 0 by omega)
  have h2 := Int.emod_lt_of_pos v (show (0 : Int) < 3 by omega)
  have hb := h.bnd
  have hn := nextU_in (u := u + 2 * (v % 3)) (by omega)
  obtain ⟨x, hx⟩ : ∃ x, x = nextU (u + 2 * (v % 3)) := ⟨_, rfl⟩
  rw [← hx] at hn ⊢
  refine ⟨by rw [List.length_append, h.len]; rfl, ?_, ?_, by omega, fun e he => ?_⟩
  · rw [← List.append_assoc]
    exact may_snoc h.may (noE_ok (by omega)) (by rw [h.last]; show u ≤ x; omega)
  · rw [← List.append_assoc, termAt_snoc]
    rfl
  · rcases List.mem_append.1 he with he | he
    · exact h.ev e he
    · simp only [List.mem_singleton] at he
      subst he
      exact ⟨hn.1, rfl⟩
theorem MX.z {T : List Int} {n k : Nat} (hn : n ≤ 40) (hk : k ≤ n) : MX T n k 0 (tA T k) [] := by
  have hl : (pcA T n 0 k).length = k := by rw [pc_len T hk]; rfl
  refine ⟨rfl, ?_, ?_, ?_, by simp⟩
  · rw [List.append_nil]; exact pc_may T hn hk
  · rw [List.append_nil, hl]
    unfold termAt
    cases k with
    | zero => rfl
    | succ k =>
      rw [if_neg (by omega), Nat.add_sub_cancel, pc_getD T hk (by omega)]
      show tA T (0 + k + 1) = _
      rw [Nat.zero_add]
  · cases k with
    | zero => show (0 : Int) ≤ 0 ∧ (0 : Int) ≤ 1000 + 10 * ((0 : Nat) : Int); decide
    | succ k => have := tA_le T k; omega
theorem MX.pi {T : List Int} {n k j : Nat} {u : Int} {X : List En} (h : MX T n k j u X) (hj : j ≤ 40) (hk : k ≤ n) : PI T n 0 k ⟨0, 0, pcA T n 0 k ++ X⟩ :=
  ⟨Nat.zero_le _, hk, rfl, rfl, X, rfl, by rw [h.len]; exact hj, h.ev⟩
theorem PI.cut {T : List Int} {n k c : Nat} {g : Lg} (h : PI T n 0 k g) (hc : c ≤ k) : inL g (c : Int) = true ∧ PI T n c k (cutG g (c : Int)) := by
  have hlen := h.len
  have hin : inL g (c : Int) = true := by rw [inL_iff, h.hb]; omega
  refine ⟨hin, hc, h.kn, ?_, ?_, ?_⟩
  · unfold cutG; rw [hin]; rfl
  · unfold cutG
    rw [hin, if_pos rfl]
    show (termO g (c : Int)).1 = _
    rw [h.term_in (Nat.zero_le _) hc]
  · obtain ⟨X, hX, hXl, hv⟩ := h.hx
    refine ⟨X, ?_, hXl, hv⟩
    unfold cutG
    rw [hin, if_pos rfl]
    show g.l.drop ((c : Int) - g.base).toNat = _
    have hl : (pcA T n 0 k).length = k := by rw [pc_len T h.kn]; rfl
    rw [h.hb, show ((c : Int) - ((0 : Nat) : Int)).toNat = c by omega, hX, List.drop_append_of_le_length (by omega)]
    unfold pcA
    rw [List.drop_drop, Nat.zero_add]
set_option maxHeartbeats 4000000 in
theorem Pieces_law (ts os ls : Sl) (t o : List UInt8) (P : List (Int × Int)) (leaves cut : Int) (w : World) (ht : In w ts t) (ho : In w os o) (hP : InR plR w ls P) :
    Calls Try.prog 3 #[.slice ts.base ts.len ts.cap, .int .i64 leaves, .slice os.base os.len os.cap, .int .i64 cut, .slice ls.base ls.len ls.cap] w fun e w' => e = .returned (.bool true) ∧ Ext [] w w' := by
  refine sh_butterylaw14_RlogPieces_ok _ _ _ _ _ _ _ ?_
  unfold sh_butterylaw14_RlogPieces
  have htl := ht.len
  have hol := ho.len
  have hPl := hP.len
  refine VCall.opt (awake_spec w) fun w1 e1 => exW.i1 (t := .bool) true rfl (VIf.mk (fun hq => ?_) (fun hq => ?_))
  · refine VCall.i (awake_spec w1) ?_
    rintro r w2 ⟨rfl, e2⟩
    exact exW.i1 (t := .bool) true rfl ⟨rfl, e1.then0 e2⟩
  have hq2 : t.length ≤ 40 ∧ o.length ≤ 40 ∧ P.length ≤ 40 := by rw [htl, hol, hPl] at hq; simp at hq; omega
  obtain ⟨ht40, ho40, hp40⟩ := hq2
  clear hq
  obtain ⟨T, hT⟩ : ∃ T, T = ints8 t := ⟨_, rfl⟩
  obtain ⟨n, hn⟩ : ∃ n, n = t.length := ⟨_, rfl⟩
  have hn40 : n ≤ 40 := by omega
  -- the whole log
  refine ⟨fun kk al u i W => ∃ j : Nat, i = (j : Int) ∧ j ≤ t.length ∧ kk = t.length - j ∧ u = startU T j ∧ OwnR erR 28 w W al ((allA T j).map rawR) ∧ Ext [] w W, ⟨_, 0, rfl, by omega, rfl, rfl, OwnR.nil _ _ _ _, e1⟩, ?_⟩
  rintro kk al u i w3 ⟨j, rfl, hj, rfl, rfl, hal, e03⟩
  refine VIf.mk (fun hd => ?_) (fun hd => ?_)
  · have hj' : j < t.length := by simp at hd; omega
    refine VByte.n (ad := fun a => a.add ((Int.toNat (j : Int)) * 1)) t j (ht.ext0 e03).1 rfl (fun a => by rw [Int.toNat_natCast]) hj' ?_
    rw [three (by omega), ← ints8_getD, ← hT]
    have hsu := startU_le T j
    have hnx := startU_next T j
    have htl1 := tA_le T j
    rw [w64 (n := startU T j + 2 * (T.getD j 0 % 3)) (by omega), hnx]
    refine VSet.i (VNw.i fun b69 w4 hb69 hk4 e4 => ?_)
    have hwj : IntKind.wrap .u8 (j : Int) = (((UInt8.ofNat j).toNat : Nat) : Int) := by rw [wrap8, ofNat8 (by omega)]; omega
    rw [hwj] at hk4
    have hseg4 : Seg w4 (some ⟨b69, 0, none⟩) 1 1 (bc [UInt8.ofNat j]) := Seg.of_bk hk4 rfl rfl
    refine VStr.i [UInt8.ofNat j] hseg4 fun s70 h70 => ?_
    rw [byA_eq h70]
    refine VNw.i fun b72 w5 hb72 hk5 e5 => ?_
    have hk5 : Bk w5 b72 (erC (rawR (eA T j))) 28 := hk5
    have e05 := (e03.then0 e4).then0 e5
    have hal5 := (hal.ext0 e4).ext0 e5
    have hll : ((allA T j).map rawR).length = j := by rw [List.length_map, allA_len]
    refine VApp.rec (r := erR) (news := [rawR (eA T j)]) hal5 e05 (by rw [Rec.cells_one]; exact Seg.of_bk hk5 rfl rfl) rfl rfl (by omega) (by omega) fun l73 w6 hal6 e06 e6 hbl => VSet.i ?_
    have hal7 : OwnR erR 28 w w6 l73 ((allA T (j + 1)).map rawR) := by rw [allA_succ, List.map_append]; exact hal6
    exact ⟨t.length - (j + 1), by omega, j + 1, w64 (n := (j : Int) + 1) (by omega), by omega, rfl, by unfold startU; rw [if_neg (by omega)], hal7, e06⟩
  have hjn : j = n := by simp at hd; omega
  subst hjn
  have hall : ((allA T j).map rawR).length = j := by rw [List.length_map, allA_len]
  have halen : al.len = j := by rw [hal.len, hall]
  have halc := hal.cap
  obtain ⟨k, hkn, hke⟩ := pickq leaves (show 0 < j + 1 by omega) (show j + 1 ≤ 1000000 by omega)
  rw [halen, u64one (show j ≤ 100000 by omega), hke]
  refine VCk.i (by omega) (VSet.i (VNw.i fun b82 w7 hb82 hk7 e7 => VCk.i (by omega) ?_))
  rw [Int.toNat_natCast]
  have hcut3 := hal.in_.cut 0 k (Nat.zero_le _) (by omega)
  rw [List.drop_zero, ← List.map_take, pc_0k] at hcut3
  refine VApp.rclone (r := erR) hb82 hk7 e7 hcut3.1 rfl (by rw [List.length_map, pc_len T (by omega)]; omega) (by rw [List.length_map, pc_len T (by omega)]; omega) fun l86 w8 hmi e38 => ?_
  have z3 := e03.size
  have hmi8 : OwnR erR 28 w w8 l86 ((pcA T j 0 k).map rawR) := hmi.mono z3
  have hal8 := hal.ext0 e38
  have e08 := e03.then0 e38
  have hk40 : k ≤ j := by omega
  refine ⟨fun u W => u = tA T k ∧ W = w8, ?_, ?_⟩
  · refine VIf.mk (fun hd1 => ?_) (fun hd1 => ?_)
    · have hk0 : 0 < k := by simp at hd1; omega
      rw [w64 (n := (k : Int) - 1) (by omega), show (k : Int) - 1 = ((k - 1 : Nat) : Int) by omega, ← halen]
      refine VIx.rd (r := erR) hal8.seg (show k - 1 < ((allA T j).map rawR).length by omega) fun a92 hr92 => ?_
      refine VLd.i1 (t := .int .i64) (tA T k) ?_ (VSet.i ⟨rfl, rfl⟩)
      rw [List.getElem_map, allA_get] at hr92
      rw [Int.toNat_natCast]
      have := hr92.fld0 (v := .int .i64 (tA T (k - 1 + 1))) rfl
      rw [show k - 1 + 1 = k by omega] at this
      exact this
    · have hk0 : k = 0 := by simp at hd1; omega
      subst hk0
      exact ⟨rfl, rfl⟩
  rintro u w9 ⟨rfl, rfl⟩
  -- the other log
  refine ⟨fun kk mi u i W => ∃ (q : Nat) (X : List En), i = (q : Int) ∧ q ≤ o.length ∧ kk = o.length - q ∧ MX T j k q u X ∧ OwnR erR 28 w W mi ((pcA T j 0 k ++ X).map rawR) ∧ OwnR erR 28 w W al ((allA T j).map rawR) ∧ (∀ b ∈ rowB mi, b ∉ rowB al) ∧ Ext [] w W,
    ⟨_, 0, [], rfl, by omega, rfl, MX.z hn40 hk40, by rw [List.append_nil]; exact hmi8, hal8, fun b hb hb' => by have := hal.1.lt b hb'; have := hmi.2 b hb; omega, e08⟩, ?_⟩
  rintro kk mi u i w10 ⟨q, X, rfl, hq, rfl, hMX, hmi10, hal10, hdis, e010⟩
  refine VIf.mk (fun hd1 => ?_) (fun hd1 => ?_)
  · have hq' : q < o.length := by simp at hd1; omega
    refine VByte.n (ad := fun a => a.add ((Int.toNat (q : Int)) * 1)) o q (ho.ext0 e010).1 rfl (fun a => by rw [Int.toNat_natCast]) hq' ?_
    rw [three (by omega)]
    obtain ⟨v, hv⟩ : ∃ v : Int, v = (((o.getD q 0).toNat : Nat) : Int) := ⟨_, rfl⟩
    have hv0 : 0 ≤ v := by omega
    rw [← hv]
    have hb := hMX.bnd
    have v1 := Int.emod_nonneg v (show (3 : Int) ≠ 0 by omega)
    have v2 := Int.emod_lt_of_pos v (show (0 : Int) < 3 by omega)
    rw [w64 (n := u + 2 * (v % 3)) (by omega)]
    obtain ⟨u1, hu1⟩ : ∃ u1, u1 = u + 2 * (v % 3) := ⟨_, rfl⟩
    have hM2 := hMX.add (v := v) (by omega) hv0
    have hnu := nextU_in (u := u1) (by omega)
    rw [← hu1] at hM2 ⊢
    refine VSet.i ⟨fun u2 W => u2 = nextU u1 ∧ W = w10, ?_, ?_⟩
    · have htm : Int.tmod u1 2 = u1 % 2 := Int.tmod_eq_emod_of_nonneg (by omega)
      rw [htm]
      refine VIf.mk (fun h0 => ?_) (fun h0 => ?_)
      · have h0 : u1 = 0 := by simpa using h0
        exact ⟨by unfold nextU; rw [if_pos h0], rfl⟩
      · have h0 : ¬ u1 = 0 := by simpa using h0
        refine VIf.mk (fun h1 => ?_) (fun h1 => ?_)
        · have h1 : u1 % 2 = 1 := by simpa using h1
          rw [w64 (n := u1 + 1) (by omega)]
          exact VSet.i ⟨by unfold nextU; rw [if_neg h0, if_pos h1], rfl⟩
        · have h1 : ¬ u1 % 2 = 1 := by simpa using h1
          exact ⟨by unfold nextU; rw [if_neg h0, if_neg h1], rfl⟩
    · rintro u2 w11 ⟨rfl, rfl⟩
      refine VNw.i fun b122 w12 hb122 hk12 e12 => ?_
      have hk12 : Bk w12 b122 (erC (rawR (noE (nextU u1)))) 28 := hk12
      have e012 := e010.then0 e12
      have hmi12 := hmi10.ext0 e12
      have hal12 := hal10.ext0 e12
      have hml : ((pcA T j 0 k ++ X).map rawR).length ≤ 80 := by rw [List.length_map, List.length_append, pc_len T hk40, hMX.len]; omega
      refine VApp.rec (r := erR) (news := [rawR (noE (nextU u1))]) hmi12 e012 (by rw [Rec.cells_one]; exact Seg.of_bk hk12 rfl rfl) rfl rfl (by omega) (by omega) fun l123 w13 hmi13 e013 e13 hbl => VSet.i ?_
      have hal13 : OwnR erR 28 w w13 al ((allA T j).map rawR) := hal12.ext e13 (fun b hb hm => hdis b hm hb)
      have hmi14 : OwnR erR 28 w w13 l123 ((pcA T j 0 k ++ (X ++ [noE (nextU u1)])).map rawR) := by rw [← List.append_assoc, List.map_append]; exact hmi13
      have hdis2 : ∀ b ∈ rowB l123, b ∉ rowB al := fun b hb hb' => by
        rcases hbl b hb with h | h
        · exact hdis b h hb'
        · have := hal12.1.lt b hb'; omega
      exact ⟨o.length - (q + 1), by omega, q + 1, X ++ [noE (nextU u1)], w64 (n := (q : Int) + 1) (by omega), by omega, rfl, hM2, hmi14, hal13, hdis2, e013⟩
  have hqo : q = o.length := by simp at hd1; omega
  -- it is made
  have hlX : ∀ e ∈ pcA T j 0 k ++ X, e.list = [] := fun e he => by
    rcases List.mem_append.1 he with he | he
    · exact pc_lists T e he
    · exact (hMX.ev e he).2
  have hlen0 : ∀ {L : List En}, (∀ e ∈ L, e.list = []) → ∀ e ∈ L, e.list.length ≤ 100000000 := fun h e he => by rw [h e he]; exact Nat.zero_le _
  have hml : (pcA T j 0 k ++ X).length ≤ 80 := by rw [List.length_append, pc_len T hk40, hMX.len]; omega
  have hnew := New_spec 0 0 mi (pcA T j 0 k ++ X) w10 (raw_lin hmi10.in_ hlX) (by omega) (hlen0 hlX)
  have hnewE : newE 0 0 (pcA T j 0 k ++ X) = 0 := by
    unfold newE
    rw [hMX.may]
    have : (cntB 0 && (cntB 0 && true)) = true := by decide
    rw [this, if_neg (by simp), if_neg (by omega)]
  rw [hnewE] at hnew
  refine VCall.i hnew ?_
  rintro r w14 ⟨p, rfl, -, hp, e14⟩
  obtain ⟨gb, sg, rfl, hg⟩ := hp rfl
  have z10 := e010.size
  have hg : LogAt w w14 gb ⟨0, 0, pcA T j 0 k ++ X⟩ sg := hg.mono z10
  refine exW.i2 (t := .ptr) (u := .int .i64) (some ⟨gb, 0, none⟩) 0 rfl (VSet.i (VIf.f rfl ?_))
  have hPI0 := hMX.pi (by omega) hk40
  obtain ⟨c, hck, hce⟩ := pickq cut (show 0 < k + 1 by omega) (show k + 1 ≤ 1000000 by omega)
  rw [u64one (show k ≤ 100000 by omega), hce]
  refine VCk.i (by omega) (VSet.i ?_)
  obtain ⟨hcin, hPIc⟩ := hPI0.cut (c := c) (by omega)
  have hcutS := Cut_spec w w14 gb _ sg (c : Int) hg (show (pcA T j 0 k ++ X).length ≤ 100000000 by omega)
  rw [hcin] at hcutS
  refine VCall.i hcutS ?_
  rintro r w15 ⟨s15, rfl, hg15, e15⟩
  have gge := hg.gb
  have hal15 := (hal10.ext0 e14).ext1 hg.k (by decide) e15
  have e015 : Ext [] w w15 := (e010.then0 e14).then e15 (fun i hi hlt => by simp at hi; omega)
  refine exW.i1 (t := .int .i64) _ rfl (VIf.f rfl ?_)
  obtain ⟨g1, hg1⟩ : ∃ g1, g1 = cutG ⟨0, 0, pcA T j 0 k ++ X⟩ (c : Int) := ⟨_, rfl⟩
  rw [← hg1] at hg15 hPIc
  -- the pieces
  refine ⟨fun kk k' i W => ∃ (q K : Nat) (g : Lg) (s' : Sl), i = (q : Int) ∧ q ≤ P.length ∧ kk = P.length - q ∧ k' = (K : Int) ∧ PI T j c K g ∧ LogAt w W gb g s' ∧ OwnR erR 28 w W al ((allA T j).map rawR) ∧ Ext [] w W, ⟨_, 0, k, g1, s15, rfl, by omega, rfl, rfl, hPIc, hg15, hal15, e015⟩, ?_⟩
  rintro kk k' i w16 ⟨q1, K, g, s', rfl, hq1, rfl, rfl, hPI, hG, hA, e016⟩
  refine VIf.mk (fun hd2 => ?_) (fun hd2 => ⟨rfl, e016⟩)
  have hq1' : q1 < P.length := by simp at hd2; omega
  refine ⟨fun k'' W => ∃ (K' : Nat) (g' : Lg) (s'' : Sl), k'' = (K' : Int) ∧ PI T j c K' g' ∧ LogAt w W gb g' s'' ∧ OwnR erR 28 w W al ((allA T j).map rawR) ∧ Ext [] w W, ?_, ?_⟩
  · have hP16 := (hP.ext0 e016).1
    refine VIx.rd (r := plR) hP16 hq1' fun a150 hr150 => ?_
    refine VLd.i1 (t := .int .i64) (P[q1]).1 (by rw [Int.toNat_natCast]; exact hr150.fld0 rfl) ?_
    obtain ⟨a, han, hae⟩ := pickq (P[q1]).1 (show 0 < j + 1 by omega) (show j + 1 ≤ 1000000 by omega)
    rw [hae]
    refine VCk.i (by omega) (VSet.i (VIx.rd (r := plR) hP16 hq1' fun a163 hr163 => ?_))
    refine VLd.i1 (t := .int .i64) (P[q1]).2 (by rw [Int.toNat_natCast]; exact hr163.fld 1 rfl) ?_
    rw [w64 (n := ((j : Nat) : Int) - (a : Int)) (by omega), show ((j : Nat) : Int) - (a : Int) = ((j - a : Nat) : Int) by omega, u64one (show j - a ≤ 100000 by omega)]
    obtain ⟨m, hmn, hme⟩ := pickq (P[q1]).2 (show 0 < j - a + 1 by omega) (show j - a + 1 ≤ 1000000 by omega)
    rw [hme, w64 (n := (a : Int) + (m : Int)) (by omega), show (a : Int) + (m : Int) = ((a + m : Nat) : Int) by omega]
    refine VCk.i (by omega) (VSet.i ?_)
    obtain ⟨b, hb⟩ : ∃ b, b = a + m := ⟨_, rfl⟩
    rw [← hb]
    have hab : a ≤ b := by omega
    have hbj : b ≤ j := by omega
    refine ⟨fun tt W => tt = tA T a ∧ W = w16, ?_, ?_⟩
    · refine VIf.mk (fun hd3 => ?_) (fun hd3 => ?_)
      · have ha0 : 0 < a := by simp at hd3; omega
        rw [w64 (n := (a : Int) - 1) (by omega), show (a : Int) - 1 = ((a - 1 : Nat) : Int) by omega, ← halen]
        refine VIx.rd (r := erR) hA.seg (show a - 1 < ((allA T j).map rawR).length by omega) fun a181 hr181 => ?_
        refine VLd.i1 (t := .int .i64) (tA T a) ?_ (VSet.i ⟨rfl, rfl⟩)
        rw [List.getElem_map, allA_get] at hr181
        rw [Int.toNat_natCast]
        have := hr181.fld0 (v := .int .i64 (tA T (a - 1 + 1))) rfl
        rw [show a - 1 + 1 = a by omega] at this
        exact this
      · have ha0 : a = 0 := by simp at hd3; omega
        subst ha0
        exact ⟨rfl, rfl⟩
    rintro tt w17 ⟨rfl, rfl⟩
    have hAc := hA.cap
    refine VCk.i (by omega) ?_
    simp only [Int.toNat_natCast]
    have hall' : LIn w17 al (allA T j) := raw_lin hA.in_ (fun e he => pc_lists T (n := j) (a := 0) (b := j) e (by unfold pcA; rw [List.drop_zero, List.take_of_length_le (by rw [allA_len]; exact Nat.le_refl _)]; exact he))
    have hpcl : LIn w17 ⟨cutB al.base al.cap 4 a, b - a, al.cap - a⟩ (pcA T j a b) := hall'.cut a b hab (by rw [allA_len]; exact hbj)
    have hgl := hPI.len
    have hkn1 := hPI.kn
    have hmg := Merge_spec w w17 gb g s' ⟨cutB al.base al.cap 4 a, b - a, al.cap - a⟩ (a : Int) (tA T a) (pcA T j a b) hG hpcl (by omega) (by rw [pc_len T hbj]; omega) (hlen0 (pc_lists T))
    refine VCall.i hmg ?_
    obtain ⟨m1, m2, m3⟩ := hPI.merge hn40 hab hbj
    rintro r w18 ⟨s18, rfl, hG18, e18⟩
    have hA18 := hA.ext1 hG.k (by decide) e18
    have e018 : Ext [] w w18 := e016.then e18 (fun i hi hlt => by simp at hi; omega)
    refine exW.i2 (t := .int .i64) (u := .int .i64) _ _ rfl (VSet.i (VSet.i (VCall.i (Last_spec w w18 gb _ s18 hG18) ?_)))
    rintro r w19 ⟨rfl, e19⟩
    have hG19 := hG18.ext0 e19
    have hA19 := hA18.ext0 e19
    have e019 := e018.then0 e19
    refine exW.i2 (t := .int .i64) (u := .int .i64) _ _ rfl (VSet.i (VSet.i ?_))
    by_cases hka : K < a
    · rw [m1 hka] at hG19 ⊢
      refine VIf.t rfl (VIf.f ?_ ⟨K, g, s18, rfl, hPI, hG19, hA19, e019⟩)
      rw [Bool.and_eq_false_iff]
      left
      rw [decide_eq_false_iff_not]
      omega
    -- what is had behind the piece
    have hfin : ∃ (g' : Lg) (K' : Nat), (mergeO g (a : Int) (tA T a) (pcA T j a b)).2 = g' ∧ PI T j c K' g' ∧ b ≤ K' ∧ (K' : Int) = (if ((b : Nat) : Int) > (K : Int) then ((b : Nat) : Int) else (K : Int)) ∧ (mergeO g (a : Int) (tA T a) (pcA T j a b)).1.2 = 0 ∧
        (((mergeO g (a : Int) (tA T a) (pcA T j a b)).1.1 = 0 ∧ (b : Int) ≤ (lastO g').1) ∨ ((mergeO g (a : Int) (tA T a) (pcA T j a b)).1.1 = (K : Int) + 1 ∧ a ≤ K ∧ K < b ∧ (lastO g').1 = (b : Int))) := by
      have hck2 := hPI.ck
      by_cases hbK : b ≤ K
      · have hm := m2 (by omega) hbK
        refine ⟨g, K, by rw [hm], hPI, hbK, by rw [if_neg (by omega)], by rw [hm], .inl ⟨by rw [hm], ?_⟩⟩
        rw [hPI.last]
        omega
      · have hm := m3 (by omega) (by omega)
        have hnx := hPI.next (b := b) (by omega) hbj
        refine ⟨_, b, by rw [hm], hnx, Nat.le_refl _, by rw [if_pos (by omega)], by rw [hm], .inr ⟨by rw [hm], by omega, by omega, ?_⟩⟩
        rw [hnx.last]
        show (c : Int) + ((pcA T j c b).length : Int) = _
        rw [pc_len T hbj]; omega
    obtain ⟨g', K', hg', hPI', hbK', hKe, hm0, hm1⟩ := hfin
    rw [hg'] at hG19 ⊢
    rw [hm0]
    refine VIf.f rfl (VIf.f ?_ (VSet.i ?_))
    · rcases hm1 with ⟨h1, h2⟩ | ⟨h1, h2, h3, h4⟩
      · rw [h1]
        simp only [bne_self_eq_false, Bool.false_and, Bool.false_or, decide_eq_false_iff_not]
        omega
      · rw [h1, h4]
        simp only [bne_self_eq_false, Bool.false_or, Bool.or_false, Bool.or_eq_false_iff, Bool.and_eq_false_iff, decide_eq_false_iff_not]
        refine ⟨.inr ⟨?_, ?_⟩, ?_⟩ <;> omega
    have hck' := hPI'.ck
    have hlen' := hPI'.len
    have hkn' := hPI'.kn
    rw [w64 (n := (c : Int) + 1) (by omega)]
    refine ⟨fun kk at_ W => ∃ i : Nat, at_ = (i : Int) ∧ c + 1 ≤ i ∧ (i ≤ b + 1 ∨ i = c + 1) ∧ kk = b + 1 - i ∧ LogAt w W gb g' s18 ∧ OwnR erR 28 w W al ((allA T j).map rawR) ∧ Ext [] w W, ⟨_, c + 1, by omega, Nat.le_refl _, .inr rfl, rfl, hG19, hA19, e019⟩, ?_⟩
    rintro kk at_ w20 ⟨i, rfl, hi1, hi2, rfl, hG20, hA20, e020⟩
    refine VIf.mk (fun hd4 => ?_) (fun hd4 => ?_)
    · have hib : i ≤ b := by simp at hd4; omega
      have hent := hPI'.entry (i := i) (by omega) (by omega)
      have hes := Entry_spec w w20 gb g' s18 (i : Int) hG20 (hlen0 hPI'.lists)
      rw [hent] at hes
      refine VCall.i hes ?_
      rintro r w21 ⟨x, rfl, hx, e21⟩
      refine ⟨x.t, x.k, x.d, x.s, true, rfl, VNw.i fun xb w22 hxb hk22 e22 => VSt.bk hk22 rfl (by simp) fun w23 hk23 e23 => ?_⟩
      have hk23 : Bk w23 xb (erC x) 28 := hk23
      intro w24 hw24
      have ed := Ext.drew' hw24
      have e2124 : Ext [] w21 w24 := (e22.then e23 (fun i hi hlt => by simp at hi; omega)).then0 ed
      have hk24 := hk23.ext ed
      have hx24 := hx.ext0 e2124
      have hA24 := (hA20.ext0 e21).ext0 e2124
      have hG24 := (hG20.ext0 e21).ext0 e2124
      refine VLd.er x (Rd.of_bk hk24 rfl) ?_
      rw [w64 (n := (i : Int) - 1) (by omega), show (i : Int) - 1 = ((i - 1 : Nat) : Int) by omega, ← halen]
      refine VIx.rd (r := erR) hA24.seg (show i - 1 < ((allA T j).map rawR).length by omega) fun a256 hr256 => ?_
      rw [List.getElem_map, allA_get] at hr256
      refine VLd.er (rawR (eA T (i - 1))) (by rw [Int.toNat_natCast]; exact hr256) ?_
      have hsm := Same_spec x (rawR (eA T (i - 1))) (eA T (i - 1)) (eA T (i - 1)) w24 hx24.ein (raw_in rfl)
      refine VCall.opt hsm fun w25 e25 => exW.i1 (t := .bool) _ rfl (VIf.f (by simp) (VSet.i ?_))
      exact ⟨b + 1 - (i + 1), by omega, i + 1, w64 (n := (i : Int) + 1) (by omega), by omega, by omega, rfl, hG24.ext0 e25, (by rw [halen]; exact hA24.ext0 e25), ((e020.then0 e21).then0 e2124).then0 e25⟩
    · exact VSet.i ⟨K', g', s18, hKe.symm, hPI', hG20, hA20, e020⟩
  · rintro k'' w26 ⟨K', g', s'', rfl, hPI', hG', hA', e026⟩
    refine VSet.i ?_
    exact ⟨P.length - (q1 + 1), by omega, q1 + 1, K', g', s'', w64 (n := (q1 : Int) + 1) (by omega), by omega, rfl, rfl, hPI', hG', hA', e026⟩
end Go.Proofs.Ytkekjbdppabmhaa
