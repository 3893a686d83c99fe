/-
  Package rlog: entries; which may be.
-/
import Derived.Test.YtkekjbdppabmhaaCodeR
import Derived.Test.YtkekjbdppabmhaaCodeE
import Derived.Test.YtkekjbdppabmhaaCodeI
import Derived.Test.YtkekjbdppabmhaaRecM
import Derived.Test.YtkekjbdppabmhaaWalkA
namespace Go.Proofs.Ytkekjbdppabmhaa
open Go.RowKit
set_option maxRecDepth 100000

/-- an entry as it stands in memory -/
structure Er where
  t : Int
  k : Int
  d : ByteArray
  s : Sl
def nSl : Sl := ⟨none, 0, 0⟩
def zEr : Er := ⟨0, 0, ByteArray.empty, nSl⟩
instance : Inhabited Er := ⟨zEr⟩
def erC (e : Er) : List Value := [.int .i64 e.t, .int .u8 e.k, .string e.d, .slice e.s.base e.s.len e.s.cap]
def erR : Rec Er := ⟨erC, 4, fun _ => rfl, fun _ => rfl, by omega⟩
def itR : Rec Int := ⟨fun x => [.int .i64 x], 1, fun _ => rfl, fun _ => rfl, by omega⟩
structure En where
  term : Int
  kind : Int
  data : ByteArray
  list : List Int
  deriving DecidableEq
def zEn : En := ⟨0, 0, ByteArray.empty, []⟩
instance : Inhabited En := ⟨zEn⟩
structure EIn (W : World) (x : Er) (e : En) : Prop where
  ht : x.t = e.term
  hk : x.k = e.kind
  hd : x.d = e.data
  hl : InR itR W x.s e.list
theorem EIn.ext0 {W W' : World} {x : Er} {e : En} (h : EIn W x e) (k : Ext [] W W') : EIn W' x e := ⟨h.ht, h.hk, h.hd, h.hl.ext0 k⟩
def risB (l : List Int) : Bool := decide (∀ i : Nat, ∀ _ : i < l.length, 1 ≤ l.getD i 0 ∧ l.getD i 0 ≤ 5 ∧ (0 < i → l.getD (i - 1) 0 < l.getD i 0))
def okE (e : En) : Bool :=
  if e.term < 1 ∨ 2147483647 < e.term then false
  else if e.kind = 1 then decide (e.data.size = 0) && decide (e.list.length = 0)
  else if e.kind = 2 then decide (e.data.size ≤ 256) && decide (e.list.length = 0)
  else if e.kind = 3 then decide (e.data.size = 0) && (risB e.list && decide (0 < e.list.length))
  else false
theorem ba_size (x : ByteArray) : x.size = x.data.toList.length := (Array.length_toList ..).symm
theorem size0 (x : ByteArray) : (x.toList == (ByteArray.mk #[]).toList) = decide (x.size = 0) := by
  rw [strEq, ba_size, Bool.eq_iff_iff, decide_eq_true_eq, beq_iff_eq]
  exact ⟨fun h => by rw [h]; rfl, fun h => List.eq_nil_of_length_eq_zero h⟩
theorem VIx.off {g : Bool} (hg : g = false) {base : Option Addr} {n : Nat} {i : Int} {K : Addr → Prop} (k : ∀ a, K a) : VIx (some g) base n i K := ⟨⟨0, 0, none⟩, fun e => absurd (hg.symm.trans e) (by simp), k _⟩
theorem VLd.off1 {g : Bool} (hg : g = false) {w : World} {a : Addr} {t : CT} {K : ArrP [t]} (x : t.D) (k : K x) : VLd (some g) w a [t] K := ⟨x, fun e => absurd (hg.symm.trans e) (by simp), k⟩
theorem VLd.offS {g : Bool} (hg : g = false) {w : World} {a : Addr} {K : ArrP [CT.sl]} (k : ∀ s, K s) : VLd (some g) w a [CT.sl] K := ⟨⟨none, 0, 0⟩, fun e => absurd (hg.symm.trans e) (by simp), k _⟩
theorem VLd.er {g : Option Bool} {w : World} {a : Addr} {K : ArrP [CT.int .i64, CT.int .u8, CT.str, CT.sl]} (x : Er) (h : Rd w a (erC x)) (k : K x.t x.k x.d x.s) : VLd g w a [CT.int .i64, CT.int .u8, CT.str, CT.sl] K := ⟨x.t, x.k, x.d, x.s, gd.i h, k⟩
theorem VLd.erOff {g : Bool} (hg : g = false) {w : World} {a : Addr} {K : ArrP [CT.int .i64, CT.int .u8, CT.str, CT.sl]} (k : ∀ x : Er, K x.t x.k x.d x.s) : VLd (some g) w a [CT.int .i64, CT.int .u8, CT.str, CT.sl] K := ⟨0, 0, ByteArray.empty, nSl, fun e => absurd (hg.symm.trans e) (by simp), k zEr⟩
/-- guarded steps: what may be read anyway -/
theorem VIx.any {α : Type} {r : Rec α} {g : Option Bool} {w : World} {base : Option Addr} {n j : Nat} {L : List α} {K : Addr → Prop} (h : Seg w base n r.k (r.cells L)) (hi : j < L.length) (k : ∀ a, Rd w (a.add (j * r.k)) (r.f L[j]) → K a) : VIx g base n (j : Int) K := VIx.rd h hi k
def badAt (l : List Int) (i : Nat) : Bool := (decide (l.getD i 0 < 1) || decide (l.getD i 0 > 5)) || (decide (0 < i) && decide (l.getD (i - 1) 0 ≥ l.getD i 0))
theorem ris_bad {l : List Int} {i : Nat} (hi : i < l.length) (h : badAt l i = true) : risB l = false := by
  unfold risB
  rw [decide_eq_false_iff_not]
  intro hh
  obtain ⟨h1, h2, h3⟩ := hh i hi
  unfold badAt at h
  simp only [Bool.or_eq_true, Bool.and_eq_true, decide_eq_true_eq] at h
  rcases h with (h | h) | ⟨h0, h⟩
  · omega
  · omega
  · have := h3 h0; omega
theorem ris_all {l : List Int} (h : ∀ i, i < l.length → badAt l i = false) : risB l = true := by
  unfold risB
  rw [decide_eq_true_eq]
  intro i hi
  have := h i hi
  unfold badAt at this
  simp only [Bool.or_eq_false_iff, Bool.and_eq_false_iff, decide_eq_false_iff_not] at this
  obtain ⟨⟨h1, h2⟩, h3⟩ := this
  refine ⟨by omega, by omega, fun h0 => ?_⟩
  rcases h3 with h3 | h3
  · omega
  · omega
theorem getD_get {l : List Int} {i : Nat} (h : i < l.length) : l.getD i 0 = l[i] := by rw [List.getD_eq_getElem?_getD, List.getElem?_eq_getElem h]; rfl
theorem rising_spec (s : Sl) (l : List Int) (w : World) (h : InR itR w s l) : Calls Try.prog 52 #[.slice s.base s.len s.cap] w fun e w' => e = .returned (.bool (risB l && decide (0 < l.length))) ∧ w' = w := by
  refine sh_rlog_rising_ok _ _ _ ?_
  unfold sh_rlog_rising
  have hl := h.len
  have hcap := h.2
  refine ⟨fun kk i W => ∃ j : Nat, i = (j : Int) ∧ j ≤ l.length ∧ kk = l.length - j ∧ (∀ q, q < j → badAt l q = false) ∧ W = w, ⟨_, 0, rfl, by omega, rfl, fun q hq => by omega, rfl⟩, ?_⟩
  rintro kk i w1 ⟨j, rfl, hj, rfl, hall, rfl⟩
  refine VIf.mk (fun hc => ?_) (fun hc => ?_)
  · have hj' : j < l.length := by simp at hc; omega
    refine VIx.rd (r := itR) h.1 hj' fun a hra => ?_
    refine VLd.i1 (t := .int .i64) (l[j]) (by rw [Int.toNat_natCast]; exact hra) (VSet.i (VSet.i ?_))
    have key : ∀ {K : Int → Prop}, (∀ v : Int, (0 < j → v = l.getD (j - 1) 0) → K v) → VIx (some ((!((decide (l[j] < 1)) || (decide (l[j] > 5)))) && (decide ((j : Int) > 0)))) s.base s.len (IntKind.wrap .i64 ((j : Int) - 1)) fun (a25 : Addr) =>
        VLd (some ((!((decide (l[j] < 1)) || (decide (l[j] > 5)))) && (decide ((j : Int) > 0)))) w1 (Addr.add a25 ((Int.toNat (IntKind.wrap .i64 ((j : Int) - 1))) * 1)) [CT.int .i64] fun (v26 : Int) => K v26 := by
      intro K k
      by_cases h0 : 0 < j
      · rw [w64 (n := (j : Int) - 1) (by omega), show (j : Int) - 1 = ((j - 1 : Nat) : Int) by omega]
        refine VIx.rd (r := itR) h.1 (show j - 1 < l.length by omega) fun a hra => ?_
        exact VLd.i1 (t := .int .i64) (l[j - 1]) (by rw [Int.toNat_natCast]; exact hra) (k _ fun _ => (getD_get (by omega)).symm)
      · refine VIx.off (by simp; omega) fun a => VLd.off1 (by simp; omega) (0 : Int) (k _ fun h => absurd h h0)
    refine key fun v hv => ?_
    have hb : (((decide (l[j] < 1)) || (decide (l[j] > 5))) || ((decide ((j : Int) > 0)) && (decide (v ≥ l[j])))) = badAt l j := by
      unfold badAt
      rw [getD_get hj']
      by_cases h0 : 0 < j
      · rw [hv h0]; simp
      · have : decide ((j : Int) > 0) = false := by simp; omega
        rw [this, show decide (0 < j) = false by simp; omega]; simp
    rw [hb]
    refine VIf.mk (fun hq => ?_) (fun hq => ?_)
    · exact ⟨by rw [ris_bad hj' hq]; rfl, rfl⟩
    · exact ⟨_, (show l.length - (j + 1) < l.length - j by omega), j + 1, w64 (n := (j : Int) + 1) (by omega), by omega, rfl, fun q hq' => if hqj : q = j then hqj ▸ hq else hall q (by omega), rfl⟩
  · have hj' : j = l.length := by simp at hc; omega
    subst hj'
    refine ⟨?_, rfl⟩
    rw [ris_all hall, hl]
    congr 2
    simp
theorem Check_spec (x : Er) (e : En) (w : World) (h : EIn w x e) : Calls Try.prog 26 #[.agg (erC x).toArray] w fun r w' => r = .returned (.bool (okE e)) ∧ Ext [] w w' := by
  refine sh_rlog_Check_ok _ _ _ _ _ _ ?_
  unfold sh_rlog_Check
  obtain ⟨ht, hk, hd, hli⟩ := h
  have hll := hli.len
  refine VNw.i fun b w1 hb hk1 e1 => ?_
  have hk1 : Bk w1 b (erC x) 28 := hk1
  refine VLd.i1 (t := .int .i64) x.t (Rd.of_bk hk1 rfl) (VLd.i1 (t := .int .i64) x.t (Rd.of_bk hk1 rfl) (VIf.mk (fun hc => ⟨?_, e1⟩) (fun hc => ?_)))
  · have hc : e.term < 1 ∨ 2147483647 < e.term := by simp at hc; omega
    unfold okE; rw [if_pos hc]
  have hc : ¬ (e.term < 1 ∨ 2147483647 < e.term) := by simp at hc; omega
  refine VLd.i1 (t := .int .u8) x.k (Rd.of_bk hk1 rfl) (VIf.mk (fun hq => ?_) (fun hq => ?_))
  · have hq : e.kind = 1 := by rw [← hk]; simpa using hq
    refine VLd.i1 (t := .str) x.d (Rd.of_bk hk1 rfl) (VLd.s x.s (Rd.of_bk hk1 rfl) ⟨?_, e1⟩)
    unfold okE; rw [if_neg hc, if_pos hq, size0, hd, hll]
    congr 2
    rw [Bool.eq_iff_iff]
    simp only [Bool.and_eq_true, decide_eq_true_eq, beq_iff_eq]
    omega
  have hq : ¬ e.kind = 1 := by rw [← hk]; simpa using hq
  refine VIf.mk (fun hq2 => ?_) (fun hq2 => ?_)
  · have hq2 : e.kind = 2 := by rw [← hk]; simpa using hq2
    refine VLd.i1 (t := .str) x.d (Rd.of_bk hk1 rfl) (VLd.s x.s (Rd.of_bk hk1 rfl) ⟨?_, e1⟩)
    unfold okE; rw [if_neg hc, if_neg hq, if_pos hq2, hd, hll]
    congr 2
    rw [Bool.eq_iff_iff]
    simp only [Bool.and_eq_true, decide_eq_true_eq, beq_iff_eq]
    omega
  have hq2 : ¬ e.kind = 2 := by rw [← hk]; simpa using hq2
  refine VIf.mk (fun hq3 => ?_) (fun hq3 => ⟨?_, e1⟩)
  · have hq3 : e.kind = 3 := by rw [← hk]; simpa using hq3
    refine VLd.i1 (t := .str) x.d (Rd.of_bk hk1 rfl) (VLd.s x.s (Rd.of_bk hk1 rfl) ?_)
    refine VCall.pure (rising_spec x.s e.list w1 (hli.ext0 e1)) (exW.i1 (t := .bool) _ rfl ⟨?_, e1⟩)
    unfold okE; rw [if_neg hc, if_neg hq, if_neg hq2, if_pos hq3, size0, hd]
  · have hq3 : ¬ e.kind = 3 := by rw [← hk]; simpa using hq3
    unfold okE; rw [if_neg hc, if_neg hq, if_neg hq2, if_neg hq3]
end Go.Proofs.Ytkekjbdppabmhaa
