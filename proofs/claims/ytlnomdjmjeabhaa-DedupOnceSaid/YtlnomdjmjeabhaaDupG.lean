/-
  Package dedup: Check, Find, Place, Seen: the program's and the document's.
-/
import Derived.Test.YtlnomdjmjeabhaaDupF
namespace Go.Proofs.Ytlnomdjmjeabhaa
open Go.RowKit
set_option maxRecDepth 100000

theorem VIx.off {g : Bool} (hg : g = false) {base : Option Addr} {n : Nat} {i : Int} {K : Addr → Prop} (k : ∀ a, K a) : VIx (some g) base n i K := ⟨⟨0, 0, none⟩, fun e => absurd (hg.symm.trans e) (by simp), k _⟩
theorem VLd.off1 {g : Bool} (hg : g = false) {w : World} {a : Addr} {t : CT} {K : ArrP [t]} (x : t.D) (k : K x) : VLd (some g) w a [t] K := ⟨x, fun e => absurd (hg.symm.trans e) (by simp), k⟩
theorem ba_nil (a : ByteArray) : (a.toList == (ByteArray.mk #[]).toList) = decide (a.size = 0) := by
  rw [ba_beq, Bool.eq_iff_iff, decide_eq_true_eq, decide_eq_true_eq]
  constructor
  · rintro rfl; rfl
  · intro h
    refine ba_ext ?_
    have : a.data.toList.length = 0 := by rw [Array.length_toList]; exact h
    rw [List.eq_nil_of_length_eq_zero this]
theorem Check_spec (o : Wo) (w : World) (h : 0 ≤ o.kind ∧ o.kind ≤ 255) : Calls Try.prog 12 #[.agg #[.int .u8 o.kind, .string o.key, .string o.value, .string o.old, .bool o.had]] w fun e w' => e = .returned (.int .i64 (checkO o)) ∧ Ext [] w w' := by
  refine sh_dedup_Check_ok _ _ _ _ _ _ _ ?_
  unfold sh_dedup_Check
  refine VNw.i fun b w1 hb h1 e1 => VLd.i1 (t := .int .u8) o.kind (Rd.of_bk h1 rfl) (VLd.i1 (t := .int .u8) o.kind (Rd.of_bk h1 rfl) (VIf.mk (fun hc => ⟨?_, e1⟩) (fun hc => ?_)))
  · simp only [Bool.or_eq_true, decide_eq_true_eq] at hc
    unfold checkO
    rw [if_pos (by omega)]
  · simp only [Bool.or_eq_false_iff, decide_eq_false_iff_not] at hc
    refine VLd.i1 (t := .str) o.key (Rd.of_bk h1 rfl) (VLd.i1 (t := .str) o.key (Rd.of_bk h1 rfl) (VLd.i1 (t := .str) o.value (Rd.of_bk h1 rfl) (VLd.i1 (t := .str) o.old (Rd.of_bk h1 rfl) (VIf.mk (fun hd => ⟨?_, e1⟩) (fun hd => ⟨?_, e1⟩)))))
    · rw [ba_nil] at hd
      simp only [Bool.or_eq_true, decide_eq_true_eq] at hd
      unfold checkO
      rw [if_neg (by omega), if_pos (by omega)]
    · rw [ba_nil] at hd
      simp only [Bool.or_eq_false_iff, decide_eq_false_iff_not] at hd
      unfold checkO
      rw [if_neg (by omega), if_neg (by omega)]
theorem xCheck_spec (o : Wo) (w : World) (h : 0 ≤ o.kind ∧ o.kind ≤ 255) : Calls Try.prog 13 #[.agg #[.int .u8 o.kind, .string o.key, .string o.value, .string o.old, .bool o.had]] w fun e w' => e = .returned (.int .i64 (checkO o)) ∧ Ext [] w w' := by
  refine sh_butteryref09_Check_ok _ _ _ _ _ _ _ ?_
  unfold sh_butteryref09_Check
  refine VNw.i fun b w1 hb h1 e1 => VLd.i1 (t := .int .u8) o.kind (Rd.of_bk h1 rfl) (VLd.i1 (t := .int .u8) o.kind (Rd.of_bk h1 rfl) (VIf.mk (fun hc => ⟨?_, e1⟩) (fun hc => ?_)))
  · simp only [Bool.or_eq_true, decide_eq_true_eq, beq_iff_eq] at hc
    unfold checkO
    rw [if_pos (by omega)]
  · simp only [Bool.or_eq_false_iff, decide_eq_false_iff_not, beq_eq_false_iff_ne, ne_eq] at hc
    refine VLd.i1 (t := .str) o.key (Rd.of_bk h1 rfl) (VLd.i1 (t := .str) o.key (Rd.of_bk h1 rfl) (VLd.i1 (t := .str) o.value (Rd.of_bk h1 rfl) (VLd.i1 (t := .str) o.old (Rd.of_bk h1 rfl) (VIf.mk (fun hd => ⟨?_, e1⟩) (fun hd => ⟨?_, e1⟩)))))
    · simp only [Bool.or_eq_true, decide_eq_true_eq] at hd
      unfold checkO
      rw [if_neg (by omega), if_pos (by omega)]
    · simp only [Bool.or_eq_false_iff, decide_eq_false_iff_not] at hd
      unfold checkO
      rw [if_neg (by omega), if_neg (by omega)]

/-! find -/
theorem fst1_idx {α κ : Type} [DecidableEq κ] {key : α → κ} {L : List α} {k : κ} {i : Nat} (h : L.findIdx? (fun y => decide (key y = k)) = some i) : ∃ hi : i < L.length, fst1 key L k = some L[i] := by
  obtain ⟨hl, hp, hf⟩ := List.findIdx?_eq_some_iff_getElem.1 h
  refine ⟨hl, ?_⟩
  unfold fst1
  rw [List.find?_eq_some_iff_getElem]
  exact ⟨hp, i, hl, rfl, fun j hj => by simpa using hf j hj⟩
theorem fst1_idxn {α κ : Type} [DecidableEq κ] {key : α → κ} {L : List α} {k : κ} (h : L.findIdx? (fun y => decide (key y = k)) = none) : fst1 key L k = none :=
  fst1_none fun y hy => by simpa using List.findIdx?_eq_none_iff.1 h y hy
theorem ask1_spec (x : Pr) (c : ByteArray) (b : Nat) (t : TypeId) (w : World) (hb : Bk w b [.string c] t) :
    Calls Try.prog 29 #[.agg #[.string x.1, .string x.2], .pointer (some ⟨b, 0, none⟩)] w fun e w' => e = .returned (.bool (decide (prK x = c))) ∧ Ext [] w w' := by
  refine sh_dedup_Find_1_ok _ _ _ _ _ ?_
  unfold sh_dedup_Find_1
  refine VNw.i fun b1 w1 hb1 h1 e1 => VLd.i1 (t := .str) x.1 (Rd.of_bk h1 rfl) (VLd.i1 (t := .str) c (Rd.of_bk (hb.ext e1) rfl) ⟨?_, e1⟩)
  rw [ba_beq]; rfl
theorem Find_spec (s : Sl) (m : List Pr) (k : ByteArray) (w : World) (h : InR prR w s m) : Calls Try.prog 10 #[.slice s.base s.len s.cap, .string k] w fun e w' => e = .returned (.tuple #[.string (valP m k), .bool (hasP m k)]) ∧ Ext [] w w' := by
  refine sh_dedup_Find_ok _ _ _ _ ?_
  unfold sh_dedup_Find
  have hl := h.len
  refine VNw.i fun b w1 hb h1 e1 => ?_
  refine VCall.i (IndexP_spec s m _ (fun y => decide (prK y = k)) [] w1 (h.ext0 e1) ⟨_, _, _, rfl, by kernel_rfl, fun x W e => ask1_spec x k b _ W (h1.ext e)⟩) ?_
  rintro e w2 ⟨rfl, e2⟩
  refine ⟨_, rfl, VSet.i ?_⟩
  have e02 := e1.then0 e2
  unfold valP hasP fstP idxI
  cases hf : m.findIdx? (fun y => decide (prK y = k)) with
  | none =>
    simp only
    rw [fst1_idxn hf]
    exact VIf.t rfl ⟨rfl, e02⟩
  | some i =>
    obtain ⟨hi, hx⟩ := fst1_idx hf
    simp only
    rw [hx]
    refine VIf.f (by simp) ?_
    have hs := (h.ext0 e02).1
    refine VIx.rd2 (r := prR) hs hi rfl fun a hr => VLd.i1 (t := .str) m[i].2 (hr.fld 1 rfl) ⟨rfl, e02⟩
theorem xFind_spec (s : Sl) (m : List Pr) (k : ByteArray) (w : World) (h : InR prR w s m) : Calls Try.prog 11 #[.slice s.base s.len s.cap, .string k] w fun e w' => e = .returned (.tuple #[.string (valP m k), .bool (hasP m k)]) ∧ w' = w := by
  refine sh_butteryref09_Find_ok _ _ _ _ ?_
  unfold sh_butteryref09_Find
  have hl := h.len
  have hcap := h.2
  refine ⟨fun kk i W => ∃ j : Nat, i = (j : Int) ∧ j ≤ m.length ∧ kk = m.length - j ∧ (∀ t (ht : t < m.length), t < j → decide (prK m[t] = k) = false) ∧ W = w, ⟨_, 0, rfl, by omega, rfl, fun j hj h0 => by omega, rfl⟩, ?_⟩
  rintro kk i w1 ⟨j, rfl, hj, rfl, hno, rfl⟩
  refine VIf.mk (fun hc => ?_) (fun hc => ?_)
  · have hj' : j < m.length := by simp at hc; omega
    refine VIx.rd2 (r := prR) h.1 hj' rfl fun a hr => VLd.i1 (t := .str) m[j].1 (hr.fld0 rfl) (VIf.mk (fun hd => ?_) (fun hd => ?_))
    · refine VIx.rd2 (r := prR) h.1 hj' rfl fun a' hr' => VLd.i1 (t := .str) m[j].2 (hr'.fld 1 rfl) ⟨?_, rfl⟩
      rw [ba_beq] at hd
      obtain ⟨_, hx⟩ := fst1_idx (key := prK) (k := k) (idxI_at (p := fun y => decide (prK y = k)) hj' hd hno)
      unfold valP hasP fstP
      rw [hx]; rfl
    · rw [ba_beq] at hd
      refine VSet.i ⟨_, (show m.length - (j + 1) < m.length - j by omega), j + 1, w64 (n := (j : Int) + 1) (by omega), by omega, rfl, fun t ht hlt => ?_, rfl⟩
      by_cases hjm : t < j
      · exact hno t ht hjm
      · obtain rfl : t = j := by omega
        exact hd
  · have hjj : j = m.length := by simp at hc; omega
    refine ⟨?_, rfl⟩
    unfold valP hasP fstP
    rw [fst1_idxn (idxI_none (p := fun y => decide (prK y = k)) (fun t ht => hno t ht (by omega)))]
    rfl

/-! the shard of a key -/
def sumW (l : List UInt8) : Int := l.foldl (fun s b => IntKind.wrap .i64 (s + ((b.toNat : Nat) : Int))) 0
def placeO (k : ByteArray) (n : Int) : Int := if n < 1 then 0 else Int.tmod (sumW k.data.toList) n
theorem sumW_take {l : List UInt8} {j : Nat} (h : j < l.length) : sumW (l.take (j + 1)) = IntKind.wrap .i64 (sumW (l.take j) + ((l[j].toNat : Nat) : Int)) := by
  unfold sumW
  rw [List.take_succ_eq_append_getElem h, List.foldl_append]; rfl
theorem w8i (x : UInt8) : IntKind.wrap .i64 ((x.toNat : Nat) : Int) = ((x.toNat : Nat) : Int) := w64 (by have := UInt8.toNat_lt x; omega)
theorem Place_spec (k : ByteArray) (n : Int) (w : World) (hk : k.size ≤ 9223372036854775807) : Calls Try.prog 14 #[.string k, .int .i64 n] w fun e w' => e = .returned (.int .i64 (placeO k n)) ∧ Ext [] w w' := by
  refine sh_dedup_Place_ok _ _ _ _ ?_
  unfold sh_dedup_Place
  unfold placeO
  have hks : k.data.toList.length = k.size := Array.length_toList
  refine VIf.mk (fun hc => ⟨by rw [if_pos (by simpa using hc)], Ext.refl _ _⟩) (fun hc => ?_)
  rw [if_neg (by simpa using hc)]
  have hn : ¬ n < 1 := by simpa using hc
  refine VBytes.i fun b c w1 hb h1 e1 hc1 => ?_
  refine ⟨fun kk sum i W => ∃ j : Nat, i = (j : Int) ∧ j ≤ k.size ∧ kk = k.size - j ∧ sum = sumW (k.data.toList.take j) ∧ W = w1, ⟨_, 0, rfl, by omega, rfl, rfl, rfl⟩, ?_⟩
  rintro kk sum i w2 ⟨j, rfl, hj, rfl, rfl, rfl⟩
  refine VIf.mk (fun hd => ?_) (fun hd => ?_)
  · have hj' : j < k.size := by simp at hd; omega
    have hjl : j < k.data.toList.length := by omega
    refine VIx.i (by omega) (by omega) ?_
    have hrd : Rd w2 ⟨b, j, none⟩ [.int .u8 (((k.data.toList[j]).toNat : Nat) : Int)] := Rd.of_bk h1 (by
      rw [bc_str, List.drop_append_of_le_length (by rw [bc_len]; omega), bc_drop, List.drop_eq_getElem_cons hjl]
      rfl)
    refine VLd.i1 (t := .int .u8) _ (by simpa using hrd) (VSet.i (VSet.i ⟨_, (show k.size - (j + 1) < k.size - j by omega), j + 1, w64 (n := (j : Int) + 1) (by omega), by omega, rfl, ?_, rfl⟩))
    rw [w8i, sumW_take hjl]; rfl
  · have hjj : j = k.size := by simp at hd; omega
    refine VCk.i (by omega) (VSet.i ⟨?_, e1⟩)
    rw [List.take_of_length_le (by omega)]
theorem xPlace_spec (k : ByteArray) (n : Int) (w : World) (hk : k.size ≤ 9223372036854775807) : Calls Try.prog 15 #[.string k, .int .i64 n] w fun e w' => e = .returned (.int .i64 (placeO k n)) ∧ Ext [] w w' := by
  refine sh_butteryref09_Place_ok _ _ _ _ ?_
  unfold sh_butteryref09_Place
  unfold placeO
  have hks : k.data.toList.length = k.size := Array.length_toList
  refine VIf.mk (fun hc => ⟨by rw [if_pos (by simpa using hc)], Ext.refl _ _⟩) (fun hc => ?_)
  rw [if_neg (by simpa using hc)]
  have hn : ¬ n < 1 := by simpa using hc
  refine ⟨fun kk sum i W => ∃ j : Nat, i = (j : Int) ∧ j ≤ k.size ∧ kk = k.size - j ∧ sum = sumW (k.data.toList.take j) ∧ W = w, ⟨_, 0, rfl, by omega, rfl, rfl, rfl⟩, ?_⟩
  rintro kk sum i w2 ⟨j, rfl, hj, rfl, rfl, rfl⟩
  refine VIf.mk (fun hd => ?_) (fun hd => ?_)
  · have hj' : j < k.size := by simp at hd; omega
    have hjl : j < k.data.toList.length := by omega
    refine VCk.i (by omega) (VSet.i (VSet.i ⟨_, (show k.size - (j + 1) < k.size - j by omega), j + 1, w64 (n := (j : Int) + 1) (by omega), by omega, rfl, ?_, rfl⟩))
    have hs : strAt k (Int.toNat (j : Int)) = (((k.data.toList[j]).toNat : Nat) : Int) := by
      unfold strAt
      rw [Int.toNat_natCast, List.getD_eq_getElem?_getD, List.getElem?_eq_getElem hjl]; rfl
    rw [hs, w8i, sumW_take hjl]
  · have hjj : j = k.size := by simp at hd; omega
    refine VCk.i (by omega) (VSet.i ⟨?_, Ext.refl _ _⟩)
    rw [List.take_of_length_le (by omega)]

/-! what a client did last -/
theorem ask2_spec (x : Ls) (c : Int) (b : Nat) (t : TypeId) (w : World) (hb : Bk w b [.int .i64 c] t) :
    Calls Try.prog 37 #[.agg #[.int .i64 x.1, .int .i64 x.2.1, .int .u8 x.2.2.1, .bool x.2.2.2.1, .string x.2.2.2.2], .pointer (some ⟨b, 0, none⟩)] w fun e w' => e = .returned (.bool (decide (lsK x = c))) ∧ Ext [] w w' := by
  refine sh_dedup_Seen_1_ok _ _ _ _ _ _ _ _ ?_
  unfold sh_dedup_Seen_1
  refine VNw.i fun b1 w1 hb1 h1 e1 => VLd.i1 (t := .int .i64) x.1 (Rd.of_bk h1 rfl) (VLd.i1 (t := .int .i64) c (Rd.of_bk (hb.ext e1) rfl) ⟨?_, e1⟩)
  rw [int_beq]; rfl
theorem Seen_spec (s : Sl) (l : List Ls) (who id : Int) (w : World) (h : InR lsR w s l) : Calls Try.prog 19 #[.slice s.base s.len s.cap, .int .i64 who, .int .i64 id] w fun e w' =>
      e = .returned (.tuple #[.agg #[.int .u8 (seenO l who id).1.1, .bool (seenO l who id).1.2.1, .string (seenO l who id).1.2.2], .int .i64 (seenO l who id).2]) ∧ Ext [] w w' := by
  refine sh_dedup_Seen_ok _ _ _ _ _ ?_
  unfold sh_dedup_Seen
  have hl := h.len
  refine VNw.i fun b w1 hb h1 e1 => VNw.i fun b6 w2 hb6 h6 e2 => ?_
  have e02 := e1.then0 e2
  refine VCall.i (IndexL_spec s l _ (fun y => decide (lsK y = who)) [] w2 (h.ext0 e02) ⟨_, _, _, rfl, by kernel_rfl, fun x W e => ask2_spec x who b _ W ((h1.ext e2).ext e)⟩) ?_
  rintro e w3 ⟨rfl, e3⟩
  refine ⟨_, rfl, VSet.i ?_⟩
  have e03 := e02.then0 e3
  have h63 := h6.ext e3
  have z1 := e1.size
  have fin : ∀ {a : Int} {f : Bool} {v : ByteArray} {er : Int} {Q : Prop}, (seenO l who id = ((a, f, v), er)) → VSt none w3 ⟨b6, 0, none⟩ [.int .u8 a, .bool f, .string v] fun (w4 : World) => VLd none w4 ⟨b6, 0, none⟩ [CT.int .u8, CT.bool, CT.str] fun (r0 : Int) (r1 : Bool) (r2 : ByteArray) =>
      (Ending.returned (.tuple #[.agg #[.int .u8 r0, .bool r1, .string r2], .int .i64 er]) = .returned (.tuple #[.agg #[.int .u8 (seenO l who id).1.1, .bool (seenO l who id).1.2.1, .string (seenO l who id).1.2.2], .int .i64 (seenO l who id).2])) ∧ Ext [] w w4 := by
    intro a f v er Q hq
    refine VSt.bk h63 rfl (by simp) fun w4 h4 e4 => VLd.i3 (t := .int .u8) (u := .bool) (v := .str) a f v (Rd.of_bk h4 rfl) ⟨?_, e03.then e4 (fun i hi hlt => by simp at hi; omega)⟩
    rw [hq]
  cases hf : l.findIdx? (fun y => decide (lsK y = who)) with
  | none =>
    have hidx : idxI (fun y => decide (lsK y = who)) l = -1 := by unfold idxI; rw [hf]
    rw [hidx]
    refine VIx.off rfl fun a => VLd.off1 rfl 0 ?_
    refine VIf.t rfl (fin (Q := True) ?_)
    unfold seenO fstL
    rw [fst1_idxn hf]; rfl
  | some i =>
    have hidx : idxI (fun y => decide (lsK y = who)) l = (i : Int) := by unfold idxI; rw [hf]
    rw [hidx]
    obtain ⟨hi, hx⟩ := fst1_idx hf
    have hs := (h.ext0 e03).1
    refine VIx.rd2 (r := lsR) hs hi rfl fun a hr => VLd.i1 (t := .int .i64) l[i].2.1 (hr.fld 1 rfl) (VIf.mk (fun hc => fin (Q := True) ?_) (fun hc => ?_))
    · have hc : l[i].2.1 < id := by simp only [Bool.or_eq_true, decide_eq_true_eq] at hc; omega
      unfold seenO fstL
      rw [hx]
      simp only
      rw [if_pos hc]; rfl
    · have hc : ¬ l[i].2.1 < id := by simp only [Bool.or_eq_false_iff, decide_eq_false_iff_not] at hc; exact hc.2
      refine VIx.rd2 (r := lsR) hs hi rfl fun a hr => VLd.i1 (t := .int .i64) l[i].2.1 (hr.fld 1 rfl) (VIf.mk (fun hd => fin (Q := True) ?_) (fun hd => ?_))
      · have hd : id < l[i].2.1 := by simpa using hd
        unfold seenO fstL
        rw [hx]
        simp only
        rw [if_neg hc, if_pos hd]; rfl
      · have hd : ¬ id < l[i].2.1 := by simpa using hd
        refine VIx.rd2 (r := lsR) hs hi rfl fun a hr => VLd.i3 (t := .int .u8) (u := .bool) (v := .str) l[i].2.2.1 l[i].2.2.2.1 l[i].2.2.2.2 ?_ (fin (Q := True) ?_)
        · exact hr.drop fun j v hj => by
            have hjl := (List.getElem?_eq_some_iff.1 hj).1
            simp only [List.length_cons, List.length_nil] at hjl
            match j, hjl with
            | 0, _ => exact hj
            | 1, _ => exact hj
            | 2, _ => exact hj
        · unfold seenO fstL
          rw [hx]
          simp only
          rw [if_neg hc, if_neg hd]
end Go.Proofs.Ytlnomdjmjeabhaa
