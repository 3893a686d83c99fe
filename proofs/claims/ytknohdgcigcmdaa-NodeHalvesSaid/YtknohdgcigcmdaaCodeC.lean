/-
  Package code, read: numbers, counts, texts, truth values.
-/
import Derived.Test.YtknohdgcigcmdaaCodeB
namespace Go.Proofs.Ytknohdgcigcmdaa
open Go.RowKit
set_option maxRecDepth 100000

def rNum (st : Option (List UInt8)) : Int × Option (List UInt8) := match st.bind rd with | none => (0, none) | some (u, t) => (unzz u, some t)
def rCount (most : Int) (st : Option (List UInt8)) : Int × Option (List UInt8) :=
  match st.bind rd with
  | none => (0, none)
  | some (u, t) => if 0 ≤ most ∧ (u : Int) ≤ 2147483647 ∧ (u : Int) ≤ most then ((u : Int), some t) else (0, none)
def rStr (most : Int) (st : Option (List UInt8)) : ByteArray × Option (List UInt8) :=
  match (rCount most st).2 with
  | none => (⟨#[]⟩, none)
  | some t => if (rCount most st).1 ≤ t.length then (⟨(t.take (rCount most st).1.toNat).toArray⟩, some (t.drop (rCount most st).1.toNat)) else (⟨#[]⟩, none)

theorem rCount_pos (most : Int) (st : Option (List UInt8)) : 0 ≤ (rCount most st).1 ∧ (rCount most st).1 ≤ 2147483647 := by
  unfold rCount
  split
  · simp
  · split
    · simp only; omega
    · simp

theorem rCount_spec (r q d : Nat) (most : Int) (st : Option (List UInt8)) (w : World) (h : RepC w r q d st) :
    Calls Try.prog 54 #[.pointer (some ⟨r, 0, none⟩), .int .i64 most] w fun e w' => e = .returned (.int .i64 (rCount most st).1) ∧ RepC w' r q d (rCount most st).2 ∧ Ext [q] w w' := by
  refine sh_code_Reader_Count_ok _ _ _ _ ?_
  unfold sh_code_Reader_Count
  refine VIf.f rfl ?_
  refine VCall.i (ruv_spec r q d st w h) ?_
  intro e w1 hp
  unfold rCount
  cases ho : st.bind rd with
  | none =>
    rw [ho] at hp
    obtain ⟨rfl, rfl⟩ := hp
    refine exW.i2 (t := .int .u64) (u := .bool) (0 : Int) false rfl (VSet.i ?_)
    refine VCall.i (tellInt r q d st _ _ w1 h) ?_
    rintro e w2 ⟨rfl, h2, e2⟩
    exact exW.i1 _ rfl (VSet.i ⟨rfl, h2, e2⟩)
  | some p =>
    obtain ⟨u, t⟩ := p
    rw [ho] at hp
    obtain ⟨rfl, h1, e1⟩ := hp
    have hu : u < 18446744073709551616 := by
      cases st with
      | none => cases ho
      | some l => exact (rd_ok ho).1
    refine exW.i2 (t := .int .u64) (u := .bool) (u : Int) true rfl (VSet.i ?_)
    refine VCall.i (tellInt r q d _ _ _ w1 h1) ?_
    rintro e w2 ⟨rfl, h2, e2⟩
    have hcond : (((true && (decide (most ≥ 0))) && (decide ((u : Int) ≤ 2147483647))) && (decide ((IntKind.wrap .i64 (u : Int)) ≤ most))) = decide (0 ≤ most ∧ (u : Int) ≤ 2147483647 ∧ (u : Int) ≤ most) := by
      by_cases h31 : (u : Int) ≤ 2147483647
      · rw [w64 (show -9223372036854775808 ≤ (u : Int) ∧ (u : Int) ≤ 9223372036854775807 by omega)]
        rw [Bool.eq_iff_iff]; simp only [Bool.and_eq_true, decide_eq_true_eq, Bool.true_and]; omega
      · rw [decide_eq_false h31, Bool.and_false, Bool.false_and, eq_comm]
        exact decide_eq_false (by omega)
    rw [hcond] at h2 ⊢
    simp only
    by_cases hc : 0 ≤ most ∧ (u : Int) ≤ 2147483647 ∧ (u : Int) ≤ most
    · rw [decide_eq_true hc] at h2 ⊢
      rw [if_pos hc]
      refine exW.i1 _ rfl (VSet.i ⟨?_, h2, e1.then e2 (fun i hi _ => hi)⟩)
      rw [w64 (show -9223372036854775808 ≤ (u : Int) ∧ (u : Int) ≤ 9223372036854775807 by omega)]
      rfl
    · rw [decide_eq_false hc] at h2 ⊢
      rw [if_neg hc]
      exact exW.i1 _ rfl (VSet.i ⟨rfl, h2, e1.then e2 (fun i hi _ => hi)⟩)
theorem rCount_nil (most : Int) (w : World) : Calls Try.prog 54 #[.pointer none, .int .i64 most] w fun e w' => e = .returned (.int .i64 0) ∧ w' = w := by
  refine sh_code_Reader_Count_ok _ _ _ _ ?_
  unfold sh_code_Reader_Count
  exact VIf.t rfl ⟨rfl, rfl⟩

theorem rStr_spec (r q d : Nat) (most : Int) (st : Option (List UInt8)) (w : World) (h : RepC w r q d st) :
    Calls Try.prog 77 #[.pointer (some ⟨r, 0, none⟩), .int .i64 most] w fun e w' => e = .returned (.string (rStr most st).1) ∧ RepC w' r q d (rStr most st).2 ∧ Ext [q] w w' := by
  refine sh_code_Reader_Str_ok _ _ _ _ ?_
  unfold sh_code_Reader_Str
  refine VIf.f rfl ?_
  refine VCall.i (rCount_spec r q d most st w h) ?_
  rintro e w1 ⟨rfl, h1, e1⟩
  refine exW.i1 _ rfl (VSet.i ?_)
  refine VCall.i (rOK_spec r q d _ w1 h1) ?_
  rintro e w2 ⟨rfl, rfl⟩
  refine exW.i1 _ rfl ?_
  have hpos := rCount_pos most st
  unfold rStr
  generalize rCount most st = p at *
  obtain ⟨n, st1⟩ := p
  cases st1 with
  | none =>
    refine VNN.n _ rfl _ ⟨0, 0, none⟩ ⟨none, fun e => absurd e (by simp), ?_⟩
    refine VNN.n _ rfl _ ⟨0, 0, none⟩ ⟨⟨none, 0, 0⟩, fun e => absurd e (by simp), ?_⟩
    refine VIf.t rfl ?_
    refine VCall.i (tellStr r q d _ _ false w2 h1) ?_
    rintro e w3 ⟨rfl, h3, e3⟩
    exact exW.i1 (t := .str) _ rfl ⟨rfl, h3, e1.then e3 (fun i hi _ => hi)⟩
  | some l =>
    have h1' := h1
    obtain ⟨s, f, l', hr, hq, hs, hst⟩ := h1'
    cases f with
    | true => cases hst
    | false =>
    simp only [Bool.false_eq_true, if_false, Option.some.injEq] at hst
    subst hst
    simp only at hpos
    have hl := hs.1
    refine VNN.i (VLd.i1 (t := .ptr) _ (Rd.of_bk hr rfl) (VNN.i (VLd.sl _ _ _ (Rd.of_bk hq rfl) ?_)))
    refine VIf.mk (fun hc => ?_) (fun hc => ?_)
    · have hn : ¬ n ≤ (l.length : Int) := by simp at hc; omega
      simp only [if_neg hn]
      refine VCall.i (tellStr r q d _ _ false w2 h1) ?_
      rintro e w3 ⟨rfl, h3, e3⟩
      exact exW.i1 (t := .str) _ rfl ⟨rfl, h3, e1.then e3 (fun i hi _ => hi)⟩
    · have hn : n ≤ (l.length : Int) := by simp at hc; omega
      simp only [if_pos hn]
      refine VNN.i (VLd.i1 (t := .ptr) _ (Rd.of_bk hr rfl) ?_)
      obtain ⟨k, rfl⟩ : ∃ k : Nat, n = k := ⟨n.toNat, by omega⟩
      refine VCall.i (take_spec r q d l k w2 h1 (by omega)) ?_
      rintro e w3 ⟨s', rfl, hb, h3, e3⟩
      refine exW.i1 (t := .sl) s' rfl ?_
      refine ⟨⟨(l.take k).toArray⟩, gd.i hb.seg, ?_⟩
      refine VCall.i (tellStr r q d _ _ true w3 h3) ?_
      rintro e w4 ⟨rfl, h4, e4⟩
      exact exW.i1 (t := .str) _ rfl ⟨rfl, h4, (e1.then e3 (fun i hi _ => hi)).then e4 (fun i hi _ => hi)⟩
theorem rStr_nil (most : Int) (w : World) : Calls Try.prog 77 #[.pointer none, .int .i64 most] w fun e w' => e = .returned (.string ⟨#[]⟩) ∧ w' = w := by
  refine sh_code_Reader_Str_ok _ _ _ _ ?_
  unfold sh_code_Reader_Str
  exact VIf.t rfl ⟨rfl, rfl⟩

theorem rFlag_spec (r q d : Nat) (st : Option (List UInt8)) (w : World) (h : RepC w r q d st) :
    Calls Try.prog 53 #[.pointer (some ⟨r, 0, none⟩)] w fun e w' => e = .returned (.bool ((rCount 1 st).1 == 1)) ∧ RepC w' r q d (rCount 1 st).2 ∧ Ext [q] w w' := by
  refine sh_code_Reader_Flag_ok _ _ _ ?_
  unfold sh_code_Reader_Flag
  refine VIf.f rfl ?_
  refine VCall.i (rCount_spec r q d 1 st w h) ?_
  rintro e w1 ⟨rfl, h1, e1⟩
  exact exW.i1 _ rfl ⟨rfl, h1, e1⟩
theorem rFlag_nil (w : World) : Calls Try.prog 53 #[.pointer none] w fun e w' => e = .returned (.bool false) ∧ w' = w := by
  refine sh_code_Reader_Flag_ok _ _ _ ?_
  unfold sh_code_Reader_Flag
  exact VIf.t rfl ⟨rfl, rfl⟩

/-! what was written is read -/
theorem rNum_enc (n : Int) (hn : -9223372036854775808 ≤ n ∧ n ≤ 9223372036854775807) (t : List UInt8) : rNum (some (enc (zz n) ++ t)) = (n, some t) := by
  unfold rNum
  rw [Option.bind_some, rd_enc _ (zz_lt hn)]
  simp [unzz_zz]
theorem rCount_enc (most n : Int) (h0 : 0 ≤ n) (h1 : n ≤ 2147483647) (h2 : n ≤ most) (t : List UInt8) : rCount most (some (encC n ++ t)) = (n, some t) := by
  unfold rCount encC
  rw [if_pos ⟨h0, h1⟩, Option.bind_some, rd_enc _ (by omega)]
  simp only
  rw [if_pos (by omega), Int.toNat_of_nonneg h0]
theorem rStr_enc (most : Int) (s : ByteArray) (h1 : s.size ≤ 2147483647) (h2 : (s.size : Int) ≤ most) (t : List UInt8) : rStr most (some (encS s ++ t)) = (s, some t) := by
  have hc := rCount_enc most s.size (by omega) (by omega) h2 (s.data.toList ++ t)
  have hC : encC (s.size : Int) = enc s.size := by unfold encC; rw [if_pos (by omega)]; rfl
  rw [hC] at hc
  have hl : s.data.toList.length = s.size := Array.length_toList
  unfold rStr encS
  rw [if_pos h1, List.append_assoc, hc]
  simp only [Int.toNat_natCast]
  rw [if_pos (by rw [List.length_append]; omega), ← hl, List.take_left, List.drop_left]
end Go.Proofs.Ytknohdgcigcmdaa
