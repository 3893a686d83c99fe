/-
  Package code, outright: CodeBack, CodeOnly, CodeNames.
-/
import Derived.Test.YtfanmhgmncfloaaCodeD
namespace Go.Proofs.Ytfanmhgmncfloaa
open Go.RowKit
set_option maxRecDepth 100000

/-! what is read of the beginning is read of the whole -/
theorem rd_more {l t : List UInt8} {u : Nat} (h : rd l = some (u, t)) (x : List UInt8) : rd (l ++ x) = some (u, t ++ x) := by
  obtain ⟨hu, rfl⟩ := rd_ok h
  rw [List.append_assoc, rd_enc u hu]
theorem rNum_more {l t : List UInt8} {v : Int} (h : rNum (some l) = (v, some t)) (x : List UInt8) : rNum (some (l ++ x)) = (v, some (t ++ x)) := by
  unfold rNum at h ⊢
  rw [Option.bind_some] at h ⊢
  cases hr : rd l with
  | none => rw [hr] at h; simp at h
  | some p =>
    obtain ⟨u, t'⟩ := p
    rw [hr] at h
    rw [rd_more hr]
    simp only [Prod.mk.injEq, Option.some.injEq] at h ⊢
    exact ⟨h.1, by rw [h.2]⟩
theorem rCount_more {most : Int} {l t : List UInt8} {v : Int} (h : rCount most (some l) = (v, some t)) (x : List UInt8) : rCount most (some (l ++ x)) = (v, some (t ++ x)) := by
  unfold rCount at h ⊢
  rw [Option.bind_some] at h ⊢
  cases hr : rd l with
  | none => rw [hr] at h; simp at h
  | some p =>
    obtain ⟨u, t'⟩ := p
    rw [hr] at h
    rw [rd_more hr]
    simp only at h ⊢
    split at h
    · rename_i hc
      rw [if_pos hc]
      simp only [Prod.mk.injEq, Option.some.injEq] at h ⊢
      exact ⟨h.1, by rw [h.2]⟩
    · simp at h
theorem rStr_more {most : Int} {l t : List UInt8} {v : ByteArray} (h : rStr most (some l) = (v, some t)) (x : List UInt8) : rStr most (some (l ++ x)) = (v, some (t ++ x)) := by
  unfold rStr at h ⊢
  have hp := rCount_pos most (some l)
  cases hc : rCount most (some l) with
  | mk n st =>
    rw [hc] at h hp
    cases st with
    | none => simp at h
    | some t' =>
      rw [rCount_more hc]
      simp only at h hp ⊢
      split at h
      · rename_i hn
        rw [if_pos (by rw [List.length_append]; omega)]
        simp only [Prod.mk.injEq, Option.some.injEq] at h ⊢
        rw [List.take_append_of_le_length (by omega), List.drop_append_of_le_length (by omega)]
        exact ⟨h.1, by rw [h.2]⟩
      · simp at h
theorem rNum_none : rNum none = (0, none) := rfl
theorem rCount_none (most : Int) : rCount most none = (0, none) := rfl
theorem rStr_none (most : Int) : rStr most none = (⟨#[]⟩, none) := rfl

theorem b31 (x : Int) : bAnd .i64 x 2147483647 = x % 2147483648 := bAnd_mask x 31 (by omega)

theorem CodeBack_law (n c : Int) (s : ByteArray) (v : Bool) (cut : Int) (w : World) (hn : -9223372036854775808 ≤ n ∧ n ≤ 9223372036854775807) :
    Calls Try.prog 6 #[.int .i64 n, .int .i64 c, .string s, .bool v, .int .i64 cut] w fun e w' => e = .returned (.bool true) ∧ Ext [] w w' := by
  refine sh_butterylaw01_CodeBack_ok _ _ _ _ _ _ _ ?_
  unfold sh_butterylaw01_CodeBack
  refine VCall.i (works_spec _) ?_
  rintro e w1 ⟨rfl, e1⟩
  refine exW.i1 _ rfl (VIf.mk (fun hc => ?_) (fun hc => ?_))
  · refine VCall.i (works_spec _) ?_
    rintro e w2 ⟨rfl, e2⟩
    exact exW.i1 _ rfl ⟨rfl, e1.then0 e2⟩
  simp at hc
  rw [b31]
  obtain ⟨k, hk⟩ : ∃ k, k = c % 2147483648 := ⟨_, rfl⟩
  rw [← hk]
  have hkb : 0 ≤ k ∧ k ≤ 2147483647 := by omega
  clear hk
  refine VSet.i ?_
  have l1 := enc_len10 (zz_lt hn)
  have l2 := encC_len k
  have l3 : (encS s).length ≤ 1048586 := by
    have hsl : s.data.toList.length = s.size := Array.length_toList
    have := enc_len10 (show s.size < 18446744073709551616 by omega)
    unfold encS; rw [if_pos (by omega), List.length_append]; omega
  have l4 : (enc (if v then 1 else 0)).length ≤ 10 := enc_len10 (by cases v <;> simp)
  refine VCall.i (Num_spec ⟨none, 0, 0⟩ [] n w1 (Seg.nil _ _ _) (by simp) hn) ?_
  rintro e w2 ⟨s1, rfl, h1, e2⟩
  refine exW.i1 (t := .sl) s1 rfl ?_
  refine VCall.i (Count_spec s1 _ k w2 h1.seg (by simp; omega)) ?_
  rintro e w3 ⟨s2, rfl, h2, e3⟩
  refine exW.i1 (t := .sl) s2 rfl ?_
  refine VCall.i (Str_spec s2 _ s w3 h2.seg (by simp; omega)) ?_
  rintro e w4 ⟨s3, rfl, h3, e4⟩
  refine exW.i1 (t := .sl) s3 rfl ?_
  refine VCall.i (Flag_spec s3 _ v w4 h3.seg (by simp; omega)) ?_
  rintro e w5 ⟨s4, rfl, h4, e5⟩
  refine exW.i1 (t := .sl) s4 rfl ?_
  have hassoc : ((([] ++ enc (zz n)) ++ encC k) ++ encS s) ++ enc (if v then 1 else 0) = enc (zz n) ++ (encC k ++ (encS s ++ (encC (if v then 1 else 0) ++ []))) := by
    simp only [List.nil_append, List.append_assoc, List.append_nil]; cases v <;> rfl
  have hBl : (enc (zz n) ++ (encC k ++ (encS s ++ (encC (if v then 1 else 0) ++ [])))).length ≤ 1048700 ∧ 0 < (enc (zz n) ++ (encC k ++ (encS s ++ (encC (if v then 1 else 0) ++ [])))).length := by
    have := enc_pos (zz n)
    have l5 := encC_len (if v then 1 else 0)
    simp only [List.length_append, List.length_nil]
    omega
  rw [hassoc] at h4
  obtain ⟨B, hB⟩ : ∃ B, B = enc (zz n) ++ (encC k ++ (encS s ++ (encC (if v then 1 else 0) ++ []))) := ⟨_, rfl⟩
  rw [← hB] at h4 hBl
  have E5 := (((e1.then0 e2).then0 e3).then0 e4).then0 e5
  clear e1 e2 e3 e4 e5 h1 h2 h3 hassoc
  refine VCall.i (NewReader_spec s4 B w5 h4.seg (by omega)) ?_
  rintro e w6 ⟨r, q, d, rfl, h6, e6, hr, hq, hd⟩
  refine exW.i1 (t := .ptr) _ rfl ?_
  have z5 := E5.size
  have E6 := E5.then0 e6
  have h46 := h4.ext0 e6
  rw [hB] at h6
  refine VCall.i (rNum_spec r q d _ w6 h6) ?_
  rintro e w7 ⟨rfl, h7, e7⟩
  rw [rNum_enc n hn] at h7 ⊢
  refine exW.i1 _ rfl ?_
  refine VCall.on (by simp) (VCall.i (rCount_spec r q d 2147483647 _ w7 h7) ?_)
  rintro e w8 ⟨rfl, h8, e8⟩
  rw [rCount_enc 2147483647 k hkb.1 hkb.2 hkb.2] at h8 ⊢
  refine exW.i1 _ rfl ?_
  refine VCall.on (by simp) (VCall.i (rStr_spec r q d s.size _ w8 h8) ?_)
  rintro e w9 ⟨rfl, h9, e9⟩
  rw [rStr_enc s.size s (by omega) (by omega)] at h9 ⊢
  refine exW.i1 (t := .str) _ rfl ?_
  refine VCall.on (by simp) (VCall.i (rFlag_spec r q d _ w9 h9) ?_)
  rintro e w10 ⟨rfl, h10, e10⟩
  rw [rCount_enc 1 _ (by cases v <;> simp) (by cases v <;> simp) (by cases v <;> simp)] at h10 ⊢
  refine exW.i1 _ rfl ?_
  have hfv : ((if v = true then (1 : Int) else 0) == 1) = v := by cases v <;> rfl
  simp only
  rw [hfv]
  refine VCall.on (by simp) (VCall.i (rDone_spec r q d _ w10 h10) ?_)
  rintro e w11 ⟨rfl, rfl⟩
  refine exW.i1 _ rfl ?_
  refine VIf.f (by simp [rDone]) ?_
  have hne : q ∉ rowB s4 := fun hm => by
    have := h4.1.lt q hm; omega
  have E11 := (((E6.then e7 (by simp; omega)).then e8 (by simp; omega)).then e9 (by simp; omega)).then e10 (by simp; omega)
  have hM : ∀ b ∈ rowB s4, b ∉ [q] := fun b hb => by simp; rintro rfl; exact hne hb
  have h411 : Row w11 5 1 s4 (bc B) := (((h46.1.ext e7 hM).ext e8 hM).ext e9 hM).ext e10 hM
  have h4l := h4.len
  rw [w64u, show ((s4.len : Nat) : Int) % 18446744073709551616 = (s4.len : Int) by omega]
  refine VCk.i (by omega) ?_
  have hcut : ∃ m : Nat, Int.tmod (IntKind.wrap .u64 cut) ((s4.len : Nat) : Int) = (m : Int) ∧ m < B.length := by
    rw [w64u, Int.tmod_eq_emod_of_nonneg (by omega)]
    have h6 := Int.emod_nonneg (cut % 18446744073709551616) (b := (s4.len : Int)) (by omega)
    have h7 := Int.emod_lt_of_pos (cut % 18446744073709551616) (b := (s4.len : Int)) (by omega)
    exact ⟨_, (Int.toNat_of_nonneg h6).symm, by omega⟩
  obtain ⟨m, hm, hml⟩ := hcut
  rw [hm, w64 (show -9223372036854775808 ≤ (m : Int) ∧ (m : Int) ≤ 9223372036854775807 by omega)]
  refine VSet.i ?_
  have hcap := h4.cap
  refine VCk.i (by omega) ?_
  simp only [Int.toNat_natCast]
  have hseg : Seg w11 (cutB s4.base s4.cap 1 0) (m - 0) 1 (bc (B.take m)) := by
    have hs := h411.seg
    refine ⟨by rw [bc_len, List.length_take]; omega, ?_⟩
    by_cases hm0 : m = 0
    · exact .inl (by omega)
    · right
      rcases hs.2 with h0 | ⟨a, ha, hrd⟩
      · omega
      · refine ⟨a, ?_, fun j x hj => hrd j x ?_⟩
        · unfold cutB; rw [if_neg (by omega), ha]; simp
        · rw [← bc_take, List.getElem?_take] at hj
          split at hj
          · exact hj
          · cases hj
  refine VCall.i (NewReader_spec ⟨cutB s4.base s4.cap 1 0, m - 0, s4.cap - 0⟩ (B.take m) w11 hseg (by rw [List.length_take]; omega)) ?_
  rintro e w12 ⟨r', q', d', rfl, h12, e12, hr', hq', hd'⟩
  refine exW.i1 (t := .ptr) _ rfl ?_
  have z11 := E11.size
  have E12 := E11.then0 e12
  refine VCall.i (rNum_spec r' q' d' _ w12 h12) ?_
  rintro e w13 ⟨rfl, h13, e13⟩
  refine exW.i1 _ rfl ?_
  refine VCall.i (rCount_spec r' q' d' 2147483647 _ w13 h13) ?_
  rintro e w14 ⟨rfl, h14, e14⟩
  refine exW.i1 _ rfl ?_
  refine VCall.i (rStr_spec r' q' d' s.size _ w14 h14) ?_
  rintro e w15 ⟨rfl, h15, e15⟩
  refine exW.i1 (t := .str) _ rfl ?_
  refine VCall.i (rFlag_spec r' q' d' _ w15 h15) ?_
  rintro e w16 ⟨rfl, h16, e16⟩
  refine exW.i1 _ rfl ?_
  have hnone : (rCount 1 (rStr (s.size : Int) (rCount 2147483647 (rNum (some (B.take m))).2).2).2).2 = none := by
    cases hf : (rCount 1 (rStr (s.size : Int) (rCount 2147483647 (rNum (some (B.take m))).2).2).2).2 with
    | none => rfl
    | some t =>
      exfalso
      cases a1 : rNum (some (B.take m)) with
      | mk v1 t1 =>
      rw [a1] at hf
      cases t1 with
      | none => simp [rCount_none, rStr_none] at hf
      | some t1 =>
      simp only at hf
      cases a2 : rCount 2147483647 (some t1) with
      | mk v2 t2 =>
      rw [a2] at hf
      cases t2 with
      | none => simp [rCount_none, rStr_none] at hf
      | some t2 =>
      simp only at hf
      cases a3 : rStr (s.size : Int) (some t2) with
      | mk v3 t3 =>
      rw [a3] at hf
      cases t3 with
      | none => simp [rCount_none] at hf
      | some t3 =>
      simp only at hf
      cases a4 : rCount 1 (some t3) with
      | mk v4 t4 =>
      rw [a4] at hf
      simp only at hf
      subst hf
      have b1 := rNum_more a1 (B.drop m)
      rw [List.take_append_drop, hB, rNum_enc n hn] at b1
      simp only [Prod.mk.injEq, Option.some.injEq] at b1
      have b2 := rCount_more a2 (B.drop m)
      rw [hB, ← b1.2, rCount_enc 2147483647 k hkb.1 hkb.2 hkb.2] at b2
      simp only [Prod.mk.injEq, Option.some.injEq] at b2
      have b3 := rStr_more a3 (B.drop m)
      rw [hB, ← b2.2, rStr_enc s.size s (by omega) (by omega)] at b3
      simp only [Prod.mk.injEq, Option.some.injEq] at b3
      have b4 := rCount_more a4 (B.drop m)
      rw [hB, ← b3.2, rCount_enc 1 _ (by cases v <;> simp) (by cases v <;> simp) (by cases v <;> simp)] at b4
      simp only [Prod.mk.injEq, Option.some.injEq] at b4
      have := congrArg List.length b4.2
      rw [List.length_append, ← hB, List.length_drop] at this
      simp at this
      omega
  rw [hnone] at h16
  refine VCall.i (rOK_spec r' q' d' _ w16 h16) ?_
  rintro e w17 ⟨rfl, rfl⟩
  refine exW.i1 _ rfl ?_
  refine VCall.on rfl (VCall.i (rDone_spec r' q' d' _ w17 h16) ?_)
  rintro e w18 ⟨rfl, rfl⟩
  exact exW.i1 _ rfl ⟨rfl, (((E12.then e13 (by simp; omega)).then e14 (by simp; omega)).then e15 (by simp; omega)).then e16 (by simp; omega)⟩

/-! CodeOnly -/
theorem rDone_iff {st : Option (List UInt8)} (h : rDone st = true) : st = some [] := by
  unfold rDone at h
  split at h
  · rfl
  · cases h
theorem only_num {l : List UInt8} (h : rDone (rNum (some l)).2 = true) : enc (zz (rNum (some l)).1) = l := by
  have h := rDone_iff h
  unfold rNum at h ⊢
  rw [Option.bind_some] at h ⊢
  cases hr : rd l with
  | none => rw [hr] at h; simp at h
  | some p =>
    obtain ⟨u, t⟩ := p
    rw [hr] at h
    simp only [Option.some.injEq] at h ⊢
    rw [zz_unzz, (rd_ok hr).2, h, List.append_nil]
theorem only_count {most : Int} {l t : List UInt8} {n : Int} (h : rCount most (some l) = (n, some t)) : 0 ≤ n ∧ n ≤ 2147483647 ∧ n ≤ most ∧ l = enc n.toNat ++ t := by
  unfold rCount at h
  rw [Option.bind_some] at h
  cases hr : rd l with
  | none => rw [hr] at h; simp at h
  | some p =>
    obtain ⟨u, t'⟩ := p
    rw [hr] at h
    simp only at h
    split at h
    · simp only [Prod.mk.injEq, Option.some.injEq] at h
      obtain ⟨rfl, rfl⟩ := h
      have := (rd_ok hr).2
      exact ⟨by omega, by omega, by omega, by simpa using this⟩
    · simp at h
theorem only_str {most : Int} {l t : List UInt8} {s : ByteArray} (h : rStr most (some l) = (s, some t)) : (s.size : Int) ≤ 2147483647 ∧ (s.size : Int) ≤ most ∧ l = encS s ++ t := by
  unfold rStr at h
  cases hc : rCount most (some l) with
  | mk n st =>
    rw [hc] at h
    cases st with
    | none => simp at h
    | some t' =>
      obtain ⟨h1, h2, h3, h4⟩ := only_count hc
      simp only at h
      split at h
      · rename_i hn
        simp only [Prod.mk.injEq, Option.some.injEq] at h
        obtain ⟨rfl, rfl⟩ := h
        have hsz : (⟨(t'.take n.toNat).toArray⟩ : ByteArray).size = n.toNat := by
          show (t'.take n.toNat).toArray.size = _
          simp; omega
        refine ⟨by omega, by omega, ?_⟩
        unfold encS
        rw [hsz, if_pos (by omega), List.append_assoc, h4]
        simp
      · simp at h

theorem onlyOff {c : Bool} {sb s' : ByteArray} (hs : c = true → s'.data.toList = sb.data.toList) : (c && (!(s'.toList == sb.toList))) = false := by
  cases c with
  | false => rfl
  | true => rw [strEq, hs rfl]; simp
theorem onlyStep {c : Bool} {P : Program} {f : FuncId} {args : Array Value} {w : World} {base : Option Addr} {len : Nat} {l x : List UInt8} {K : ByteArray → ByteArray → World → Prop}
    (hb : Seg w base len 1 (bc l)) (hc : c = true → Calls P f args w fun e w' => ∃ s' : Sl, e = .returned (.slice s'.base s'.len s'.cap) ∧ Own w w' s' x ∧ Ext [] w w') (he : c = true → x = l)
    (k : ∀ w' (sb s' : ByteArray), Ext [] w w' → (c = true → s'.data.toList = sb.data.toList) → K sb s' w') :
    VStr (some c) w base len fun (sb : ByteArray) => VCall (some c) P f args w (.slice none 0 0) fun (r : Sl) (w6 : World) =>
      (c = true → Seg w6 base len 1 (strCells sb)) ∧ VStr (some c) w6 r.base r.len fun (s' : ByteArray) => K sb s' w6 := by
  cases c with
  | false =>
    refine VStr.off rfl fun sb => VCall.off rfl (exW.i1 (t := .sl) ⟨none, 0, 0⟩ trivial ⟨fun h => (Bool.noConfusion h), VStr.off rfl fun s' => k w sb s' (Ext.refl _ _) (fun h => (Bool.noConfusion h))⟩)
  | true =>
    refine VStr.i l hb fun sb hsb => VCall.on rfl (VCall.i (hc rfl) ?_)
    rintro e w' ⟨s', rfl, h', e'⟩
    refine exW.i1 (t := .sl) s' rfl ⟨fun _ => ?_, VStr.i x h'.seg fun s2 hs2 => k w' sb s2 e' (fun _ => by rw [hs2, hsb, he rfl])⟩
    rw [bc_str, hsb]
    exact hb.ext0 e'

theorem CodeOnly_law (b : Sl) (l : List UInt8) (w : World) (hb : Seg w b.base b.len 1 (bc l)) (hl : l.length ≤ 1048576) :
    Calls Try.prog 7 #[.slice b.base b.len b.cap] w fun e w' => e = .returned (.bool true) ∧ Ext [] w w' := by
  refine sh_butterylaw01_CodeOnly_ok _ _ _ ?_
  unfold sh_butterylaw01_CodeOnly
  refine VCall.i (works_spec _) ?_
  rintro e w1 ⟨rfl, e1⟩
  refine exW.i1 _ rfl (VIf.f rfl ?_)
  have hbl := hb.blen
  -- a number
  refine VCall.i (NewReader_spec b l w1 (hb.ext0 e1) (by omega)) ?_
  rintro e w2 ⟨r, q, d, rfl, h2, e2, hr, hq, hd⟩
  refine exW.i1 (t := .ptr) _ rfl ?_
  have z1 := e1.size
  refine VCall.i (rNum_spec r q d _ w2 h2) ?_
  rintro e w3 ⟨rfl, h3, e3⟩
  refine exW.i1 _ rfl (VSet.i ?_)
  intro w4 hw4
  have e4 := Ext.drew' hw4
  have E4 := ((e1.then0 e2).then e3 (by simp; omega)).then0 e4
  refine VCall.i (rDone_spec r q d _ w4 (h3.ext0 e4)) ?_
  rintro e w5 ⟨rfl, rfl⟩
  refine exW.i1 _ rfl ?_
  clear h2 h3 e1 e2 e3 e4
  have hrange : -9223372036854775808 ≤ (rNum (some l)).1 ∧ (rNum (some l)).1 ≤ 9223372036854775807 := by
    unfold rNum
    rw [Option.bind_some]
    cases hr : rd l with
    | none => simp
    | some p =>
      obtain ⟨u, t⟩ := p
      have := (rd_ok hr).1
      simp only [unzz]; split <;> omega
  refine onlyStep (hb.ext0 E4) (fun hd => Num_spec ⟨none, 0, 0⟩ [] _ w5 (Seg.nil _ _ _) (by simp) hrange) (fun hd => only_num hd) fun w6 sb s6 e6 hs => ?_
  refine VIf.f (onlyOff hs) ?_
  clear hs sb s6 hrange
  have E6 := E4.then0 e6
  clear E4 e6
  -- a count
  refine VCall.i (NewReader_spec b l w6 (hb.ext0 E6) (by omega)) ?_
  rintro e w2 ⟨r, q, d, rfl, h2, e2, hr, hq, hd⟩
  refine exW.i1 (t := .ptr) _ rfl ?_
  have z1 := E6.size
  refine VCall.i (rCount_spec r q d 2147483647 _ w2 h2) ?_
  rintro e w3 ⟨rfl, h3, e3⟩
  refine exW.i1 _ rfl (VSet.i ?_)
  intro w4 hw4
  have e4 := Ext.drew' hw4
  have E4 := ((E6.then0 e2).then e3 (by simp; omega)).then0 e4
  refine VCall.i (rDone_spec r q d _ w4 (h3.ext0 e4)) ?_
  rintro e w5 ⟨rfl, rfl⟩
  refine exW.i1 _ rfl ?_
  clear h2 h3 e2 e3 e4 E6
  refine onlyStep (hb.ext0 E4) (fun hd => Count_spec ⟨none, 0, 0⟩ [] _ w5 (Seg.nil _ _ _) (by simp)) (fun hd => ?_) fun w6 sb s6 e6 hs => ?_
  · have hd := rDone_iff hd
    obtain ⟨n, st, hst⟩ : ∃ n st, rCount 2147483647 (some l) = (n, st) := ⟨_, _, rfl⟩
    rw [hst] at hd
    obtain rfl : st = some [] := hd
    obtain ⟨h1, h2, h3, h4⟩ := only_count hst
    rw [hst, List.nil_append]
    simp only [encC]
    rw [if_pos ⟨h1, h2⟩, h4, List.append_nil]
  refine VIf.f (onlyOff hs) ?_
  clear hs sb s6
  have E6 := E4.then0 e6
  clear E4 e6
  -- a text
  refine VCall.i (NewReader_spec b l w6 (hb.ext0 E6) (by omega)) ?_
  rintro e w2 ⟨r, q, d, rfl, h2, e2, hr, hq, hd⟩
  refine exW.i1 (t := .ptr) _ rfl ?_
  have z1 := E6.size
  refine VCall.i (rStr_spec r q d (b.len : Int) _ w2 h2) ?_
  rintro e w3 ⟨rfl, h3, e3⟩
  refine exW.i1 (t := .str) _ rfl ?_
  intro w4 hw4
  have e4 := Ext.drew' hw4
  have E4 := ((E6.then0 e2).then e3 (by simp; omega)).then0 e4
  refine VCall.i (rDone_spec r q d _ w4 (h3.ext0 e4)) ?_
  rintro e w5 ⟨rfl, rfl⟩
  refine exW.i1 _ rfl ?_
  clear h2 h3 e2 e3 e4 E6
  refine onlyStep (hb.ext0 E4) (fun hd => Str_spec ⟨none, 0, 0⟩ [] _ w5 (Seg.nil _ _ _) (by simp)) (fun hd => ?_) fun w6 sb s6 e6 hs => ?_
  · have hd := rDone_iff hd
    obtain ⟨n, st, hst⟩ : ∃ n st, rStr (b.len : Int) (some l) = (n, st) := ⟨_, _, rfl⟩
    rw [hst] at hd
    obtain rfl : st = some [] := hd
    obtain ⟨h1, h2, h3⟩ := only_str hst
    rw [hst, List.nil_append, h3, List.append_nil]
  refine VIf.f (onlyOff hs) ?_
  clear hs sb s6
  have E6 := E4.then0 e6
  clear E4 e6
  -- a truth value
  refine VCall.i (NewReader_spec b l w6 (hb.ext0 E6) (by omega)) ?_
  rintro e w2 ⟨r, q, d, rfl, h2, e2, hr, hq, hd⟩
  refine exW.i1 (t := .ptr) _ rfl ?_
  have z1 := E6.size
  refine VCall.i (rFlag_spec r q d _ w2 h2) ?_
  rintro e w3 ⟨rfl, h3, e3⟩
  refine exW.i1 _ rfl ?_
  intro w4 hw4
  have e4 := Ext.drew' hw4
  have E4 := ((E6.then0 e2).then e3 (by simp; omega)).then0 e4
  refine VCall.i (rDone_spec r q d _ w4 (h3.ext0 e4)) ?_
  rintro e w5 ⟨rfl, rfl⟩
  refine exW.i1 _ rfl ?_
  clear h2 h3 e2 e3 e4 E6
  refine onlyStep (hb.ext0 E4) (fun hd => Flag_spec ⟨none, 0, 0⟩ [] _ w5 (Seg.nil _ _ _) (by simp)) (fun hd => ?_) fun w6 sb s6 e6 hs => ?_
  · have hd := rDone_iff (by simpa using hd)
    obtain ⟨n, st, hst⟩ : ∃ n st, rCount 1 (some l) = (n, st) := ⟨_, _, rfl⟩
    rw [hst] at hd
    obtain rfl : st = some [] := hd
    obtain ⟨h1, h2, h3, h4⟩ := only_count hst
    rw [hst, List.nil_append, h4, List.append_nil]
    have : n = 0 ∨ n = 1 := by omega
    rcases this with rfl | rfl <;> rfl
  refine ⟨?_, E4.then0 e6⟩
  cases hd : rDone (rCount 1 (some l)).2 with
  | false => rfl
  | true =>
    have := hs (by rw [hd]; rfl)
    simp [strEq, this]

/-! CodeNames -/
theorem VBytes.i {w : World} {e : TypeId} {s : ByteArray} {K : Nat → Nat → World → Prop}
    (k : ∀ b c w', b = w.heap.size → Bk w' b (strCells s ++ List.replicate (c - s.size) (.int .u8 0)) e → Ext [] w w' → s.size ≤ c → K b c w') : VBytes none w e s K := by
  intro b c w' hc hn
  refine k b c w' hn.at_ ⟨(c, c + 1), ?_, .inl ?_⟩ hn.ext hc
  · rw [hn.get]; simp
  · have : (strCells s).length = s.size := by rw [bc_str, bc_len]; exact Array.length_toList
    simp only [List.length_append, List.length_replicate]; omega
def bad (l : List UInt8) (kind most : Int) : Option (List UInt8) :=
  if kind = 0 then (rNum (some l)).2 else if kind = 1 then (rCount most (some l)).2 else if kind = 2 then (rStr most (some l)).2 else (rCount 1 (some l)).2

theorem CodeNames_law (w : World) : Calls Try.prog 5 #[] w fun e w' => e = .returned (.bool true) ∧ Ext [] w w' := by
  refine sh_butterylaw01_CodeNames_ok _ _ ?_
  unfold sh_butterylaw01_CodeNames
  refine VCall.i (works_spec _) ?_
  rintro e w1 ⟨rfl, e1⟩
  refine exW.i1 _ rfl ?_
  refine VCall.on rfl (VCall.i (Count_spec ⟨none, 0, 0⟩ [] (-1) w1 (Seg.nil _ _ _) (by simp)) ?_)
  rintro e w2 ⟨s2, rfl, h2, e2⟩
  refine exW.i1 (t := .sl) s2 rfl ?_
  have l2 := h2.len
  have c2 : encC (-1) = [] := rfl
  rw [c2] at l2
  simp only [l2]
  refine VCall.on rfl (VCall.i (Count_spec ⟨none, 0, 0⟩ [] 2147483648 w2 (Seg.nil _ _ _) (by simp)) ?_)
  rintro e w3 ⟨s3, rfl, h3, e3⟩
  refine exW.i1 (t := .sl) s3 rfl ?_
  have l3 := h3.len
  have c3 : encC 2147483648 = [] := rfl
  rw [c3] at l3
  simp only [l3]
  refine VCall.on rfl (VCall.i (Count_spec ⟨none, 0, 0⟩ [] 2147483647 w3 (Seg.nil _ _ _) (by simp)) ?_)
  rintro e w4 ⟨s4, rfl, h4, e4⟩
  refine exW.i1 (t := .sl) s4 rfl ?_
  have l4 := h4.len
  have c4 : encC 2147483647 = [255, 255, 255, 255, 7] := by
    unfold encC
    rw [if_pos (by omega), show Int.toNat 2147483647 = 2147483647 from rfl]
    repeat rw [enc_big (by decide)]
    rw [enc_small (by decide)]
    rfl
  rw [c4] at l4
  simp only [l4]
  refine VCall.on rfl (VCall.i (Num_spec ⟨none, 0, 0⟩ [] (-9223372036854775808) w4 (Seg.nil _ _ _) (by simp) (by omega)) ?_)
  rintro e w5 ⟨s5, rfl, h5, e5⟩
  refine exW.i1 (t := .sl) s5 rfl ?_
  have c5 : enc (zz (-9223372036854775808)) = [255, 255, 255, 255, 255, 255, 255, 255, 255, 1] := by
    rw [show zz (-9223372036854775808) = 18446744073709551615 from rfl]
    repeat rw [enc_big (by decide)]
    rw [enc_small (by decide)]
    rfl
  rw [c5] at h5
  refine VStr.i _ h5.seg fun s hs => ?_
  refine VIf.f (by rw [strEq, hs]; rfl) ?_
  have E5 := (((e1.then0 e2).then0 e3).then0 e4).then0 e5
  clear h2 h3 h4 h5 e1 e2 e3 e4 e5
  refine VNw.i fun tb w6 htb hk6 e6 => ?_
  have E6 := E5.then0 e6
  have z5 := E5.size
  refine ⟨fun k x W => ∃ j : Nat, x = (j : Int) ∧ j ≤ 10 ∧ k = 10 - j ∧ Ext [] w6 W, ⟨_, 0, rfl, by omega, rfl, Ext.refl _ _⟩, ?_⟩
  rintro k x w7 ⟨j, rfl, hj, rfl, e7⟩
  refine VIf.mk (fun hc => ?_) (fun hc => ?_)
  · simp at hc
    have hrow : ∃ (l : List UInt8) (kd mo : Int), Rd w7 ⟨tb, j * 3, none⟩ [.string ⟨l.toArray⟩, .int .i64 kd, .int .i64 mo] ∧ bad l kd mo = none ∧ l.length ≤ 10 := by
      have hk7 := hk6.ext e7
      have : j = 0 ∨ j = 1 ∨ j = 2 ∨ j = 3 ∨ j = 4 ∨ j = 5 ∨ j = 6 ∨ j = 7 ∨ j = 8 ∨ j = 9 := by omega
      rcases this with rfl | rfl | rfl | rfl | rfl | rfl | rfl | rfl | rfl | rfl
      · exact ⟨[128, 0], 1, 9, Rd.of_bk hk7 rfl, rfl, by decide⟩
      · exact ⟨[5], 1, 4, Rd.of_bk hk7 rfl, rfl, by decide⟩
      · exact ⟨[2, 97], 2, 9, Rd.of_bk hk7 rfl, rfl, by decide⟩
      · exact ⟨[2], 3, 0, Rd.of_bk hk7 rfl, rfl, by decide⟩
      · exact ⟨[], 0, 0, Rd.of_bk hk7 rfl, rfl, by decide⟩
      · exact ⟨[128], 0, 0, Rd.of_bk hk7 rfl, rfl, by decide⟩
      · exact ⟨[0], 1, -1, Rd.of_bk hk7 rfl, rfl, by decide⟩
      · exact ⟨[2, 97, 98], 2, 1, Rd.of_bk hk7 rfl, rfl, by decide⟩
      · exact ⟨[255, 255, 255, 255, 255, 255, 255, 255, 255, 2], 0, 0, Rd.of_bk hk7 rfl, rfl, by decide⟩
      · exact ⟨[128, 128, 128, 128, 8], 1, 1099511627776, Rd.of_bk hk7 rfl, rfl, by decide⟩
    obtain ⟨l, kd, mo, hrd, hbad, hll⟩ := hrow
    refine VIx.i (by omega) (by omega) ?_
    simp only [add_blk, Int.toNat_natCast, Nat.zero_add]
    refine VLd.i3 (t := .str) (u := .int .i64) (v := .int .i64) _ _ _ hrd ?_
    refine VNw.i fun x2 w8 hx2 hk8 e8 => ?_
    refine VSt.bk hk8 rfl (by simp) fun w9 hk9 e9 => ?_
    have hk9 : Bk w9 x2 [.string ⟨l.toArray⟩, .int .i64 kd, .int .i64 mo] _ := hk9
    have z7 := e7.size
    have E9 := (e7.then0 e8).then e9 (by simp; omega)
    refine VLd.i1 (t := .str) _ (Rd.of_bk hk9 rfl) ?_
    refine VBytes.i fun b c w10 hb hk10 e10 hbc => ?_
    have hseg : Seg w10 (some ⟨b, 0, none⟩) (⟨l.toArray⟩ : ByteArray).size 1 (bc l) := Seg.of_bk hk10 (by
      rw [List.drop_zero]
      show (bc l ++ _).take (bc l).length = bc l
      rw [List.take_left]) (by rw [bc_len]; show l.length = l.toArray.size * 1; simp)
    have z9 := E9.size
    refine VCall.i (NewReader_spec ⟨some ⟨b, 0, none⟩, (⟨l.toArray⟩ : ByteArray).size, c⟩ l w10 hseg (by omega)) ?_
    rintro e w11 ⟨r, q, d, rfl, h11, e11, hr, hq, hd⟩
    refine exW.i1 (t := .ptr) _ rfl ?_
    have z10 := e10.size
    have E11 := (E9.then0 e10).then0 e11
    have hk11 := (hk9.ext e10).ext e11
    refine VLd.i1 kd (Rd.of_bk hk11 rfl) ?_
    refine ⟨fun W => RepC W r q d none ∧ Ext [] w6 W, ?_, ?_⟩
    · unfold bad at hbad
      refine VIf.mk (fun hc1 => ?_) (fun hc1 => VIf.mk (fun hc2 => ?_) (fun hc2 => VIf.mk (fun hc3 => ?_) (fun hc3 => ?_)))
      · simp only [beq_iff_eq] at hc1
        rw [if_pos hc1] at hbad
        refine VCall.i (rNum_spec r q d _ w11 h11) ?_
        rintro e w12 ⟨rfl, h12, e12⟩
        rw [hbad] at h12
        exact exW.i1 _ rfl ⟨h12, E11.then e12 (by simp; omega)⟩
      · simp only [beq_iff_eq, beq_eq_false_iff_ne] at hc1 hc2
        rw [if_neg hc1, if_pos hc2] at hbad
        refine VLd.i1 mo (Rd.of_bk hk11 rfl) ?_
        refine VCall.i (rCount_spec r q d mo _ w11 h11) ?_
        rintro e w12 ⟨rfl, h12, e12⟩
        rw [hbad] at h12
        exact exW.i1 _ rfl ⟨h12, E11.then e12 (by simp; omega)⟩
      · simp only [beq_iff_eq, beq_eq_false_iff_ne] at hc1 hc2 hc3
        rw [if_neg hc1, if_neg hc2, if_pos hc3] at hbad
        refine VLd.i1 mo (Rd.of_bk hk11 rfl) ?_
        refine VCall.i (rStr_spec r q d mo _ w11 h11) ?_
        rintro e w12 ⟨rfl, h12, e12⟩
        rw [hbad] at h12
        exact exW.i1 (t := .str) _ rfl ⟨h12, E11.then e12 (by simp; omega)⟩
      · simp only [beq_iff_eq, beq_eq_false_iff_ne] at hc1 hc2 hc3
        rw [if_neg hc1, if_neg hc2, if_neg hc3] at hbad
        refine VCall.i (rFlag_spec r q d _ w11 h11) ?_
        rintro e w12 ⟨rfl, h12, e12⟩
        rw [hbad] at h12
        exact exW.i1 _ rfl ⟨h12, E11.then e12 (by simp; omega)⟩
    · rintro w12 ⟨h12, E12⟩
      refine VCall.i (rOK_spec r q d _ w12 h12) ?_
      rintro e w13 ⟨rfl, rfl⟩
      refine exW.i1 _ rfl (VCall.on rfl (VCall.i (rLeft_spec r q d _ w13 h12) ?_))
      rintro e w13 ⟨rfl, rfl⟩
      refine exW.i1 _ rfl (VCall.on rfl (VCall.i (rDone_spec r q d _ w13 h12) ?_))
      rintro e w13 ⟨rfl, rfl⟩
      refine exW.i1 _ rfl (VCall.on rfl (VCall.i (rNum_spec r q d _ w13 h12) ?_))
      rintro e w14 ⟨rfl, h14, e14⟩
      refine exW.i1 _ rfl (VCall.on rfl (VCall.i (rStr_spec r q d 9 _ w14 h14) ?_))
      rintro e w15 ⟨rfl, h15, e15⟩
      refine exW.i1 (t := .str) _ rfl (VIf.f ?_ ?_)
      · rw [strEq]; rfl
      · rw [w64 (show -9223372036854775808 ≤ (j : Int) + 1 ∧ (j : Int) + 1 ≤ 9223372036854775807 by omega)]
        exact ⟨_, by omega, j + 1, by omega, by omega, rfl, (E12.then e14 (by simp; omega)).then e15 (by simp; omega)⟩
  · refine VCall.i (rOK_nil w7) ?_
    rintro e w8 ⟨rfl, rfl⟩
    refine exW.i1 _ rfl (VCall.on rfl (VCall.i (rDone_nil w8) ?_))
    rintro e w8 ⟨rfl, rfl⟩
    refine exW.i1 _ rfl (VCall.on rfl (VCall.i (rLeft_nil w8) ?_))
    rintro e w8 ⟨rfl, rfl⟩
    refine exW.i1 _ rfl (VCall.on rfl (VCall.i (rNum_nil w8) ?_))
    rintro e w8 ⟨rfl, rfl⟩
    refine exW.i1 _ rfl (VCall.on rfl (VCall.i (rCount_nil 9 w8) ?_))
    rintro e w8 ⟨rfl, rfl⟩
    refine exW.i1 _ rfl (VCall.on rfl (VCall.i (rStr_nil 9 w8) ?_))
    rintro e w8 ⟨rfl, rfl⟩
    refine exW.i1 (t := .str) _ rfl ?_
    refine VCall.on (by rw [strEq]; rfl) (VCall.i (rFlag_nil w8) ?_)
    rintro e w8 ⟨rfl, rfl⟩
    exact exW.i1 _ rfl ⟨by rw [strEq]; rfl, E6.then0 e7⟩
end Go.Proofs.Ytfanmhgmncfloaa
