/-
  The document's answer for package code (butteryref01), written and read: it is the same plain law.
-/
import Derived.Test.YtknohdgcigcmdaaCodeE
namespace Go.Proofs.Ytknohdgcigcmdaa
open Go.RowKit
set_option maxRecDepth 100000

theorem XUint_spec (u : Nat) (w : World) (hu : u < 18446744073709551616) :
    Calls Try.prog 82 #[.int .u64 (u : Int)] w fun e w' => ∃ s' : Sl, e = .returned (.slice s'.base s'.len s'.cap) ∧ Own w w' s' (enc u) ∧ Ext [] w w' := by
  refine sh_butteryref01_Uint_ok _ _ _ ?_
  unfold sh_butteryref01_Uint
  have hlen := enc_len10 hu
  refine ⟨fun k n o W => ∃ (m : Nat) (p : List UInt8), n = (m : Int) ∧ k = m ∧ m < 18446744073709551616 ∧ Own w W o p ∧ Ext [] w W ∧ p ++ enc m = enc u, ⟨_, u, [], rfl, rfl, hu, Own.nil _ _, Ext.refl _ _, rfl⟩, ?_⟩
  rintro k n o w2 ⟨m, p, rfl, rfl, hm, h2, e2, hp⟩
  have hpl : p.length + (enc k).length = (enc u).length := by rw [← List.length_append, hp]
  have hem := enc_pos k
  refine VIf.mk (fun hc => ?_) (fun hc => ?_)
  · simp at hc
    refine VNw.i fun b w3 hb hk e3 => ?_
    have hbyte : [Value.int .u8 (IntKind.wrap .u8 (IntKind.wrap .u64 ((Int.tmod (k : Int) 128) + 128)))] = bc [UInt8.ofNat (k % 128 + 128)] := by
      rw [Int.tmod_eq_emod_of_nonneg (by omega), w64u, wrap8]
      simp only [bc, List.map_cons, List.map_nil]
      rw [ofNat8 (by omega)]
      congr 2
      omega
    have hk : Bk w3 b (bc [UInt8.ofNat (k % 128 + 128)]) 5 := by rw [← hbyte]; exact hk
    refine VApp.own (h2.ext0 e3) (e2.then0 e3) (news := [UInt8.ofNat (k % 128 + 128)]) (Seg.of_bk hk (by simp [bc]) (by simp [bc])) rfl (by omega) fun s' w' h' e' _ => ?_
    refine VSet.i ⟨_, ?_, k / 128, p ++ [UInt8.ofNat (k % 128 + 128)], ?_, rfl, by omega, h', e', ?_⟩
    · omega
    · rw [Int.tdiv_eq_ediv_of_nonneg (by omega), w64u]; omega
    · rw [← hp, enc_big (u := k) (by omega)]; simp
  · simp at hc
    refine VNw.i fun b w3 hb hk e3 => ?_
    have hbyte : [Value.int .u8 (IntKind.wrap .u8 (k : Int))] = bc [UInt8.ofNat k] := by
      rw [wrap8, show ((k : Int) % 256) = (k : Int) by omega]
      simp only [bc, List.map_cons, List.map_nil]
      rw [ofNat8 (by omega)]
    have hk : Bk w3 b (bc [UInt8.ofNat k]) 5 := by rw [← hbyte]; exact hk
    refine VApp.own (h2.ext0 e3) (e2.then0 e3) (news := [UInt8.ofNat k]) (Seg.of_bk hk (by simp [bc]) (by simp [bc])) rfl (by omega) fun s' w' h' e' _ => ?_
    exact ⟨s', rfl, by rw [← hp, enc_small (u := k) (by omega)]; exact h', e'⟩

theorem with_spec (s t : Sl) (l m : List UInt8) (w : World) (h : Seg w s.base s.len 1 (bc l)) (k : Seg w t.base t.len 1 (bc m)) (hl : l.length + m.length ≤ 140737488355328) :
    Calls Try.prog 81 #[.slice s.base s.len s.cap, .slice t.base t.len t.cap] w fun e w' => ∃ s' : Sl, e = .returned (.slice s'.base s'.len s'.cap) ∧ Own w w' s' (l ++ m) ∧ Ext [] w w' := by
  refine sh_butteryref01_with_ok _ _ _ _ ?_
  unfold sh_butteryref01_with
  have h1 := h.blen
  have k1 := k.blen
  refine VNw.i fun b w1 hb hk e1 => ?_
  have ho : Own w w1 ⟨some ⟨b, 0, none⟩, 0, 0⟩ [] := ⟨Row.of_bk (size := 1) hk rfl (by omega), by simp [rowB]; omega⟩
  refine VApp.own (s := ⟨some ⟨b, 0, none⟩, 0, 0⟩) ho e1 (h.ext0 e1) h1.symm (by simp; omega) fun s2 w2 h2 e2 _ => ?_
  refine VApp.own h2 e2 (k.ext0 e2) k1.symm (by simp; omega) fun s3 w3 h3 e3 _ => ?_
  exact ⟨s3, rfl, h3, e3⟩

theorem XCount_spec (s : Sl) (l : List UInt8) (n : Int) (w : World) (h : Seg w s.base s.len 1 (bc l)) (hl : l.length ≤ 140737488355300) :
    Calls Try.prog 66 #[.slice s.base s.len s.cap, .int .i64 n] w fun e w' => ∃ s' : Sl, e = .returned (.slice s'.base s'.len s'.cap) ∧ Own w w' s' (l ++ encC n) ∧ Ext [] w w' := by
  refine sh_butteryref01_Count_ok _ _ _ _ ?_
  unfold sh_butteryref01_Count encC
  refine VIf.mk (fun hc => ?_) (fun hc => ?_)
  · simp at hc
    rw [if_neg (by omega)]
    refine VCall.i (with_spec s ⟨none, 0, 0⟩ l [] w h (Seg.nil _ _ _) (by simp; omega)) ?_
    rintro e w1 ⟨s1, rfl, h1, e1⟩
    exact exW.i1 (t := .sl) s1 rfl ⟨s1, rfl, h1, e1⟩
  · simp at hc
    rw [if_pos (by omega), w64u, show n % 18446744073709551616 = ((n.toNat : Nat) : Int) by omega]
    have hz := enc_len10 (show n.toNat < 18446744073709551616 by omega)
    refine VCall.i (XUint_spec n.toNat w (by omega)) ?_
    rintro e w1 ⟨s1, rfl, h1, e1⟩
    refine exW.i1 (t := .sl) s1 rfl ?_
    refine VCall.i (with_spec s s1 l _ w1 (h.ext0 e1) h1.seg (by omega)) ?_
    rintro e w2 ⟨s2, rfl, h2, e2⟩
    exact exW.i1 (t := .sl) s2 rfl ⟨s2, rfl, h2.mono e1.size, e1.then0 e2⟩

theorem XStr_spec (s : Sl) (l : List UInt8) (x : ByteArray) (w : World) (h : Seg w s.base s.len 1 (bc l)) (hl : l.length ≤ 130737488355300) (hx : x.size ≤ 2147483647) :
    Calls Try.prog 67 #[.slice s.base s.len s.cap, .string x] w fun e w' => ∃ s' : Sl, e = .returned (.slice s'.base s'.len s'.cap) ∧ Own w w' s' (l ++ encS x) ∧ Ext [] w w' := by
  refine sh_butteryref01_Str_ok _ _ _ _ ?_
  unfold sh_butteryref01_Str
  refine VCall.i (XCount_spec s l x.size w h (by omega)) ?_
  rintro e w1 ⟨s1, rfl, h1, e1⟩
  refine exW.i1 (t := .sl) s1 rfl ?_
  have hxl : x.data.toList.length = x.size := Array.length_toList
  refine VBytes.i fun b c w2 hb hk e2 hc => ?_
  have hseg : Seg w2 (some ⟨b, 0, none⟩) x.size 1 (bc x.data.toList) := Seg.of_bk hk (by
    rw [List.drop_zero, bc_str, List.take_left]) (by rw [bc_len]; omega)
  have hcl := encC_len x.size
  refine VCall.i (with_spec s1 ⟨some ⟨b, 0, none⟩, x.size, c⟩ _ _ w2 (h1.ext0 e2).seg hseg (by rw [List.length_append]; omega)) ?_
  rintro e w3 ⟨s3, rfl, h3, e3⟩
  refine exW.i1 (t := .sl) s3 rfl ⟨s3, rfl, ?_, (e1.then0 e2).then0 e3⟩
  have : l ++ encS x = l ++ encC x.size ++ x.data.toList := by
    unfold encS encC
    rw [if_pos hx, if_pos (by omega), List.append_assoc]; rfl
  rw [this]
  exact h3.mono (by have := e1.size; have := e2.size; omega)

theorem XFlag_spec (s : Sl) (l : List UInt8) (v : Bool) (w : World) (h : Seg w s.base s.len 1 (bc l)) (hl : l.length ≤ 140737488355300) :
    Calls Try.prog 65 #[.slice s.base s.len s.cap, .bool v] w fun e w' => ∃ s' : Sl, e = .returned (.slice s'.base s'.len s'.cap) ∧ Own w w' s' (l ++ enc (if v then 1 else 0)) ∧ Ext [] w w' := by
  refine sh_butteryref01_Flag_ok _ _ _ _ ?_
  unfold sh_butteryref01_Flag
  refine VIf.mk (fun hc => ?_) (fun hc => ?_) <;> subst hc
  · refine VNw.i fun b w1 hb hk e1 => ?_
    have hk : Bk w1 b (bc [1]) 5 := hk
    refine VCall.i (with_spec s ⟨some ⟨b, 0, none⟩, 1, 1⟩ l [1] w1 (h.ext0 e1) (Seg.of_bk hk (by simp [bc]) (by simp [bc])) (by simp; omega)) ?_
    rintro e w2 ⟨s2, rfl, h2, e2⟩
    rw [← enc_1] at h2
    exact exW.i1 (t := .sl) s2 rfl ⟨s2, rfl, h2.mono e1.size, e1.then0 e2⟩
  · refine VNw.i fun b w1 hb hk e1 => ?_
    have hk : Bk w1 b (bc [0]) 5 := hk
    refine VCall.i (with_spec s ⟨some ⟨b, 0, none⟩, 1, 1⟩ l [0] w1 (h.ext0 e1) (Seg.of_bk hk (by simp [bc]) (by simp [bc])) (by simp; omega)) ?_
    rintro e w2 ⟨s2, rfl, h2, e2⟩
    rw [← enc_0] at h2
    exact exW.i1 (t := .sl) s2 rfl ⟨s2, rfl, h2.mono e1.size, e1.then0 e2⟩

/-! the document's reader -/
def RepX (w : World) (x d : Nat) (st : Option (List UInt8)) : Prop :=
  ∃ (s : Sl) (f : Bool) (l : List UInt8), Bk w x [.slice s.base s.len s.cap, .bool f] 100 ∧ BSl w s d l ∧ st = (if f then none else some l) ∧ (f = true → l = [])
theorem RepX.ext {M : List Nat} {w w' : World} {x d : Nat} {st : Option (List UInt8)} (h : RepX w x d st) (e : Ext M w w') (h1 : x ∉ M) (h3 : d ∉ M) : RepX w' x d st := by
  obtain ⟨s, f, l, hx, hs, hst⟩ := h
  exact ⟨s, f, l, hx.ext e h1, hs.ext e (fun _ => h3), hst⟩
theorem RepX.ext0 {w w' : World} {x d : Nat} {st : Option (List UInt8)} (h : RepX w x d st) (e : Ext [] w w') : RepX w' x d st := h.ext e (by simp) (by simp)

theorem fail_spec (x d : Nat) (st : Option (List UInt8)) (w : World) (h : RepX w x d st) :
    Calls Try.prog 72 #[.pointer (some ⟨x, 0, none⟩)] w fun e w' => e = .returned (.tuple #[]) ∧ RepX w' x d none ∧ Ext [x] w w' := by
  refine sh_butteryref01_Reader_fail_ok _ _ _ ?_
  unfold sh_butteryref01_Reader_fail
  obtain ⟨s, f, l, hx, hs, hst⟩ := h
  refine VNN.i ?_
  rw [add_blk]
  refine VSt.bk hx rfl (by simp) fun w1 hx1 e1 => VNN.i ?_
  refine VSt.bk hx1 rfl (by simp) fun w2 hx2 e2 => ?_
  exact ⟨rfl, ⟨⟨none, 0, 0⟩, true, [], hx2, ⟨rfl, Nat.le_refl _, by simp, .inl rfl⟩, rfl, fun _ => rfl⟩, e1.then e2 (fun i hi _ => hi)⟩

def UintPost (w : World) (x d : Nat) (o : Option (Nat × List UInt8)) (e : Ending) (w' : World) : Prop :=
  match o with
  | none => e = .returned (.int .u64 0) ∧ RepX w' x d none ∧ Ext [x] w w'
  | some (u, t) => e = .returned (.int .u64 (u : Int)) ∧ RepX w' x d (some t) ∧ Ext [x] w w'
theorem rd_of_go {l : List UInt8} {v n : Nat} (h : go l 0 0 = (v, n)) : rd l = if n = 0 ∨ (1 < n ∧ l.getD (n - 1) 0 = 0) then none else some (v, l.drop n) := by unfold rd; rw [h]

theorem xuint_spec (x d : Nat) (st : Option (List UInt8)) (w : World) (h : RepX w x d st) :
    Calls Try.prog 71 #[.pointer (some ⟨x, 0, none⟩)] w (UintPost w x d (st.bind rd)) := by
  refine sh_butteryref01_Reader_uint_ok _ _ _ ?_
  unfold sh_butteryref01_Reader_uint
  have h' := h
  obtain ⟨s, f, l, hx, hs, hst, hf⟩ := h'
  have hsl := hs.1
  have hsc := hs.2.1
  have hcp := hs.2.2.1
  have hbind : ∀ v, go l 0 0 = (v, 0) → st.bind rd = none := by
    intro v hg
    subst hst
    cases f with
    | true => rfl
    | false => show rd l = none; rw [rd_of_go hg, if_pos (.inl rfl)]
  refine ⟨fun W => W = w ∧ st.bind rd = none, ?_, ?_⟩
  · refine ⟨fun k u sc i W => ∃ (j m : Nat), i = (j : Int) ∧ u = (m : Int) ∧ k = l.length - j ∧ j ≤ l.length ∧ j ≤ 10 ∧ (j ≤ 9 → sc = ((2 ^ (7 * j) : Nat) : Int)) ∧ m < 2 ^ (7 * j) ∧ W = w ∧ go (l.drop j) j m = go l 0 0, ⟨_, 0, 0, rfl, rfl, rfl, by omega, by omega, fun _ => rfl, by simp, rfl, rfl⟩, ?_⟩
    rintro k u sc i w1 ⟨j, m, rfl, rfl, rfl, hj, hj10, hsc9, hm, rfl, hg⟩
    refine VNN.i (VLd.sl _ _ _ (Rd.of_bk hx rfl) ?_)
    refine VIf.mk (fun hc => ?_) (fun hc => ?_)
    · simp at hc
      have hjl : j < l.length := by omega
      have hff : f = false := by
        cases f with
        | false => rfl
        | true => rw [hf rfl] at hjl; simp at hjl
      subst hff
      simp only [Bool.false_eq_true, if_false] at hst
      subst hst
      refine VNN.i (VLd.sl _ _ _ (Rd.of_bk hx rfl) ?_)
      obtain ⟨a, ha, hrd⟩ := hs.seg.at_ (i := j) (by omega)
      refine (show VIx none s.base s.len _ _ from ?_)
      rw [ha]
      refine VIx.i (by omega) (by omega) ?_
      have hrd1 : Rd w1 (a.add (Int.toNat (j : Int) * 1)) [.int .u8 ((l[j].toNat : Nat) : Int)] := by
        have : ((bc l).drop (j * 1)).take 1 = [.int .u8 ((l[j].toNat : Nat) : Int)] := by
          rw [Nat.mul_one, bc_drop, List.drop_eq_getElem_cons hjl]; rfl
        rw [this] at hrd
        simpa using hrd
      refine VLd.i1 (t := .int .u8) _ hrd1 ?_
      rw [List.drop_eq_getElem_cons hjl] at hg
      have hgd : l.getD j 0 = l[j] := by rw [List.getD_eq_getElem?_getD, List.getElem?_eq_getElem hjl]; rfl
      have hcl := UInt8.toNat_lt l[j]
      generalize l[j] = c at *
      rw [w64u, show ((c.toNat : Nat) : Int) % 18446744073709551616 = (c.toNat : Int) by omega]
      refine VSet.i ?_
      simp only [go] at hg
      refine VIf.mk (fun hc2 => ?_) (fun hc2 => ?_)
      · simp at hc2
        rw [if_pos (by omega)] at hg
        exact ⟨rfl, hbind 0 hg.symm⟩
      · simp at hc2
        rw [if_neg (by omega)] at hg
        have hj9 : j ≤ 9 := by omega
        rw [hsc9 hj9]
        have hpw : 2 ^ (7 * j) * (c.toNat % 128) + m < 18446744073709551616 ∧ 2 ^ (7 * j) * (c.toNat % 128) + m < 2 ^ (7 * (j + 1)) := by
          have h1 : c.toNat % 128 < 128 := by omega
          have h2 : 2 ^ (7 * j) * (c.toNat % 128) + m < 2 ^ (7 * j) * (c.toNat % 128 + 1) := by rw [Nat.mul_add]; omega
          have h3 : 2 ^ (7 * j) * (c.toNat % 128 + 1) ≤ 2 ^ (7 * j) * 128 := Nat.mul_le_mul_left _ (by omega)
          refine ⟨?_, by rw [pow7]; omega⟩
          by_cases h9 : j = 9
          · subst h9
            have : c.toNat ≤ 1 := by omega
            have h4 : 2 ^ (7 * 9) * (c.toNat % 128 + 1) ≤ 2 ^ (7 * 9) * 2 := Nat.mul_le_mul_left _ (by omega)
            omega
          · have : 2 ^ (7 * j) ≤ 2 ^ 56 := Nat.pow_le_pow_right (by omega) (by omega)
            omega
        have hu : IntKind.wrap .u64 ((m : Int) + (IntKind.wrap .u64 ((Int.tmod ((c.toNat : Nat) : Int) 128) * ((2 ^ (7 * j) : Nat) : Int)))) = ((m + 2 ^ (7 * j) * (c.toNat % 128) : Nat) : Int) := by
          rw [Int.tmod_eq_emod_of_nonneg (by omega), w64u, w64u, show ((c.toNat : Nat) : Int) % 128 = ((c.toNat % 128 : Nat) : Int) by omega, ← Int.natCast_mul, Nat.mul_comm]
          omega
        rw [hu]
        refine VSet.i (VSet.i (VIf.mk (fun hc3 => ?_) (fun hc3 => ?_)))
        · simp at hc3
          rw [if_neg (by omega)] at hg
          rw [w64 (show -9223372036854775808 ≤ (j : Int) + 1 ∧ (j : Int) + 1 ≤ 9223372036854775807 by omega)]
          refine VSet.i ⟨_, by omega, j + 1, _, by omega, rfl, rfl, by omega, by omega, fun h9 => ?_, by omega, rfl, hg⟩
          rw [w64u, pow7]
          have : 2 ^ (7 * j) ≤ 2 ^ 56 := Nat.pow_le_pow_right (by omega) (by omega)
          omega
        · simp at hc3
          rw [if_pos (by omega)] at hg
          have hgo := rd_of_go hg.symm
          simp only [Nat.add_sub_cancel] at hgo
          rw [hgd] at hgo
          refine VIf.mk (fun hc4 => ?_) (fun hc4 => ?_)
          · simp at hc4
            refine ⟨rfl, ?_⟩
            show rd l = none
            rw [hgo, if_pos (.inr ⟨by omega, UInt8.toNat_inj.1 (by have h0 : (0 : UInt8).toNat = 0 := rfl; omega)⟩)]
          · have hnc : ¬ (j + 1 = 0 ∨ (1 < j + 1 ∧ c = 0)) := by
              rintro (h0 | ⟨h1, h2⟩)
              · omega
              · subst h2; simp at hc4; omega
            rw [if_neg hnc] at hgo
            refine VNN.i (VLd.sl _ _ _ (Rd.of_bk hx rfl) ?_)
            rw [w64 (show -9223372036854775808 ≤ (j : Int) + 1 ∧ (j : Int) + 1 ≤ 9223372036854775807 by omega)]
            refine VCk.i (show (0 : Int) ≤ (j : Int) + 1 ∧ (j : Int) + 1 ≤ ((s.len : Nat) : Int) ∧ ((s.len : Nat) : Int) ≤ ((s.cap : Nat) : Int) by omega) (VNN.i ?_)
            rw [show Int.toNat ((j : Int) + 1) = j + 1 by omega]
            refine VSt.bk hx rfl (by simp) fun w2 hx2 e2 => VSet.i ?_
            show UintPost w1 x d (rd l) _ _
            rw [hgo]
            refine ⟨?_, ⟨⟨cutB s.base s.cap 1 (j + 1), s.len - (j + 1), s.cap - (j + 1)⟩, false, _, hx2, (hs.ext e2 (fun hz => by simpa using hs.ne hx (by decide) hz)).cut (j + 1) (by omega), rfl, fun h => by cases h⟩, e2⟩
            rw [show c.toNat % 128 = c.toNat by omega]
    · simp only [Bool.and_eq_false_iff, decide_eq_false_iff_not] at hc
      refine ⟨rfl, hbind 0 ?_⟩
      rw [← hg]
      by_cases hjl : j = l.length
      · rw [hjl, List.drop_length]; rfl
      · have h10 : j = 10 := by
          have h1 : ({ base := s.base, len := s.len, cap := s.cap } : Sl).len = s.len := rfl
          rw [h1] at hc
          omega
        rw [List.drop_eq_getElem_cons (show j < l.length by omega)]
        simp only [go]
        rw [if_pos (.inl h10)]
  · rintro w3 ⟨rfl, hn⟩
    refine VCall.i (fail_spec x d st w3 h) ?_
    rintro e w4 ⟨rfl, h4, e4⟩
    refine exW.i0 rfl ?_
    rw [hn]
    exact ⟨rfl, h4, e4⟩

theorem xCount_spec (x d : Nat) (most : Int) (st : Option (List UInt8)) (w : World) (h : RepX w x d st) :
    Calls Try.prog 48 #[.pointer (some ⟨x, 0, none⟩), .int .i64 most] w fun e w' => e = .returned (.int .i64 (rCount most st).1) ∧ RepX w' x d (rCount most st).2 ∧ Ext [x] w w' := by
  refine sh_butteryref01_Reader_Count_ok _ _ _ _ ?_
  unfold sh_butteryref01_Reader_Count
  refine VCall.i (xuint_spec x d st w h) ?_
  intro e w1 hp
  unfold rCount
  cases ho : st.bind rd with
  | none =>
    rw [ho] at hp
    obtain ⟨rfl, h1, e1⟩ := hp
    refine exW.i1 (t := .int .u64) (0 : Int) rfl (VSet.i ?_)
    have h1' := h1
    obtain ⟨s, f, l, hx, hs, hst, hf⟩ := h1'
    cases f with
    | false => cases hst
    | true =>
      refine VNN.i (VLd.i1 (t := .bool) true (Rd.of_bk hx rfl) (VIf.t rfl ?_))
      refine VCall.i (fail_spec x d _ w1 h1) ?_
      rintro e w2 ⟨rfl, h2, e2⟩
      exact exW.i0 rfl ⟨rfl, h2, e1.then e2 (fun i hi _ => hi)⟩
  | some p =>
    obtain ⟨u, t⟩ := p
    rw [ho] at hp
    obtain ⟨rfl, h1, e1⟩ := hp
    have hu : u < 18446744073709551616 := by
      cases st with
      | none => cases ho
      | some l => exact (rd_ok ho).1
    refine exW.i1 (t := .int .u64) (u : Int) rfl (VSet.i ?_)
    have h1' := h1
    obtain ⟨s, f, l, hx, hs, hst, hf⟩ := h1'
    cases f with
    | true => cases hst
    | false =>
      refine VNN.i (VLd.i1 (t := .bool) false (Rd.of_bk hx rfl) ?_)
      have hcond : (((false || (decide (most < 0))) || (decide ((u : Int) > 2147483647))) || (decide ((IntKind.wrap .i64 (u : Int)) > most))) = decide ¬ (0 ≤ most ∧ (u : Int) ≤ 2147483647 ∧ (u : Int) ≤ most) := by
        by_cases h31 : (u : Int) ≤ 2147483647
        · rw [w64 (show -9223372036854775808 ≤ (u : Int) ∧ (u : Int) ≤ 9223372036854775807 by omega)]
          rw [Bool.eq_iff_iff]; simp only [Bool.or_eq_true, decide_eq_true_eq, Bool.false_or]; omega
        · rw [decide_eq_true (show (u : Int) > 2147483647 by omega), Bool.or_true, Bool.true_or, eq_comm]
          exact decide_eq_true (by omega)
      rw [hcond]
      simp only
      by_cases hc : 0 ≤ most ∧ (u : Int) ≤ 2147483647 ∧ (u : Int) ≤ most
      · rw [if_pos hc]
        refine VIf.f (decide_eq_false (by omega)) (VSet.i ⟨?_, h1, e1⟩)
        rw [w64 (show -9223372036854775808 ≤ (u : Int) ∧ (u : Int) ≤ 9223372036854775807 by omega)]
      · rw [if_neg hc]
        refine VIf.t (decide_eq_true hc) ?_
        refine VCall.i (fail_spec x d _ w1 h1) ?_
        rintro e w2 ⟨rfl, h2, e2⟩
        exact exW.i0 rfl ⟨rfl, h2, e1.then e2 (fun i hi _ => hi)⟩

theorem xStr_spec (x d : Nat) (most : Int) (st : Option (List UInt8)) (w : World) (h : RepX w x d st) :
    Calls Try.prog 50 #[.pointer (some ⟨x, 0, none⟩), .int .i64 most] w fun e w' => e = .returned (.string (rStr most st).1) ∧ RepX w' x d (rStr most st).2 ∧ Ext [x] w w' := by
  refine sh_butteryref01_Reader_Str_ok _ _ _ _ ?_
  unfold sh_butteryref01_Reader_Str
  refine VCall.i (xCount_spec x d most st w h) ?_
  rintro e w1 ⟨rfl, h1, e1⟩
  refine exW.i1 _ rfl (VSet.i ?_)
  have hpos := rCount_pos most st
  unfold rStr
  generalize rCount most st = p at *
  obtain ⟨n, st1⟩ := p
  have h1' := h1
  obtain ⟨s, f, l, hx, hs, hst, hf⟩ := h1'
  cases f with
  | true =>
    simp only [if_true] at hst
    subst hst
    refine VNN.i (VLd.i1 (t := .bool) true (Rd.of_bk hx rfl) ?_)
    refine VNN.n _ rfl _ ⟨0, 0, none⟩ ⟨⟨none, 0, 0⟩, fun e => absurd e (by simp), ?_⟩
    refine VIf.t rfl (VCall.i (fail_spec x d _ w1 h1) ?_)
    rintro e w2 ⟨rfl, h2, e2⟩
    exact exW.i0 rfl ⟨rfl, h2, e1.then e2 (fun i hi _ => hi)⟩
  | false =>
    simp only [Bool.false_eq_true, if_false] at hst
    subst hst
    have hl := hs.1
    have hc2 := hs.2.1
    simp only at hpos
    refine VNN.i (VLd.i1 (t := .bool) false (Rd.of_bk hx rfl) (VNN.i (VLd.sl _ _ _ (Rd.of_bk hx rfl) ?_)))
    refine VIf.mk (fun hc => ?_) (fun hc => ?_)
    · have hn : ¬ n ≤ (l.length : Int) := by simp at hc; omega
      simp only [if_neg hn]
      refine VCall.i (fail_spec x d _ w1 h1) ?_
      rintro e w2 ⟨rfl, h2, e2⟩
      exact exW.i0 rfl ⟨by first | rfl | trivial, h2, e1.then e2 (fun i hi _ => hi)⟩
    · have hn : n ≤ (l.length : Int) := by simp at hc; omega
      simp only [if_pos hn]
      obtain ⟨k, rfl⟩ : ∃ k : Nat, n = k := ⟨n.toNat, by omega⟩
      refine VNN.i (VLd.sl _ _ _ (Rd.of_bk hx rfl) (VCk.i (show (0 : Int) ≤ 0 ∧ 0 ≤ (k : Int) ∧ (k : Int) ≤ ((s.cap : Nat) : Int) by omega) ?_))
      simp only [Int.toNat_natCast]
      refine ⟨⟨(l.take k).toArray⟩, gd.i (hs.head k (by omega)).seg, ?_⟩
      refine VNN.i (VLd.sl _ _ _ (Rd.of_bk hx rfl) (VCk.i (show (0 : Int) ≤ (k : Int) ∧ (k : Int) ≤ ((s.len : Nat) : Int) ∧ ((s.len : Nat) : Int) ≤ ((s.cap : Nat) : Int) by omega) (VNN.i ?_)))
      refine VSt.bk hx rfl (by simp) fun w2 hx2 e2 => ?_
      exact ⟨by first | rfl | trivial, ⟨⟨cutB s.base s.cap 1 k, s.len - k, s.cap - k⟩, false, _, hx2, (hs.ext e2 (fun hz => by simpa using hs.ne hx (by decide) hz)).cut k (by omega), rfl, fun h => by cases h⟩, e1.then e2 (fun i hi _ => hi)⟩

theorem xFlag_spec (x d : Nat) (st : Option (List UInt8)) (w : World) (h : RepX w x d st) :
    Calls Try.prog 47 #[.pointer (some ⟨x, 0, none⟩)] w fun e w' => e = .returned (.bool ((rCount 1 st).1 == 1)) ∧ RepX w' x d (rCount 1 st).2 ∧ Ext [x] w w' := by
  refine sh_butteryref01_Reader_Flag_ok _ _ _ ?_
  unfold sh_butteryref01_Reader_Flag
  refine VCall.i (xCount_spec x d 1 st w h) ?_
  rintro e w1 ⟨rfl, h1, e1⟩
  exact exW.i1 _ rfl ⟨rfl, h1, e1⟩
end Go.Proofs.Ytknohdgcigcmdaa
