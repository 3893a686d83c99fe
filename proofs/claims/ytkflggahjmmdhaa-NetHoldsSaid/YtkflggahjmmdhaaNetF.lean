/-
  Package net: the law of what holds: whatever is taken was sent.
-/
import Derived.Test.YtkflggahjmmdhaaNetE
import Derived.Test.YtkflggahjmmdhaaMapA
namespace Go.Proofs.Ytkflggahjmmdhaa
open Go.RowKit
set_option maxRecDepth 100000

noncomputable instance : DecidableEq Pk := fun a b => Classical.propDecidable (a = b)
theorem ba_self (s : ByteArray) : (s == s) = true := by simp [MapKept.bytes_beq]
theorem zero_run {P : Program} {t : TypeId} {z : Value} (hz : zeroOf P t = some z) (w : World) : (zeroValue t).run P w = .ok z w := by
  obtain ⟨i, hi, hiz, _, _⟩ := info_of_zero hz
  simp [zeroValue, typeInfo, hi, hiz]
noncomputable def pkK : Keys Try.prog 29 35 3 Pk Int where
  f p := .agg #[.int .i64 p.1, .int .i64 p.2.1, .string p.2.2]
  g n := .int .i64 n
  z := 0
  und := by kernel_rfl
  zero w := zero_run (by kernel_rfl) w
  wide := by kernel_rfl
  check w em a := pureU_run _ (by kernel_rfl) w
  eq w a b := by
    have h : structEq Try.prog 35 (.agg #[.int .i64 a.1, .int .i64 a.2.1, .string a.2.2]) (.agg #[.int .i64 b.1, .int .i64 b.2.1, .string b.2.2]) = some ((a.1 == b.1) && ((a.2.1 == b.2.1) && (a.2.2.toList == b.2.2.toList))) := by kernel_rfl
    refine ⟨_, (run_structEq (w := w) h).1, ?_⟩
    simp only [Bool.and_eq_true, beq_iff_eq]
    constructor
    · rintro ⟨h1, h2, h3⟩
      exact Prod.ext h1 (Prod.ext h2 (ba_eq h3))
    · rintro rfl; exact ⟨rfl, rfl, rfl⟩
  stay a := by simp [Instr.sameBits, ba_self]

/-- how often a packet is under way -/
noncomputable def cnt (L : List Pk) (p : Pk) : Int := ((L.countP (fun x => decide (x = p)) : Nat) : Int)
theorem cnt_app (L : List Pk) (x p : Pk) : cnt (L ++ [x]) p = if x = p then cnt L p + 1 else cnt L p := by
  unfold cnt
  rw [List.countP_append, List.countP_singleton]
  by_cases h : x = p
  · simp [h]
  · simp [h]
theorem cnt_erase (L : List Pk) (i : Nat) (hi : i < L.length) (p : Pk) : cnt (L.eraseIdx i) p = if L[i] = p then cnt L p - 1 else cnt L p := by
  have e : L.countP (fun x => decide (x = p)) = (L.take i).countP (fun x => decide (x = p)) + (L[i] :: L.drop (i + 1)).countP (fun x => decide (x = p)) := by
    conv => lhs; rw [← List.take_append_drop i L, List.countP_append, List.drop_eq_getElem_cons hi]
  unfold cnt
  rw [List.eraseIdx_eq_take_drop_succ, List.countP_append]
  rw [List.countP_cons] at e
  by_cases he : L[i] = p
  · simp only [he, decide_true, if_true] at e ⊢; omega
  · simp only [he, decide_false, if_false, Bool.false_eq_true] at e ⊢; omega
theorem cnt_in (L : List Pk) (p : Pk) : 0 ≤ cnt L p ∧ cnt L p ≤ (L.length : Int) := by
  have := List.countP_le_length (p := fun x => decide (x = p)) (l := L)
  unfold cnt; omega

/-- the table goes up or down by one, in either order of the look-up -/
theorem bump {g : Ending → World → Prop} {w : World} {b : Nat} {L : List Pk} (p : Pk) (d : Int) (F' : Pk → Int) (h : Tb pkK w b (cnt L)) (hL : L.length ≤ 1000) (hd : d = 1 ∨ d = -1)
    (hF : ∀ c, F' c = if p = c then cnt L p + d else cnt L c) {Φ : World → Prop} (k : ∀ w', Tb pkK w' b F' → Ext [b] w w' → Φ w') {n1 n2 : Int → Int} (hn : ∀ e, n1 e = IntKind.wrap .i64 (e + d)) (hn2 : ∀ e, n2 e = IntKind.wrap .i64 (e + d)) :
    (VRun none Try.prog (Instr.lookup 29 (.map (some b)) (.agg #[.int .i64 p.1, .int .i64 p.2.1, .string p.2.2]) false) w (.int .i64 0) fun (e67 : Int) (w11 : World) =>
      VRun none Try.prog (Instr.mapEntry 29 (.map (some b)) (.agg #[.int .i64 p.1, .int .i64 p.2.1, .string p.2.2])) w11 (.tuple #[.int .i64 0, .int .i64 0]) fun (e69_0 : Int) (e69_1 : Int) (w12 : World) =>
      VRunU none Try.prog (Instr.entryStore 29 (.map (some b)) (.int .i64 e69_1) (.int .i64 (n1 e67))) w12 fun (w13 : World) => Φ w13) ∧
    (VRun none Try.prog (Instr.mapEntry 29 (.map (some b)) (.agg #[.int .i64 p.1, .int .i64 p.2.1, .string p.2.2])) w (.tuple #[.int .i64 0, .int .i64 0]) fun (e69_0 : Int) (e69_1 : Int) (w14 : World) =>
      VRun none Try.prog (Instr.lookup 29 (.map (some b)) (.agg #[.int .i64 p.1, .int .i64 p.2.1, .string p.2.2]) false) w14 (.int .i64 0) fun (e67 : Int) (w15 : World) =>
      VRunU none Try.prog (Instr.entryStore 29 (.map (some b)) (.int .i64 e69_1) (.int .i64 (n2 e67))) w15 fun (w16 : World) => Φ w16) := by
  have hc := cnt_in L p
  have hw : IntKind.wrap .i64 (cnt L p + d) = cnt L p + d := w64 (by omega)
  have hFF : (fun c => if p = c then cnt L p + d else cnt L c) = F' := by funext c; exact (hF c).symm
  constructor
  · refine ⟨_, _, h.lookup p, exW.i1 (t := .int .i64) (cnt L p) rfl ?_⟩
    obtain ⟨st, w1, hr1, hs1, e1⟩ := h.entry p
    refine ⟨_, _, hr1, exW.i2 (t := .int .i64) (u := .int .i64) (cnt L p) ((st : Nat) : Int) rfl ?_⟩
    rw [hn, hw]
    obtain ⟨w2, hr2, hs2, e2⟩ := hs1.store (cnt L p + d)
    rw [hFF] at hs2
    exact ⟨w2, hr2, k w2 hs2 (e1.then e2 (fun i hi _ => hi))⟩
  · obtain ⟨st, w1, hr1, hs1, e1⟩ := h.entry p
    refine ⟨_, _, hr1, exW.i2 (t := .int .i64) (u := .int .i64) (cnt L p) ((st : Nat) : Int) rfl ?_⟩
    refine ⟨_, _, hs1.tb.lookup p, exW.i1 (t := .int .i64) (cnt L p) rfl ?_⟩
    rw [hn2, hw]
    obtain ⟨w2, hr2, hs2, e2⟩ := hs1.store (cnt L p + d)
    rw [hFF] at hs2
    exact ⟨w2, hr2, k w2 hs2 (e1.then e2 (fun i hi _ => hi))⟩

theorem modu (n : Int) (m : Nat) (hm : 0 < m) (h : m ≤ 1000000) : ∃ k : Nat, k < m ∧ IntKind.wrap .i64 (Int.tmod (IntKind.wrap .u64 n) ((m : Nat) : Int)) = (k : Int) := by
  rw [w64u]
  have h0 := Int.emod_nonneg n (show (18446744073709551616 : Int) ≠ 0 by omega)
  rw [Int.tmod_eq_emod_of_nonneg h0]
  have h1 := Int.emod_nonneg (n % 18446744073709551616) (show ((m : Nat) : Int) ≠ 0 by omega)
  have h2 := Int.emod_lt_of_pos (n % 18446744073709551616) (show 0 < ((m : Nat) : Int) by omega)
  refine ⟨(n % 18446744073709551616 % ((m : Nat) : Int)).toNat, by omega, ?_⟩
  rw [w64 (by omega)]; omega
theorem NM.most_add {N : NM} {p : Pk} : (N.add p).most = N.most := by unfold NM.add; split <;> rfl
theorem NM.most_send {N : NM} {p : Pk} : (N.send p).most = N.most := by unfold NM.send; split; rfl; exact NM.most_add
theorem NM.most_take {N : NM} {i : Int} : (N.take i).most = N.most := by unfold NM.take; split <;> rfl
theorem NM.most_dbl {N : NM} {i : Int} : (N.dbl i).most = N.most := by unfold NM.dbl; split; exact NM.most_add; rfl
theorem NM.dbl_ok {N : NM} {i : Int} (h : N.dblE i = 0) : N.has i = true ∧ (N.dbl i).L = N.L ++ [N.look i] := by
  unfold NM.dblE at h
  split at h
  · rename_i hh
    refine ⟨hh, ?_⟩
    unfold NM.dbl
    rw [if_pos hh]
    unfold NM.addE at h
    unfold NM.add
    split at h
    · rename_i h2; rw [if_pos h2]
    · cases h
  · cases h
theorem NM.dbl_no {N : NM} {i : Int} (h : N.dblE i ≠ 0) : (N.dbl i).L = N.L := by
  unfold NM.dblE at h
  unfold NM.dbl
  split at h
  · rename_i hh
    rw [if_pos hh]
    unfold NM.addE at h
    unfold NM.add
    split at h
    · exact absurd rfl h
    · rename_i h2; rw [if_neg h2]
  · rename_i hh; rw [if_neg hh]
theorem NM.take_L {N : NM} {i : Int} (h : N.has i = true) : (N.take i).L = N.L.eraseIdx i.toNat := by unfold NM.take; rw [if_pos h]

theorem NetHolds_law (most : Int) (s : Sl) (L : List Stp) (w : World) (h : InR stR w s L) :
    Calls Try.prog 3 #[.int .i64 most, .slice s.base s.len s.cap] w (good w) := by
  refine sh_butterylaw10_NetHolds_ok _ _ _ _ ?_
  unfold sh_butterylaw10_NetHolds
  have hn := h.len
  rcases Nat.lt_or_ge 150 s.len with hbig | hbig
  · refine VCall.off (by simp; omega) (exW.i1 (t := .bool) false trivial (VIf.t (by simp) ?_))
    refine VCall.i (awake_spec w) ?_
    rintro e w1 ⟨rfl, e1⟩
    exact exW.i1 _ rfl ⟨rfl, e1⟩
  refine VCall.on (by simp; omega) (VCall.i (awake_spec w) ?_)
  rintro e w1 ⟨rfl, e1⟩
  refine exW.i1 (t := .bool) _ rfl (VIf.f (by simp; omega) ?_)
  obtain ⟨mo, hmo, hme⟩ := modu most 1001 (by omega) (by omega)
  rw [show ((1001 : Nat) : Int) = 1001 by rfl] at hme
  rw [hme]
  refine VSet.i ?_
  refine VCall.i (New_ok (most := (mo : Int)) (by omega) w1) ?_
  rintro e w2 ⟨q, rfl, h2', e2'⟩
  have h2 := h2'.mono (w0 := w) e1.size
  have e2 := e1.then0 e2'
  refine exW.i2 (t := .ptr) (u := .int .i64) (some ⟨q, 0, none⟩) 0 rfl (VSet.i (VIf.f rfl ?_))
  intro b w4 hnb
  have hb4 := hnb.at_
  have e24 := hnb.ext
  have hT4 : Tb pkK w4 b (cnt []) := by
    have := Tb.new (Ks := pkK) hnb
    have he : (fun _ => pkK.z : Pk → Int) = cnt [] := by funext c; rfl
    rwa [he] at this
  have hbw : w.heap.size ≤ b := by have := e2.size; omega
  have hbn : ∀ {W : World} {sl : Sl} {N : NM}, NetO 58 35 w W q sl N → ∀ {F : Pk → Int}, Tb pkK W b F → b ∉ fp q sl := fun hN _ hT hb => by
    simp only [fp, List.mem_cons] at hb
    rcases hb with rfl | hb
    · exact hT.ne hN.bk rfl
    · obtain ⟨_, hk⟩ := hN.row.1.bk_of hb
      exact hT.ne hk rfl
  refine ⟨fun k al i W => ∃ (j : Nat) (sl : Sl) (N : NM), i = (j : Int) ∧ al = ((N.L.length : Nat) : Int) ∧ j ≤ L.length ∧ k = L.length - j ∧ N.most = (mo : Int) ∧ NetO 58 35 w W q sl N ∧ Tb pkK W b (cnt N.L) ∧ Ext [] w W,
    ⟨_, 0, _, _, rfl, rfl, by omega, rfl, rfl, h2.ext0 e24, hT4, e2.then0 e24⟩, ?_⟩
  clear h2 e2 h2' e2' hT4 e24 hnb hb4
  rintro k al i w5 ⟨j, sl, N, rfl, rfl, hj, rfl, hmN, h5, t5, e5⟩
  refine VIf.mk (fun hc => ?_) (fun hc => ⟨rfl, e5⟩)
  have hj' : j < L.length := by simp at hc; omega
  obtain ⟨ad, had, hrd⟩ := (h.1.ext0 e5).rec_at hj'
  rw [had]
  refine VIx.i (by omega) (by omega) ?_
  generalize L[j] = S at hrd
  refine ⟨(S.kind : Int), (S.from_ : Int), (S.to : Int), S.data, (S.n : Int), hrd, ?_⟩
  refine VNw.i fun b6 w6 hb6 hk6 e6 => ?_
  refine VSt.bk hk6 rfl (by simp) fun w7 hk7 e7 => ?_
  have e57 : Ext [] w5 w7 := e6.then e7 (fun i hi hlt => by simp at hi; omega)
  have e7w := e5.then0 e57
  have h7 := h5.ext0 e57
  have t7 := t5.ext e57 (by simp)
  have hk7 : Bk w7 b6 [.int .u8 S.kind, .int .i64 S.from_, .int .i64 S.to, .string S.data, .int .i64 S.n] 31 := hk7
  have n6 : b6 ∉ fp q sl := fun hx => by have := h5.lt b6 hx; omega
  have hm1 := h5.m1
  have hml := h5.len
  have hLl : N.L.length ≤ 1000 := by omega
  refine VLd.i1 _ (Rd.of_bk hk7 rfl) ?_
  -- what a round comes to
  refine ⟨fun al W => ∃ (sl : Sl) (N : NM), al = ((N.L.length : Nat) : Int) ∧ N.most = (mo : Int) ∧ NetO 58 35 w W q sl N ∧ Tb pkK W b (cnt N.L) ∧ Ext [] w W, ?_, ?_⟩
  · -- the table and the net, behind a change of the table
    have both : ∀ {W W' : World} {sl : Sl} {N : NM}, NetO 58 35 w W q sl N → ∀ {F : Pk → Int}, Tb pkK W b F → Ext [] w W → Ext [b] W W' → NetO 58 35 w W' q sl N ∧ Ext [] w W' := fun hN _ hT e e' =>
      ⟨hN.ext e' (fun y hy hy' => by simp at hy'; subst hy'; exact hbn hN hT hy), e.then e' (fun i hi hlt => by simp at hi; omega)⟩
    refine VIf.mk (fun _ => ?_) (fun _ => ?_)
    · refine VLd.i1 _ (Rd.of_bk hk7 rfl) (VLd.i1 _ (Rd.of_bk hk7 rfl) (VLd.i1 _ (Rd.of_bk hk7 rfl) ?_))
      refine VBytes.i fun bb c w8 hb8 hk8 e8 hc8 => ?_
      have h8 := h7.ext0 e8
      have t8 := t7.ext e8 (by simp)
      have e8w := e7w.then0 e8
      rw [bc_str] at hk8
      have hsz : S.data.size = S.data.data.toList.length := by
        show S.data.data.size = _; simp
      have hseg : Seg w8 (some ⟨bb, 0, none⟩) S.data.size 1 (bc S.data.data.toList) := Seg.of_bk hk8 (by simp) (by rw [bc_len, hsz]; simp)
      refine VCall.i (Send_spec w w8 q sl ⟨some ⟨bb, 0, none⟩, S.data.size, c⟩ N S.from_ S.to S.data.data.toList e8w h8 hseg) ?_
      rintro e w9 ⟨rfl, ha⟩
      rw [ba_eta] at ha ⊢
      obtain ⟨s9, h9, e9, ea9, na9⟩ := ha.all h8 e8w
      have t9 := t8.ext ea9 (hbn h8 t8)
      have hk9 : Bk w9 b6 _ _ := (hk7.ext e8).ext ea9 n6
      refine exW.i1 (t := .int .i64) _ rfl (VIf.mk (fun hz => ?_) (fun hz => ?_))
      · have hz' : N.sendE (S.from_, S.to, S.data) = 0 := by simpa using hz
        have hs := NM.send_ok hz'
        refine ⟨fun W => ∃ sl', NetO 58 35 w W q sl' (N.send (S.from_, S.to, S.data)) ∧ Tb pkK W b (cnt (N.L ++ [S.pk])) ∧ Ext [] w W, ?_, ?_⟩
        · intro w10 hw10
          have e910 := Ext.drew' hw10
          have hk10 := hk9.ext e910
          refine VLd.i1 _ (Rd.of_bk hk10 rfl) (VLd.i1 _ (Rd.of_bk hk10 rfl) (VLd.i1 _ (Rd.of_bk hk10 rfl) ?_))
          have t10 := t9.ext e910 (by simp)
          have h10 := h9.ext0 e910
          have e10 := e9.then0 e910
          refine bump (g := fun _ _ => True) S.pk 1 (cnt (N.L ++ [S.pk])) t10 hLl (.inl rfl) (fun c => by rw [cnt_app]; by_cases hc : S.pk = c <;> simp [hc]) (fun w' t' e' => ?_) (fun _ => rfl) (fun _ => rfl)
          obtain ⟨hN, eN⟩ := both h10 t10 e10 e'
          exact ⟨s9, hN, t', eN⟩
        · rintro w17 ⟨sl', h17, t17, e17⟩
          rw [w64 (by omega)]
          refine VSet.i ⟨sl', _, ?_, by rw [NM.most_send]; exact hmN, h17, ?_, e17⟩
          · rw [hs]; simp
          · rw [hs]; exact t17
      · have hz' : N.sendE (S.from_, S.to, S.data) ≠ 0 := by simpa using hz
        refine ⟨s9, _, ?_, by rw [NM.most_send]; exact hmN, h9, ?_, e9⟩
        · rw [NM.send_no hz']
        · rw [NM.send_no hz']; exact t9
    refine VIf.mk (fun _ => ?_) (fun _ => ?_)
    · refine VLd.i1 _ (Rd.of_bk hk7 rfl) ?_
      refine VCall.i (Take_spec w w7 q sl N S.n e7w h7) ?_
      rintro e w8 ⟨rfl, ha⟩
      obtain ⟨s8, h8, e8, ea8, na8⟩ := ha.all h7 e7w
      have t8 := t7.ext ea8 (hbn h7 t7)
      refine exW.i4 (t := .int .i64) (u := .int .i64) (v := .str) (q := .bool) _ _ _ _ rfl ?_
      refine VNw.i fun b9 w9 hb9 hk9 e9 => ?_
      refine VSt.bk hk9 rfl (by simp) fun w10 hk10 e10 => ?_
      have e810 : Ext [] w8 w10 := e9.then e10 (fun i hi hlt => by simp at hi; omega)
      have t10 := t8.ext e810 (by simp)
      have h10 := h8.ext0 e810
      have e10w := e8.then0 e810
      cases hi : N.has S.n with
      | false =>
        refine VIf.f rfl ⟨s8, _, ?_, by rw [NM.most_take]; exact hmN, h10, ?_, e10w⟩
        · unfold NM.take; rw [hi]; rfl
        · unfold NM.take; rw [hi]; exact t10
      | true =>
        refine VIf.t rfl ?_
        obtain ⟨hil, hlook⟩ := look_has hi
        have hL' := NM.take_L hi
        have hcin : 1 ≤ cnt N.L (N.look S.n) := by
          have h1 := cnt_erase N.L S.n.toNat hil (N.look S.n)
          rw [← hlook] at h1
          simp at h1
          have := (cnt_in (N.L.eraseIdx S.n.toNat) (N.look S.n)).1
          omega
        refine ⟨fun W => NetO 58 35 w W q s8 (N.take S.n) ∧ Tb pkK W b (cnt (N.take S.n).L) ∧ Ext [] w W ∧ Bk W b9 [.int .i64 (N.look S.n).1, .int .i64 (N.look S.n).2.1, .string (N.look S.n).2.2] 35, ?_, ?_⟩
        · intro w11 hw11
          have e1011 := Ext.drew' hw11
          have hk11 := hk10.ext e1011
          have t11 := t10.ext e1011 (by simp)
          have h11 := h10.ext0 e1011
          have e11 := e10w.then0 e1011
          refine VLd.i3 _ _ _ (Rd.of_bk hk11 rfl) ?_
          refine bump (g := fun _ _ => True) (N.look S.n) (-1) (cnt (N.take S.n).L) t11 hLl (.inr rfl) (fun c => by
            rw [hL', cnt_erase N.L S.n.toNat hil, ← hlook]
            by_cases hc : N.look S.n = c
            · rw [if_pos hc, if_pos hc, hc]; omega
            · rw [if_neg hc, if_neg hc]) (fun w' t' e' => ?_) (fun _ => rfl) (fun _ => rfl)
          obtain ⟨hN, eN⟩ := both h11 t11 e11 e'
          exact ⟨hN, t', eN, hk11.ext e' (by simp; exact fun e => t11.ne hk11 e.symm)⟩
        · rintro w28 ⟨h28, t28, e28, hk28⟩
          rw [w64 (by omega)]
          refine VSet.i (VLd.i3 _ _ _ (Rd.of_bk hk28 rfl) ⟨_, _, t28.lookup (N.look S.n), exW.i1 (t := .int .i64) (cnt (N.take S.n).L (N.look S.n)) rfl ?_⟩)
          have hpos := (cnt_in (N.take S.n).L (N.look S.n)).1
          refine VIf.f (by simpa using hpos) ⟨s8, _, ?_, by rw [NM.most_take]; exact hmN, h28, t28, e28⟩
          rw [hL', List.length_eraseIdx, if_pos hil]; omega
    refine VIf.mk (fun _ => ?_) (fun _ => ⟨sl, N, rfl, hmN, h7, t7, e7w⟩)
    refine VLd.i1 _ (Rd.of_bk hk7 rfl) ?_
    refine VCall.i (Look_spec w w7 q sl N S.n h7) ?_
    rintro e w8 ⟨rfl, e78⟩
    refine exW.i4 (t := .int .i64) (u := .int .i64) (v := .str) (q := .bool) _ _ _ _ rfl ?_
    refine VNw.i fun b9 w9 hb9 hk9 e9 => ?_
    refine VSt.bk hk9 rfl (by simp) fun w10 hk10 e10 => ?_
    have e810 : Ext [] w8 w10 := e9.then e10 (fun i hi hlt => by simp at hi; omega)
    have e710 := e78.then0 e810
    have h10 := h7.ext0 e710
    have t10 := t7.ext e710 (by simp)
    have e10w := e7w.then0 e710
    have n9 : b9 ∉ fp q sl := fun hx => by have := h7.lt b9 hx; have := e78.size; omega
    refine VLd.i1 _ (Rd.of_bk (hk7.ext e710) rfl) ?_
    refine VCall.i (Double_spec w w10 q sl N S.n e10w h10) ?_
    rintro e w11 ⟨rfl, ha⟩
    obtain ⟨s11, h11, e11, ea11, na11⟩ := ha.all h10 e10w
    have t11 := t10.ext ea11 (hbn h10 t10)
    have hk11 := hk10.ext ea11 n9
    refine exW.i1 (t := .int .i64) _ rfl (VIf.mk (fun hz => ?_) (fun hz => ?_))
    · have hz' : N.dblE S.n = 0 := by simpa using hz
      obtain ⟨hi, hdL⟩ := NM.dbl_ok hz'
      refine VIf.f (by simp [hi]) ?_
      refine ⟨fun W => NetO 58 35 w W q s11 (N.dbl S.n) ∧ Tb pkK W b (cnt (N.dbl S.n).L) ∧ Ext [] w W, ?_, ?_⟩
      · intro w12 hw12
        have e1112 := Ext.drew' hw12
        have hk12 := hk11.ext e1112
        have t12 := t11.ext e1112 (by simp)
        have h12 := h11.ext0 e1112
        have e12 := e11.then0 e1112
        refine VLd.i3 _ _ _ (Rd.of_bk hk12 rfl) ?_
        refine bump (g := fun _ _ => True) (N.look S.n) 1 (cnt (N.dbl S.n).L) t12 hLl (.inl rfl) (fun c => by
          rw [hdL, cnt_app]
          by_cases hc : N.look S.n = c
          · rw [if_pos hc, if_pos hc, hc]
          · rw [if_neg hc, if_neg hc]) (fun w' t' e' => ?_) (fun _ => rfl) (fun _ => rfl)
        obtain ⟨hN, eN⟩ := both h12 t12 e12 e'
        exact ⟨hN, t', eN⟩
      · rintro w17 ⟨h17, t17, e17⟩
        rw [w64 (by omega)]
        refine VSet.i ⟨s11, _, ?_, by rw [NM.most_dbl]; exact hmN, h17, t17, e17⟩
        rw [hdL]; simp
    · have hz' : N.dblE S.n ≠ 0 := by simpa using hz
      refine ⟨s11, _, ?_, by rw [NM.most_dbl]; exact hmN, h11, ?_, e11⟩
      · rw [NM.dbl_no hz']
      · rw [NM.dbl_no hz']; exact t11
  · rintro al w42 ⟨sl', N', rfl, hmN', h42, t42, e42⟩
    have hlen' := h42.len
    refine VCall.i (Len_spec w w42 q sl' N' h42) ?_
    rintro e w43 ⟨rfl, hw⟩
    subst hw
    refine exW.i1 (t := .int .i64) _ rfl (VIf.f (by simp; omega) ?_)
    rw [w64 (n := (j : Int) + 1) (by omega)]
    exact VSet.i ⟨_, by omega, j + 1, sl', N', rfl, rfl, by omega, rfl, hmN', h42, t42, e42⟩
end Go.Proofs.Ytkflggahjmmdhaa
