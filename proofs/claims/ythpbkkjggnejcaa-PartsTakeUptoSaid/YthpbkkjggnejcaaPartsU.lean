/-
  Package parts, the document's: a packet is taken.
-/
import Derived.Test.YthpbkkjggnejcaaPartsT
namespace Go.Proofs.Ythpbkkjggnejcaa
open Go.RowKit
set_option maxRecDepth 100000

theorem absX_E (K : List KR) : absX K = absE (K.map fun k => (⟨k.key, 0, k.pb, k.tb, k.sl⟩ : KE)) := by
  unfold absX absE
  rw [List.map_map]; rfl
theorem findX_none {K : List KR} {who : Ky} (h : ∀ k ∈ K, k.key ≠ who) : findA (absX K) who = none := by
  rw [absX_E]
  refine find_none fun k hk => ?_
  obtain ⟨k0, hk0, rfl⟩ := List.mem_map.1 hk
  exact h k0 hk0
theorem findX_some {K : List KR} (hn : (K.map (·.key)).Nodup) {k : KR} (hk : k ∈ K) : findA (absX K) k.key = some k.sl := by
  rw [absX_E]
  have hk2 : (⟨k.key, 0, k.pb, k.tb, k.sl⟩ : KE) ∈ K.map (fun k => (⟨k.key, 0, k.pb, k.tb, k.sl⟩ : KE)) := List.mem_map.2 ⟨k, hk, rfl⟩
  exact find_some (by rw [List.map_map]; exact hn) hk2
theorem absX_app (K L : List KR) : absX (K ++ L) = absX K ++ absX L := List.map_append ..
theorem absX_room (K : List KR) (h : K.length = 16) : absX K.tail = roomA (absX K) := by
  unfold roomA absX
  rw [List.length_map, if_pos h, List.map_tail]
theorem absX_room' (K : List KR) (h : K.length ≠ 16) : absX K = roomA (absX K) := by
  unfold roomA absX
  rw [List.length_map, if_neg h]
theorem ps_le {sl : Slots} (h : slotsOk sl) (i : Nat) (hi : i < (psOf sl).length) : ((psOf sl)[i]).size ≤ 380 := by
  have hi2 : i < sl.length := by rw [psOf_len] at hi; exact hi
  rw [psOf_get]
  cases hx : sl[i] with
  | none => show ByteArray.size ByteArray.empty ≤ 380; exact Nat.zero_le _
  | some d => exact (h.2.2 i d (by rw [List.getElem?_eq_getElem hi2, hx])).1
theorem preP_le {sl : Slots} (h : slotsOk sl) : ∀ m, m ≤ (psOf sl).length → (preP (psOf sl) m).length ≤ 380 * m
  | 0, _ => Nat.le_refl _
  | m + 1, hm => by
    rw [preP_succ _ m (by omega), List.length_append, ← ba_size]
    have := preP_le h m (by omega)
    have := ps_le h m (by omega)
    omega
theorem left_none {sl : Slots} {i : Nat} (hi : i < sl.length) (h : sl[i] = none) : 0 < leftOf sl := by
  unfold leftOf
  exact List.countP_pos_iff.2 ⟨sl[i], List.getElem_mem hi, by rw [h]; rfl⟩
theorem left_all {sl : Slots} (h : ∀ i (hi : i < sl.length), (sl[i]).isSome = true) : ¬ 0 < leftOf sl := by
  unfold leftOf
  intro hc
  obtain ⟨x, hx, hn⟩ := List.countP_pos_iff.1 hc
  obtain ⟨i, hi, rfl⟩ := List.mem_iff_getElem.1 hx
  have := h i hi
  cases hv : sl[i] with
  | none => rw [hv] at this; cases this
  | some d => rw [hv] at hn; cases hn
section
variable {w0 W : World} {xb : Nat} {K : List KR} {rs : Sl}
set_option maxHeartbeats 2000000 in
theorem xTake_spec (fr : Int) (s : Sl) (l : List UInt8) (h : XR w0 W xb K rs) (hs : In W s l) :
    Calls Try.prog 17 #[.pointer (some ⟨xb, 0, none⟩), .int .i64 fr, .slice s.base s.len s.cap] W fun e w' => ∃ (x : ByteArray) (K' : List KR), e = .returned (.tuple #[.string x, .bool (takeP (absX K) fr l).2.2.1, .int .i64 (takeP (absX K) fr l).2.2.2]) ∧ x.data.toList = (takeP (absX K) fr l).2.1 ∧ x.size ≤ 8360 ∧ absX K' = (takeP (absX K) fr l).1 ∧ XTo w0 W xb K rs K' w' := by
  refine sh_butteryref11_Joiner_Take_ok _ _ _ _ _ ?_
  unfold sh_butteryref11_Joiner_Take
  refine VCall.i (xRead_spec s l W hs) ?_
  rintro e w1 ⟨rfl, e1⟩
  obtain ⟨p, hp⟩ : ∃ p, p = (readP l).1 := ⟨_, rfl⟩
  rw [← hp]
  refine exW.pt p _ rfl ?_
  refine VNw.i fun pb w2 hpb hk2 e2 => VSt.bk hk2 rfl (by simp) fun w3 hk3 e3 => VSet.i ?_
  have hk3 : Bk w3 pb (ptC p) 78 := hk3
  have e13 : Ext [] w1 w3 := e2.then e3 (fun i hi hlt => by simp at hi; omega)
  have e03 := e1.then0 e13
  have z1 := e1.size
  have hold := h.old
  have hl := h.o.len
  have hle := h.le
  have h3 : XT w0 W xb K rs pb p K rs w3 := ⟨h.ext0 e03, e03.mono (by simp), fun b hb => .inl hb, hk3⟩
  refine VIf.mk (fun hc => ?_) (fun hc => ?_)
  · have hc : (readP l).2 ≠ 0 := by simpa using hc
    have ht : takeP (absX K) fr l = (absX K, [], false, (readP l).2) := by unfold takeP; rw [if_pos hc]
    rw [ht]
    exact VSet.i ⟨_, K, rfl, rfl, Nat.zero_le _, rfl, h3.to⟩
  have hc : (readP l).2 = 0 := by simpa using hc
  obtain ⟨r1, r2, r3, r4, r5, r6, r7⟩ := readP_ok hc
  rw [← hp] at r1 r2 r3 r4 r5 r6 r7
  obtain ⟨who, hwho⟩ : ∃ who : Ky, who = (fr, p.number) := ⟨_, rfl⟩
  have hw1 : who.1 = fr := by rw [hwho]
  have hw2 : who.2 = p.number := by rw [hwho]
  -- where a message of that name is
  refine ⟨fun k at' i W' => ∃ m : Nat, i = (m : Int) ∧ m ≤ K.length ∧ k = K.length - m ∧ ((at' = -1 ∧ ∀ j (hj : j < K.length), j < m → (K[j]).key ≠ who) ∨ (∃ j, ∃ hj : j < K.length, j < m ∧ at' = (j : Int) ∧ (K[j]).key = who)) ∧ XT w0 W xb K rs pb p K rs W', ⟨_, 0, rfl, by omega, rfl, .inl ⟨rfl, fun j hj h => absurd h (by omega)⟩, h3⟩, ?_⟩
  rintro k at' i w4 ⟨m, rfl, hm, rfl, hat, h4⟩
  refine VNN.i (VLd.s rs (Rd.of_bk h4.xr.x rfl) (VIf.mk (fun hd => ?_) (fun hd => ?_)))
  · have hm' : m < K.length := by rw [hl] at hd; simp at hd; omega
    refine ⟨fun at2 W' => (((at2 = -1 ∧ ∀ j (hj : j < K.length), j < m + 1 → (K[j]).key ≠ who) ∨ (∃ j, ∃ hj : j < K.length, j < m + 1 ∧ at2 = (j : Int) ∧ (K[j]).key = who)) ∧ XT w0 W xb K rs pb p K rs W'), ?_, ?_⟩
    · intro w5 hw5
      have h5 := h4.ext0 (Ext.drew' hw5)
      refine VNN.i (VLd.s rs (Rd.of_bk h5.xr.x rfl) ?_)
      refine VIx.i' (r := ktR) h5.xr.o.in_.1 hm' fun a hr => VLd.i1 (t := .int .i64) (K[m]).key.1 (hr.fld0 rfl) ?_
      refine VNN.i (VLd.s rs (Rd.of_bk h5.xr.x rfl) ?_)
      refine VIx.i' (r := ktR) h5.xr.o.in_.1 hm' fun a hr => VLd.i1 (t := .int .i64) (K[m]).key.2 (hr.fld 1 rfl) ?_
      refine VLd.i1 (t := .int .i64) p.number (Rd.of_bk h5.kp rfl) ?_
      have hcond : (((K[m]).key.1 == fr) && ((K[m]).key.2 == p.number)) = decide ((K[m]).key = who) := by
        rw [Bool.eq_iff_iff, decide_eq_true_eq, Bool.and_eq_true, beq_iff_eq, beq_iff_eq, hwho, Prod.ext_iff]
      refine VIf.mk (fun hq => ?_) (fun hq => ?_)
      · have hq := of_decide_eq_true (hcond.symm.trans hq)
        exact VSet.i ⟨.inr ⟨m, hm', by omega, rfl, hq⟩, h5⟩
      · have hq := of_decide_eq_false (hcond.symm.trans hq)
        refine ⟨?_, h5⟩
        rcases hat with ⟨h1, h2⟩ | ⟨j, hj, h1, h2, h3⟩
        · refine .inl ⟨h1, fun j hj hlt => ?_⟩
          by_cases hjm : j = m
          · subst hjm; exact hq
          · exact h2 j hj (by omega)
        · exact .inr ⟨j, hj, by omega, h2, h3⟩
    · rintro at2 w6 ⟨hat2, h6⟩
      rw [w64 (n := (m : Int) + 1) (by omega)]
      exact VSet.i ⟨_, (show K.length - (m + 1) < K.length - m by omega), m + 1, rfl, by omega, rfl, hat2, h6⟩
  have hm2 : m = K.length := by rw [hl] at hd; simp at hd; omega
  subst hm2
  have hat : (at' = -1 ∧ ∀ k ∈ K, k.key ≠ who) ∨ (∃ j, ∃ hj : j < K.length, at' = (j : Int) ∧ (K[j]).key = who) := by
    rcases hat with ⟨h1, h2⟩ | ⟨j, hj, _, h2, h3⟩
    · exact .inl ⟨h1, fun k hk => by obtain ⟨j, hj, rfl⟩ := List.mem_iff_getElem.1 hk; exact h2 j hj hj⟩
    · exact .inr ⟨j, hj, h2, h3⟩
  -- a message of that name of another count is kept no more
  refine ⟨fun at2 W1 => ∃ K1 rs1, XT w0 W xb K rs pb p K1 rs1 W1 ∧ absX K1 = takeA1 (absX K) who p.count ∧ ((at2 = -1 ∧ ∀ k ∈ K1, k.key ≠ who) ∨ (∃ j, ∃ hj : j < K1.length, at2 = (j : Int) ∧ (K1[j]).key = who ∧ ((K1[j]).sl.length : Int) = p.count)), ?_, ?_⟩
  · intro w7 hw7
    have h7 := h4.ext0 (Ext.drew' hw7)
    rcases hat with ⟨rfl, hno⟩ | ⟨j, hj, rfl, hjw⟩
    · refine VNN.i (VLd.s rs (Rd.of_bk h7.xr.x rfl) ⟨⟨0, 0, none⟩, fun e => absurd e (by simp), ⟨⟨none, 0, 0⟩, fun e => absurd e (by simp), VLd.i1 (t := .int .i64) p.count (Rd.of_bk h7.kp rfl) (VIf.f rfl ?_)⟩⟩)
      refine ⟨K, rs, h7, ?_, .inl ⟨rfl, hno⟩⟩
      unfold takeA1
      rw [findX_none hno]
    · have hfs : findA (absX K) who = some (K[j]).sl := by
        have := findX_some h.nd (List.getElem_mem hj)
        rw [hjw] at this
        exact this
      have hg : decide (((j : Nat) : Int) ≥ 0) = true := by simp
      refine VNN.i (VLd.s rs (Rd.of_bk h7.xr.x rfl) (VIx.i' (r := ktR) h7.xr.o.in_.1 hj fun a hr => VLd.s ⟨some ⟨(K[j]).pb, 0, none⟩, (K[j]).sl.length, (K[j]).sl.length⟩ (hr.fld 2 rfl) (VLd.i1 (t := .int .i64) p.count (Rd.of_bk h7.kp rfl) (VIf.mk (fun hd2 => ?_) (fun hd2 => ?_)))))
      · have hd2 : ((K[j]).sl.length : Int) ≠ p.count := by simpa [hg] using hd2
        refine VCall.i (drop_spec j hj h7.xr) ?_
        rintro e w8 ⟨rfl, hX⟩
        refine exW.i0 rfl ?_
        obtain ⟨rs2, h8⟩ := h7.step hX
        refine ⟨_, rs2, h8, ?_, .inl ⟨rfl, fun k hk => by have := (dropX_mem.1 hk).2; rw [hjw] at this; exact this⟩⟩
        rw [abs_dropX, hjw]
        unfold takeA1
        rw [hfs]
        simp only
        rw [if_pos hd2]
      · have hd2 : ((K[j]).sl.length : Int) = p.count := by simpa [hg] using hd2
        refine ⟨K, rs, h7, ?_, .inr ⟨j, hj, rfl, hjw, hd2⟩⟩
        unfold takeA1
        rw [hfs]
        simp only
        rw [if_neg (by simpa using hd2)]
  rintro at2 w9 ⟨K1, rs1, h9, hA1, hat1⟩
  refine VLd.i1 (t := .int .i64) p.count (Rd.of_bk h9.kp rfl) (VIf.mk (fun hd => ?_) (fun hd => ?_))
  · have hd : p.count = 1 := by simpa using hd
    have ht : takeP (absX K) fr l = (takeA1 (absX K) who p.count, p.data.data.toList, true, 0) := by
      unfold takeP
      rw [if_neg (by simpa using hc), ← hp, if_pos hd, hwho]
    rw [ht]
    exact VLd.i1 (t := .str) p.data (Rd.of_bk h9.kp rfl) ⟨p.data, K1, rfl, rfl, by omega, hA1, h9.to⟩
  have hd : p.count ≠ 1 := by simpa using hd
  obtain ⟨n, hn⟩ : ∃ n : Nat, p.count = (n : Int) := ⟨p.count.toNat, by omega⟩
  obtain ⟨pl, hpl⟩ : ∃ pl : Nat, p.place = (pl : Int) := ⟨p.place.toNat, by omega⟩
  have hn2 : 2 ≤ n ∧ n ≤ 22 := by omega
  have hpn : pl < n := by omega
  have rdN : ∀ {W : World}, Bk W pb (ptC p) 78 → Rd W ⟨pb, 2, none⟩ [Value.int .i64 (n : Int)] := fun hb => by rw [← hn]; exact Rd.of_bk hb rfl
  have rdP : ∀ {W : World}, Bk W pb (ptC p) 78 → Rd W ⟨pb, 1, none⟩ [Value.int .i64 (pl : Int)] := fun hb => by rw [← hpl]; exact Rd.of_bk hb rfl
  -- there is a message of that name
  refine ⟨fun at3 W2 => ∃ K2 rs2, XT w0 W xb K rs pb p K2 rs2 W2 ∧ absX K2 = takeA2 (takeA1 (absX K) who p.count) who n ∧ ∃ j, ∃ hj : j < K2.length, at3 = (j : Int) ∧ (K2[j]).key = who ∧ (K2[j]).sl.length = n, ?_, ?_⟩
  · rcases hat1 with ⟨rfl, hno⟩ | ⟨j, hj, rfl, hjw, hjl⟩
    · refine VIf.t rfl ?_
      have hl1 := h9.xr.o.len
      refine ⟨fun W' => ∃ K2 rs2, XT w0 W xb K rs pb p K2 rs2 W' ∧ absX K2 = roomA (absX K1) ∧ K2.length ≤ 15 ∧ ∀ k ∈ K2, k.key ≠ who, ?_, ?_⟩
      · refine VNN.i (VLd.s rs1 (Rd.of_bk h9.xr.x rfl) (VIf.mk (fun hd2 => ?_) (fun hd2 => ?_)))
        · have hd2 : K1.length = 16 := by rw [hl1] at hd2; simp at hd2; omega
          refine VCall.i (drop_spec 0 (by omega) h9.xr) ?_
          rintro e w10 ⟨rfl, hX⟩
          refine exW.i0 rfl ?_
          have hcut := cut_out K1 h9.xr.nd 0 (by omega)
          rw [List.take_zero, List.nil_append, Nat.zero_add, List.drop_one] at hcut
          rw [← hcut] at hX
          obtain ⟨rs2, h10⟩ := h9.step hX
          exact ⟨_, rs2, h10, absX_room K1 hd2, by rw [List.length_tail]; omega, fun k hk => hno k (List.mem_of_mem_tail hk)⟩
        · have hd2 : K1.length ≠ 16 := by rw [hl1] at hd2; simp at hd2; omega
          have := h9.xr.le
          exact ⟨K1, rs1, h9, absX_room' K1 hd2, by omega, hno⟩
      rintro w11 ⟨K2, rs2, h11, hA5, hl5, hno5⟩
      have hl2 := h11.xr.o.len
      refine VNN.i (VLd.s rs2 (Rd.of_bk h11.xr.x rfl) (VSet.i ?_))
      refine ⟨fun W' => ∃ pb2 tb rs3, XT w0 W xb K rs pb p (K2 ++ [⟨who, pb2, tb, List.replicate n none⟩]) rs3 W', ?_, ?_⟩
      · intro w12 hw12
        have h12 := h11.ext0 (Ext.drew' hw12)
        refine VNN.i (VLd.s rs2 (Rd.of_bk h12.xr.x rfl) (VLd.i1 (t := .int .i64) p.number (Rd.of_bk h12.kp rfl) (VLd.i1 (t := .int .i64) (n : Int) (rdN h12.kp) (VLd.i1 (t := .int .i64) (n : Int) (rdN h12.kp) ?_))))
        have nn : ((n : Nat) : Int).toNat = n := by simp
        have mk1 : ∀ {w : World} {b : Nat}, Bk w b (madeCells #[.string ByteArray.empty] (((n : Nat) : Int).toNat * 1)).toList 9 → Bk w b (strR.cells (psOf (List.replicate n none))) 9 := fun hk => by
          rw [nn] at hk
          rw [psOf_rep]
          exact Bk.made strR ByteArray.empty rfl rfl hk
        have mk2 : ∀ {w : World} {b : Nat}, Bk w b (madeCells #[.bool false] (((n : Nat) : Int).toNat * 1)).toList 4 → Bk w b (boolR.cells (bsOf (List.replicate n none))) 4 := fun hk => by
          rw [nn] at hk
          rw [bsOf_rep]
          exact Bk.made boolR false rfl rfl hk
        have mk3 : ∀ {w : World} {kb pb2 tb : Nat}, Bk w kb [.int .i64 fr, .int .i64 p.number, .slice (some ⟨pb2, 0, none⟩) n n, .slice (some ⟨tb, 0, none⟩) n n] 82 → Bk w kb (ktC ⟨who, pb2, tb, List.replicate n none⟩) 82 := fun hk => by
          unfold ktC
          simp only [List.length_replicate, hw1, hw2]
          exact hk
        refine ⟨?_, ?_⟩
        · refine VMk.i (by omega) (by omega) (by omega) (by omega) fun pb2 w13 hpb2 hk13 e13 => ⟨rdN (h12.kp.ext e13), Rd.of_bk (h12.kp.ext e13) rfl, Rd.of_bk (h12.xr.x.ext e13) rfl, ?_⟩
          refine VMk.i (by omega) (by omega) (by omega) (by omega) fun tb w14 htb hk14 e14 => ⟨Rd.of_bk ((h12.kp.ext e13).ext e14) rfl, Rd.of_bk ((h12.xr.x.ext e13).ext e14) rfl, ?_⟩
          refine VNw.i fun kb w15 hkb hk15 e15 => ⟨Rd.of_bk (((h12.xr.x.ext e13).ext e14).ext e15) rfl, ?_⟩
          have z13 := e13.size
          rw [nn] at hk15
          exact h12.new ((e13.then0 e14).then0 e15) hn2 hl5 hno5 (mk1 ((hk13.ext e14).ext e15)) (mk2 (hk14.ext e15)) (by omega) (by omega) (mk3 hk15) fun rs3 W' hX => ⟨pb2, tb, rs3, hX⟩
        · refine VMk.i (by omega) (by omega) (by omega) (by omega) fun tb w13 htb hk13 e13 => ⟨rdN (h12.kp.ext e13), Rd.of_bk (h12.kp.ext e13) rfl, Rd.of_bk (h12.xr.x.ext e13) rfl, ?_⟩
          refine VMk.i (by omega) (by omega) (by omega) (by omega) fun pb2 w14 hpb2 hk14 e14 => ⟨Rd.of_bk ((h12.kp.ext e13).ext e14) rfl, Rd.of_bk ((h12.xr.x.ext e13).ext e14) rfl, ?_⟩
          refine VNw.i fun kb w15 hkb hk15 e15 => ⟨Rd.of_bk (((h12.xr.x.ext e13).ext e14).ext e15) rfl, ?_⟩
          have z13 := e13.size
          rw [nn] at hk15
          exact h12.new ((e13.then0 e14).then0 e15) hn2 hl5 hno5 (mk1 (hk14.ext e15)) (mk2 ((hk13.ext e14).ext e15)) (by omega) (by omega) (mk3 hk15) fun rs3 W' hX => ⟨pb2, tb, rs3, hX⟩
      · rintro w23 ⟨pb2, tb, rs3, h23⟩
        refine ⟨_, rs3, h23, ?_, K2.length, by simp, by rw [hl2], by simp, by simp⟩
        rw [absX_app, hA5, hA1]
        have hf := findX_none hno
        rw [hA1] at hf
        unfold takeA2
        rw [hf]
        rfl
    · refine VIf.f (by simp) ⟨K1, rs1, h9, ?_, j, hj, rfl, hjw, by omega⟩
      have hf := findX_some h9.xr.nd (List.getElem_mem hj)
      rw [hjw, hA1] at hf
      unfold takeA2
      rw [hA1, hf]
  rintro at3 w24 ⟨K2, rs2, h24, hA2, j, hj, rfl, hjw, hjl⟩
  obtain ⟨k, hk⟩ : ∃ k, k = K2[j] := ⟨_, rfl⟩
  have hkm : k ∈ K2 := by rw [hk]; exact List.getElem_mem hj
  rw [← hk] at hjw hjl
  have hfs := findX_some h24.xr.nd hkm
  rw [hjw, hA2] at hfs
  obtain ⟨sl', hsl'⟩ : ∃ sl', sl' = putS k.sl pl p.data := ⟨_, rfl⟩
  have hok2 := h24.xr.ok k hkm
  have hok' : slotsOk sl' := by
    rw [hsl']
    refine putS_ok hok2 r6 fun hlt => ?_
    rw [hjl] at hlt
    unfold badP at r7
    simp only [not_or] at r7
    obtain ⟨r7, _, _⟩ := r7
    have : ¬ (p.data.size < 380) := fun hh => r7 ⟨by omega, hh⟩
    omega
  have hln' : sl'.length = n := by rw [hsl', putS_len]; exact hjl
  refine VNN.i (VLd.s rs2 (Rd.of_bk h24.xr.x rfl) (VIx.i' (r := ktR) h24.xr.o.in_.1 hj fun a hr => ?_))
  rw [← hk] at hr
  refine ⟨k.key.1, k.key.2, ⟨some ⟨k.pb, 0, none⟩, k.sl.length, k.sl.length⟩, ⟨some ⟨k.tb, 0, none⟩, k.sl.length, k.sl.length⟩, hr, ?_⟩
  refine VNw.i fun kb w25 hkb hk25 e25 => VSt.bk hk25 rfl (by simp) fun w26 hk26 e26 => ?_
  have hk26 : Bk w26 kb [.int .i64 k.key.1, .int .i64 k.key.2, .slice (some ⟨k.pb, 0, none⟩) n n, .slice (some ⟨k.tb, 0, none⟩) n n] 82 := by
    rw [← hjl]; exact hk26
  have e2426 : Ext [] w24 w26 := e25.then e26 (fun i hi hlt => by simp at hi; omega)
  have h26 := h24.ext0 e2426
  have npk : k.pb ≠ kb := (h26.xr.pp k hkm).neT hk26 (by decide)
  have ntk : k.tb ≠ kb := (h26.xr.pt k hkm).neT hk26 (by decide)
  have npt : k.pb ≠ k.tb := (h26.xr.pp k hkm).neT (h26.xr.pt k hkm) (by decide)
  have npp : k.pb ≠ pb := (h26.xr.pp k hkm).neT h26.kp (by decide)
  have ntp : k.tb ≠ pb := (h26.xr.pt k hkm).neT h26.kp (by decide)
  have hpsl0 : (psOf k.sl).length = n := by rw [psOf_len, hjl]
  have hbsl0 : (bsOf k.sl).length = n := by rw [bsOf_len, hjl]
  have hplk : pl < k.sl.length := by omega
  -- the part is put in, if there was none
  refine ⟨fun W3 => XT w0 W xb K rs pb p (setX K2 who sl') rs2 W3 ∧ Bk W3 kb [.int .i64 k.key.1, .int .i64 k.key.2, .slice (some ⟨k.pb, 0, none⟩) n n, .slice (some ⟨k.tb, 0, none⟩) n n] 82, ?_, ?_⟩
  · have hsegT : Seg w26 (some ⟨k.tb, 0, none⟩) n boolR.k (boolR.cells (bsOf k.sl)) := Seg.of_bk (h26.xr.pt k hkm) (by simp) (by rw [Rec.cells_len, hbsl0])
    have hplb : pl < (bsOf k.sl).length := by omega
    have hget : (bsOf k.sl)[pl] = (k.sl[pl]).isSome := bsOf_get _ _ hplb
    refine VLd.s ⟨some ⟨k.tb, 0, none⟩, n, n⟩ (Rd.of_bk hk26 rfl) (VLd.i1 (t := .int .i64) (pl : Int) (rdP h26.kp) ?_)
    refine VIx.i' (r := boolR) hsegT hplb fun a hr => VLd.i1 (t := .bool) ((bsOf k.sl)[pl]) hr ?_
    rw [hget]
    refine VIf.mk (fun hx => ?_) (fun hx => ?_)
    · have hx : k.sl[pl] = none := by
        cases hv : k.sl[pl] with
        | none => rfl
        | some d => rw [hv] at hx; simp at hx
      have hx? : k.sl[pl]? = some none := by rw [List.getElem?_eq_getElem hplk, hx]
      have hsl2 : sl' = k.sl.set pl (some p.data) := by rw [hsl']; unfold putS; rw [if_pos hx?]
      have hps : psOf sl' = (psOf k.sl).set pl p.data := by rw [hsl2]; unfold psOf; rw [List.map_set]; rfl
      have hbs : bsOf sl' = (bsOf k.sl).set pl true := by rw [hsl2]; unfold bsOf; rw [List.map_set]; rfl
      refine VLd.s ⟨some ⟨k.tb, 0, none⟩, n, n⟩ (Rd.of_bk hk26 rfl) (VLd.i1 (t := .int .i64) (pl : Int) (rdP h26.kp) ?_)
      refine stBool (h26.xr.pt k hkm) hbsl0 (by show n ≤ 1000; omega) hpn fun w27 ht27 e27 => ?_
      have hk27 := hk26.ext e27 (by simpa using fun e => ntk e.symm)
      have hp27 := h26.kp.ext e27 (by simpa using fun e => ntp e.symm)
      refine VLd.s ⟨some ⟨k.pb, 0, none⟩, n, n⟩ (Rd.of_bk hk27 rfl) (VLd.i1 (t := .int .i64) (pl : Int) (rdP hp27) (VLd.i1 (t := .str) p.data (Rd.of_bk hp27 rfl) ?_))
      refine stStr ((h26.xr.pp k hkm).ext e27 (by simpa using npt)) hpsl0 (by show n ≤ 1000; omega) hpn fun w28 hp28 e28 => ?_
      have e2628 : Ext [k.pb, k.tb] w26 w28 := (e27.mono (N := [k.pb, k.tb]) (by simp)).then e28 (fun i hi _ => by simp at hi; subst hi; simp)
      have hX := h26.xr.put hkm e2628 (sl := sl') (by rw [hps]; exact hp28) (by rw [hbs]; exact ht27.ext e28 (by simpa using fun e => npt e.symm)) (by omega) hok'
      rw [hjw] at hX
      have hin : ∀ b ∈ [k.pb, k.tb], b ∈ xbs xb K2 rs2 := fun b hb => by
        simp at hb
        exact xbs_mem.2 (.inr (.inr ⟨k, hkm, hb⟩))
      have z26 := h26.e.size
      refine ⟨⟨hX, h26.e.then e2628 (fun i hi hlt => ?_), by rw [setX_xbs]; exact h26.i, h26.kp.ext e2628 (fun hi => h26.np (hin _ hi))⟩, hk27.ext e28 (by simpa using fun e => npk e.symm)⟩
      rcases h26.i i (hin i hi) with h' | h'
      · exact h'
      · omega
    · have hx : ¬ k.sl[pl]? = some none := by
        rw [List.getElem?_eq_getElem hplk]
        intro e
        simp only [Option.some.injEq] at e
        rw [e] at hx
        simp at hx
      have hsl2 : sl' = k.sl := by rw [hsl']; unfold putS; rw [if_neg hx]
      have hX := h26.xr.put (W' := w26) hkm (Ext.refl _ _) (sl := sl') (by rw [hsl2]; exact h26.xr.pp k hkm) (by rw [hsl2]; exact h26.xr.pt k hkm) (by omega) hok'
      rw [hjw] at hX
      exact ⟨⟨hX, h26.e, by rw [setX_xbs]; exact h26.i, h26.kp⟩, hk26⟩
  rintro w29 ⟨h29, hk29⟩
  have hk' : { k with sl := sl' } ∈ setX K2 who sl' := by
    unfold setX
    refine List.mem_map.2 ⟨k, hkm, ?_⟩
    rw [if_pos hjw]
  have hT : ∀ {P : Ab × List UInt8 × Bool × Int}, (if 0 < leftOf sl' then (setA (takeA2 (takeA1 (absX K) who p.count) who n) who sl', [], false, 0) else (dropA (takeA2 (takeA1 (absX K) who p.count) who n) who, joinS sl', true, 0)) = P → takeP (absX K) fr l = P := fun {P} hP => by
    rw [← hP]
    unfold takeP
    rw [if_neg (by simpa using hc), ← hp, if_neg hd, ← hwho, hn, hpl]
    simp only [Int.toNat_natCast]
    rw [← hn, hfs, Option.getD_some, ← hsl']
  have hpp29 : Bk w29 k.pb (strR.cells (psOf sl')) 9 := h29.xr.pp _ hk'
  have hpt29 : Bk w29 k.tb (boolR.cells (bsOf sl')) 4 := h29.xr.pt _ hk'
  have hpsl : (psOf sl').length = n := by rw [psOf_len, hln']
  have hbsl : (bsOf sl').length = n := by rw [bsOf_len, hln']
  have hsegP : Seg w29 (some ⟨k.pb, 0, none⟩) n strR.k (strR.cells (psOf sl')) := Seg.of_bk hpp29 (by simp) (by rw [Rec.cells_len, hpsl])
  have hsegT : Seg w29 (some ⟨k.tb, 0, none⟩) n boolR.k (boolR.cells (bsOf sl')) := Seg.of_bk hpt29 (by simp) (by rw [Rec.cells_len, hbsl])
  refine ⟨fun kk x i W4 => ∃ m : Nat, i = (m : Int) ∧ m ≤ n ∧ kk = n - m ∧ W4 = w29 ∧ x.data.toList = preP (psOf sl') m ∧ ∀ i (hi : i < sl'.length), i < m → (sl'[i]).isSome = true,
    ⟨_, 0, rfl, by omega, rfl, rfl, rfl, fun i hi h => absurd h (by omega)⟩, ?_⟩
  rintro kk x i w30 ⟨m, rfl, hm, rfl, rfl, hx, hall⟩
  refine VLd.s ⟨some ⟨k.pb, 0, none⟩, n, n⟩ (Rd.of_bk hk29 rfl) (VIf.mk (fun hd2 => ?_) (fun hd2 => ?_))
  · have hm' : m < n := by simp at hd2; omega
    have hml : m < sl'.length := by omega
    have hmb : m < (bsOf sl').length := by omega
    have hmp : m < (psOf sl').length := by omega
    refine VLd.s ⟨some ⟨k.tb, 0, none⟩, n, n⟩ (Rd.of_bk hk29 rfl) (VIx.i' (r := boolR) hsegT hmb fun a hr => VLd.i1 (t := .bool) ((bsOf sl')[m]) hr ?_)
    have hget : (bsOf sl')[m] = (sl'[m]).isSome := bsOf_get _ _ hmb
    rw [hget]
    refine VIf.mk (fun hq => ?_) (fun hq => ?_)
    · have hq : sl'[m] = none := by
        cases hv : sl'[m] with
        | none => rfl
        | some d => rw [hv] at hq; simp at hq
      rw [hT (if_pos (left_none hml hq))]
      exact ⟨_, _, rfl, rfl, Nat.zero_le _, by rw [abs_setX, hA2], h29.to⟩
    · have hq : (sl'[m]).isSome = true := by simpa using hq
      refine VLd.s ⟨some ⟨k.pb, 0, none⟩, n, n⟩ (Rd.of_bk hk29 rfl) (VIx.i' (r := strR) hsegP hmp fun a hr => VLd.i1 (t := .str) ((psOf sl')[m]) hr ?_)
      have hs1 : x.size ≤ 380 * m := by rw [ba_size, hx]; exact preP_le hok' m (by omega)
      have hs2 := ps_le hok' m hmp
      refine VCk.i (by omega) ?_
      rw [w64 (n := (m : Int) + 1) (by omega)]
      refine VSet.i ⟨_, (show n - (m + 1) < n - m by omega), m + 1, rfl, by omega, rfl, rfl, ?_, fun i hi hlt => ?_⟩
      · rw [preP_succ _ m hmp, ← hx]
        simp [ByteArray.data_append]
      · by_cases him : i = m
        · subst him; exact hq
        · exact hall i hi (by omega)
  · have hmm : m = n := by simp at hd2; omega
    subst hmm
    have hno : ¬ 0 < leftOf sl' := left_all fun i hi => hall i hi (by omega)
    rw [hT (if_neg hno)]
    have hj' : j < (setX K2 who sl').length := by rw [setX_len]; exact hj
    have hkey : ((setX K2 who sl')[j]).key = who := by
      have h1 : ((setX K2 who sl').map (·.key))[j]'(by rw [setX_keys, List.length_map]; exact hj) = (K2.map (·.key))[j]'(by rw [List.length_map]; exact hj) := by simp only [setX_keys]
      rw [List.getElem_map, List.getElem_map, ← hk, hjw] at h1
      exact h1
    refine VCall.i (drop_spec j hj' h29.xr) ?_
    rintro e w31 ⟨rfl, hX⟩
    refine exW.i0 rfl ?_
    rw [hkey] at hX
    obtain ⟨rs4, h31⟩ := h29.step hX
    exact ⟨x, _, rfl, by rw [joinS_pre, hln']; exact hx, by have := preP_le hok' m (by omega); rw [← hx, ← ba_size] at this; omega, by rw [abs_dropX, abs_setX, drop_set, hA2], h31.to⟩
end
end Go.Proofs.Ythpbkkjggnejcaa
