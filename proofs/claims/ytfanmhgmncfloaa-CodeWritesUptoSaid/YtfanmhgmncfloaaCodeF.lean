/-
  Package code against the document: CodeReads, CodeWrites.
-/
import Derived.Test.YtfanmhgmncfloaaCodeR
namespace Go.Proofs.Ytfanmhgmncfloaa
open Go.RowKit
set_option maxRecDepth 100000

theorem Own.bk {w0 w : World} {s : Sl} {l : List UInt8} (h : Own w0 w s l) (h0 : 0 < s.len) : ∃ b rest, s.base = some ⟨b, 0, none⟩ ∧ Bk w b (bc l ++ rest) 5 ∧ w0.heap.size ≤ b := by
  obtain ⟨⟨h1, h2, h3, h4⟩, h5⟩ := h
  rcases h4 with ⟨_, h6⟩ | ⟨b, rest, hb, hk, _⟩
  · omega
  · exact ⟨b, rest, hb, hk, h5 b (by simp [rowB, hb])⟩

theorem CodeReads_law (b l : Sl) (bs : List UInt8) (f : Nat → Int × Int) (w : World) (hb : Seg w b.base b.len 1 (bc bs)) (hbl : bs.length ≤ 1048576)
    (hf : ∀ i, i < l.len → ∃ a0, l.base = some a0 ∧ Rd w (a0.add (i * 2)) [.int .i64 (f i).1, .int .i64 (f i).2]) :
    Calls Try.prog 4 #[.slice b.base b.len b.cap, .slice l.base l.len l.cap] w fun e w' => e = .returned (.bool true) ∧ Ext [] w w' := by
  refine sh_butterylaw01_CodeReads_ok _ _ _ _ ?_
  unfold sh_butterylaw01_CodeReads
  refine VIf.mk (fun hc => ⟨rfl, Ext.refl _ _⟩) (fun hc => ?_)
  simp at hc
  have hbn := hb.blen
  refine VNw.i fun nb w1 hnb hk1 e1 => ?_
  have ho : Own w w1 ⟨some ⟨nb, 0, none⟩, 0, 0⟩ [] := ⟨Row.of_bk (size := 1) hk1 rfl (by omega), by simp [rowB]; omega⟩
  refine VApp.own (s := ⟨some ⟨nb, 0, none⟩, 0, 0⟩) ho e1 (hb.ext0 e1) hbn.symm (by simp; omega) fun s2 w2 h2 e2 _ => ?_
  refine VCall.i (NewReader_spec s2 bs w2 h2.seg (by omega)) ?_
  rintro e w3 ⟨r, q, d, rfl, h3, e3, hr, hq, hd⟩
  refine exW.i1 (t := .ptr) _ rfl ?_
  have h23 := h2.ext0 e3
  have E3 := e2.then0 e3
  have z2 := e2.size
  have h2lt := h2.1.lt
  have h2len : s2.len = bs.length := by simpa using h2.len
  -- what was handed in to the reader is written over
  refine ⟨fun k i W => ∃ (j : Nat) (m : List UInt8), i = (j : Int) ∧ j ≤ s2.len ∧ k = s2.len - j ∧ Own w W s2 m ∧ m.length = bs.length ∧ RepC W r q d (some bs) ∧ Ext [] w W, ⟨_, 0, bs, rfl, by omega, rfl, h23, rfl, h3, E3⟩, ?_⟩
  clear h3 E3 e3 h23
  rintro k i w4 ⟨j, m, rfl, hj, rfl, h4, hm, hr4, e4⟩
  refine VIf.mk (fun hc1 => ?_) (fun hc1 => ?_)
  · simp at hc1
    obtain ⟨c, rest, hbase, hk4, hcw⟩ := h4.bk (by omega)
    have hc2 := h2lt c (by simp [rowB, hbase])
    rw [hbase]
    refine VIx.i (by omega) (by omega) ?_
    simp only [add_blk, Int.toNat_natCast, Nat.zero_add, Nat.mul_one]
    refine VSt.bk hk4 rfl (by simp only [List.length_append, bc_len, List.length_singleton]; omega) fun w5 hk5 e5 => ?_
    rw [w64 (show -9223372036854775808 ≤ (j : Int) + 1 ∧ (j : Int) + 1 ≤ 9223372036854775807 by omega)]
    refine VSet.i ⟨_, by omega, j + 1, m.set j 5, by omega, by omega, rfl, ?_, by simp [hm], hr4.ext e5 (by simp; omega) (by simp; omega) (by simp; omega), e4.then e5 (by simp; omega)⟩
    obtain ⟨⟨g1, g2, g3, g4⟩, g5⟩ := h4
    have hset : (bc m ++ rest).take j ++ [Value.int .u8 5] ++ (bc m ++ rest).drop (j + [Value.int .u8 5].length) = bc (m.set j 5) ++ rest := by
      rw [List.take_append_of_le_length (by rw [bc_len]; omega), List.drop_append_of_le_length (by rw [bc_len]; simp; omega), bc_take, bc_drop]
      rw [List.set_eq_take_append_cons_drop, if_pos (by omega)]
      simp [bc]
    rw [hset] at hk5
    refine ⟨⟨by rw [bc_len, List.length_set, ← bc_len]; exact g1, g2, g3, .inr ⟨c, rest, hbase, hk5, ?_⟩⟩, g5⟩
    rcases g4 with ⟨_, h6⟩ | ⟨b', rest', hb', hk', hl'⟩
    · omega
    · rw [hbase] at hb'
      cases hb'
      obtain ⟨fr, h7, _⟩ := hk4
      obtain ⟨fr', h8, _⟩ := hk'
      rw [h7] at h8
      have h10 : rest = rest' := by simp at h8; exact h8.1
      rw [bc_len, List.length_set, ← bc_len m, h10]; exact hl'
  · -- the document's reader
    clear hc1 h4 hj hm
    refine VNw.i fun nb2 w6 hnb2 hk6 e6 => ?_
    have E6 := e4.then0 e6
    have z4 := e4.size
    have ho2 : Own w w6 ⟨some ⟨nb2, 0, none⟩, 0, 0⟩ [] := ⟨Row.of_bk (size := 1) hk6 rfl (by omega), by simp [rowB]; omega⟩
    refine VApp.own (s := ⟨some ⟨nb2, 0, none⟩, 0, 0⟩) ho2 E6 (hb.ext0 E6) hbn.symm (by simp; omega) fun s7 w7 h7 e7 e67 => ?_
    have hr6 := hr4.ext0 e6
    have hr7 : RepC w7 r q d (some bs) := by
      have hlt : r < w4.heap.size ∧ q < w4.heap.size := by
        obtain ⟨s, fb, l', g1, g2, _⟩ := hr4
        exact ⟨g1.lt, g2.lt⟩
      obtain ⟨s, fb, l', g1, g2, g3, g4⟩ := hr6
      have hdd : s.len ≠ 0 → d ∉ rowB (⟨some ⟨nb2, 0, none⟩, 0, 0⟩ : Sl) := by
        intro hz
        obtain ⟨s', fb', l'', k1, k2, k3, k4⟩ := hr4
        have hs' : s'.len ≠ 0 := by
          intro h0
          have k5 : Bk w6 q [.slice s'.base s'.len s'.cap, .bool fb'] 57 := k2.ext e6 (by simp)
          obtain ⟨fr, x1, _⟩ := k5
          obtain ⟨fr', x2, _⟩ := g2
          rw [x1] at x2
          simp at x2
          omega
        obtain ⟨_, _, _, k6⟩ := k3
        rcases k6 with k6 | ⟨_, _, _, k7, _⟩
        · exact absurd k6 hs'
        · have := k7.lt
          simp [rowB]; omega
      exact ⟨s, fb, l', g1.ext e67 (by simp [rowB]; omega), g2.ext e67 (by simp [rowB]; omega), g3.ext e67 hdd, g4⟩
    refine VNw.i fun x w8 hx hk8 e8 => ?_
    have E8 := e7.then0 e8
    have z7 := e7.size
    have h78 := h7.ext0 e8
    obtain ⟨dx, hdx, hbx⟩ := h78.bsl x (by omega)
    have hX8 : RepX w8 x dx (some bs) := ⟨s7, false, bs, hk8, hbx, rfl, fun h => by cases h⟩
    have hr8 := hr7.ext0 e8
    -- the two readers' blocks are apart
    have apart : ∀ {W : World} {st st' : Option (List UInt8)}, RepC W r q d st → RepX W x dx st' → r ≠ x ∧ q ≠ x := by
      rintro W st st' ⟨_, _, _, k1, k2, _⟩ ⟨_, _, _, k3, _⟩
      exact ⟨k1.ne' k3 (by decide), k2.ne' k3 (by decide)⟩
    have stepC : ∀ {W W' : World} {st : Option (List UInt8)}, RepC W r q d st → Ext [x] W W' → (∃ st', RepX W x dx st') → RepC W' r q d st := by
      rintro W W' st h e ⟨st', hx'⟩
      obtain ⟨h1, h2⟩ := apart h hx'
      obtain ⟨s, fb, l', g1, g2, g3, g4⟩ := h
      obtain ⟨_, _, _, k3, _⟩ := hx'
      exact ⟨s, fb, l', g1.ext e (by simpa using h1), g2.ext e (by simpa using h2), g3.ext e (fun hz => by simpa using g3.ne k3 (by decide) hz), g4⟩
    have stepX : ∀ {W W' : World} {st : Option (List UInt8)}, RepX W x dx st → Ext [q] W W' → (∃ st', RepC W r q d st') → RepX W' x dx st := by
      rintro W W' st h e ⟨st', hc'⟩
      obtain ⟨h1, h2⟩ := apart hc' h
      obtain ⟨s, fb, l', g1, g3, g4⟩ := h
      obtain ⟨_, _, _, _, k3, _⟩ := hc'
      exact ⟨s, fb, l', g1.ext e (by simpa using Ne.symm h2), g3.ext e (fun hz => by simpa using g3.ne k3 (by decide) hz), g4⟩
    refine ⟨fun W => Ext [] w W, ?_, fun w25 e25 => ⟨rfl, e25⟩⟩
    refine ⟨fun k i W => ∃ (j : Nat) (st : Option (List UInt8)), i = (j : Int) ∧ j ≤ l.len ∧ k = l.len - j ∧ RepC W r q d st ∧ RepX W x dx st ∧ Ext [] w W, ⟨_, 0, some bs, rfl, by omega, rfl, hr8, hX8, E8⟩, ?_⟩
    clear hr8 hX8 hbx h78 hk8 hr7 hr6 hr4 h7 hk6 ho2 hb hk1 ho h2 e1 e2 e4 E6 e6 e7 E8 e8 e67
    rintro k i w9 ⟨j, st, rfl, hj, rfl, hC, hX, e9⟩
    refine VIf.t (by simp; omega) ?_
    intro w10 hw10
    have e10 := Ext.drew' hw10
    have hC := hC.ext0 e10
    have hX := hX.ext0 e10
    have E10 := e9.then0 e10
    clear e9 e10 hw10
    have hX' := hX
    obtain ⟨sx, fx, lx, hkx, hsx, hstx, hfx⟩ := hX'
    refine VNN.i ?_
    rw [add_blk]
    refine VLd.i1 (t := .bool) fx (Rd.of_bk hkx rfl) ?_
    refine VCall.i (rOK_spec r q d st w10 hC) ?_
    rintro e w11 ⟨rfl, rfl⟩
    refine exW.i1 _ rfl ⟨Rd.of_bk hkx rfl, ?_⟩
    have hok : (st.isSome == (!fx)) = true := by subst hstx; cases fx <;> rfl
    simp only [hok]
    refine VNN.i (VLd.sl _ _ _ (Rd.of_bk hkx rfl) ?_)
    refine VCall.on rfl (VCall.i (rLeft_spec r q d st w11 hC) ?_)
    rintro e w12 ⟨rfl, rfl⟩
    refine exW.i1 _ rfl ⟨fun _ => Rd.of_bk hkx rfl, ?_⟩
    have hlen : ((((st.getD []).length : Nat) : Int) != ((sx.len : Nat) : Int)) = false := by
      have : (st.getD []).length = sx.len := by
        rw [hsx.1]; subst hstx
        cases fx with
        | false => rfl
        | true => rw [hfx rfl]; rfl
      rw [this]; simp
    simp only [hlen]
    refine VNN.i ?_
    rw [add_blk]
    refine VLd.i1 (t := .bool) fx (Rd.of_bk hkx rfl) ?_
    refine VCall.on rfl (VCall.i (rDone_spec r q d st w12 hC) ?_)
    rintro e w13 ⟨rfl, rfl⟩
    refine exW.i1 _ rfl ⟨fun _ => Rd.of_bk hkx rfl, ?_⟩
    refine VNN.i (VLd.sl _ _ _ (Rd.of_bk hkx rfl) ?_)
    have hdone : rDone st = ((!fx) && (((sx.len : Nat) : Int) == 0)) := by
      rw [hsx.1]; subst hstx
      cases fx with
      | true => rfl
      | false => cases lx <;> simp [rDone] <;> omega
    refine VIf.f (by show ((false || false) || (!(rDone st == ((!fx) && (((sx.len : Nat) : Int) == 0))))) = false; rw [hdone]; simp) ?_
    refine VIf.mk (fun hc2 => E10) (fun hc2 => ?_)
    simp only [beq_eq_false_iff_ne, ne_eq] at hc2
    obtain ⟨a0, hbase, hrd⟩ := hf j (by omega)
    have hrd13 := hrd.ext E10 (by simp)
    have hlt0 := hrd 0 _ rfl
    have hablk : a0.block < w.heap.size := by
      unfold World.cell? at hlt0
      cases hb : w.heap[((a0.add (j * 2)).add 0).block]? with
      | none => rw [hb] at hlt0; simp at hlt0
      | some o => simpa using (Array.getElem?_eq_some_iff.1 hb).1
    rw [hbase]
    refine VIx.i (by omega) (by omega) ?_
    simp only [Int.toNat_natCast]
    refine VLd.i1 (f j).1 (fun q v hq => hrd13 q v (by cases q <;> simp_all [CT.val])) ?_
    refine ⟨fun W => ∃ st, RepC W r q d st ∧ RepX W x dx st ∧ Ext [] w W, ?_, ?_⟩
    · refine VIf.mk (fun hk1 => ?_) (fun hk1 => VIf.mk (fun hk2 => ?_) (fun hk2 => VIf.mk (fun hk3 => ?_) (fun hk3 => ?_)))
      · refine VCall.i (rNum_spec r q d st w13 hC) ?_
        rintro e w14 ⟨rfl, h14, e14⟩
        refine exW.i1 _ rfl ?_
        have hX14 := stepX hX e14 ⟨_, hC⟩
        refine VCall.i (xNum_spec x dx st w14 hX14) ?_
        rintro e w15 ⟨rfl, h15, e15⟩
        refine exW.i1 _ rfl (VIf.f (by simp) ⟨_, stepC h14 e15 ⟨_, hX14⟩, h15, (E10.then e14 (by simp; omega)).then e15 (by simp; omega)⟩)
      · intro w16 hw16
        have e16 := Ext.drew' hw16
        have hC := hC.ext0 e16
        have hX := hX.ext0 e16
        have E16 := E10.then0 e16
        have hrd16 := hrd.ext E16 (by simp)
        have hm : Rd w16 ((a0.add (j * 2)).add 1) [.int .i64 (f j).2] := hrd16.drop (i := 1) (by intro q v hq; cases q <;> simp_all)
        refine VIx.i (by omega) (by omega) ?_
        simp only [Int.toNat_natCast]
        refine VLd.i1 (f j).2 hm ?_
        refine VIx.i (by omega) (by omega) ?_
        refine VLd.i1 (f j).2 hm ?_
        refine VCall.i (rCount_spec r q d (f j).2 st w16 hC) ?_
        rintro e w17 ⟨rfl, h17, e17⟩
        refine exW.i1 _ rfl ⟨hm.ext e17 (by simp; omega), ?_⟩
        have hX17 := stepX hX e17 ⟨_, hC⟩
        refine VCall.i (xCount_spec x dx (f j).2 st w17 hX17) ?_
        rintro e w18 ⟨rfl, h18, e18⟩
        refine exW.i1 _ rfl (VIf.f (by simp) ⟨_, stepC h17 e18 ⟨_, hX17⟩, h18, (E16.then e17 (by simp; omega)).then e18 (by simp; omega)⟩)
      · intro w16 hw16
        have e16 := Ext.drew' hw16
        have hC := hC.ext0 e16
        have hX := hX.ext0 e16
        have E16 := E10.then0 e16
        have hrd16 := hrd.ext E16 (by simp)
        have hm : Rd w16 ((a0.add (j * 2)).add 1) [.int .i64 (f j).2] := hrd16.drop (i := 1) (by intro q v hq; cases q <;> simp_all)
        refine VIx.i (by omega) (by omega) ?_
        simp only [Int.toNat_natCast]
        refine VLd.i1 (f j).2 hm ?_
        refine VIx.i (by omega) (by omega) ?_
        refine VLd.i1 (f j).2 hm ?_
        refine VCall.i (rStr_spec r q d (f j).2 st w16 hC) ?_
        rintro e w17 ⟨rfl, h17, e17⟩
        refine exW.i1 (t := .str) _ rfl ⟨hm.ext e17 (by simp; omega), ?_⟩
        have hX17 := stepX hX e17 ⟨_, hC⟩
        refine VCall.i (xStr_spec x dx (f j).2 st w17 hX17) ?_
        rintro e w18 ⟨rfl, h18, e18⟩
        refine exW.i1 (t := .str) _ rfl (VIf.f (by simp) ⟨_, stepC h17 e18 ⟨_, hX17⟩, h18, (E16.then e17 (by simp; omega)).then e18 (by simp; omega)⟩)
      · refine VCall.i (rFlag_spec r q d st w13 hC) ?_
        rintro e w14 ⟨rfl, h14, e14⟩
        refine exW.i1 _ rfl ?_
        have hX14 := stepX hX e14 ⟨_, hC⟩
        refine VCall.i (xFlag_spec x dx st w14 hX14) ?_
        rintro e w15 ⟨rfl, h15, e15⟩
        refine exW.i1 _ rfl (VIf.f (by simp) ⟨_, stepC h14 e15 ⟨_, hX14⟩, h15, (E10.then e14 (by simp; omega)).then e15 (by simp; omega)⟩)
    · rintro w24 ⟨st', h1, h2, e24⟩
      rw [w64 (show -9223372036854775808 ≤ (j : Int) + 1 ∧ (j : Int) + 1 ≤ 9223372036854775807 by omega)]
      exact VSet.i ⟨_, by omega, j + 1, st', by omega, by omega, rfl, h1, h2, e24⟩
end Go.Proofs.Ytfanmhgmncfloaa
