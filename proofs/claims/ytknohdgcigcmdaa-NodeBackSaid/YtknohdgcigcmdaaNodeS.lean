/-
  Package node, the document's: a node is read.
-/
import Derived.Test.YtknohdgcigcmdaaNodeR
namespace Go.Proofs.Ytknohdgcigcmdaa
open Go.RowKit
set_option maxRecDepth 100000

theorem XReader_spec (s : Sl) (l : List UInt8) (w : World) (h : Seg w s.base s.len 1 (bc l)) (hl : l.length ≤ 140737488355328) :
    Calls Try.prog 46 #[.slice s.base s.len s.cap] w fun e w' => ∃ x d : Nat, e = .returned (.pointer (some ⟨x, 0, none⟩)) ∧ RepX w' x d (some l) ∧ Ext [] w w' ∧ w.heap.size ≤ x ∧ w.heap.size ≤ d := by
  refine sh_butteryref01_NewReader_ok _ _ _ ?_
  unfold sh_butteryref01_NewReader
  refine VNw.i fun b w1 hb hk e1 => ?_
  refine VApp.clone hb hk e1 h hl fun s2 w2 h2 e2 => ?_
  refine VNw.i fun x w3 hx hk3 e3 => ?_
  have z2 := e2.size
  obtain ⟨d, hd, hb⟩ := (h2.ext0 e3).bsl x (by omega)
  exact ⟨x, d, rfl, ⟨s2, false, l, hk3, hb, rfl, by simp⟩, e2.then0 e3, by omega, hd⟩
theorem xOK_spec (x d : Nat) (st : Option (List UInt8)) (w : World) (h : RepX w x d st) : Calls Try.prog 49 #[.pointer (some ⟨x, 0, none⟩)] w fun e w' => e = .returned (.bool st.isSome) ∧ w' = w := by
  refine sh_butteryref01_Reader_OK_ok _ _ _ ?_
  unfold sh_butteryref01_Reader_OK
  obtain ⟨s, f, l, hx, hs, hst, hf⟩ := h
  refine VNN.i (VLd.i1 (t := .bool) f (Rd.of_bk hx rfl) ⟨?_, rfl⟩)
  subst hst
  cases f <;> rfl
theorem xLeft_spec (x d : Nat) (st : Option (List UInt8)) (w : World) (h : RepX w x d st) : Calls Try.prog 51 #[.pointer (some ⟨x, 0, none⟩)] w fun e w' => e = .returned (.int .i64 ((lenO st : Nat) : Int)) ∧ w' = w := by
  refine sh_butteryref01_Reader_Left_ok _ _ _ ?_
  unfold sh_butteryref01_Reader_Left
  obtain ⟨s, f, l, hx, hs, hst, hf⟩ := h
  have hl := hs.1
  refine VNN.i (VLd.s s (Rd.of_bk hx rfl) (VSet.i ⟨?_, rfl⟩))
  subst hst
  rw [hl]
  cases f with
  | true => rw [hf rfl]; rfl
  | false => rfl
theorem RepX.extT {w w' : World} {x d : Nat} {st : Option (List UInt8)} {M : List Nat} (h : RepX w x d st) (e : Ext M w w') (hM : ∀ b ∈ M, b < w.heap.size → ∃ cs t, Bk w b cs t ∧ t ≠ 100 ∧ t ≠ 5) : RepX w' x d st := by
  obtain ⟨s, f, l, hx, hs, hst⟩ := h
  refine ⟨s, f, l, hx.ext e fun hi => ?_, hs.ext e (fun hn hi => ?_), hst⟩
  · obtain ⟨cs, t, hb, h1, h3⟩ := hM _ hi hx.lt
    exact hb.neT hx h1 rfl
  · rcases hs.2.2.2 with h0 | ⟨off, cells, _, hb2, _⟩
    · exact hn h0
    · obtain ⟨cs, t, hb, h1, h3⟩ := hM _ hi hb2.lt
      exact hb.neT hb2 h3 rfl
theorem RepX.bkx {w : World} {x d : Nat} {st : Option (List UInt8)} (h : RepX w x d st) : ∃ cs, Bk w x cs 100 := by
  obtain ⟨s, f, l, hx, hs, hst⟩ := h
  exact ⟨_, hx⟩
set_option maxHeartbeats 4000000 in
theorem xDecode_spec (s : Sl) (l : List UInt8) (w : World) (h : In w s l) : Calls Try.prog 27 #[.slice s.base s.len s.cap] w fun e w' =>
      ∃ c k : Sl, e = .returned (.tuple #[.agg (nhC (decN l).1.leaf c k).toArray, .int .i64 (decN l).2]) ∧ OwnN 47 w w' c k (decN l).1 ∧ Ext [] w w' := by
  refine sh_butteryref06_Decode_ok _ _ _ ?_
  unfold sh_butteryref06_Decode
  have hl := h.len
  have hcap := h.2
  refine VNw.i fun b2 w1 hb2 hk1 e1 => ?_
  have hk1 : Bk w1 b2 (nhC false ⟨none, 0, 0⟩ ⟨none, 0, 0⟩) 25 := hk1
  have lb2 := hk1.lt
  refine VIf.mk (fun hd => ?_) (fun hd => ?_)
  · have hd : 512 < l.length := by rw [hl] at hd; simp at hd; omega
    have hr : decN l = (zNd, 4) := by unfold decN; rw [if_pos hd]
    rw [hr]
    refine VSt.bk hk1 rfl (by simp [nhC]) fun w2 hk2 e2 => ?_
    have hk2 : Bk w2 b2 (nhC false ⟨none, 0, 0⟩ ⟨none, 0, 0⟩) 25 := hk2
    exact VLd.nh false ⟨none, 0, 0⟩ ⟨none, 0, 0⟩ (Rd.of_bk hk2 rfl) ⟨⟨none, 0, 0⟩, ⟨none, 0, 0⟩, rfl, OwnN.nil _ _ _ _, e1.then e2 (fun i hi hlt => by simp at hi; omega)⟩
  have hd : ¬ 512 < l.length := by rw [hl] at hd; simp at hd; omega
  have hdec : decN l = if goodR l then (rawN l, 0) else (zNd, 4) := by unfold decN; rw [if_neg hd]
  refine VCall.i (XReader_spec s l w1 (h.ext0 e1).1 (by omega)) ?_
  rintro e w3 ⟨r, d, rfl, h3, e3, gr, gd⟩
  refine exW.i1 (t := .ptr) _ rfl (VCall.i (xFlag_spec r d _ w3 h3) ?_)
  rintro e w4 ⟨rfl, h4, e4⟩
  refine exW.i1 (t := .bool) _ rfl ?_
  have z1 := e1.size
  have z3 := e3.size
  have z4 := e4.size
  have hb4 := (hk1.ext e3).ext e4 (by simp; omega)
  refine VNw.i fun nb w5 hnb hk5 e5 => VSt.bk hk5 rfl (by simp) fun w6 hk6 e6 => ?_
  have hk6 : Bk w6 nb (nhC (leafR l) ⟨none, 0, 0⟩ ⟨none, 0, 0⟩) 25 := hk6
  have e46 : Ext [] w4 w6 := e5.then e6 (fun i hi hlt => by simp at hi; omega)
  have h6 := h4.ext0 e46
  have e06 : Ext [] w w6 := ((e1.then0 e3).then e4 (fun i hi hlt => by simp at hi; omega)).then0 e46
  have gq0 : w.heap.size ≤ r := by omega
  have D6 : DS 47 25 w w6 nb b2 (leafR l) ⟨none, 0, 0⟩ ⟨none, 0, 0⟩ [] [] := ⟨hk6, hb4.ext e46, OwnR.nil _ _ _ _, OwnR.nil _ _ _ _, e06, by omega, by omega⟩
  have stepR : ∀ {W W' : World} {c k : Sl} {X : List Ce} {Y : List Int} {st : Option (List UInt8)}, DS 47 25 w W nb b2 (leafR l) c k X Y → RepX W r d st → Ext [r] W W' → DS 47 25 w W' nb b2 (leafR l) c k X Y := fun D R e => by
    obtain ⟨cs, hq⟩ := R.bkx
    exact D.rd hq gq0 (by decide) (by decide) (by decide) e
  refine VCall.i (xCount_spec r d 512 _ w6 h6) ?_
  rintro e w7 ⟨rfl, h7, e7⟩
  refine exW.i1 (t := .int .i64) _ rfl ?_
  have D7 := stepR D6 h6 e7
  obtain ⟨hcnt, hcn2⟩ := cntR_le l
  rw [hcnt]
  refine VSet.i ?_
  have keepR : ∀ {W W' : World} {st : Option (List UInt8)} {M : List Nat}, RepX W r d st → Ext M W W' → (∀ i ∈ M, ∃ cs t, Bk W i cs t ∧ (t = 47 ∨ t = 25 ∨ t = 3)) → RepX W' r d st := fun R e hM => R.extT e fun b hb _ => by
    obtain ⟨cs, t, hk, ht⟩ := hM b hb
    refine ⟨cs, t, hk, ?_⟩
    rcases ht with rfl | rfl | rfl <;> exact ⟨by decide, by decide⟩
  -- the cells
  refine ⟨fun kk i W => ∃ (m : Nat) (X : List Ce) (st : Option (List UInt8)) (c : Sl), i = (m : Int) ∧ m ≤ cntR l ∧ kk = cntR l - m ∧ X.length = m ∧ csR l = (X ++ (rCes (leafR l) (cntR l - m) st).1, (rCes (leafR l) (cntR l - m) st).2) ∧ DS 47 25 w W nb b2 (leafR l) c ⟨none, 0, 0⟩ X [] ∧ RepX W r d st, ⟨_, 0, [], _, ⟨none, 0, 0⟩, rfl, by omega, rfl, rfl, rfl, D7, h7⟩, ?_⟩
  rintro kk i w8 ⟨m, X, st, c, rfl, hm, rfl, hXl, hcs, D8, R8⟩
  refine VCall.pure (xOK_spec r d st w8 R8) (exW.i1 (t := .bool) _ rfl (VIf.mk (fun hd2 => ?_) (fun hd2 => ?_)))
  · have hd2 : m < cntR l ∧ st.isSome = true := by simpa using hd2
    obtain ⟨hm', hso⟩ := hd2
    obtain ⟨lx, rfl⟩ : ∃ lx, st = some lx := Option.isSome_iff_exists.1 hso
    refine VCall.i (xStr_spec r d 48 _ w8 R8) ?_
    rintro e w10 ⟨rfl, R10, e10⟩
    have D10 := stepR D8 R8 e10
    refine exW.i1 (t := .str) _ rfl ?_
    refine VNw.i fun cb w11 hcb hk11 e11 => VSt.bk hk11 rfl (by simp) fun w12 hk12 e12 => ?_
    have hk12 : Bk w12 cb (ceC ⟨(rStr 48 (some lx)).1, ByteArray.empty, 0, 0⟩) 47 := hk12
    have e1012 : Ext [] w10 w12 := e11.then e12 (fun i hi hlt => by simp at hi; omega)
    have D12 := D10.ext0 e1012
    have R12 := R10.ext0 e1012
    have gcb : w.heap.size ≤ cb := by have := D10.e.size; omega
    have stepC : ∀ {W W' : World} {cs : List Value} {st : Option (List UInt8)}, Bk W cb cs 47 → RepX W r d st → Ext [r] W W' → Bk W' cb cs 47 := fun hb R e => hb.ext e (by
      obtain ⟨cs2, hq⟩ := R.bkx
      simp
      exact hb.neT hq (by decide))
    have nbc : cb ≠ nb := hk12.neT D12.n (by decide)
    have nb2 : cb ≠ b2 := hk12.neT D12.z (by decide)
    have ncc : ∀ b ∈ rowB c, b ≠ cb := fun b hb e => by
      have := D10.co.1.lt b hb
      omega
    have storeC : ∀ {W W' : World} {cs : List Value} {st : Option (List UInt8)} , DS 47 25 w W nb b2 (leafR l) c ⟨none, 0, 0⟩ X [] → Bk W cb cs 47 → RepX W r d st → Ext [cb] W W' → DS 47 25 w W' nb b2 (leafR l) c ⟨none, 0, 0⟩ X [] ∧ RepX W' r d st := fun D hb R e =>
      ⟨⟨D.n.ext e (by simpa using fun e => nbc e.symm), D.z.ext e (by simpa using fun e => nb2 e.symm), D.co.ext e (fun b hb' hm => by simp at hm; exact ncc b hb' hm), OwnR.nil _ _ _ _, D.e.then e (fun i hi hlt => by simp at hi; omega), D.gn, D.ne⟩, R.extT e fun b hb' _ => by simp at hb'; subst hb'; exact ⟨_, _, hb, by decide, by decide⟩⟩
    refine ⟨fun W => DS 47 25 w W nb b2 (leafR l) c ⟨none, 0, 0⟩ X [] ∧ Bk W cb (ceC (rCe (leafR l) (some lx)).1) 47 ∧ RepX W r d (rCe (leafR l) (some lx)).2, ?_, ?_⟩
    · refine VLd.i1 (t := .bool) (leafR l) (Rd.of_bk D12.n rfl) (VIf.mk (fun hq => ?_) (fun hq => ?_))
      · have hq' : ¬ leafR l = false := by rw [hq]; simp
        refine VCall.i (xCount_spec r d 2147483647 _ w12 R12) ?_
        rintro e w13 ⟨rfl, R13, e13⟩
        have D13 := stepR D12 R12 e13
        have hk13 := stepC hk12 R12 e13
        refine exW.i1 (t := .int .i64) _ rfl (VSt.bk hk13 rfl (by simp [ceC]) fun w14 hk14 e14 => ?_)
        have hk14 : Bk w14 cb (ceC ⟨(rStr 48 (some lx)).1, ByteArray.empty, (rCount 2147483647 (rStr 48 (some lx)).2).1, 0⟩) 47 := hk14
        obtain ⟨D14, R14⟩ := storeC D13 hk13 R13 e14
        refine VLd.i1 (t := .int .i64) _ (Rd.of_bk hk14 rfl) (VIf.mk (fun h0 => ?_) (fun h0 => ?_))
        · have h0 : (rCount 2147483647 (rStr 48 (some lx)).2).1 = 0 := by simpa using h0
          have hc : rCe (leafR l) (some lx) = (⟨(rStr 48 (some lx)).1, (rStr 64 (rCount 2147483647 (rStr 48 (some lx)).2).2).1, 0, 0⟩, (rStr 64 (rCount 2147483647 (rStr 48 (some lx)).2).2).2) := by unfold rCe; rw [if_neg hq', if_pos h0]
          rw [hc]
          refine VCall.i (xStr_spec r d 64 _ w14 R14) ?_
          rintro e w15 ⟨rfl, R15, e15⟩
          have D15 := stepR D14 R14 e15
          have hk15 := stepC hk14 R14 e15
          refine exW.i1 (t := .str) _ rfl (VSt.bk hk15 rfl (by simp [ceC]) fun w16 hk16 e16 => ?_)
          obtain ⟨D16, R16⟩ := storeC D15 hk15 R15 e16
          rw [h0] at hk16
          exact ⟨D16, hk16, R16⟩
        · have h0 : ¬ (rCount 2147483647 (rStr 48 (some lx)).2).1 = 0 := by simpa using h0
          have hc : rCe (leafR l) (some lx) = (⟨(rStr 48 (some lx)).1, ByteArray.empty, (rCount 2147483647 (rStr 48 (some lx)).2).1, (rCount 2147483647 (rCount 2147483647 (rStr 48 (some lx)).2).2).1⟩, (rCount 2147483647 (rCount 2147483647 (rStr 48 (some lx)).2).2).2) := by unfold rCe; rw [if_neg hq', if_neg h0]
          rw [hc]
          refine VCall.i (xCount_spec r d 2147483647 _ w14 R14) ?_
          rintro e w15 ⟨rfl, R15, e15⟩
          have D15 := stepR D14 R14 e15
          have hk15 := stepC hk14 R14 e15
          refine exW.i1 (t := .int .i64) _ rfl (VSt.bk hk15 rfl (by simp [ceC]) fun w16 hk16 e16 => ?_)
          obtain ⟨D16, R16⟩ := storeC D15 hk15 R15 e16
          exact ⟨D16, hk16, R16⟩
      · have hc : rCe (leafR l) (some lx) = (⟨(rStr 48 (some lx)).1, ByteArray.empty, 0, 0⟩, (rStr 48 (some lx)).2) := by unfold rCe; rw [if_pos hq]
        rw [hc]
        exact ⟨D12, hk12, R12⟩
    · rintro w19 ⟨D19, hk19, R19⟩
      refine VLd.s c (Rd.of_bk D19.n rfl) (VLd.ce _ (Rd.of_bk hk19 rfl) ?_)
      refine VNw.i fun b51 w20 hb51 hk51 e20 => ?_
      have hk51 : Bk w20 b51 (ceC (rCe (leafR l) (some lx)).1) 47 := hk51
      refine (D19.ext0 e20).cell hk51 (by omega) (by decide) (by decide) (by decide) fun c' w21 D21 e21 hM => ?_
      have R21 := keepR (R19.ext0 e20) e21 hM
      rw [w64 (n := (m : Int) + 1) (by omega)]
      refine VSet.i ⟨_, (show cntR l - (m + 1) < cntR l - m by omega), m + 1, X ++ [(rCe (leafR l) (some lx)).1], (rCe (leafR l) (some lx)).2, c', rfl, by omega, rfl, by rw [List.length_append, hXl]; rfl, ?_, D21, R21⟩
      rw [hcs, show cntR l - m = (cntR l - (m + 1)) + 1 by omega]
      simp only [rCes, List.append_assoc, List.cons_append, List.nil_append]
  have hcsl : csR l = (X, st) := by
    rw [hcs]
    cases st with
    | none => rw [rCes_none, List.append_nil]
    | some lx =>
      have hmm : m = cntR l := by
        have : ¬ (m < cntR l ∧ (some lx).isSome = true) := by simpa using hd2
        simp at this; omega
      rw [hmm, Nat.sub_self]
      simp [rCes]
  have hN : st.isSome = true → X.length = cntR l := fun hso => by
    have h1 := (rCes_len (leafR l) (cntR l) (rCount 512 (rCount 1 (some l)).2).2).2.1
    have h2 : (rCes (leafR l) (cntR l) (rCount 512 (rCount 1 (some l)).2).2) = (X, st) := hcsl
    rw [h2] at h1
    exact h1 (by intro e; have e : st = none := e; rw [e] at hso; cases hso)
  have hcl : X.length ≤ 512 := by omega
  -- the kids
  refine ⟨fun kk i W => ∃ (m2 : Nat) (Y : List Int) (s2 : Option (List UInt8)) (k : Sl), i = (m2 : Int) ∧ m2 ≤ cntR l + 1 ∧ kk = cntR l + 1 - m2 ∧ Y.length = m2 ∧ (leafR l = true → Y = [] ∧ s2 = st) ∧ (s2.isSome = true → X.length = cntR l) ∧ (leafR l = false → rKs (X.length + 1) st = (Y ++ (rKs (X.length + 1 - m2) s2).1, (rKs (X.length + 1 - m2) s2).2)) ∧ DS 47 25 w W nb b2 (leafR l) c k X Y ∧ RepX W r d s2, ⟨_, 0, [], _, ⟨none, 0, 0⟩, rfl, by omega, rfl, rfl, fun _ => ⟨rfl, rfl⟩, hN, fun _ => rfl, D8, R8⟩, ?_⟩
  rintro kk i w16 ⟨m2, Y, s2, k, rfl, hm2, rfl, hYl, hlf, hN2, hnl, D16, R16⟩
  refine VCall.pure (xOK_spec r d s2 w16 R16) (exW.i1 (t := .bool) _ rfl (VLd.i1 (t := .bool) (leafR l) (Rd.of_bk D16.n rfl) (VIf.mk (fun hd3 => ?_) (fun hd3 => ?_))))
  · have hd3 : (m2 ≤ cntR l ∧ s2.isSome = true) ∧ leafR l = false := by simpa using hd3
    obtain ⟨⟨hm', hso⟩, hlq⟩ := hd3
    have hXN := hN2 hso
    obtain ⟨lx, rfl⟩ : ∃ lx, s2 = some lx := Option.isSome_iff_exists.1 hso
    intro w18 hw18
    have ed := Ext.drew' hw18
    have D18 := D16.ext0 ed
    have R18 := R16.ext0 ed
    refine VLd.s k (Rd.of_bk D18.n rfl) ?_
    refine VCall.i (xCount_spec r d 2147483647 _ w18 R18) ?_
    rintro e w19 ⟨rfl, R19, e19⟩
    have D19 := stepR D18 R18 e19
    refine exW.i1 (t := .int .i64) _ rfl ⟨Rd.of_bk D19.n rfl, ?_⟩
    refine VNw.i fun b54 w20 hb54 hk54 e20 => ⟨Rd.of_bk (D19.n.ext e20) rfl, ?_⟩
    refine (D19.ext0 e20).kid hk54 (by omega) (by decide) (by decide) (by decide) fun k' w21 D21 e21 hM => ?_
    have R21 := keepR (R19.ext0 e20) e21 hM
    rw [w64 (n := (m2 : Int) + 1) (by omega)]
    refine VSet.i ⟨_, (show cntR l + 1 - (m2 + 1) < cntR l + 1 - m2 by omega), m2 + 1, Y ++ [(rCount 2147483647 (some lx)).1], (rCount 2147483647 (some lx)).2, k', rfl, by omega, rfl, by rw [List.length_append, hYl]; rfl, fun hq => (by rw [hlq] at hq; cases hq), fun _ => hXN, fun _ => ?_, D21, R21⟩
    rw [hnl hlq, show X.length + 1 - m2 = (X.length + 1 - (m2 + 1)) + 1 by omega]
    simp only [rKs, List.append_assoc, List.cons_append, List.nil_append]
  have hks : ksR l = (Y, s2) := by
    unfold ksR
    rw [hcsl]
    cases hlq : leafR l with
    | true =>
      obtain ⟨g1, g2⟩ := hlf hlq
      rw [if_pos rfl, g1, g2]
    | false =>
      rw [if_neg (by simp), hnl hlq]
      have hd3 : ¬ (m2 ≤ cntR l ∧ s2.isSome = true) := by
        rw [hlq] at hd3
        simpa using hd3
      cases s2 with
      | none => rw [rKs_none]; simp
      | some lx =>
        have hXN := hN2 rfl
        have hmm : m2 = X.length + 1 := by simp at hd3; omega
        rw [hmm, Nat.sub_self]
        simp [rKs]
  have hraw : rawN l = ⟨leafR l, X, Y⟩ := by unfold rawN; rw [hks, hcsl]
  have hlo := ksR_lenO l
  rw [hks] at hlo
  have hlo : lenO s2 ≤ l.length := hlo
  have htl : tailR l = l.drop (l.length - lenO s2) := by unfold tailR; rw [hks]
  have good : goodR l = (s2.isSome && (okN (rawN l) && !(tailR l).any (fun x => x != 0))) := by unfold goodR; rw [hks]
  have hw2 : w.heap.size ≤ b2 := by omega
  have bad : ∀ {W : World}, goodR l = false → DS 47 25 w W nb b2 (leafR l) c k X Y → VSt none W ⟨b2, 0, none⟩ [.bool false, .slice none 0 0, .slice none 0 0] fun (w2 : World) => VLd none w2 ⟨b2, 0, none⟩ [CT.bool, CT.sl, CT.sl] fun (q0 : Bool) (q1 : Sl) (q2 : Sl) =>
      ∃ c k : Sl, (Ending.returned (.tuple #[.agg #[.bool q0, .slice q1.base q1.len q1.cap, .slice q2.base q2.len q2.cap], .int .i64 4]) = .returned (.tuple #[.agg (nhC (decN l).1.leaf c k).toArray, .int .i64 (decN l).2])) ∧ OwnN 47 w w2 c k (decN l).1 ∧ Ext [] w w2 := by
    intro W hg D
    rw [hdec, hg]
    exact D.no hw2 (R := fun e w' => ∃ c k : Sl, e = .returned (.tuple #[.agg (nhC zNd.leaf c k).toArray, .int .i64 4]) ∧ OwnN 47 w w' c k zNd ∧ Ext [] w w') fun W' e => ⟨⟨none, 0, 0⟩, ⟨none, 0, 0⟩, rfl, OwnN.nil _ _ _ _, e⟩
  refine VCall.pure (xOK_spec r d s2 w16 R16) (exW.i1 (t := .bool) _ rfl (VLd.nh (leafR l) c k (Rd.of_bk D16.n rfl) ?_))
  cases hst : s2 with
  | none =>
    refine VCall.off rfl (exW.i1 (t := .bool) false trivial (VIf.t rfl ?_))
    exact bad (by rw [good, hst]; rfl) D16
  | some lx =>
    have hN16 : NIn w16 c k (rawN l) := by rw [hraw]; exact ⟨D16.co.in_, D16.ko.in_⟩
    have hck := xCheck_spec c k (rawN l) w16 hN16 (by rw [hraw]; simp only; omega)
    rw [show (rawN l).leaf = leafR l from rfl] at hck
    refine VCall.on rfl (VCall.i hck ?_)
    rintro e w31 ⟨rfl, e31⟩
    have D31 := D16.ext0 e31
    have R31 := R16.ext0 e31
    rw [hst] at R31 hlo htl
    refine exW.i1 (t := .bool) _ rfl (VIf.mk (fun hq => ?_) (fun hq => ?_))
    · have hq : okN (rawN l) = false := by simpa using hq
      exact bad (by rw [good, hq, hst]; rfl) D31
    have hok : okN (rawN l) = true := by simpa using hq
    refine VCall.pure (xLeft_spec r d _ w31 R31) (exW.i1 (t := .int .i64) _ rfl ?_)
    rw [hl, w64 (n := ((l.length : Nat) : Int) - ((lenO (some lx) : Nat) : Int)) (by omega), show ((l.length : Nat) : Int) - ((lenO (some lx) : Nat) : Int) = ((l.length - lenO (some lx) : Nat) : Int) by omega]
    refine VSet.i ?_
    refine ⟨fun kk i W => ∃ q : Nat, i = (q : Int) ∧ l.length - lenO (some lx) ≤ q ∧ q ≤ l.length ∧ kk = l.length - q ∧ (∀ j (hj : j < l.length), l.length - lenO (some lx) ≤ j → j < q → l[j] = 0) ∧ W = w31, ⟨_, _, rfl, Nat.le_refl _, by omega, rfl, fun j _ h1 h2 => absurd h2 (by omega), rfl⟩, ?_⟩
    rintro kk i w34 ⟨q, rfl, hq1, hq2, rfl, hz, rfl⟩
    refine VIf.mk (fun hd4 => ?_) (fun hd4 => ?_)
    · have hq' : q < l.length := by simp at hd4; omega
      have hin := (h.ext0 D31.e).u8.1
      rw [hl] at hin
      refine VIx.i' (r := u8R) hin hq' fun a hr => VLd.i1 (t := .int .u8) (((l[q]).toNat : Nat) : Int) hr (VIf.mk (fun hx => ?_) (fun hx => ?_))
      · have hx : l[q] ≠ 0 := by
          intro e
          rw [e] at hx
          exact absurd hx (by decide)
        have hany : (tailR l).any (fun x => x != 0) = true := by
          rw [List.any_eq_true]
          refine ⟨l[q], ?_, by simpa using hx⟩
          rw [htl, List.mem_iff_getElem]
          exact ⟨q - (l.length - lenO (some lx)), by rw [List.length_drop]; omega, by rw [List.getElem_drop]; congr 1; omega⟩
        exact bad (by rw [good, hok, hst, hany]; rfl) D31
      · have hx : l[q] = 0 := by
          apply UInt8.toNat_inj.1
          have : (((l[q]).toNat : Nat) : Int) = 0 := by simpa using hx
          have h0 : (0 : UInt8).toNat = 0 := rfl
          omega
        rw [w64 (n := (q : Int) + 1) (by omega)]
        refine VSet.i ⟨_, (show l.length - (q + 1) < l.length - q by omega), q + 1, rfl, by omega, by omega, rfl, fun j hj h1 h2 => ?_, rfl⟩
        by_cases hjq : j = q
        · subst hjq; exact hx
        · exact hz j hj h1 (by omega)
    · have hqq : q = l.length := by simp at hd4; omega
      have hany : (tailR l).any (fun x => x != 0) = false := by
        rw [List.any_eq_false]
        intro x hx
        rw [htl, List.mem_iff_getElem] at hx
        obtain ⟨j, hj, rfl⟩ := hx
        rw [List.length_drop] at hj
        rw [List.getElem_drop]
        have := hz (l.length - lenO (some lx) + j) (by omega) (by omega) (by omega)
        rw [this]
        simp
      have hgd : goodR l = true := by rw [good, hok, hst, hany]; rfl
      rw [hdec, hgd]
      exact D31.yes hw2 (by decide) (by decide) (R := fun e w' => ∃ c k : Sl, e = .returned (.tuple #[.agg (nhC (rawN l).leaf c k).toArray, .int .i64 0]) ∧ OwnN 47 w w' c k (rawN l) ∧ Ext [] w w') fun W' e ho => ⟨c, k, rfl, by rw [hraw]; exact ho, e⟩
end Go.Proofs.Ytknohdgcigcmdaa
