/-
  Package node: a node is read.
-/
import Derived.Test.YtknohdgcigcmdaaNodeL
namespace Go.Proofs.Ytknohdgcigcmdaa
open Go.RowKit
set_option maxRecDepth 100000

section
variable {T U : TypeId} {w W : World} {nb b2 : Nat} {leaf : Bool} {c k : Sl} {X : List Ce} {Y : List Int}
/-- a cell is put behind -/
theorem DS.cell (h : DS T U w W nb b2 leaf c k X Y) {b : Nat} {x : Ce} (hb : Bk W b (ceC x) T) (hX : X.length ≤ 10000) (h1 : T ≠ U) (h2 : T ≠ 3) (h3 : U ≠ 3) {K : World → Prop}
    (kk : ∀ c' W', DS T U w W' nb b2 leaf c' k (X ++ [x]) Y → Ext (nb :: rowB c) W W' → (∀ i ∈ nb :: rowB c, ∃ cs t, Bk W i cs t ∧ (t = T ∨ t = U ∨ t = 3)) → K W') :
    VApp none W T 4 48 #[.string ByteArray.empty, .string ByteArray.empty, .int .i64 0, .int .i64 0] c.base c.len c.cap 1 (fun news => Seg W (some ⟨b, 0, none⟩) 1 4 news) fun (l : Sl) (w1 : World) => VSt none w1 ⟨nb, 1, none⟩ [.slice l.base l.len l.cap] K := by
  have hnT : nb ∉ rowB c := fun hi => by
    obtain ⟨_, hz⟩ := h.co.1.bk_of hi
    exact hz.neT h.n h1 rfl
  have hzT : b2 ∉ rowB c := fun hi => by
    obtain ⟨_, hz⟩ := h.co.1.bk_of hi
    exact hz.neT h.z h1 rfl
  refine VApp.rec (r := ceR) (news := [x]) h.co h.e (Seg.of_bk hb rfl rfl) rfl rfl (by omega) (by omega) fun c' w1 hc e01 e1 hbl => ?_
  have hn1 := h.n.ext e1 hnT
  have hz1 := h.z.ext e1 hzT
  refine VSt.bk hn1 rfl (by simp [nhC]) fun w2 hn2 e2 => kk c' w2 ⟨hn2, hz1.ext e2 (by simp; exact fun e => h.ne e.symm), hc.ext e2 (fun i hi hm => ?_), (h.ko.ext e1 fun i hi hm => ?_).ext e2 (fun i hi hm => ?_), e01.then e2 (fun i hi hlt => by have := h.gn; simp at hi; omega), h.gn, h.ne⟩ ((e1.mono (N := nb :: rowB c) (fun i hi _ => by simp [hi])).then e2 (fun i hi _ => by simp at hi; simp [hi])) ?_
  · simp at hm; subst hm
    obtain ⟨_, hz⟩ := hc.1.bk_of hi
    exact hz.neT hn1 h1 rfl
  · obtain ⟨_, z1⟩ := h.ko.1.bk_of hi
    obtain ⟨_, z2⟩ := h.co.1.bk_of hm
    exact z2.neT z1 h2 rfl
  · simp at hm; subst hm
    obtain ⟨_, z1⟩ := h.ko.1.bk_of hi
    exact h.n.neT z1 h3 rfl
  · intro i hi
    simp only [List.mem_cons] at hi
    rcases hi with rfl | hi
    · exact ⟨_, _, h.n, .inr (.inl rfl)⟩
    · obtain ⟨_, hz⟩ := h.co.1.bk_of hi
      exact ⟨_, _, hz, .inl rfl⟩
/-- a kid is put behind -/
theorem DS.kid (h : DS T U w W nb b2 leaf c k X Y) {b : Nat} {x : Int} (hb : Bk W b [.int .i64 x] 3) (hY : Y.length ≤ 10000) (h1 : T ≠ U) (h2 : T ≠ 3) (h3 : U ≠ 3) {K : World → Prop}
    (kk : ∀ k' W', DS T U w W' nb b2 leaf c k' X (Y ++ [x]) → Ext (nb :: rowB k) W W' → (∀ i ∈ nb :: rowB k, ∃ cs t, Bk W i cs t ∧ (t = T ∨ t = U ∨ t = 3)) → K W') :
    VApp none W 3 1 8 #[.int .i64 0] k.base k.len k.cap 1 (fun news => Seg W (some ⟨b, 0, none⟩) 1 1 news) fun (l : Sl) (w1 : World) => VSt none w1 ⟨nb, 2, none⟩ [.slice l.base l.len l.cap] K := by
  have hnT : nb ∉ rowB k := fun hi => by
    obtain ⟨_, hz⟩ := h.ko.1.bk_of hi
    exact h.n.neT hz h3 rfl
  have hzT : b2 ∉ rowB k := fun hi => by
    obtain ⟨_, hz⟩ := h.ko.1.bk_of hi
    exact h.z.neT hz h3 rfl
  refine VApp.rec (r := itR) (news := [x]) h.ko h.e (Seg.of_bk hb rfl rfl) rfl rfl (by omega) (by omega) fun k' w1 hk e01 e1 hbl => ?_
  have hn1 := h.n.ext e1 hnT
  have hz1 := h.z.ext e1 hzT
  refine VSt.bk hn1 rfl (by simp [nhC]) fun w2 hn2 e2 => kk k' w2 ⟨hn2, hz1.ext e2 (by simp; exact fun e => h.ne e.symm), (h.co.ext e1 fun i hi hm => ?_).ext e2 (fun i hi hm => ?_), hk.ext e2 (fun i hi hm => ?_), e01.then e2 (fun i hi hlt => by have := h.gn; simp at hi; omega), h.gn, h.ne⟩ ((e1.mono (N := nb :: rowB k) (fun i hi _ => by simp [hi])).then e2 (fun i hi _ => by simp at hi; simp [hi])) ?_
  · obtain ⟨_, z1⟩ := h.co.1.bk_of hi
    obtain ⟨_, z2⟩ := h.ko.1.bk_of hm
    exact z1.neT z2 h2 rfl
  · simp at hm; subst hm
    obtain ⟨_, z1⟩ := h.co.1.bk_of hi
    exact z1.neT h.n h1 rfl
  · simp at hm; subst hm
    obtain ⟨_, hz⟩ := hk.1.bk_of hi
    exact hn1.neT hz h3 rfl
  · intro i hi
    simp only [List.mem_cons] at hi
    rcases hi with rfl | hi
    · exact ⟨_, _, h.n, .inr (.inl rfl)⟩
    · obtain ⟨_, hz⟩ := h.ko.1.bk_of hi
      exact ⟨_, _, hz, .inr (.inr rfl)⟩
/-- the refusal -/
theorem DS.no (h : DS T U w W nb b2 leaf c k X Y) (hw : w.heap.size ≤ b2) {R : Ending → World → Prop} (hR : ∀ W', Ext [] w W' → R (.returned (.tuple #[.agg (nhC false ⟨none, 0, 0⟩ ⟨none, 0, 0⟩).toArray, .int .i64 4])) W') :
    VSt none W ⟨b2, 0, none⟩ [.bool false, .slice none 0 0, .slice none 0 0] fun (w2 : World) => VLd none w2 ⟨b2, 0, none⟩ [CT.bool, CT.sl, CT.sl] fun (q0 : Bool) (q1 : Sl) (q2 : Sl) =>
      R (.returned (.tuple #[.agg #[.bool q0, .slice q1.base q1.len q1.cap, .slice q2.base q2.len q2.cap], .int .i64 4])) w2 := by
  refine VSt.bk h.z rfl (by simp [nhC]) fun w2 hk e => ?_
  have hk : Bk w2 b2 (nhC false ⟨none, 0, 0⟩ ⟨none, 0, 0⟩) U := hk
  exact VLd.nh false ⟨none, 0, 0⟩ ⟨none, 0, 0⟩ (Rd.of_bk hk rfl) (hR w2 (h.e.then e (fun i hi hlt => by simp at hi; omega)))
/-- the node -/
theorem DS.yes (h : DS T U w W nb b2 leaf c k X Y) (hw : w.heap.size ≤ b2) (h1 : T ≠ U) (h3 : U ≠ 3) {R : Ending → World → Prop} (hR : ∀ W', Ext [] w W' → OwnN T w W' c k ⟨leaf, X, Y⟩ → R (.returned (.tuple #[.agg (nhC leaf c k).toArray, .int .i64 0])) W') :
    VLd none W ⟨nb, 0, none⟩ [CT.bool, CT.sl, CT.sl] fun (p0 : Bool) (p1 : Sl) (p2 : Sl) => VSt none W ⟨b2, 0, none⟩ [.bool p0, .slice p1.base p1.len p1.cap, .slice p2.base p2.len p2.cap] fun (w2 : World) => VLd none w2 ⟨b2, 0, none⟩ [CT.bool, CT.sl, CT.sl] fun (q0 : Bool) (q1 : Sl) (q2 : Sl) =>
      R (.returned (.tuple #[.agg #[.bool q0, .slice q1.base q1.len q1.cap, .slice q2.base q2.len q2.cap], .int .i64 0])) w2 := by
  refine VLd.nh leaf c k (Rd.of_bk h.n rfl) (VSt.bk h.z rfl (by simp [nhC]) fun w2 hk e => ?_)
  have hk : Bk w2 b2 (nhC leaf c k) U := hk
  refine VLd.nh leaf c k (Rd.of_bk hk rfl) (hR w2 (h.e.then e (fun i hi hlt => by simp at hi; omega)) ⟨h.co.ext e fun i hi hm => ?_, h.ko.ext e fun i hi hm => ?_⟩)
  · simp at hm; subst hm
    obtain ⟨_, z1⟩ := h.co.1.bk_of hi
    exact z1.neT h.z h1 rfl
  · simp at hm; subst hm
    obtain ⟨_, z1⟩ := h.ko.1.bk_of hi
    exact h.z.neT z1 h3 rfl
end
theorem askNz {w : World} (x : UInt8) {K : Bool → World → Prop} (k : ∀ w', Ext [] w w' → K (x != 0) w') :
    VDyn none Try.prog (.func (.func 59) #[] #[]) #[.int .u8 ((x.toNat : Nat) : Int)] w (.bool false) fun (r : Bool) (w' : World) => K r w' := by
  refine VDyn.i (by kernel_rfl) (VCall.i (R0 := fun e w' => e = .returned (.bool (x != 0)) ∧ w' = w) ?_ ?_)
  · refine sh_node_Decode_1_ok _ _ _ ?_
    refine ⟨?_, rfl⟩
    congr 2
    rw [Bool.eq_iff_iff, bne_iff_ne, bne_iff_ne]
    constructor
    · intro h e; rw [e] at h; exact h rfl
    · intro h e
      apply h
      apply UInt8.toNat_inj.1
      have : (0 : UInt8).toNat = 0 := rfl
      omega
  rintro e w' ⟨rfl, rfl⟩
  exact exW.i1 (t := .bool) _ rfl (k w' (Ext.refl _ _))
set_option maxHeartbeats 2000000 in
theorem Decode_spec (s : Sl) (l : List UInt8) (w : World) (h : In w s l) : Calls Try.prog 28 #[.slice s.base s.len s.cap] w fun e w' =>
      ∃ c k : Sl, e = .returned (.tuple #[.agg (nhC (decN l).1.leaf c k).toArray, .int .i64 (decN l).2]) ∧ OwnN 48 w w' c k (decN l).1 ∧ Ext [] w w' := by
  refine sh_node_Decode_ok _ _ _ ?_
  unfold sh_node_Decode
  have hl := h.len
  have hcap := h.2
  refine VNw.i fun b2 w1 hb2 hk1 e1 => ?_
  have hk1 : Bk w1 b2 (nhC false ⟨none, 0, 0⟩ ⟨none, 0, 0⟩) 30 := hk1
  have lb2 := hk1.lt
  refine VIf.mk (fun hd => ?_) (fun hd => ?_)
  · have hd : 512 < l.length := by rw [hl] at hd; simp at hd; omega
    have hr : decN l = (zNd, 4) := by unfold decN; rw [if_pos hd]
    rw [hr]
    refine VSt.bk hk1 rfl (by simp [nhC]) fun w2 hk2 e2 => ?_
    have hk2 : Bk w2 b2 (nhC false ⟨none, 0, 0⟩ ⟨none, 0, 0⟩) 30 := hk2
    exact VLd.nh false ⟨none, 0, 0⟩ ⟨none, 0, 0⟩ (Rd.of_bk hk2 rfl) ⟨⟨none, 0, 0⟩, ⟨none, 0, 0⟩, rfl, OwnN.nil _ _ _ _, e1.then e2 (fun i hi hlt => by simp at hi; omega)⟩
  have hd : ¬ 512 < l.length := by rw [hl] at hd; simp at hd; omega
  have hdec : decN l = if goodR l then (rawN l, 0) else (zNd, 4) := by unfold decN; rw [if_neg hd]
  refine VCall.i (NewReader_spec s l w1 (h.ext0 e1).1 (by omega)) ?_
  rintro e w3 ⟨r, q, d, rfl, h3, e3, gr, gq, gd⟩
  refine exW.i1 (t := .ptr) _ rfl (VCall.i (rFlag_spec r q d _ w3 h3) ?_)
  rintro e w4 ⟨rfl, h4, e4⟩
  refine exW.i1 (t := .bool) _ rfl ?_
  have z1 := e1.size
  have z3 := e3.size
  have z4 := e4.size
  have hb4 := (hk1.ext e3).ext e4 (by simp; omega)
  refine VNw.i fun nb w5 hnb hk5 e5 => VSt.bk hk5 rfl (by simp) fun w6 hk6 e6 => ?_
  have hk6 : Bk w6 nb (nhC (leafR l) ⟨none, 0, 0⟩ ⟨none, 0, 0⟩) 30 := hk6
  have e46 : Ext [] w4 w6 := e5.then e6 (fun i hi hlt => by simp at hi; omega)
  have h6 := h4.ext0 e46
  have e06 : Ext [] w w6 := ((e1.then0 e3).then e4 (fun i hi hlt => by simp at hi; omega)).then0 e46
  have nbq : ∀ {W : World} {st : Option (List UInt8)}, RepC W r q d st → ∃ cs, Bk W q cs 106 := fun h => by
    obtain ⟨s, f, l, hr, hq, _⟩ := h
    exact ⟨_, hq⟩
  have gq0 : w.heap.size ≤ q := by omega
  have D6 : DS 48 30 w w6 nb b2 (leafR l) ⟨none, 0, 0⟩ ⟨none, 0, 0⟩ [] [] := ⟨hk6, hb4.ext e46, OwnR.nil _ _ _ _, OwnR.nil _ _ _ _, e06, by omega, by omega⟩
  have stepR : ∀ {W W' : World} {c k : Sl} {X : List Ce} {Y : List Int} {st : Option (List UInt8)}, DS 48 30 w W nb b2 (leafR l) c k X Y → RepC W r q d st → Ext [q] W W' → DS 48 30 w W' nb b2 (leafR l) c k X Y := fun D R e => by
    obtain ⟨cs, hq⟩ := nbq R
    exact D.rd hq gq0 (by decide) (by decide) (by decide) e
  refine VCall.i (rCount_spec r q d 512 _ w6 h6) ?_
  rintro e w7 ⟨rfl, h7, e7⟩
  refine exW.i1 (t := .int .i64) _ rfl ?_
  have D7 := stepR D6 h6 e7
  obtain ⟨hcnt, hcn2⟩ := cntR_le l
  rw [hcnt]
  have keepR : ∀ {W W' : World} {st : Option (List UInt8)} {M : List Nat}, RepC W r q d st → Ext M W W' → (∀ i ∈ M, ∃ cs t, Bk W i cs t ∧ (t = 48 ∨ t = 30 ∨ t = 3)) → RepC W' r q d st := fun R e hM => R.extT e fun b hb _ => by
    obtain ⟨cs, t, hk, ht⟩ := hM b hb
    refine ⟨cs, t, hk, ?_⟩
    rcases ht with rfl | rfl | rfl <;> exact ⟨by decide, by decide, by decide⟩
  -- the cells
  refine ⟨fun W => ∃ c, DS 48 30 w W nb b2 (leafR l) c ⟨none, 0, 0⟩ (csR l).1 [] ∧ RepC W r q d (csR l).2, ?_, ?_⟩
  · refine ⟨fun kk i W => ∃ (m : Nat) (X : List Ce) (st : Option (List UInt8)) (c : Sl), i = (m : Int) ∧ m ≤ cntR l ∧ kk = cntR l - m ∧ X.length = m ∧ csR l = (X ++ (rCes (leafR l) (cntR l - m) st).1, (rCes (leafR l) (cntR l - m) st).2) ∧ DS 48 30 w W nb b2 (leafR l) c ⟨none, 0, 0⟩ X [] ∧ RepC W r q d st, ⟨_, 0, [], _, ⟨none, 0, 0⟩, rfl, by omega, rfl, rfl, rfl, D7, h7⟩, ?_⟩
    rintro kk i w8 ⟨m, X, st, c, rfl, hm, rfl, hXl, hcs, D8, R8⟩
    refine VIf.mk (fun hd2 => ?_) (fun hd2 => ?_)
    · have hm' : m < cntR l := by simp at hd2; omega
      refine VCall.i (rOK_spec r q d st w8 R8) ?_
      rintro e w9 ⟨rfl, rfl⟩
      refine exW.i1 (t := .bool) _ rfl (VIf.mk (fun hq => ?_) (fun hq => ?_))
      · have hs0 : st = none := by cases st <;> simp at hq ⊢
        subst hs0
        rw [rCes_none, List.append_nil] at hcs
        rw [hcs]
        exact ⟨c, D8, R8⟩
      · obtain ⟨lx, rfl⟩ : ∃ lx, st = some lx := by cases st with
          | none => simp at hq
          | some lx => exact ⟨lx, rfl⟩
        intro w10 hw10
        have ed := Ext.drew' hw10
        have D10 := D8.ext0 ed
        have R10 := R8.ext0 ed
        refine VLd.s c (Rd.of_bk D10.n rfl) (VLd.i1 (t := .bool) (leafR l) (Rd.of_bk D10.n rfl) ?_)
        refine VCall.i (cell_spec r q d (leafR l) (some lx) w10 R10) ?_
        rintro e w11 ⟨rfl, R11, e11⟩
        have D11 := stepR D10 R10 e11
        refine exW.ce (rCe (leafR l) (some lx)).1 rfl ⟨Rd.of_bk D11.n rfl, ?_⟩
        refine VNw.i fun b30 w12 hb30 hk30 e12 => ⟨Rd.of_bk (D11.n.ext e12) rfl, ?_⟩
        have hk30 : Bk w12 b30 (ceC (rCe (leafR l) (some lx)).1) 48 := hk30
        refine (D11.ext0 e12).cell hk30 (by omega) (by decide) (by decide) (by decide) fun c' w13 D13 e13 hM => ?_
        have R13 := keepR (R11.ext0 e12) e13 hM
        refine ⟨_, (show cntR l - (m + 1) < cntR l - m by omega), m + 1, X ++ [(rCe (leafR l) (some lx)).1], (rCe (leafR l) (some lx)).2, c', w64 (n := (m : Int) + 1) (by omega), by omega, rfl, by rw [List.length_append, hXl]; rfl, ?_, D13, R13⟩
        rw [hcs, show cntR l - m = (cntR l - (m + 1)) + 1 by omega]
        simp only [rCes, List.append_assoc, List.cons_append, List.nil_append]
    · have hmm : m = cntR l := by simp at hd2; omega
      subst hmm
      rw [Nat.sub_self] at hcs
      simp only [rCes, List.append_nil] at hcs
      rw [hcs]
      exact ⟨c, D8, R8⟩
  rintro w15 ⟨c, D15, R15⟩
  have hcl := csR_len l
  -- the kids
  refine ⟨fun kk i W => ∃ (m : Nat) (Y : List Int) (st : Option (List UInt8)) (k : Sl), i = (m : Int) ∧ m ≤ (csR l).1.length + 1 ∧ kk = (csR l).1.length + 1 - m ∧ Y.length = m ∧ (leafR l = true → Y = [] ∧ st = (csR l).2) ∧ (leafR l = false → rKs ((csR l).1.length + 1) (csR l).2 = (Y ++ (rKs ((csR l).1.length + 1 - m) st).1, (rKs ((csR l).1.length + 1 - m) st).2)) ∧ DS 48 30 w W nb b2 (leafR l) c k (csR l).1 Y ∧ RepC W r q d st, ⟨_, 0, [], _, ⟨none, 0, 0⟩, rfl, by omega, rfl, rfl, fun _ => ⟨rfl, rfl⟩, fun _ => rfl, D15, R15⟩, ?_⟩
  rintro kk i w16 ⟨m, Y, st, k, rfl, hm, rfl, hYl, hlf, hnl, D16, R16⟩
  have hcl2 := D16.co.len
  refine VLd.s c (Rd.of_bk D16.n rfl) (VCall.pure (rOK_spec r q d st w16 R16) (exW.i1 (t := .bool) _ rfl (VLd.i1 (t := .bool) (leafR l) (Rd.of_bk D16.n rfl) (VIf.mk (fun hd2 => ?_) (fun hd2 => ?_)))))
  · have hd2 : (m ≤ (csR l).1.length ∧ st.isSome = true) ∧ leafR l = false := by rw [hcl2] at hd2; simpa using hd2
    obtain ⟨⟨hm', hso⟩, hlq⟩ := hd2
    obtain ⟨lx, rfl⟩ : ∃ lx, st = some lx := Option.isSome_iff_exists.1 hso
    intro w18 hw18
    have ed := Ext.drew' hw18
    have D18 := D16.ext0 ed
    have R18 := R16.ext0 ed
    refine VLd.s k (Rd.of_bk D18.n rfl) ?_
    refine VCall.i (rCount_spec r q d 2147483647 _ w18 R18) ?_
    rintro e w19 ⟨rfl, R19, e19⟩
    have D19 := stepR D18 R18 e19
    refine exW.i1 (t := .int .i64) _ rfl ⟨Rd.of_bk D19.n rfl, ?_⟩
    refine VNw.i fun b54 w20 hb54 hk54 e20 => ⟨Rd.of_bk (D19.n.ext e20) rfl, ?_⟩
    refine (D19.ext0 e20).kid hk54 (by omega) (by decide) (by decide) (by decide) fun k' w21 D21 e21 hM => ?_
    have R21 := keepR (R19.ext0 e20) e21 hM
    rw [w64 (n := (m : Int) + 1) (by omega)]
    refine VSet.i ⟨_, (show (csR l).1.length + 1 - (m + 1) < (csR l).1.length + 1 - m by omega), m + 1, Y ++ [(rCount 2147483647 (some lx)).1], (rCount 2147483647 (some lx)).2, k', rfl, by omega, rfl, by rw [List.length_append, hYl]; rfl, fun hq => (by rw [hlq] at hq; cases hq), fun _ => ?_, D21, R21⟩
    rw [hnl hlq, show (csR l).1.length + 1 - m = ((csR l).1.length + 1 - (m + 1)) + 1 by omega]
    simp only [rKs, List.append_assoc, List.cons_append, List.nil_append]
  -- what is left
  have hks : ksR l = (Y, st) := by
    unfold ksR
    cases hlq : leafR l with
    | true =>
      obtain ⟨g1, g2⟩ := hlf hlq
      rw [if_pos rfl, g1, g2]
    | false =>
      rw [if_neg (by simp), hnl hlq]
      have hd2 : ¬ (m ≤ (csR l).1.length ∧ st.isSome = true) := by
        rw [hcl2, hlq] at hd2
        simpa using hd2
      cases st with
      | none => rw [rKs_none]; simp
      | some lx =>
        have hmm : m = (csR l).1.length + 1 := by simp at hd2; omega
        rw [hmm, Nat.sub_self]
        simp [rKs]
  have hraw : rawN l = ⟨leafR l, (csR l).1, Y⟩ := by unfold rawN; rw [hks]
  have hlo := ksR_lenO l
  rw [hks] at hlo
  have htl : tailR l = l.drop (l.length - lenO st) := by unfold tailR; rw [hks]
  refine VCall.pure (rLeft_spec r q d st w16 R16) (exW.i1 (t := .int .i64) _ rfl ?_)
  have hlo2 : (st.getD []).length = lenO st := rfl
  have hlo : lenO st ≤ l.length := hlo
  rw [hlo2, hl, w64 (n := ((l.length : Nat) : Int) - ((lenO st : Nat) : Int)) (by omega), show ((l.length : Nat) : Int) - ((lenO st : Nat) : Int) = ((l.length - lenO st : Nat) : Int) by omega]
  refine VCk.i (by omega) (VCall.pure (rOK_spec r q d st w16 R16) (exW.i1 (t := .bool) _ rfl (VLd.nh (leafR l) c k (Rd.of_bk D16.n rfl) ?_)))
  have good : goodR l = (st.isSome && (okN (rawN l) && !(tailR l).any (fun x => x != 0))) := by unfold goodR; rw [hks]
  have hw2 : w.heap.size ≤ b2 := by omega
  have bad : ∀ {W : World}, goodR l = false → DS 48 30 w W nb b2 (leafR l) c k (csR l).1 Y → VSt none W ⟨b2, 0, none⟩ [.bool false, .slice none 0 0, .slice none 0 0] fun (w2 : World) => VLd none w2 ⟨b2, 0, none⟩ [CT.bool, CT.sl, CT.sl] fun (q0 : Bool) (q1 : Sl) (q2 : Sl) =>
      ∃ c k : Sl, (Ending.returned (.tuple #[.agg #[.bool q0, .slice q1.base q1.len q1.cap, .slice q2.base q2.len q2.cap], .int .i64 4]) = .returned (.tuple #[.agg (nhC (decN l).1.leaf c k).toArray, .int .i64 (decN l).2])) ∧ OwnN 48 w w2 c k (decN l).1 ∧ Ext [] w w2 := by
    intro W hg D
    rw [hdec, hg]
    exact D.no hw2 (R := fun e w' => ∃ c k : Sl, e = .returned (.tuple #[.agg (nhC zNd.leaf c k).toArray, .int .i64 4]) ∧ OwnN 48 w w' c k zNd ∧ Ext [] w w') fun W' e => ⟨⟨none, 0, 0⟩, ⟨none, 0, 0⟩, rfl, OwnN.nil _ _ _ _, e⟩
  cases hst : st with
  | none =>
    refine VCall.off rfl (exW.i1 (t := .bool) false trivial (VCall.off rfl (exW.i1 (t := .bool) false trivial (VIf.t rfl ?_))))
    exact bad (by rw [good, hst]; rfl) D16
  | some lx =>
    have hN16 : NIn w16 c k (rawN l) := by rw [hraw]; exact ⟨D16.co.in_, D16.ko.in_⟩
    have hck := Check_spec c k (rawN l) w16 hN16 (by rw [hraw]; simp only; omega)
    rw [show (rawN l).leaf = leafR l from rfl] at hck
    refine VCall.on rfl (VCall.i hck ?_)
    rintro e w25 ⟨rfl, e25⟩
    refine exW.i1 (t := .bool) _ rfl ?_
    have D25 := D16.ext0 e25
    cases hok : okN (rawN l) with
    | false =>
      refine VCall.off rfl (exW.i1 (t := .bool) false trivial (VIf.t rfl ?_))
      exact bad (by rw [good, hok, hst]; rfl) D25
    | true =>
      have hcut := (h.ext0 D25.e).cut (l.length - lenO st) l.length (by omega) (by omega)
      rw [List.take_length, ← htl] at hcut
      rw [hst] at hcut
      refine VCall.on rfl ?_
      rw [Int.toNat_natCast]
      refine VCall.i (HasB_spec _ (fun x => x != 0) ⟨cutB s.base s.cap 1 (l.length - lenO (some lx)), l.length - (l.length - lenO (some lx)), s.cap - (l.length - lenO (some lx))⟩ (tailR l) w25 hcut.u8 (fun x W e K kk => askNz x kk)) ?_
      rintro e w26 ⟨rfl, e26⟩
      refine exW.i1 (t := .bool) _ rfl (VIf.mk (fun hq => ?_) (fun hq => ?_))
      · have hq : (tailR l).any (fun x => x != 0) = true := by simpa using hq
        exact bad (by rw [good, hok, hst, hq]; rfl) (D25.ext0 e26)
      · have hq : (tailR l).any (fun x => x != 0) = false := by simpa using hq
        have hgd : goodR l = true := by rw [good, hok, hst, hq]; rfl
        rw [hdec, hgd]
        refine (D25.ext0 e26).yes hw2 (by decide) (by decide) (R := fun e w' => ∃ c k : Sl, e = .returned (.tuple #[.agg (nhC (rawN l).leaf c k).toArray, .int .i64 0]) ∧ OwnN 48 w w' c k (rawN l) ∧ Ext [] w w') fun W' e ho => ⟨c, k, rfl, by rw [hraw]; exact ho, e⟩
end Go.Proofs.Ytknohdgcigcmdaa
