/-
  Package rlog: the document's reading of an entry.
-/
import Derived.Test.YtkekjbdppabmhaaRlogD
namespace Go.Proofs.Ytkekjbdppabmhaa
open Go.RowKit
set_option maxRecDepth 100000

set_option maxHeartbeats 1000000 in
theorem xRead_spec (s : Sl) (l : List UInt8) (w : World) (h : In w s l) (hl : l.length ≤ 100000000) : Calls Try.prog 25 #[.slice s.base s.len s.cap] w fun r w' =>
      ∃ x : Er, r = .returned (.tuple #[.agg (erC x).toArray, .int .i64 (decE l).2]) ∧ EOwn w w' x (decE l).1 ∧ Ext [] w w' := by
  refine sh_butteryref14_Read_ok _ _ _ ?_
  unfold sh_butteryref14_Read
  refine VNw.i fun b2 w1 hb2 hk1 e1 => ?_
  have hk1 : Bk w1 b2 (erC zEr) 28 := hk1
  have lb2 := hk1.lt
  refine VCall.i (XReader_spec s l w1 (h.ext0 e1).1 (by omega)) ?_
  rintro e w2 ⟨q, d, rfl, h2, e2, gq, gd⟩
  refine exW.i1 (t := .ptr) _ rfl (VCall.i (xCount_spec q d 2147483647 _ w2 h2) ?_)
  rintro e w3 ⟨rfl, h3, e3⟩
  refine exW.i1 (t := .int .i64) _ rfl (VCall.i (xCount_spec q d 255 _ w3 h3) ?_)
  rintro e w4 ⟨rfl, h4, e4⟩
  refine exW.i1 (t := .int .i64) _ rfl (VCall.i (xStr_spec q d 256 _ w4 h4) ?_)
  rintro e w5 ⟨rfl, h5, e5⟩
  have z1 := e1.size
  have z2 := e2.size
  have z3 := e3.size
  have z4 := e4.size
  have z5 := e5.size
  have e25 : Ext [q] w2 w5 := (e3.then e4 (fun i hi _ => hi)).then e5 (fun i hi _ => hi)
  have e05 : Ext [] w w5 := (e1.then0 e2).then e25 (fun i hi hlt => by simp at hi; omega)
  have hb5 := (hk1.ext e2).ext e25 (by simp; omega)
  have k2 := rCount_pos 255 (sE1 l).2
  have k2' := rCount_le 255 (by omega) (sE1 l).2
  refine exW.i1 (t := .str) _ rfl (VNw.i fun nb w6 hnb hk6 e6 => VSt.bk hk6 rfl (by simp) fun w7 hk7 e7 => ?_)
  have hu : IntKind.wrap .u8 (sE2 l).1 = (sE2 l).1 := u8in ⟨k2.1, k2'⟩
  have hk7 : Bk w7 nb (erC ⟨(sE1 l).1, (sE2 l).1, (sE3 l).1, nSl⟩) 28 := by
    have hq : Bk w7 nb (erC ⟨(sE1 l).1, IntKind.wrap .u8 (sE2 l).1, (sE3 l).1, nSl⟩) 28 := hk7
    rw [hu] at hq; exact hq
  have e57 : Ext [] w5 w7 := e6.then e7 (fun i hi hlt => by simp at hi; omega)
  have D7 : DE w w7 nb b2 ⟨(sE1 l).1, (sE2 l).1, (sE3 l).1, nSl⟩ [] := ⟨hk7, hb5.ext e57, OwnR.nil _ _ _ _, e05.then0 e57, by omega, by omega, by have := hb5.lt; omega⟩
  have h7 : RepX w7 q d (sE3 l).2 := h5.ext0 e57
  have nbq : ∀ {W : World} {st : Option (List UInt8)}, RepX W q d st → ∃ cs, Bk W q cs 103 := fun h => by
    obtain ⟨s, f, l, hr, _⟩ := h
    exact ⟨_, hr⟩
  have stepR : ∀ {W W' : World} {x : Er} {Y : List Int} {st : Option (List UInt8)}, DE w W nb b2 x Y → RepX W q d st → Ext [q] W W' → DE w W' nb b2 x Y := fun D R e => by
    obtain ⟨cs, hq⟩ := nbq R
    exact D.rd hq (by omega) (by decide) (by decide) e
  have keepR : ∀ {W W' : World} {st : Option (List UInt8)} {M : List Nat}, RepX W q d st → Ext M W W' → (∀ i ∈ M, ∃ cs t, Bk W i cs t ∧ (t = 28 ∨ t = 3)) → RepX W' q d st := fun R e hM => R.extT e fun b hb _ => by
    obtain ⟨cs, t, hk, ht⟩ := hM b hb
    refine ⟨cs, t, hk, ?_⟩
    rcases ht with rfl | rfl <;> exact ⟨by decide, by decide⟩
  refine VCall.i (xCount_spec q d 5 _ w7 h7) ?_
  rintro e w8 ⟨rfl, h8, e8⟩
  have D8 := stepR D7 h7 e8
  have h8 : RepX w8 q d (sE4 l).2 := h8
  have n1 := (rCount_pos 5 (sE3 l).2).1
  have n2 := rCount_le 5 (by omega) (sE3 l).2
  have hn : (rCount 5 (sE3 l).2).1 = ((nE l : Nat) : Int) := by unfold nE sE4; omega
  have hn5 : nE l ≤ 5 := by omega
  refine exW.i1 (t := .int .i64) _ rfl ?_
  rw [hn]
  refine VSet.i ?_
  refine ⟨fun kk i W => ∃ (j : Nat) (Y : List Int) (st : Option (List UInt8)) (c : Sl), i = (j : Int) ∧ j ≤ nE l ∧ kk = nE l - j ∧ Y.length = j ∧ sE5 l = (Y ++ (rL (nE l - j) st).1, (rL (nE l - j) st).2) ∧ DE w W nb b2 ⟨(sE1 l).1, (sE2 l).1, (sE3 l).1, c⟩ Y ∧ RepX W q d st, ⟨_, 0, [], _, nSl, rfl, by omega, rfl, rfl, rfl, D8, h8⟩, ?_⟩
  rintro kk i w9 ⟨j, Y, st, c, rfl, hj, rfl, hYl, hcs, D9, R9⟩
  refine VIf.mk (fun hd2 => ?_) (fun hd2 => ?_)
  · have hj' : j < nE l := by simp at hd2; omega
    intro w10 hw10
    have ed := Ext.drew' hw10
    have D10 := D9.ext0 ed
    have R10 := R9.ext0 ed
    refine VLd.s c (Rd.of_bk D10.n rfl) ?_
    refine VCall.i (xCount_spec q d 5 st w10 R10) ?_
    rintro e w11 ⟨rfl, R11, e11⟩
    have D11 := stepR D10 R10 e11
    refine exW.i1 (t := .int .i64) _ rfl ⟨Rd.of_bk D11.n rfl, ?_⟩
    refine VNw.i fun b24 w12 hb24 hk24 e12 => ⟨Rd.of_bk (D11.n.ext e12) rfl, ?_⟩
    refine (D11.ext0 e12).put hk24 (by omega) fun c' w13 D13 e13 hM => ?_
    have R13 := keepR (R11.ext0 e12) e13 hM
    refine VSet.i ⟨_, (show nE l - (j + 1) < nE l - j by omega), j + 1, Y ++ [(rCount 5 st).1], (rCount 5 st).2, c', w64 (n := (j : Int) + 1) (by omega), by omega, rfl, by rw [List.length_append, hYl]; rfl, ?_, D13, R13⟩
    rw [hcs, show nE l - j = (nE l - (j + 1)) + 1 by omega]
    simp only [rL, List.append_assoc, List.cons_append, List.nil_append]
  · have hmm : j = nE l := by simp at hd2; omega
    subst hmm
    rw [Nat.sub_self] at hcs
    simp only [rL, List.append_nil] at hcs
    have hraw : rawE l = ⟨(sE1 l).1, (sE2 l).1, (sE3 l).1, Y⟩ := by unfold rawE; rw [hcs]
    have hgood : goodE l = (rDone st && okE (rawE l)) := by unfold goodE; rw [hcs]
    have bad : ∀ {W : World}, goodE l = false → DE w W nb b2 ⟨(sE1 l).1, (sE2 l).1, (sE3 l).1, c⟩ Y → VSt none W ⟨b2, 0, none⟩ [.int .i64 0, .int .u8 0, .string ByteArray.empty, .slice none 0 0] fun (w2 : World) => VLd none w2 ⟨b2, 0, none⟩ [CT.int .i64, CT.int .u8, CT.str, CT.sl] fun (q0 : Int) (q1 : Int) (q2 : ByteArray) (q3 : Sl) =>
        ∃ x : Er, (Ending.returned (.tuple #[.agg #[.int .i64 q0, .int .u8 q1, .string q2, .slice q3.base q3.len q3.cap], .int .i64 4])) = .returned (.tuple #[.agg (erC x).toArray, .int .i64 (decE l).2]) ∧ EOwn w w2 x (decE l).1 ∧ Ext [] w w2 := by
      intro W hg D
      unfold decE
      rw [hg]
      exact D.no (R := fun r w' => ∃ x : Er, r = .returned (.tuple #[.agg (erC x).toArray, .int .i64 4]) ∧ EOwn w w' x zEn ∧ Ext [] w w') fun W' e => ⟨zEr, rfl, EOwn.z _ _, e⟩
    refine VCall.pure (xDone_spec q d st w9 R9) (exW.i1 (t := .bool) _ rfl ?_)
    refine VLd.er (g := some (!(!rDone st))) ⟨(sE1 l).1, (sE2 l).1, (sE3 l).1, c⟩ (Rd.of_bk D9.n rfl) ?_
    cases hdn : rDone st with
    | false =>
      refine VCall.off rfl (exW.i1 (t := .bool) false trivial (VIf.t rfl ?_))
      exact bad (by rw [hgood, hdn]; rfl) D9
    | true =>
      have hin : EIn w9 ⟨(sE1 l).1, (sE2 l).1, (sE3 l).1, c⟩ (rawE l) := by rw [hraw]; exact ⟨rfl, rfl, rfl, D9.o.in_⟩
      refine VCall.on rfl (VCall.i (xCheck_spec _ (rawE l) w9 hin) ?_)
      rintro e w10 ⟨rfl, e10⟩
      have D10 := D9.ext0 e10
      refine exW.i1 (t := .bool) _ rfl (VIf.mk (fun hq => ?_) (fun hq => ?_))
      · have hq : okE (rawE l) = false := by simpa using hq
        exact bad (by rw [hgood, hdn, hq]; rfl) D10
      · have hq : okE (rawE l) = true := by simpa using hq
        have hg : goodE l = true := by rw [hgood, hdn, hq]; rfl
        unfold decE
        rw [hg]
        exact D10.yes (R := fun r w' => ∃ x : Er, r = .returned (.tuple #[.agg (erC x).toArray, .int .i64 0]) ∧ EOwn w w' x (rawE l) ∧ Ext [] w w') fun W' e ho => ⟨_, rfl, by rw [hraw]; exact ⟨rfl, rfl, rfl, ho⟩, e⟩
end Go.Proofs.Ytkekjbdppabmhaa
