/-
  Package rlog: an entry is read of bytes.
-/
import Derived.Test.YtkekjbdppabmhaaRlogC
namespace Go.Proofs.Ytkekjbdppabmhaa
open Go.RowKit
set_option maxRecDepth 100000

/-- numbers, one behind the other -/
def rL : Nat → Option (List UInt8) → List Int × Option (List UInt8)
  | 0, st => ([], st)
  | n + 1, st => ((rCount 5 st).1 :: (rL n (rCount 5 st).2).1, (rL n (rCount 5 st).2).2)
theorem rCount_le (m : Int) (hm : 0 ≤ m) (st : Option (List UInt8)) : (rCount m st).1 ≤ m := by
  unfold rCount
  split
  · exact hm
  · split
    · simp only; omega
    · exact hm
def sE1 (l : List UInt8) := rCount 2147483647 (some l)
def sE2 (l : List UInt8) := rCount 255 (sE1 l).2
def sE3 (l : List UInt8) := rStr 256 (sE2 l).2
def sE4 (l : List UInt8) := rCount 5 (sE3 l).2
def nE (l : List UInt8) : Nat := (sE4 l).1.toNat
def sE5 (l : List UInt8) := rL (nE l) (sE4 l).2
def rawE (l : List UInt8) : En := ⟨(sE1 l).1, (sE2 l).1, (sE3 l).1, (sE5 l).1⟩
def goodE (l : List UInt8) : Bool := rDone (sE5 l).2 && okE (rawE l)
/-- the entry of some bytes, or the refusal -/
def decE (l : List UInt8) : En × Int := if goodE l then (rawE l, 0) else (zEn, 4)
/-- an entry whose list is in memory of its own -/
structure EOwn (w0 W : World) (x : Er) (e : En) : Prop where
  ht : x.t = e.term
  hk : x.k = e.kind
  hd : x.d = e.data
  ho : OwnR itR 3 w0 W x.s e.list
theorem EOwn.ein {w0 W : World} {x : Er} {e : En} (h : EOwn w0 W x e) : EIn W x e := ⟨h.ht, h.hk, h.hd, h.ho.in_⟩
theorem EOwn.ext0 {w0 W W' : World} {x : Er} {e : En} (h : EOwn w0 W x e) (k : Ext [] W W') : EOwn w0 W' x e := ⟨h.ht, h.hk, h.hd, h.ho.ext0 k⟩
theorem EOwn.mono {w0 w1 W : World} {x : Er} {e : En} (h : EOwn w1 W x e) (k : w0.heap.size ≤ w1.heap.size) : EOwn w0 W x e := ⟨h.ht, h.hk, h.hd, h.ho.mono k⟩
theorem EOwn.z (w0 W : World) : EOwn w0 W zEr zEn := ⟨rfl, rfl, rfl, OwnR.nil _ _ _ _⟩
/-- what stands while an entry is read -/
structure DE (w W : World) (nb b2 : Nat) (x : Er) (Y : List Int) : Prop where
  n : Bk W nb (erC x) 28
  z : Bk W b2 (erC zEr) 28
  o : OwnR itR 3 w W x.s Y
  e : Ext [] w W
  gn : w.heap.size ≤ nb
  gz : w.heap.size ≤ b2
  ne : nb ≠ b2
section
variable {w W W' : World} {nb b2 : Nat} {x : Er} {Y : List Int}
theorem DE.ext0 (h : DE w W nb b2 x Y) (e : Ext [] W W') : DE w W' nb b2 x Y := ⟨h.n.ext e, h.z.ext e, h.o.ext0 e, h.e.then0 e, h.gn, h.gz, h.ne⟩
theorem DE.rd (h : DE w W nb b2 x Y) {q : Nat} {cs : List Value} {t : TypeId} (hq : Bk W q cs t) (hw : w.heap.size ≤ q) (h1 : t ≠ 28) (h3 : t ≠ 3) (e : Ext [q] W W') : DE w W' nb b2 x Y := by
  refine ⟨h.n.ext e (by simp; exact fun e => hq.neT h.n h1 e.symm), h.z.ext e (by simp; exact fun e => hq.neT h.z h1 e.symm), h.o.ext e fun b hb hm => ?_, h.e.then e (fun i hi hlt => by simp at hi; omega), h.gn, h.gz, h.ne⟩
  simp at hm; subst hm
  obtain ⟨_, hz⟩ := h.o.1.bk_of hb
  exact hq.neT hz h3 rfl
/-- a number is put behind -/
theorem DE.put (h : DE w W nb b2 x Y) {b : Nat} {v : Int} (hb : Bk W b [.int .i64 v] 3) (hY : Y.length ≤ 10000) {K : World → Prop}
    (kk : ∀ s' W', DE w W' nb b2 ⟨x.t, x.k, x.d, s'⟩ (Y ++ [v]) → Ext (nb :: rowB x.s) W W' → (∀ i ∈ nb :: rowB x.s, ∃ cs t, Bk W i cs t ∧ (t = 28 ∨ t = 3)) → K W') :
    VApp none W 3 1 8 #[.int .i64 0] x.s.base x.s.len x.s.cap 1 (fun news => Seg W (some ⟨b, 0, none⟩) 1 1 news) fun (l : Sl) (w1 : World) => VSt none w1 ⟨nb, 3, none⟩ [.slice l.base l.len l.cap] K := by
  have hnT : nb ∉ rowB x.s := fun hi => by
    obtain ⟨_, hz⟩ := h.o.1.bk_of hi
    exact h.n.neT hz (by decide) rfl
  have hzT : b2 ∉ rowB x.s := fun hi => by
    obtain ⟨_, hz⟩ := h.o.1.bk_of hi
    exact h.z.neT hz (by decide) rfl
  refine VApp.rec (r := itR) (news := [v]) h.o h.e (Seg.of_bk hb rfl rfl) rfl rfl (by omega) (by omega) fun s' w1 hk e01 e1 hbl => ?_
  have hn1 := h.n.ext e1 hnT
  have hz1 := h.z.ext e1 hzT
  refine VSt.bk hn1 rfl (by simp [erC]) fun w2 hn2 e2 => kk s' w2 ⟨hn2, hz1.ext e2 (by simp; exact fun e => h.ne e.symm), hk.ext e2 (fun i hi hm => ?_), e01.then e2 (fun i hi hlt => by have := h.gn; simp at hi; omega), h.gn, h.gz, h.ne⟩ ((e1.mono (N := nb :: rowB x.s) (fun i hi _ => by simp [hi])).then e2 (fun i hi _ => by simp at hi; simp [hi])) ?_
  · simp at hm; subst hm
    obtain ⟨_, hz⟩ := hk.1.bk_of hi
    exact hn1.neT hz (by decide) rfl
  · intro i hi
    simp only [List.mem_cons] at hi
    rcases hi with rfl | hi
    · exact ⟨_, _, h.n, .inl rfl⟩
    · obtain ⟨_, hz⟩ := h.o.1.bk_of hi
      exact ⟨_, _, hz, .inr rfl⟩
/-- the refusal -/
theorem DE.no (h : DE w W nb b2 x Y) {R : Ending → World → Prop} (hR : ∀ W', Ext [] w W' → R (.returned (.tuple #[.agg (erC zEr).toArray, .int .i64 4])) W') :
    VSt none W ⟨b2, 0, none⟩ [.int .i64 0, .int .u8 0, .string ByteArray.empty, .slice none 0 0] fun (w2 : World) => VLd none w2 ⟨b2, 0, none⟩ [CT.int .i64, CT.int .u8, CT.str, CT.sl] fun (q0 : Int) (q1 : Int) (q2 : ByteArray) (q3 : Sl) =>
      R (.returned (.tuple #[.agg #[.int .i64 q0, .int .u8 q1, .string q2, .slice q3.base q3.len q3.cap], .int .i64 4])) w2 := by
  refine VSt.bk h.z rfl (by simp [erC]) fun w2 hk e => ?_
  have hk : Bk w2 b2 (erC zEr) 28 := hk
  exact VLd.er zEr (Rd.of_bk hk rfl) (hR w2 (h.e.then e (fun i hi hlt => by have := h.gz; simp at hi; omega)))
/-- the entry -/
theorem DE.yes (h : DE w W nb b2 x Y) {R : Ending → World → Prop} (hR : ∀ W', Ext [] w W' → OwnR itR 3 w W' x.s Y → R (.returned (.tuple #[.agg (erC x).toArray, .int .i64 0])) W') :
    VLd none W ⟨nb, 0, none⟩ [CT.int .i64, CT.int .u8, CT.str, CT.sl] fun (p0 : Int) (p1 : Int) (p2 : ByteArray) (p3 : Sl) => VSt none W ⟨b2, 0, none⟩ [.int .i64 p0, .int .u8 p1, .string p2, .slice p3.base p3.len p3.cap] fun (w2 : World) => VLd none w2 ⟨b2, 0, none⟩ [CT.int .i64, CT.int .u8, CT.str, CT.sl] fun (q0 : Int) (q1 : Int) (q2 : ByteArray) (q3 : Sl) =>
      R (.returned (.tuple #[.agg #[.int .i64 q0, .int .u8 q1, .string q2, .slice q3.base q3.len q3.cap], .int .i64 0])) w2 := by
  refine VLd.er x (Rd.of_bk h.n rfl) (VSt.bk h.z rfl (by simp [erC]) fun w2 hk e => ?_)
  have hk : Bk w2 b2 (erC x) 28 := hk
  refine VLd.er x (Rd.of_bk hk rfl) (hR w2 (h.e.then e (fun i hi hlt => by have := h.gz; simp at hi; omega)) (h.o.ext e fun i hi hm => ?_))
  simp at hm; subst hm
  obtain ⟨_, z1⟩ := h.o.1.bk_of hi
  exact h.z.neT z1 (by decide) rfl
end
theorem RepC.extT {w w' : World} {r q d : Nat} {st : Option (List UInt8)} {M : List Nat} (h : RepC w r q d st) (e : Ext M w w') (hM : ∀ b ∈ M, b < w.heap.size → ∃ cs t, Bk w b cs t ∧ t ≠ 95 ∧ t ≠ 93 ∧ t ≠ 5) : RepC w' r q d st := by
  obtain ⟨s, f, l, hr, hq, hs, hst⟩ := h
  refine ⟨s, f, l, hr.ext e fun hi => ?_, hq.ext e fun hi => ?_, hs.ext e (fun hn hi => ?_), hst⟩
  · obtain ⟨cs, t, hb, h1, h2, h3⟩ := hM _ hi hr.lt
    exact hb.neT hr h1 rfl
  · obtain ⟨cs, t, hb, h1, h2, h3⟩ := hM _ hi hq.lt
    exact hb.neT hq h2 rfl
  · rcases hs.2.2.2 with h0 | ⟨off, cells, _, hb2, _⟩
    · exact hn h0
    · obtain ⟨cs, t, hb, h1, h2, h3⟩ := hM _ hi hb2.lt
      exact hb.neT hb2 h3 rfl
theorem RepX.extT {w w' : World} {x d : Nat} {st : Option (List UInt8)} {M : List Nat} (h : RepX w x d st) (e : Ext M w w') (hM : ∀ b ∈ M, b < w.heap.size → ∃ cs t, Bk w b cs t ∧ t ≠ 103 ∧ t ≠ 5) : RepX w' x d st := by
  obtain ⟨s, f, l, hr, hs, hst⟩ := h
  refine ⟨s, f, l, hr.ext e fun hi => ?_, hs.ext e (fun hn hi => ?_), hst⟩
  · obtain ⟨cs, t, hb, h1, h3⟩ := hM _ hi hr.lt
    exact hb.neT hr h1 rfl
  · rcases hs.2.2.2 with h0 | ⟨off, cells, _, hb2, _⟩
    · exact hn h0
    · obtain ⟨cs, t, hb, h1, h3⟩ := hM _ hi hb2.lt
      exact hb.neT hb2 h3 rfl
theorem XReader_spec (s : Sl) (l : List UInt8) (w : World) (h : Seg w s.base s.len 1 (bc l)) (hl : l.length ≤ 140737488355328) :
    Calls Try.prog 48 #[.slice s.base s.len s.cap] w fun e w' => ∃ x d : Nat, e = .returned (.pointer (some ⟨x, 0, none⟩)) ∧ RepX w' x d (some l) ∧ Ext [] w w' ∧ w.heap.size ≤ x ∧ w.heap.size ≤ d := by
  refine sh_butteryref01_NewReader_ok _ _ _ ?_
  unfold sh_butteryref01_NewReader
  refine VNw.i fun b w1 hb hk e1 => ?_
  refine VApp.clone hb hk e1 h hl fun s2 w2 h2 e2 => ?_
  refine VNw.i fun x w3 hx hk3 e3 => ?_
  have z2 := e2.size
  obtain ⟨d, hd, hb⟩ := (h2.ext0 e3).bsl x (by omega)
  exact ⟨x, d, rfl, ⟨s2, false, l, hk3, hb, rfl, by simp⟩, e2.then0 e3, by omega, hd⟩
theorem xDone_spec (x d : Nat) (st : Option (List UInt8)) (w : World) (h : RepX w x d st) : Calls Try.prog 51 #[.pointer (some ⟨x, 0, none⟩)] w fun e w' => e = .returned (.bool (rDone st)) ∧ w' = w := by
  refine sh_butteryref01_Reader_Done_ok _ _ _ ?_
  unfold sh_butteryref01_Reader_Done
  obtain ⟨s, f, l, hx, hs, hst, hf⟩ := h
  have hl := hs.1
  refine VNN.i (VLd.i1 (t := .bool) f (Rd.of_bk hx rfl) ?_)
  refine ⟨⟨x, 0, none⟩, fun _ => rfl, ?_⟩
  refine VLd.s s (Rd.of_bk hx rfl) ⟨?_, rfl⟩
  subst hst
  cases f with
  | true => rfl
  | false => cases l <;> simp at hl <;> simp [rDone, hl] <;> omega
theorem u8in {n : Int} (h : 0 ≤ n ∧ n ≤ 255) : IntKind.wrap .u8 n = n := by rw [wrap8]; omega
set_option maxHeartbeats 1000000 in
theorem Read_spec (s : Sl) (l : List UInt8) (w : World) (h : In w s l) (hl : l.length ≤ 100000000) : Calls Try.prog 24 #[.slice s.base s.len s.cap] w fun r w' =>
      ∃ x : Er, r = .returned (.tuple #[.agg (erC x).toArray, .int .i64 (decE l).2]) ∧ EOwn w w' x (decE l).1 ∧ Ext [] w w' := by
  refine sh_rlog_Read_ok _ _ _ ?_
  unfold sh_rlog_Read
  refine VNw.i fun b2 w1 hb2 hk1 e1 => ?_
  have hk1 : Bk w1 b2 (erC zEr) 28 := hk1
  have lb2 := hk1.lt
  refine VCall.i (NewReader_spec s l w1 (h.ext0 e1).1 (by omega)) ?_
  rintro e w2 ⟨r, q, d, rfl, h2, e2, gr, gq, gd⟩
  refine exW.i1 (t := .ptr) _ rfl (VCall.i (rCount_spec r q d 2147483647 _ w2 h2) ?_)
  rintro e w3 ⟨rfl, h3, e3⟩
  refine exW.i1 (t := .int .i64) _ rfl (VCall.i (rCount_spec r q d 255 _ w3 h3) ?_)
  rintro e w4 ⟨rfl, h4, e4⟩
  refine exW.i1 (t := .int .i64) _ rfl (VCall.i (rStr_spec r q d 256 _ w4 h4) ?_)
  rintro e w5 ⟨rfl, h5, e5⟩
  have z1 := e1.size
  have z2 := e2.size
  have z3 := e3.size
  have z4 := e4.size
  have z5 := e5.size
  have e25 : Ext [q] w2 w5 := (e3.then e4 (fun i hi _ => hi)).then e5 (fun i hi _ => hi)
  have e05 : Ext [] w w5 := (e1.then0 e2).then e25 (fun i hi hlt => by simp at hi; omega)
  have hb5 := (hk1.ext e2).ext e25 (by simp; omega)
  have k2 := rCount_pos 255 (sE1 l).2
  have k2' := rCount_le 255 (by omega) (sE1 l).2
  refine exW.i1 (t := .str) _ rfl (VNw.i fun nb w6 hnb hk6 e6 => VSt.bk hk6 rfl (by simp) fun w7 hk7 e7 => ?_)
  have hu : IntKind.wrap .u8 (sE2 l).1 = (sE2 l).1 := u8in ⟨k2.1, k2'⟩
  have hk7 : Bk w7 nb (erC ⟨(sE1 l).1, (sE2 l).1, (sE3 l).1, nSl⟩) 28 := by
    have hq : Bk w7 nb (erC ⟨(sE1 l).1, IntKind.wrap .u8 (sE2 l).1, (sE3 l).1, nSl⟩) 28 := hk7
    rw [hu] at hq; exact hq
  have e57 : Ext [] w5 w7 := e6.then e7 (fun i hi hlt => by simp at hi; omega)
  have D7 : DE w w7 nb b2 ⟨(sE1 l).1, (sE2 l).1, (sE3 l).1, nSl⟩ [] := ⟨hk7, hb5.ext e57, OwnR.nil _ _ _ _, e05.then0 e57, by omega, by omega, by have := hb5.lt; omega⟩
  have h7 : RepC w7 r q d (sE3 l).2 := h5.ext0 e57
  have nbq : ∀ {W : World} {st : Option (List UInt8)}, RepC W r q d st → ∃ cs, Bk W q cs 93 := fun h => by
    obtain ⟨s, f, l, hr, hq, _⟩ := h
    exact ⟨_, hq⟩
  have stepR : ∀ {W W' : World} {x : Er} {Y : List Int} {st : Option (List UInt8)}, DE w W nb b2 x Y → RepC W r q d st → Ext [q] W W' → DE w W' nb b2 x Y := fun D R e => by
    obtain ⟨cs, hq⟩ := nbq R
    exact D.rd hq (by omega) (by decide) (by decide) e
  have keepR : ∀ {W W' : World} {st : Option (List UInt8)} {M : List Nat}, RepC W r q d st → Ext M W W' → (∀ i ∈ M, ∃ cs t, Bk W i cs t ∧ (t = 28 ∨ t = 3)) → RepC W' r q d st := fun R e hM => R.extT e fun b hb _ => by
    obtain ⟨cs, t, hk, ht⟩ := hM b hb
    refine ⟨cs, t, hk, ?_⟩
    rcases ht with rfl | rfl <;> exact ⟨by decide, by decide, by decide⟩
  refine VCall.i (rCount_spec r q d 5 _ w7 h7) ?_
  rintro e w8 ⟨rfl, h8, e8⟩
  have D8 := stepR D7 h7 e8
  have h8 : RepC w8 r q d (sE4 l).2 := h8
  have n1 := (rCount_pos 5 (sE3 l).2).1
  have n2 := rCount_le 5 (by omega) (sE3 l).2
  have hn : (rCount 5 (sE3 l).2).1 = ((nE l : Nat) : Int) := by unfold nE sE4; omega
  have hn5 : nE l ≤ 5 := by omega
  refine exW.i1 (t := .int .i64) _ rfl ?_
  rw [hn]
  refine ⟨fun kk i W => ∃ (j : Nat) (Y : List Int) (st : Option (List UInt8)) (c : Sl), i = (j : Int) ∧ j ≤ nE l ∧ kk = nE l - j ∧ Y.length = j ∧ sE5 l = (Y ++ (rL (nE l - j) st).1, (rL (nE l - j) st).2) ∧ DE w W nb b2 ⟨(sE1 l).1, (sE2 l).1, (sE3 l).1, c⟩ Y ∧ RepC W r q d st, ⟨_, 0, [], _, nSl, rfl, by omega, rfl, rfl, rfl, D8, h8⟩, ?_⟩
  rintro kk i w9 ⟨j, Y, st, c, rfl, hj, rfl, hYl, hcs, D9, R9⟩
  refine VIf.mk (fun hd2 => ?_) (fun hd2 => ?_)
  · have hj' : j < nE l := by simp at hd2; omega
    intro w10 hw10
    have ed := Ext.drew' hw10
    have D10 := D9.ext0 ed
    have R10 := R9.ext0 ed
    refine VLd.s c (Rd.of_bk D10.n rfl) ?_
    refine VCall.i (rCount_spec r q d 5 st w10 R10) ?_
    rintro e w11 ⟨rfl, R11, e11⟩
    have D11 := stepR D10 R10 e11
    refine exW.i1 (t := .int .i64) _ rfl ⟨Rd.of_bk D11.n rfl, ?_⟩
    refine VNw.i fun b24 w12 hb24 hk24 e12 => ⟨Rd.of_bk (D11.n.ext e12) rfl, ?_⟩
    refine (D11.ext0 e12).put hk24 (by omega) fun c' w13 D13 e13 hM => ?_
    have R13 := keepR (R11.ext0 e12) e13 hM
    refine ⟨_, (show nE l - (j + 1) < nE l - j by omega), j + 1, Y ++ [(rCount 5 st).1], (rCount 5 st).2, c', w64 (n := (j : Int) + 1) (by omega), by omega, rfl, by rw [List.length_append, hYl]; rfl, ?_, D13, R13⟩
    rw [hcs, show nE l - j = (nE l - (j + 1)) + 1 by omega]
    simp only [rL, List.append_assoc, List.cons_append, List.nil_append]
  · have hmm : j = nE l := by simp at hd2; omega
    subst hmm
    rw [Nat.sub_self] at hcs
    simp only [rL, List.append_nil] at hcs
    have hraw : rawE l = ⟨(sE1 l).1, (sE2 l).1, (sE3 l).1, Y⟩ := by unfold rawE; rw [hcs]
    have hgood : goodE l = (rDone st && okE (rawE l)) := by unfold goodE; rw [hcs]
    have bad : ∀ {W : World}, goodE l = false → DE w W nb b2 ⟨(sE1 l).1, (sE2 l).1, (sE3 l).1, c⟩ Y → VSt none W ⟨b2, 0, none⟩ [.int .i64 0, .int .u8 0, .string ByteArray.empty, .slice none 0 0] fun (w2 : World) => VLd none w2 ⟨b2, 0, none⟩ [CT.int .i64, CT.int .u8, CT.str, CT.sl] fun (q0 : Int) (q1 : Int) (q2 : ByteArray) (q3 : Sl) =>
        ∃ x : Er, (Ending.returned (.tuple #[.agg #[.int .i64 q0, .int .u8 q1, .string q2, .slice q3.base q3.len q3.cap], .int .i64 4])) = .returned (.tuple #[.agg (erC x).toArray, .int .i64 (decE l).2]) ∧ EOwn w w2 x (decE l).1 ∧ Ext [] w w2 := by
      intro W hg D
      unfold decE
      rw [hg]
      exact D.no (R := fun r w' => ∃ x : Er, r = .returned (.tuple #[.agg (erC x).toArray, .int .i64 4]) ∧ EOwn w w' x zEn ∧ Ext [] w w') fun W' e => ⟨zEr, rfl, EOwn.z _ _, e⟩
    refine VCall.pure (rDone_spec r q d st w9 R9) (exW.i1 (t := .bool) _ rfl ?_)
    refine VLd.er (g := some (!(!rDone st))) ⟨(sE1 l).1, (sE2 l).1, (sE3 l).1, c⟩ (Rd.of_bk D9.n rfl) ?_
    cases hdn : rDone st with
    | false =>
      refine VCall.off rfl (exW.i1 (t := .bool) false trivial (VIf.t rfl ?_))
      exact bad (by rw [hgood, hdn]; rfl) D9
    | true =>
      have hin : EIn w9 ⟨(sE1 l).1, (sE2 l).1, (sE3 l).1, c⟩ (rawE l) := by rw [hraw]; exact ⟨rfl, rfl, rfl, D9.o.in_⟩
      refine VCall.on rfl (VCall.i (Check_spec _ (rawE l) w9 hin) ?_)
      rintro e w10 ⟨rfl, e10⟩
      have D10 := D9.ext0 e10
      refine exW.i1 (t := .bool) _ rfl (VIf.mk (fun hq => ?_) (fun hq => ?_))
      · have hq : okE (rawE l) = false := by simpa using hq
        exact bad (by rw [hgood, hdn, hq]; rfl) D10
      · have hq : okE (rawE l) = true := by simpa using hq
        have hg : goodE l = true := by rw [hgood, hdn, hq]; rfl
        unfold decE
        rw [hg]
        exact D10.yes (R := fun r w' => ∃ x : Er, r = .returned (.tuple #[.agg (erC x).toArray, .int .i64 0]) ∧ EOwn w w' x (rawE l) ∧ Ext [] w w') fun W' e ho => ⟨_, rfl, by rw [hraw]; exact ⟨rfl, rfl, rfl, ho⟩, e⟩
end Go.Proofs.Ytkekjbdppabmhaa
