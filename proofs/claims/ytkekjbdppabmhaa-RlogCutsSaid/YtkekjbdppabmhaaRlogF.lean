/-
  Package rlog: entries in new memory; are they the same?
-/
import Derived.Test.YtkekjbdppabmhaaRlogE
namespace Go.Proofs.Ytkekjbdppabmhaa
open Go.RowKit
set_option maxRecDepth 100000

theorem OwnR.notin {α : Type} {r : Rec α} {e t : TypeId} {w0 w : World} {s : Sl} {L : List α} {b : Nat} {cs : List Value} (h : OwnR r e w0 w s L) (hk : Bk w b cs t) (hne : e ≠ t) : b ∉ rowB s := fun hi => by
  obtain ⟨_, hz⟩ := h.1.bk_of hi
  exact hz.neT hk hne rfl
theorem OwnR.notinT {α β : Type} {r : Rec α} {q : Rec β} {e t : TypeId} {w0 w1 w : World} {s s' : Sl} {L : List α} {M : List β} (h : OwnR r e w0 w s L) (h' : OwnR q t w1 w s' M) (hne : e ≠ t) : ∀ b ∈ rowB s', b ∉ rowB s := fun b hb' hi => by
  obtain ⟨_, hz⟩ := h.1.bk_of hi
  obtain ⟨_, hz'⟩ := h'.1.bk_of hb'
  exact hz.neT hz' hne rfl
theorem OwnR.ext1 {α : Type} {r : Rec α} {e t : TypeId} {w0 w w' : World} {s : Sl} {L : List α} {b : Nat} {cs : List Value} (h : OwnR r e w0 w s L) (hk : Bk w b cs t) (hne : e ≠ t) (x : Ext [b] w w') : OwnR r e w0 w' s L :=
  h.ext x fun i hi hm => by simp at hm; subst hm; exact h.notin hk hne hi
theorem CloneI_spec (s : Sl) (L : List Int) (w : World) (h : InR itR w s L) (hL : L.length ≤ 100000000) : Calls Try.prog 54 #[.slice s.base s.len s.cap] w fun e w' => ∃ s' : Sl, e = .returned (.slice s'.base s'.len s'.cap) ∧ OwnR itR 3 w w' s' L ∧ Ext [] w w' := by
  refine sh_slices_Clone'_ok _ _ _ ?_
  unfold sh_slices_Clone'
  have hl := h.1.rlen
  refine VIf.mk (fun hc => ?_) (fun hc => ?_)
  · have h0 : L = [] := by
      have hb : s.base = none := by simpa using hc
      rcases h.1.2 with h0 | ⟨a, ha, _⟩
      · exact List.eq_nil_of_length_eq_zero (by omega)
      · rw [hb] at ha; cases ha
    subst h0
    exact ⟨⟨none, 0, 0⟩, rfl, OwnR.nil _ _ _ _, Ext.refl _ _⟩
  · refine VNw.i fun b w1 hb hk e1 => ?_
    exact VApp.rclone (r := itR) hb hk e1 h.1 rfl (by omega) (by omega) fun s' w' h' e' => ⟨s', rfl, h', e'⟩
theorem CloneE_spec (s : Sl) (L : List Er) (w : World) (h : InR erR w s L) (hL : L.length ≤ 100000000) : Calls Try.prog 36 #[.slice s.base s.len s.cap] w fun e w' => ∃ s' : Sl, e = .returned (.slice s'.base s'.len s'.cap) ∧ OwnR erR 28 w w' s' L ∧ Ext [] w w' := by
  refine sh_slices_Clone_ok _ _ _ ?_
  unfold sh_slices_Clone
  have hl := h.1.rlen
  refine VIf.mk (fun hc => ?_) (fun hc => ?_)
  · have h0 : L = [] := by
      have hb : s.base = none := by simpa using hc
      rcases h.1.2 with h0 | ⟨a, ha, _⟩
      · exact List.eq_nil_of_length_eq_zero (by omega)
      · rw [hb] at ha; cases ha
    subst h0
    exact ⟨⟨none, 0, 0⟩, rfl, OwnR.nil _ _ _ _, Ext.refl _ _⟩
  · refine VNw.i fun b w1 hb hk e1 => ?_
    exact VApp.rclone (r := erR) hb hk e1 h.1 rfl (by omega) (by omega) fun s' w' h' e' => ⟨s', rfl, h', e'⟩
theorem exW.er {e : Ending} {w : World} {K : ArrW [CT.int .i64, CT.int .u8, CT.str, CT.sl]} (x : Er) (he : e = .returned (.agg (erC x).toArray)) (k : K x.t x.k x.d x.s w) :
    exW (flatCT (.agg #[.int .i64 0, .int .u8 0, .string ByteArray.empty, .slice none 0 0])) (fun vs => e = .returned (rebuild (.agg #[.int .i64 0, .int .u8 0, .string ByteArray.empty, .slice none 0 0]) vs)) K w := ⟨x.t, x.k, x.d, x.s, he, k⟩
theorem twin_spec (x : Er) (e : En) (w : World) (h : EIn w x e) (hL : e.list.length ≤ 100000000) : Calls Try.prog 39 #[.agg (erC x).toArray] w fun r w' => ∃ x' : Er, r = .returned (.agg (erC x').toArray) ∧ EOwn w w' x' e ∧ Ext [] w w' := by
  refine sh_rlog_twin_ok _ _ _ _ _ _ ?_
  unfold sh_rlog_twin
  refine VNw.i fun nb w1 hnb hk1 e1 => ?_
  have hk1 : Bk w1 nb (erC x) 28 := hk1
  refine VNw.i fun rb w2 hrb hr2 e2 => ?_
  have hk2 := hk1.ext e2
  refine VLd.s x.s (Rd.of_bk hk2 rfl) ?_
  have h2 := h.ext0 (e1.then0 e2)
  refine VCall.i (CloneI_spec x.s e.list w2 h2.hl hL) ?_
  rintro r w3 ⟨s', rfl, ho, e3⟩
  refine exW.i1 (t := .sl) s' rfl ?_
  have l1 := hk1.lt
  have z1 := e1.size
  have z2 := e2.size
  have z3 := e3.size
  refine VSt.bk (hk2.ext e3) rfl (by simp [erC]) fun w4 hk4 e4 => ?_
  have hk4 : Bk w4 nb (erC ⟨x.t, x.k, x.d, s'⟩) 28 := hk4
  refine VLd.er ⟨x.t, x.k, x.d, s'⟩ (Rd.of_bk hk4 rfl) ?_
  have hr4 := (hr2.ext e3).ext e4 (by simp; omega)
  refine VSt.bk hr4 rfl (by simp) fun w5 hr5 e5 => ?_
  have hr5 : Bk w5 rb (erC ⟨x.t, x.k, x.d, s'⟩) 28 := hr5
  refine VLd.er ⟨x.t, x.k, x.d, s'⟩ (Rd.of_bk hr5 rfl) ⟨⟨x.t, x.k, x.d, s'⟩, rfl, ⟨h.ht, h.hk, h.hd, ?_⟩, ?_⟩
  · have := ho.ext1 (hk2.ext e3) (by decide) e4
    exact (this.ext1 hr4 (by decide) e5).mono (by omega)
  · exact (((e1.then0 e2).then0 e3).then e4 (fun i hi hlt => by simp at hi; omega)).then e5 (fun i hi hlt => by simp at hi; omega)
theorem xTwin_spec (x : Er) (e : En) (w : World) (h : EIn w x e) (hL : e.list.length ≤ 100000000) : Calls Try.prog 21 #[.agg (erC x).toArray] w fun r w' => ∃ x' : Er, r = .returned (.agg (erC x').toArray) ∧ EOwn w w' x' e ∧ Ext [] w w' := by
  refine sh_butteryref14_Twin_ok _ _ _ _ _ _ ?_
  unfold sh_butteryref14_Twin
  refine VNw.i fun nb w1 hnb hk1 e1 => ?_
  have hk1 : Bk w1 nb (erC x) 28 := hk1
  refine VNw.i fun rb w2 hrb hr2 e2 => VNw.i fun b3 w3 hb3 hk3 e3 => ?_
  have hk2 := (hk1.ext e2).ext e3
  refine VLd.s x.s (Rd.of_bk hk2 rfl) ?_
  have h2 := h.ext0 (e1.then0 e2)
  have hn := h.hl.len
  have l1 := hk1.lt
  have z1 := e1.size
  have z2 := e2.size
  have z3 := e3.size
  have h3 := h2.ext0 e3
  refine VApp.rclone (r := itR) hb3 hk3 e3 h2.hl.1 rfl (by omega) (by omega) fun s' w4 ho e24 => ?_
  have hkk := (hk1.ext e2).ext e24
  have hrr := hr2.ext e24
  have z4 := e24.size
  refine VSt.bk hkk rfl (by simp [erC]) fun w5 hk5 e5 => ?_
  have hk5 : Bk w5 nb (erC ⟨x.t, x.k, x.d, s'⟩) 28 := hk5
  refine VLd.er ⟨x.t, x.k, x.d, s'⟩ (Rd.of_bk hk5 rfl) ?_
  have hr5 := hrr.ext e5 (by simp; omega)
  refine VSt.bk hr5 rfl (by simp) fun w6 hr6 e6 => ?_
  have hr6 : Bk w6 rb (erC ⟨x.t, x.k, x.d, s'⟩) 28 := hr6
  refine VLd.er ⟨x.t, x.k, x.d, s'⟩ (Rd.of_bk hr6 rfl) ⟨⟨x.t, x.k, x.d, s'⟩, rfl, ⟨h.ht, h.hk, h.hd, ?_⟩, ?_⟩
  · have := ho.ext1 hkk (by decide) e5
    exact (this.ext1 hr5 (by decide) e6).mono (by omega)
  · exact (((e1.then0 e2).then0 e24).then e5 (fun i hi hlt => by simp at hi; omega)).then e6 (fun i hi hlt => by simp at hi; omega)
/-- entries that can be read -/
def LIn (w : World) (s : Sl) (L : List En) : Prop := ∃ X : List Er, InR erR w s X ∧ X.length = L.length ∧ ∀ i (h : i < X.length) (h' : i < L.length), EIn w X[i] L[i]
/-- entries in memory of their own -/
def LOwn (w0 w : World) (s : Sl) (L : List En) : Prop := ∃ X : List Er, OwnR erR 28 w0 w s X ∧ X.length = L.length ∧ ∀ i (h : i < X.length) (h' : i < L.length), EOwn w0 w X[i] L[i]
section
variable {w0 w w' : World} {s : Sl} {L : List En}
theorem LIn.len (h : LIn w s L) : s.len = L.length := by obtain ⟨X, h1, h2, _⟩ := h; rw [← h2]; exact h1.len
theorem LIn.cap (h : LIn w s L) : s.len ≤ s.cap ∧ s.cap ≤ 9223372036854775807 := by obtain ⟨X, h1, h2, _⟩ := h; exact h1.2
theorem LIn.ext0 (h : LIn w s L) (e : Ext [] w w') : LIn w' s L := by obtain ⟨X, h1, h2, h3⟩ := h; exact ⟨X, h1.ext0 e, h2, fun i a b => (h3 i a b).ext0 e⟩
theorem LOwn.lin (h : LOwn w0 w s L) : LIn w s L := by obtain ⟨X, h1, h2, h3⟩ := h; exact ⟨X, h1.in_, h2, fun i a b => (h3 i a b).ein⟩
theorem LOwn.len (h : LOwn w0 w s L) : s.len = L.length := h.lin.len
theorem LOwn.ext0 (h : LOwn w0 w s L) (e : Ext [] w w') : LOwn w0 w' s L := by obtain ⟨X, h1, h2, h3⟩ := h; exact ⟨X, h1.ext0 e, h2, fun i a b => (h3 i a b).ext0 e⟩
theorem LOwn.mono {w1 : World} (h : LOwn w1 w s L) (le : w0.heap.size ≤ w1.heap.size) : LOwn w0 w s L := by obtain ⟨X, h1, h2, h3⟩ := h; exact ⟨X, h1.mono le, h2, fun i a b => (h3 i a b).mono le⟩
theorem EOwn.ext1 {x : Er} {e : En} {b : Nat} {cs : List Value} {t : TypeId} (h : EOwn w0 w x e) (hk : Bk w b cs t) (h1 : 3 ≠ t) (k : Ext [b] w w') : EOwn w0 w' x e := ⟨h.ht, h.hk, h.hd, h.ho.ext1 hk h1 k⟩
/-- a block of another kind changed -/
theorem LOwn.ext1 {b : Nat} {cs : List Value} {t : TypeId} (h : LOwn w0 w s L) (hk : Bk w b cs t) (h1 : 28 ≠ t) (h2 : 3 ≠ t) (e : Ext [b] w w') : LOwn w0 w' s L := by
  obtain ⟨X, g1, g2, g3⟩ := h
  exact ⟨X, g1.ext1 hk h1 e, g2, fun i a b => (g3 i a b).ext1 hk h2 e⟩
theorem LIn.nil (w : World) : LIn w nSl [] := ⟨[], InR.nil _, rfl, fun i h _ => absurd h (by simp)⟩
theorem LOwn.nil (w0 w : World) : LOwn w0 w nSl [] := ⟨[], OwnR.nil _ _ _ _, rfl, fun i h _ => absurd h (by simp)⟩
end
theorem twins_spec (s : Sl) (L : List En) (w : World) (h : LIn w s L) (hL : L.length ≤ 100000000) (hl : ∀ e ∈ L, e.list.length ≤ 100000000) : Calls Try.prog 35 #[.slice s.base s.len s.cap] w fun r w' => ∃ s' : Sl, r = .returned (.slice s'.base s'.len s'.cap) ∧ LOwn w w' s' L ∧ Ext [] w w' := by
  refine sh_rlog_twins_ok _ _ _ ?_
  unfold sh_rlog_twins
  obtain ⟨X, hX, hXl, hE⟩ := h
  have hn := hX.len
  refine VMk.i (by omega) (by omega) (by omega) (by omega) fun b w1 hb hk1 e1 => ?_
  rw [Int.toNat_natCast] at hk1
  have hk1 : Bk w1 b (erR.cells (List.replicate s.len zEr)) 28 := Bk.made erR zEr rfl rfl hk1
  refine VCopy.full (r := erR) hk1 (List.length_replicate ..) (hX.ext0 e1).1 rfl rfl fun w2 hk2 e2 => ?_
  have lb := hk1.lt
  have e02 : Ext [] w w2 := e1.then e2 (fun i hi hlt => by simp at hi; omega)
  have ho : OwnR erR 28 w w2 ⟨some ⟨b, 0, none⟩, s.len, s.len⟩ X := ⟨Row.of_bk hk2 (by rw [Rec.cells_len, hn]) (by omega), by simp [rowB]; omega⟩
  refine ⟨fun kk i W => ∃ (j : Nat) (Z : List Er), i = (j : Int) ∧ j ≤ L.length ∧ kk = L.length - j ∧ Z.length = X.length ∧ OwnR erR 28 w W ⟨some ⟨b, 0, none⟩, s.len, s.len⟩ Z ∧ (∀ q (hq : q < j) (h1 : q < Z.length) (h2 : q < L.length), EOwn w W Z[q] L[q]) ∧ (∀ q (hq : j ≤ q) (h1 : q < Z.length) (h2 : q < X.length), Z[q] = X[q]) ∧ Ext [] w W,
    ⟨_, 0, X, rfl, by omega, rfl, rfl, ho, fun q hq => by omega, fun q hq h1 h2 => rfl, e02⟩, ?_⟩
  rintro kk i w3 ⟨j, Z, rfl, hj, rfl, hZl, hZ, hdone, hrest, e03⟩
  refine VIf.mk (fun hc => ?_) (fun hc => ?_)
  · have hj' : j < L.length := by simp at hc; omega
    have hjZ : j < Z.length := by omega
    have hjX : j < X.length := by omega
    refine VSet.i ?_
    refine VIx.rd (r := erR) hZ.seg hjZ fun a hra => ?_
    have hzx : Z[j] = X[j] := hrest j (Nat.le_refl _) hjZ hjX
    rw [hzx] at hra
    refine VLd.er X[j] (by rw [Int.toNat_natCast]; exact hra) ?_
    have hEj := (hE j hjX hj').ext0 e03
    refine VCall.i (twin_spec X[j] L[j] w3 hEj (hl _ (List.getElem_mem hj'))) ?_
    rintro r w4 ⟨x', rfl, hx', e4⟩
    refine exW.er x' rfl ?_
    have hZ4 := hZ.ext0 e4
    refine Row.putR (r := erR) (g := none) (j := 0) (x := x') (vs := erC x') (ad := fun a => a.add (Int.toNat (j : Int) * 4)) hZ4.1 hjZ (by show 0 + 4 ≤ 4; omega) rfl (by
      show (erC Z[j]).take 0 ++ erC x' ++ (erC Z[j]).drop (0 + 4) = erC x'
      simp [erC]) (fun a => by rw [Int.toNat_natCast, add_zero]; rfl) fun w5 hr5 e5 => ?_
    have hO5 : OwnR erR 28 w w5 ⟨some ⟨b, 0, none⟩, s.len, s.len⟩ (Z.set j x') := ⟨hr5, hZ.2⟩
    have hne : ∀ {q : Er} {e : En}, EOwn w w4 q e → EOwn w w5 q e := fun hq => ⟨hq.ht, hq.hk, hq.hd, hq.ho.ext e5 (fun i hi hm => by exact OwnR.notinT hZ4 hq.ho (by decide) i hi hm)⟩
    refine ⟨_, (show L.length - (j + 1) < L.length - j by omega), j + 1, Z.set j x', w64 (n := (j : Int) + 1) (by omega), by omega, rfl, by rw [List.length_set]; exact hZl, hO5, fun q hq h1 h2 => ?_, fun q hq h1 h2 => ?_, (e03.then0 e4).then e5 (fun i hi hlt => by have := hZ.2 i hi; omega)⟩
    · rw [List.getElem_set]
      split
      · rename_i hjq; subst hjq; exact hne (hx'.mono e03.size)
      · exact hne ((hdone q (by omega) (by rw [List.length_set] at h1; exact h1) h2).ext0 e4)
    · rw [List.getElem_set, if_neg (by omega)]
      exact hrest q (by omega) _ h2
  · have hj' : j = L.length := by simp at hc; omega
    subst hj'
    exact ⟨⟨some ⟨b, 0, none⟩, s.len, s.len⟩, rfl, ⟨Z, hZ, by omega, fun q h1 h2 => hdone q h2 h1 h2⟩, e03⟩
end Go.Proofs.Ytkekjbdppabmhaa
