/-
  Package parts, outright: PartsWhole.
-/
import Derived.Test.YthpbkkjggnejcaaPartsN
namespace Go.Proofs.Ythpbkkjggnejcaa
open Go.RowKit
set_option maxRecDepth 100000

/-- a joiner, and a block that is none of its own -/
def JAtN (w0 W : World) (jb : Nat) (A : Ab) (b : Nat) : Prop := b < W.heap.size ∧ ∃ K mb os F, JR w0 W jb K mb os F ∧ absE K = A ∧ b ∉ jbs jb K mb os
theorem OwnR.nb1 {α : Type} {r : Rec α} {e t : TypeId} {w0 w : World} {s : Sl} {L : List α} {b : Nat} {cs : List Value} (h : OwnR r e w0 w s L) (k : Bk w b cs t) (hne : e ≠ t) : ∀ i ∈ rowB s, i ∉ [b] := fun i hi hq => by
  simp at hq; subst hq
  obtain ⟨_, hz⟩ := h.1.bk_of hi
  exact hz.neT k hne rfl
theorem Own.nb1 {t : TypeId} {w0 w : World} {s : Sl} {l : List UInt8} {b : Nat} {cs : List Value} (h : Own w0 w s l) (k : Bk w b cs t) (hne : 5 ≠ t) : ∀ i ∈ rowB s, i ∉ [b] := fun i hi hq => by
  simp at hq; subst hq
  obtain ⟨_, hz⟩ := h.1.bk_of hi
  exact hz.neT k hne rfl
section
variable {w w0 W W' W2 : World} {jb b : Nat} {A : Ab}
theorem JAtN.at (h : JAtN w0 W jb A b) : JAt w0 W jb A := by
  obtain ⟨_, K, mb, os, F, hJ, hA, _⟩ := h
  exact ⟨K, mb, os, F, hJ, hA⟩
theorem JAtN.wr (h : JAtN w0 W jb A b) (e : Ext [b] W W') : JAtN w0 W' jb A b := by
  obtain ⟨hl, K, mb, os, F, hJ, hA, hb⟩ := h
  exact ⟨Nat.lt_of_lt_of_le hl e.size, K, mb, os, F, hJ.ext e (fun i hi hm => by simp at hm; subst hm; exact hb hi), hA, hb⟩
theorem JAtN.take (h : JAtN w0 W jb A b) {fr : Int} {s : Sl} {l : List UInt8} (hs : In W s l) {K : Sl → Bool → Int → World → Prop}
    (k : ∀ t W', JAtN w0 W' jb (takeP A fr l).1 b → OutR W W' t (takeP A fr l).2.1 → JEx w0 W W' → (∀ cs t, Bk W b cs t → Bk W' b cs t) → K t (takeP A fr l).2.2.1 (takeP A fr l).2.2.2 W') :
    VCall none Try.prog 13 #[.pointer (some ⟨jb, 0, none⟩), .int .i64 fr, .slice s.base s.len s.cap] W (.tuple #[.slice none 0 0, .bool false, .int .i64 0]) fun (t : Sl) (o : Bool) (e : Int) (W' : World) => K t o e W' := by
  obtain ⟨hl, K0, mb, os, F, hJ, rfl, hb⟩ := h
  refine VCall.i (Take_spec fr s l hJ hs) ?_
  rintro e w' ⟨t, K', rfl, hA, ho, os', F', hJ', e', hin⟩
  refine exW.i3 (t := .sl) (u := .bool) (v := .int .i64) t _ _ rfl (k t w' ⟨Nat.lt_of_lt_of_le hl e'.size, K', mb, os', F', hJ', hA, fun hi => ?_⟩ ho ⟨_, e', fun i hi => ⟨(hJ.old i hi).1, fun cs t hk => hJ.ty hi hk⟩⟩ fun cs t hk => hk.ext e' hb)
  rcases hin b hi with h' | h'
  · exact hb h'
  · omega
end
def intR : Rec Int := ⟨fun n => [.int .i64 n], 1, fun _ => rfl, fun _ => rfl, by omega⟩
theorem PK.at2 {w1 W : World} {t : Sl} {X : List (Sl × List UInt8)} {n : Int} {l : List UInt8} {N : Nat} (h : PK w1 W t X n l) (hN : N = cnt l.length) {i : Nat} (hi : i < cnt l.length) {K : Addr → Prop} (k : ∀ (a : Addr) (s : Sl), Rd W (a.add (i * 1)) [.slice s.base s.len s.cap] → In W s (pkt n (i : Int) (cnt l.length : Int) (chunk l i)) → K a) : VIx none t.base N (i : Int) K := by
  rw [hN, ← h.len.1]
  exact h.at hi k
theorem pkt_len {n : Int} {l : List UInt8} (hn : 0 ≤ n ∧ n < 128) (hl : l.length ≤ 8192) {i : Nat} (hi : i < cnt l.length) : (pkt n (i : Int) (cnt l.length : Int) (chunk l i)).length ≤ 400 := by
  have hc := chunk_len l i
  have hb : cnt l.length ≤ 22 := by unfold cnt; split <;> omega
  have e1 : ∀ m : Nat, m < 128 → (encC (m : Int)).length = 1 := fun m hm => by
    unfold encC
    rw [if_pos (by omega), Int.toNat_natCast, enc_small hm]; rfl
  have h1 := e1 n.toNat (by omega)
  rw [Int.toNat_of_nonneg hn.1] at h1
  have h2 := e1 i (by omega)
  have h3 := e1 (cnt l.length) (by omega)
  have h4 := enc_len 1 (chunk l i).length (by omega)
  unfold pkt
  rw [frame_len]
  unfold bodyP encB
  simp only [List.length_append]
  omega
/-- which parts are there, and what is kept of them -/
def Wh (A : Ab) (key : Ky) (l : List UInt8) (T : Nat → Bool) : Prop := findA A key = if (∃ i, i < cnt l.length ∧ T i = true) ∧ 0 < leftOf (slT l T) then some (slT l T) else none
theorem Wh.step {A : Ab} {fr n : Int} {l : List UInt8} {T : Nat → Bool} {i : Nat} (h : Wh A (fr, n) l T) (hn : 0 ≤ n ∧ n ≤ 2147483647) (hl : l.length ≤ 8192) (hi : i < cnt l.length) (hT : 0 < leftOf (slT l T)) (hA : A.length < 16) (hnd : (A.map (·.1)).Nodup) :
    ∃ A' : Ab, takeP A fr (pkt n (i : Int) (cnt l.length : Int) (chunk l i)) = (if 0 < leftOf (slT l (fun j => T j || j == i)) then (A', [], false, 0) else (A', l, true, 0)) ∧
      (∀ c, c ≠ (fr, n) → findA A' c = findA A c) ∧ Wh A' (fr, n) l (fun j => T j || j == i) ∧ A'.length + ind A (fr, n) = A.length + ind A' (fr, n) := by
  unfold Wh at h
  obtain ⟨A', t1, f1, g1, n1⟩ := take_step (A := A) (fr := fr) hn hl T hi hA hnd (by
    by_cases hx : ∃ i, i < cnt l.length ∧ T i = true
    · rw [if_pos ⟨hx, hT⟩] at h
      refine .inl ⟨h, ?_⟩
      obtain ⟨j, hj, hTj⟩ := hx
      obtain ⟨j', hj', hTj'⟩ := (slT_some l T).1 hT
      have : j ≠ j' := fun e => by subst e; rw [hTj] at hTj'; cases hTj'
      omega
    · rw [if_neg (fun h => hx h.1)] at h
      refine .inr ⟨h, fun j hj => ?_⟩
      cases hv : T j with
      | false => rfl
      | true => exact absurd ⟨j, hj, hv⟩ hx)
  refine ⟨A', t1, f1, ?_, ?_⟩
  · unfold Wh
    rw [g1]
    have hex : ∃ k, k < cnt l.length ∧ (T k || k == i) = true := ⟨i, hi, by simp⟩
    by_cases hlf : 0 < leftOf (slT l (fun j => T j || j == i))
    · rw [if_pos hlf, if_pos ⟨hex, hlf⟩]
    · rw [if_neg hlf, if_neg (fun h => hlf h.2)]
  · have hi' : ind A' (fr, n) = if 0 < leftOf (slT l (fun j => T j || j == i)) then 1 else 0 := by
      unfold ind
      rw [g1]
      split <;> simp
    rw [hi']
    exact n1
def bsT (l : List UInt8) (T : Nat → Bool) : List Bool := (List.range (cnt l.length)).map T
theorem bsT_len (l : List UInt8) (T : Nat → Bool) : (bsT l T).length = cnt l.length := by simp [bsT]
theorem bsT_get (l : List UInt8) (T : Nat → Bool) (i : Nat) (h : i < (bsT l T).length) : (bsT l T)[i] = T i := by simp [bsT]
theorem bsT_set (l : List UInt8) (T : Nat → Bool) (i : Nat) : (bsT l T).set i true = bsT l (fun j => T j || j == i) := by
  apply List.ext_getElem
  · simp [bsT_len]
  · intro j h1 h2
    rw [bsT_get, List.getElem_set]
    by_cases hij : i = j
    · subst hij; simp
    · have : ¬ j = i := fun e => hij e.symm
      rw [if_neg hij, bsT_get]
      simp [this]
theorem left_step (l : List UInt8) (T : Nat → Bool) {i : Nat} (hi : i < cnt l.length) (hT : T i = false) : leftOf (slT l (fun j => T j || j == i)) + 1 = leftOf (slT l T) := by
  rw [← slT_put l T i hi]
  unfold putS
  have hg : (slT l T)[i]? = some none := by rw [slT_get l T i hi]; simp [hT]
  rw [if_pos hg]
  exact left_set hg
theorem same_step (l : List UInt8) (T : Nat → Bool) {i : Nat} (hT : T i = true) : slT l (fun j => T j || j == i) = slT l T := by
  congr 1
  funext j
  by_cases hj : j = i
  · subst hj; simp [hT]
  · simp [hj]
set_option maxHeartbeats 1000000 in
theorem PartsWhole_law (a b o : Sl) (la lb : List UInt8) (lo : List Int) (w : World) (ha : In w a la) (hb : In w b lb) (ho : InR intR w o lo) :
    Calls Try.prog 7 #[.slice a.base a.len a.cap, .slice b.base b.len b.cap, .slice o.base o.len o.cap] w fun e w' => e = .returned (.bool true) ∧ Ext [] w w' := by
  refine sh_butterylaw11_PartsWhole_ok _ _ _ _ _ ?_
  unfold sh_butterylaw11_PartsWhole
  have hal := ha.len
  have hbl := hb.len
  have hol := ho.len
  refine VCall.i (works_spec w) ?_
  rintro e w1 ⟨rfl, e1⟩
  refine exW.i1 (t := .bool) true rfl (VIf.mk (fun hc => ?_) (fun hc => ?_))
  · refine VCall.i (works_spec w1) ?_
    rintro e w2 ⟨rfl, e2⟩
    exact exW.i1 (t := .bool) true rfl ⟨rfl, e1.then0 e2⟩
  have hc : la.length ≤ 8192 ∧ lb.length ≤ 8192 ∧ lo.length ≤ 300 := by simp at hc; omega
  obtain ⟨hca, hcb, hco⟩ := hc
  have h7 : (0 : Int) ≤ 7 ∧ (7 : Int) ≤ 2147483647 := by omega
  have h8 : (0 : Int) ≤ 8 ∧ (8 : Int) ≤ 2147483647 := by omega
  refine cutGo (ha.ext0 e1) h7 hca fun t X w3 hP e3 => VSet.i ?_
  have e03 := e1.then0 e3
  refine cutGo (hb.ext0 e03) h8 hcb fun u Y w4 hQ e4 => VSet.i (VIf.f rfl ?_)
  have e04 := e03.then0 e4
  refine newGo fun jb w5 hJ e5 => ?_
  have z4 := e04.size
  have htl := hP.len.1
  have hul := hQ.len.1
  have hNp := cnt_pos la.length
  have hMp := cnt_pos lb.length
  have hN2 : cnt la.length ≤ 22 := by unfold cnt; split <;> omega
  have hM2 : cnt lb.length ≤ 22 := by unfold cnt; split <;> omega
  rw [htl, hul, hol]
  refine VMk.i (by omega) (by omega) (by omega) (by omega) fun tb w6 htb hk6 e6 => VSet.i ?_
  rw [Int.toNat_natCast] at hk6
  have hk6 : Bk w6 tb (boolR.cells (bsT la fun _ => false)) 4 := by
    have := Bk.made boolR false rfl rfl hk6
    have h2 : bsT la (fun _ => false) = List.replicate (cnt la.length) false := by
      apply List.ext_getElem
      · simp [bsT_len]
      · intro i h1 h2; rw [bsT_get]; simp
    rw [h2]; exact this
  have hJ6 : JAtN w4 w6 jb [] tb := by
    obtain ⟨K, mb, os, F, hj, hA⟩ := hJ
    exact ⟨by have := hk6.lt; omega, K, mb, os, F, hj.ext0 e6, hA, fun hi => by have := (hj.old tb hi).2; omega⟩
  have e46 := e5.then0 e6
  have e06 := e04.then0 e46
  have hl0 : leftOf (slT la fun _ => false) = cnt la.length := by rw [slT_none, leftOf_rep]
  have hi : ∀ (A : Ab) (c : Ky), ind A c ≤ 1 := fun A c => by unfold ind; split <;> omega
  have old : ∀ {W W' : World}, Ext [] w W → JEx w4 W W' → Ext [] w W' := fun e x => x.ext e z4
  refine ⟨fun k left i W => ∃ (q : Nat) (T T2 : Nat → Bool) (A : Ab), i = (q : Int) ∧ left = (leftOf (slT la T) : Int) ∧ q ≤ lo.length + cnt la.length ∧ k = lo.length + cnt la.length - q ∧ (∀ j, j + lo.length < q → T j = true) ∧ PK w1 W t X 7 la ∧ PK w3 W u Y 8 lb ∧ JAtN w4 W jb A tb ∧ Bk W tb (boolR.cells (bsT la T)) 4 ∧ Wh A (1, 7) la T ∧ (findA A (1, 8) = none ∨ (∃ T2, findA A (1, 8) = some (slT lb T2) ∧ 2 ≤ cnt lb.length)) ∧ A.length = ind A (1, 7) + ind A (1, 8) ∧ Ext [] w W,
    ⟨_, 0, fun _ => false, fun _ => false, [], rfl, by rw [hl0], by omega, rfl, fun j hj => by omega, (hP.ext0 e4).ext0 e46, hQ.ext0 e46, hJ6, hk6, ?_, .inl rfl, rfl, e06⟩, ?_⟩
  · unfold Wh
    rw [if_neg]
    · rfl
    · rintro ⟨⟨i, _, h⟩, _⟩; cases h
  rintro k left i w7 ⟨q, T, _, A, rfl, rfl, hq, rfl, hTq, hP7, hQ7, hJ7, hk7, hW, hO, hAl, e07⟩
  have hAb : A.length ≤ 2 := by have := hi A (1, 7); have := hi A (1, 8); omega
  rw [w64 (n := (lo.length : Int) + (cnt la.length : Int)) (by omega)]
  have hne : ((1 : Int), (8 : Int)) ≠ (1, 7) := by simp
  refine VIf.mk (fun hd => ?_) (fun hd => ?_)
  · have hd : q < lo.length + cnt la.length ∧ 0 < leftOf (slT la T) := by simp at hd; omega
    obtain ⟨hq', hleft⟩ := hd
    refine ⟨fun left W => ∃ (T' : Nat → Bool) (A : Ab), left = (leftOf (slT la T') : Int) ∧ (∀ j, j + lo.length < q + 1 → T' j = true) ∧ PK w1 W t X 7 la ∧ PK w3 W u Y 8 lb ∧ JAtN w4 W jb A tb ∧ Bk W tb (boolR.cells (bsT la T')) 4 ∧ Wh A (1, 7) la T' ∧ (findA A (1, 8) = none ∨ (∃ T2, findA A (1, 8) = some (slT lb T2) ∧ 2 ≤ cnt lb.length)) ∧ A.length = ind A (1, 7) + ind A (1, 8) ∧ Ext [] w W, ?_, ?_⟩
    · rw [w64 (n := (q : Int) - (lo.length : Int)) (by omega)]
      refine VSet.i ?_
      refine ⟨fun x W => W = w7 ∧ ∃ r : Nat, x = (r : Int) ∧ r < cnt la.length + cnt lb.length ∧ (lo.length ≤ q → r = q - lo.length), ?_, ?_⟩
      · refine VIf.mk (fun hx => ?_) (fun hx => ?_)
        · have hx : q < lo.length := by simp at hx; omega
          have hoi := (ho.ext0 e07).1
          rw [hol] at hoi
          refine VIx.i' (r := intR) hoi hx fun a hr => VLd.i1 (t := .int .i64) (lo[q]) hr ?_
          have hu : IntKind.wrap .u64 (IntKind.wrap .i64 ((cnt la.length : Int) + (cnt lb.length : Int))) = ((cnt la.length + cnt lb.length : Nat) : Int) := by
            rw [w64 (by omega), w64u]; omega
          rw [hu]
          refine VCk.i (by omega) ?_
          rw [w64u]
          have g0 : 0 ≤ lo[q] % 18446744073709551616 := Int.emod_nonneg _ (by omega)
          rw [Int.tmod_eq_emod_of_nonneg g0]
          have g2 := Int.emod_nonneg (lo[q] % 18446744073709551616) (show ((cnt la.length + cnt lb.length : Nat) : Int) ≠ 0 by omega)
          have g3 := Int.emod_lt_of_pos (lo[q] % 18446744073709551616) (show (0 : Int) < ((cnt la.length + cnt lb.length : Nat) : Int) by omega)
          rw [w64 (by omega)]
          exact VSet.i ⟨rfl, _, (Int.toNat_of_nonneg g2).symm, by omega, fun h => by omega⟩
        · have hx : lo.length ≤ q := by simp at hx; omega
          exact ⟨rfl, q - lo.length, by omega, by omega, fun _ => rfl⟩
      rintro x w8 ⟨rfl, r, rfl, hr, hrq⟩
      refine VIf.mk (fun hx => ?_) (fun hx => ?_)
      · -- the other message's
        have hx : cnt la.length ≤ r := by simp at hx; omega
        rw [w64 (n := (r : Int) - (cnt la.length : Int)) (by omega), show (r : Int) - (cnt la.length : Int) = ((r - cnt la.length : Nat) : Int) by omega]
        refine hQ7.at2 rfl (by omega) fun a' s' hrd hs => VLd.s s' hrd ?_
        have hst : (∃ T2, (findA A (1, 8) = some (slT lb T2) ∧ 2 ≤ cnt lb.length ∨ findA A (1, 8) = none ∧ (∀ j, j < cnt lb.length → T2 j = false))) := by
          rcases hO with h | ⟨T2, h, h2⟩
          · exact ⟨fun _ => false, .inr ⟨h, fun _ _ => rfl⟩⟩
          · exact ⟨T2, .inl ⟨h, h2⟩⟩
        obtain ⟨T2, hst⟩ := hst
        obtain ⟨A', t1, f1, g1, n1⟩ := take_step (A := A) (fr := 1) h8 hcb T2 (i := r - cnt la.length) (by omega) (by omega) hJ7.at.nodup hst
        refine hJ7.take hs fun out w9 hJ9 _ x9 hkeep => ?_
        have hA9 : (takeP A 1 (pkt 8 ((r - cnt la.length : Nat) : Int) (cnt lb.length : Int) (chunk lb (r - cnt la.length)))).1 = A' := by rw [t1]; split <;> rfl
        rw [hA9] at hJ9
        have h17 : findA A' (1, 7) = findA A (1, 7) := f1 _ (by simp)
        have hind : ind A' (1, 8) = if 0 < leftOf (slT lb (fun j => T2 j || j == r - cnt la.length)) then 1 else 0 := by
          unfold ind
          rw [g1]
          split <;> simp
        refine ⟨T, A', rfl, fun j hj => ?_, hP7.je x9, hQ7.je x9, hJ9, hkeep _ _ hk7, ?_, ?_, ?_, old e07 x9⟩
        · by_cases hjq : j + lo.length < q
          · exact hTq j hjq
          · have := hrq (by omega)
            omega
        · unfold Wh at hW ⊢
          rw [h17]; exact hW
        · rw [g1]
          split
          · rename_i hl
            right
            refine ⟨_, rfl, ?_⟩
            rcases hst with ⟨_, h2⟩ | ⟨_, h2⟩
            · exact h2
            · obtain ⟨j, hj, hTj⟩ := (slT_some _ _).1 hl
              have : j ≠ r - cnt la.length := fun e => by subst e; simp at hTj
              omega
          · exact .inl rfl
        · have h1 : ind A' (1, 7) = ind A (1, 7) := by unfold ind; rw [h17]
          have h2 : (if findA A (1, 8) = none then 0 else 1) = ind A (1, 8) := rfl
          rw [h2] at n1
          rw [hind, h1]
          omega
      · -- the message's
        have hx : r < cnt la.length := by simp at hx; omega
        refine hP7.at2 rfl hx fun a' s' hrd hs => VLd.s s' hrd (VIf.f ?_ ?_)
        · have h1 := pkt_len (n := 7) (by omega) hca hx
          have h2 := hs.len
          simp; omega
        refine hP7.at2 rfl hx fun a'' s'' hrd2 hs2 => VLd.s s'' hrd2 ?_
        obtain ⟨A', t1, f1, g1, n1⟩ := hW.step h7 hca hx hleft (by omega) hJ7.at.nodup
        refine hJ7.take hs2 fun out w9 hJ9 ho9 x9 hkeep => VSet.i ?_
        have hk9 := hkeep _ _ hk7
        have e09 := old e07 x9
        have h18 : findA A' (1, 8) = findA A (1, 8) := f1 _ hne
        have hseg : Seg w9 (some ⟨tb, 0, none⟩) (cnt la.length) boolR.k (boolR.cells (bsT la T)) := Seg.of_bk hk9 (by simp) (by rw [Rec.cells_len, bsT_len])
        have hrb : r < (bsT la T).length := by rw [bsT_len]; exact hx
        refine ⟨fun left W => ∃ T' : Nat → Bool, T' = (fun j => T j || j == r) ∧ left = (leftOf (slT la T') : Int) ∧ JAtN w4 W jb (takeP A 1 (pkt 7 (r : Int) (cnt la.length : Int) (chunk la r))).1 tb ∧ Bk W tb (boolR.cells (bsT la T')) 4 ∧ Ext [tb] w9 W, ?_, ?_⟩
        · refine VIx.i' (r := boolR) hseg hrb fun a3 hr3 => VLd.i1 (t := .bool) ((bsT la T)[r]) hr3 ?_
          rw [bsT_get]
          refine VIf.mk (fun hv => ?_) (fun hv => ?_)
          · have hv : T r = false := by simpa using hv
            have hrow : Row w9 4 boolR.k ⟨some ⟨tb, 0, none⟩, cnt la.length, cnt la.length⟩ (boolR.cells (bsT la T)) := Row.of_bk hk9 (by rw [Rec.cells_len, bsT_len]) (by omega)
            refine Row.putR (r := boolR) (j := 0) (vs := [.bool true]) (x := true) hrow hrb (by show 0 + 1 ≤ 1; omega) rfl rfl (fun a => by rw [add_zero]; rfl) fun w10 hrow10 e10 => ?_
            have e10 : Ext [tb] w9 w10 := e10.mono (fun i hi _ => by simpa [rowB] using hi)
            have hk10 : Bk w10 tb (boolR.cells ((bsT la T).set r true)) 4 := by
              obtain ⟨g1, g2, g3, g4⟩ := hrow10
              rcases g4 with ⟨g5, _⟩ | ⟨b, rest, g5, g6, g7⟩
              · cases g5
              · simp only [Option.some.injEq, Addr.mk.injEq] at g5
                obtain ⟨rfl, _⟩ := g5
                have hr0 : rest = [] := by
                  apply List.eq_nil_of_length_eq_zero
                  have : (boolR.cells ((bsT la T).set r true)).length = cnt la.length * 1 := by rw [Rec.cells_len, List.length_set, bsT_len]; rfl
                  have g7 : (boolR.cells ((bsT la T).set r true)).length + rest.length = cnt la.length * 1 := g7
                  omega
                rw [hr0, List.append_nil] at g6
                exact g6
            rw [bsT_set] at hk10
            have hls := left_step la T hx hv
            rw [w64 (n := (leftOf (slT la T) : Int) - 1) (by have : leftOf (slT la T) ≤ (slT la T).length := List.countP_le_length; rw [slT_len] at this; omega)]
            exact VSet.i ⟨_, rfl, by omega, hJ9.wr e10, hk10, e10⟩
          · have hv : T r = true := by simpa using hv
            have hsame := same_step la T hv
            refine ⟨_, rfl, by rw [hsame], hJ9, ?_, Ext.refl _ _⟩
            have : bsT la (fun j => T j || j == r) = bsT la T := by
              rw [← bsT_set]
              apply List.ext_getElem
              · simp
              · intro j h1 h2
                rw [List.getElem_set]
                split
                · rename_i e; subst e; rw [bsT_get]; exact hv.symm
                · rfl
            rw [this]; exact hk9
        rintro left w12 ⟨T', hT', rfl, hJ12, hk12, e12⟩
        have ho12 : OutR w8 w12 out (takeP A 1 (pkt 7 (r : Int) (cnt la.length : Int) (chunk la r))).2.1 := by
          obtain ⟨q1, q2⟩ := ho9
          refine ⟨q1, q2.imp id ?_⟩
          rintro ⟨bo, rest, hbo, hko, hwo⟩
          refine ⟨bo, rest, hbo, hko.ext e12 ?_, hwo⟩
          have := hko.neT hk9 (by decide)
          simpa using this
        have hP12 : PK w1 w12 t X 7 la := ⟨⟨(hP7.je x9).ss.er.ext e12 ((hP7.je x9).ss.er.nb1 hk9 (by decide)), fun j hj => ⟨((hP7.je x9).ss.ea j hj).1.ext e12 (((hP7.je x9).ss.ea j hj).nb1 hk9 (by decide)), ((hP7.je x9).ss.ea j hj).2⟩, hP7.ss.es⟩, hP7.xm⟩
        have hQ12 : PK w3 w12 u Y 8 lb := ⟨⟨(hQ7.je x9).ss.er.ext e12 ((hQ7.je x9).ss.er.nb1 hk9 (by decide)), fun j hj => ⟨((hQ7.je x9).ss.ea j hj).1.ext e12 (((hQ7.je x9).ss.ea j hj).nb1 hk9 (by decide)), ((hQ7.je x9).ss.ea j hj).2⟩, hQ7.ss.es⟩, hQ7.xm⟩
        have htb4 : w.heap.size ≤ tb := by have := e46.size; have := e5.size; omega
        have e012 : Ext [] w w12 := e09.then e12 (fun i hi hlt => by simp at hi; omega)
        rw [← hT'] at t1 g1
        have hΦ : (takeP A 1 (pkt 7 (r : Int) (cnt la.length : Int) (chunk la r))).1 = A' → (fun (left : Int) (W : World) => ∃ (T' : Nat → Bool) (A : Ab), left = (leftOf (slT la T') : Int) ∧ (∀ j, j + lo.length < q + 1 → T' j = true) ∧ PK w1 W t X 7 la ∧ PK w3 W u Y 8 lb ∧ JAtN w4 W jb A tb ∧ Bk W tb (boolR.cells (bsT la T')) 4 ∧ Wh A (1, 7) la T' ∧ (findA A (1, 8) = none ∨ (∃ T2, findA A (1, 8) = some (slT lb T2) ∧ 2 ≤ cnt lb.length)) ∧ A.length = ind A (1, 7) + ind A (1, 8) ∧ Ext [] w W) (leftOf (slT la T') : Int) w12 := fun hA => by
          rw [hA] at hJ12
          refine ⟨T', A', rfl, fun j hj => ?_, hP12, hQ12, hJ12, hk12, g1, ?_, ?_, e012⟩
          · rw [hT']
            by_cases hjq : j + lo.length < q
            · simp [hTq j hjq]
            · have := hrq (by omega)
              have : j = r := by omega
              simp [this]
          · rw [h18]; exact hO
          · have : ind A' (1, 8) = ind A (1, 8) := by unfold ind; rw [h18]
            omega
        by_cases hlf : 0 < leftOf (slT la T')
        · rw [if_pos hlf] at t1
          rw [t1] at hΦ ho12 ⊢
          have hq1 : (((leftOf (slT la T') : Nat) : Int) == 0) = false := by simp; omega
          have hol : out.len = 0 := ho12.1
          rw [hq1]
          refine VStr.off rfl fun x1 => VStr.off rfl fun x2 => VIf.f (by rw [hol]; rfl) (hΦ rfl)
        · rw [if_neg hlf] at t1
          rw [t1] at hΦ ho12 ⊢
          have hq1 : (((leftOf (slT la T') : Nat) : Int) == 0) = true := by simp; omega
          rw [hq1]
          refine VStr.i _ ho12.seg fun x1 hx1 => VStr.i _ (ha.ext0 e012).1 fun x2 hx2 => VIf.f ?_ (hΦ rfl)
          rw [strEq, hx1, hx2]
          simp
    · rintro left w13 ⟨T', A', rfl, hTq', hP', hQ', hJ', hk', hW', hO', hAl', e'⟩
      rw [w64 (n := (q : Int) + 1) (by omega)]
      exact VSet.i ⟨_, (show lo.length + cnt la.length - (q + 1) < lo.length + cnt la.length - q by omega), q + 1, T', T', A', rfl, rfl, by omega, rfl, hTq', hP', hQ', hJ', hk', hW', hO', hAl', e'⟩
  · have hz : leftOf (slT la T) = 0 := by
      apply Classical.byContradiction
      intro hn0
      have hpos : 0 < leftOf (slT la T) := by omega
      have hqe : q = lo.length + cnt la.length := by simp at hd; omega
      obtain ⟨j, hj, hTj⟩ := (slT_some la T).1 hpos
      rw [hTq j (by omega)] at hTj
      cases hTj
    have h1 : ind A (1, 7) = 0 := by
      unfold Wh at hW
      rw [if_neg (by omega)] at hW
      unfold ind
      rw [if_pos hW]
    have h2 := hi A (1, 8)
    rw [hz]
    refine hJ7.at.len (.inr rfl) ⟨?_, e07⟩
    have : decide ((A.length : Int) ≤ 1) = true := by simp; omega
    rw [this]; rfl
end Go.Proofs.Ythpbkkjggnejcaa
