/-
  Package parts: a message cut into packets; plain, and the program's Cut.
-/
import Derived.Test.YthpbkkjggnejcaaSealE
import Derived.Test.YthpbkkjggnejcaaCodeR
import Derived.Test.YthpbkkjggnejcaaRecM
namespace Go.Proofs.Ythpbkkjggnejcaa
open Go.RowKit
set_option maxRecDepth 100000

/-! plain -/
def encB (l : List UInt8) : List UInt8 := enc l.length ++ l
theorem encS_encB {x : ByteArray} (h : x.size ≤ 2147483647) : encS x = encB x.data.toList := by
  have hl : x.data.toList.length = x.size := Array.length_toList
  unfold encS encB
  rw [if_pos h, hl]
def bodyP (n p c : Int) (d : List UInt8) : List UInt8 := encC n ++ encC p ++ encC c ++ encB d
theorem bodyP_len (n p c : Int) {d : List UInt8} (h : d.length ≤ 8000) : (bodyP n p c d).length ≤ d.length + 40 := by
  have h1 := encC_len n
  have h2 := encC_len p
  have h3 := encC_len c
  have h4 := enc_len10 (show d.length < 18446744073709551616 by omega)
  unfold bodyP encB
  simp only [List.length_append]
  omega
def chunk (l : List UInt8) (m : Nat) : List UInt8 := (l.drop (380 * m)).take 380
def cnt (n : Nat) : Nat := if n ≤ 380 then 1 else (n + 379) / 380
theorem chunk_len (l : List UInt8) (m : Nat) : (chunk l m).length ≤ 380 := by unfold chunk; rw [List.length_take]; omega
theorem chunk_cut {l : List UInt8} {m b : Nat} (hb : b = min (380 * (m + 1)) l.length) : (l.take b).drop (380 * m) = chunk l m := by
  unfold chunk
  rw [List.drop_take]
  apply List.ext_getElem?
  intro i
  simp only [List.getElem?_take, List.getElem?_drop]
  split
  · rw [if_pos (by omega)]
  · split
    · rw [List.getElem?_eq_none (by omega)]
    · rfl
def pkt (n p c : Int) (d : List UInt8) : List UInt8 := frame 1 (bodyP n p c d)
def cutL (n : Int) (l : List UInt8) : List (List UInt8) := (List.range (cnt l.length)).map fun i : Nat => pkt n (i : Int) (cnt l.length : Int) (chunk l i)
theorem cutL_get (n : Int) (l : List UInt8) (m : Nat) (h : m < (cutL n l).length) : (cutL n l)[m] = pkt n (m : Int) (cnt l.length : Int) (chunk l m) := by
  simp [cutL]
theorem cutL_len (n : Int) (l : List UInt8) : (cutL n l).length = cnt l.length := by simp [cutL]
def cutP (n : Int) (l : List UInt8) : Int × List (List UInt8) := if n < 0 ∨ 2147483647 < n then (1, []) else if 8192 < l.length then (40, []) else (0, cutL n l)
theorem seal_pkt (n p c : Int) {d : List UInt8} (h : d.length ≤ 8000) : sealE (bodyP n p c d) = 0 ∧ sealL 1 (bodyP n p c d) = pkt n p c d := by
  have := bodyP_len n p c h
  unfold sealE sealL pkt
  rw [if_neg (by omega), if_neg (by omega)]
  exact ⟨rfl, rfl⟩

/-! rows of rows of bytes -/
def slR : Rec Sl := ⟨fun s => [.slice s.base s.len s.cap], 1, fun _ => rfl, fun _ => rfl, by omega⟩
structure OwnSS (w0 w : World) (s : Sl) (X : List (Sl × List UInt8)) : Prop where
  er : OwnR slR 22 w0 w s (X.map (·.1))
  ea : ∀ j (hj : j < X.length), Own w0 w (X[j]).1 (X[j]).2
  es : ∀ i j (hi : i < X.length) (hj : j < X.length), i ≠ j → ∀ b ∈ rowB (X[i]).1, b ∉ rowB (X[j]).1
theorem OwnSS.ext0 {w0 w w' : World} {s : Sl} {X : List (Sl × List UInt8)} (h : OwnSS w0 w s X) (e : Ext [] w w') : OwnSS w0 w' s X := ⟨h.er.ext0 e, fun j hj => (h.ea j hj).ext0 e, h.es⟩
theorem OwnSS.nil (w0 w : World) : OwnSS w0 w ⟨none, 0, 0⟩ [] := ⟨OwnR.nil _ _ _ _, fun j hj => absurd hj (by simp), fun i j hi => absurd hi (by simp)⟩
theorem OwnSS.mono {w0 w1 w : World} {s : Sl} {X : List (Sl × List UInt8)} (h : OwnSS w1 w s X) (le : w0.heap.size ≤ w1.heap.size) : OwnSS w0 w s X := ⟨h.er.mono le, fun j hj => (h.ea j hj).mono le, h.es⟩
/-- a place in a row of records -/
theorem VIx.i' {α : Type} {r : Rec α} {g : Option Bool} {w : World} {base : Option Addr} {n j : Nat} {L : List α} {K : Addr → Prop} (h : Seg w base n r.k (r.cells L)) (hi : j < L.length) (k : ∀ a, Rd w (a.add (j * r.k)) (r.f L[j]) → K a) : VIx g base n (j : Int) K := by
  obtain ⟨a, ha, hrd⟩ := h.rec_at hi
  have := h.rlen
  subst ha
  exact VIx.i (by omega) (by omega) (k a hrd)
theorem VApp.recA {α : Type} {r : Rec α} {e : TypeId} {w0 w : World} {s : Sl} {L news : List α} {m bytes : Nat} {zc : Array Value} {src : List Value → Prop} {K : Sl → World → Prop} (h : OwnR r e w0 w s L) (e0 : w0.heap.size ≤ w.heap.size) (hs : src (r.cells news)) (hm : news.length = m) (hz : zc.size = r.k)
    (hb : (L.length + m) * bytes ≤ 140737488355328) (h63 : L.length + m ≤ 9223372036854775807)
    (k : ∀ s' w', OwnR r e w0 w' s' (L ++ news) → Ext (rowB s) w w' → K s' w') : VApp none w e r.k bytes zc s.base s.len s.cap m src K := by
  have hl := h.len
  refine VApp.row (news := r.cells news) h.1 hz hs (by rw [Rec.cells_len, hm]) (Rec.cells_all _) (by rw [hl]; exact hb) (by omega) fun s' w' hr hlen he hbl _ => ?_
  rw [← Rec.cells_app] at hr
  refine k s' w' ⟨hr, fun b hb => ?_⟩ he
  rcases hbl b hb with h' | h'
  · exact h.2 b h'
  · omega
theorem Own.lt {w0 w : World} {s : Sl} {l : List UInt8} (h : Own w0 w s l) : ∀ b ∈ rowB s, b < w.heap.size := h.1.lt
theorem Own.sepR {α : Type} {r : Rec α} {e : TypeId} {w0 w0' w : World} {s t : Sl} {l : List UInt8} {L : List α} (h : Own w0 w s l) (k : OwnR r e w0' w t L) (hne : 5 ≠ e) : ∀ b ∈ rowB s, b ∉ rowB t := fun b hb hb' => by
  obtain ⟨_, h1⟩ := h.1.bk_of hb
  obtain ⟨_, h2⟩ := k.1.bk_of hb'
  exact h1.neT h2 hne rfl
/-- another row is put behind -/
theorem OwnSS.push {w0 wp W : World} {out : Sl} {X : List (Sl × List UInt8)} {x : Sl × List UInt8} {b6 : Nat} {K : Sl → World → Prop} (ho : OwnSS w0 W out X) (hl : Own wp W x.1 x.2) (hold : ∀ k (hk : k < X.length), ∀ b ∈ rowB (X[k]).1, b < wp.heap.size) (hz : w0.heap.size ≤ wp.heap.size) (hzz : w0.heap.size ≤ W.heap.size)
    (hk6 : Bk W b6 (slR.f x.1) 22) (hL : X.length ≤ 10000) (k : ∀ s' W', OwnSS w0 W' s' (X ++ [x]) → Ext (rowB out) W W' → K s' W') :
    VApp none W 22 1 24 #[.slice none 0 0] out.base out.len out.cap 1 (fun news => Seg W (some ⟨b6, 0, none⟩) 1 1 news) K := by
  have hl6 := hl.mono (w0 := w0) hz
  refine VApp.recA (r := slR) (news := [x.1]) ho.er hzz (Seg.of_bk hk6 rfl rfl) rfl rfl (by rw [List.length_map]; omega) (by rw [List.length_map]; omega) fun s7 w7 ho7 e7 => ?_
  have keep : ∀ {s : Sl} {l : List UInt8}, Own w0 W s l → Own w0 w7 s l := fun h => ⟨h.1.ext e7 (h.sepR ho.er (by decide)), h.2⟩
  refine k s7 w7 ⟨by rw [List.map_append]; exact ho7, ?_, ?_⟩ e7
  · intro j hj
    rw [List.length_append] at hj
    by_cases hjm : j < X.length
    · rw [List.getElem_append_left hjm]
      exact keep (ho.ea j hjm)
    · have : j = X.length := by simp at hj; omega
      subst this
      rw [List.getElem_append_right (Nat.le_refl _)]
      simp only [Nat.sub_self, List.getElem_cons_zero]
      exact keep hl6
  · intro i j hi hj hne b hb hb'
    rw [List.length_append] at hi hj
    have hnew : ∀ b ∈ rowB x.1, wp.heap.size ≤ b := hl.2
    by_cases him : i < X.length
    · rw [List.getElem_append_left him] at hb
      by_cases hjm : j < X.length
      · rw [List.getElem_append_left hjm] at hb'
        exact ho.es i j him hjm hne b hb hb'
      · have : j = X.length := by simp at hj; omega
        subst this
        rw [List.getElem_append_right (Nat.le_refl _)] at hb'
        simp only [Nat.sub_self, List.getElem_cons_zero] at hb'
        have := hold i him b hb
        have := hnew b hb'
        omega
    · have : i = X.length := by simp at hi; omega
      subst this
      rw [List.getElem_append_right (Nat.le_refl _)] at hb
      simp only [Nat.sub_self, List.getElem_cons_zero] at hb
      by_cases hjm : j < X.length
      · rw [List.getElem_append_left hjm] at hb'
        have := hold j hjm b hb'
        have := hnew b hb
        omega
      · simp at hj; omega

theorem count_spec (n : Nat) (w : World) (h : n ≤ 8192) : Calls Try.prog 20 #[.int .i64 (n : Int)] w fun e w' => e = .returned (.int .i64 (cnt n : Int)) ∧ w' = w := by
  refine sh_parts_count_ok _ _ _ ?_
  unfold sh_parts_count
  have h1 : IntKind.wrap .i64 (Int.tdiv (IntKind.wrap .i64 ((IntKind.wrap .i64 ((n : Int) + 380)) - 1)) 380) = (((n + 379) / 380 : Nat) : Int) := by
    rw [w64 (n := (n : Int) + 380) (by omega), w64 (n := (n : Int) + 380 - 1) (by omega), show (n : Int) + 380 - 1 = ((n + 379 : Nat) : Int) by omega]
    rw [show Int.tdiv ((n + 379 : Nat) : Int) 380 = (((n + 379) / 380 : Nat) : Int) from rfl, w64 (by omega)]
  rw [h1]
  refine VSet.i ⟨?_, rfl⟩
  unfold cnt
  split
  · rename_i hc
    rw [if_neg (by omega)]
  · rename_i hc
    rw [if_pos (by omega)]; rfl
/-- one packet of the program's -/
theorem Cut_spec (n : Int) (s : Sl) (l : List UInt8) (w : World) (h : In w s l) :
    Calls Try.prog 10 #[.int .i64 n, .slice s.base s.len s.cap] w fun e w' => ∃ (t : Sl) (X : List (Sl × List UInt8)), e = .returned (.tuple #[.slice t.base t.len t.cap, .int .i64 (cutP n l).1]) ∧ X.map (·.2) = (cutP n l).2 ∧ OwnSS w w' t X ∧ Ext [] w w' := by
  refine sh_parts_Cut_ok _ _ _ _ ?_
  unfold sh_parts_Cut
  have hlen := h.len
  refine VIf.mk (fun hd => ?_) (fun hd => ?_)
  · have hd : n < 0 ∨ 2147483647 < n := by simpa using hd
    have : cutP n l = (1, []) := by unfold cutP; rw [if_pos hd]
    rw [this]
    exact ⟨⟨none, 0, 0⟩, [], rfl, rfl, OwnSS.nil _ _, Ext.refl _ _⟩
  have hd : ¬ (n < 0 ∨ 2147483647 < n) := by simp at hd; omega
  refine VIf.mk (fun hz => ?_) (fun hz => ?_)
  · have hz : 8192 < l.length := by simp at hz; omega
    have : cutP n l = (40, []) := by unfold cutP; rw [if_neg hd, if_pos hz]
    rw [this]
    exact ⟨⟨none, 0, 0⟩, [], rfl, rfl, OwnSS.nil _ _, Ext.refl _ _⟩
  have hz : ¬ 8192 < l.length := by simp at hz; omega
  have hcP : cutP n l = (0, cutL n l) := by unfold cutP; rw [if_neg hd, if_neg hz]
  rw [hcP, hlen]
  refine VCall.i (count_spec l.length w (by omega)) ?_
  rintro e w1 ⟨rfl, rfl⟩
  refine exW.i1 (t := .int .i64) _ rfl (VSet.i ?_)
  have hcb : cnt l.length ≤ 22 := by unfold cnt; split <;> omega
  have hcap := h.2
  refine ⟨fun k (out : Sl) i W => ∃ (m : Nat) (X : List (Sl × List UInt8)), i = (m : Int) ∧ m ≤ cnt l.length ∧ k = cnt l.length - m ∧ X.length = m ∧ X.map (·.2) = (cutL n l).take m ∧ OwnSS w1 W out X ∧ Ext [] w1 W,
    ⟨_, 0, [], rfl, by omega, rfl, rfl, rfl, OwnSS.nil _ _, Ext.refl _ _⟩, ?_⟩
  rintro k out i w2 ⟨m, X, rfl, hm, rfl, hX, hXm, ho, e2⟩
  refine VIf.mk (fun hc => ?_) (fun hc => ?_)
  · have hm' : m < cnt l.length := by simp at hc; omega
    have ha : 380 * m ≤ l.length := by
      unfold cnt at hm'
      split at hm' <;> omega
    refine VSet.i ?_
    refine VCall.i (Count_spec ⟨none, 0, 0⟩ [] n w2 (Seg.nil _ _ _) (by simp)) ?_
    rintro e w3 ⟨s3, rfl, h3, e3⟩
    have z1 := encC_len n
    refine exW.i1 (t := .sl) s3 rfl (VCall.i (Count_spec s3 _ (m : Int) w3 h3.seg (by simp; omega)) ?_)
    rintro e w4 ⟨s4, rfl, h4, e4⟩
    have z2 := encC_len (m : Int)
    refine exW.i1 (t := .sl) s4 rfl (VCall.i (Count_spec s4 _ (cnt l.length : Int) w4 h4.seg (by simp; omega)) ?_)
    rintro e w5 ⟨s5, rfl, h5, e5⟩
    have z3 := encC_len (cnt l.length : Int)
    refine exW.i1 (t := .sl) s5 rfl ?_
    obtain ⟨b, hb, hbi⟩ : ∃ b, b = min (380 * (m + 1)) l.length ∧ (if (IntKind.wrap .i64 ((IntKind.wrap .i64 ((m : Int) + 1)) * 380)) < ((l.length : Nat) : Int) then IntKind.wrap .i64 ((IntKind.wrap .i64 ((m : Int) + 1)) * 380) else ((l.length : Nat) : Int)) = (b : Int) := by
      refine ⟨_, rfl, ?_⟩
      rw [w64 (n := (m : Int) + 1) (by omega), w64 (by omega)]
      split <;> omega
    rw [hbi, w64 (n := (m : Int) * 380) (by omega), show (m : Int) * 380 = ((380 * m : Nat) : Int) by omega]
    refine VCk.i (by omega) ?_
    rw [Int.toNat_natCast, Int.toNat_natCast]
    have e25 := (e3.then0 e4).then0 e5
    have hcut := (((h.ext0 e2).ext0 e25).cut (380 * m) b (by omega) (by omega)).1
    rw [chunk_cut hb] at hcut
    refine VStr.i _ hcut fun x hx => ?_
    have hxs : x.size ≤ 380 := by
      have h1 : x.data.toList.length = x.size := Array.length_toList
      have := chunk_len l m
      rw [hx] at h1
      omega
    refine VCall.i (Str_spec s5 _ x w5 h5.seg (by simp; omega)) ?_
    rintro e w6 ⟨s6, rfl, h6, e6⟩
    have h6 : Own w5 w6 s6 (bodyP n (m : Int) (cnt l.length : Int) (chunk l m)) := by
      have : bodyP n (m : Int) (cnt l.length : Int) (chunk l m) = [] ++ encC n ++ encC (m : Int) ++ encC (cnt l.length : Int) ++ encS x := by
        rw [encS_encB (by omega), hx]; rfl
      rw [this]
      exact h6
    refine exW.i1 (t := .sl) s6 rfl ?_
    obtain ⟨q1, q2⟩ := seal_pkt n (m : Int) (cnt l.length : Int) (d := chunk l m) (by have := chunk_len l m; omega)
    refine VCall.i (Seal_spec 1 s6 _ w6 h6.seg) ?_
    rintro e w7 ⟨s7, rfl, h7, e7⟩
    rw [q1, q2] at *
    refine exW.i2 (t := .sl) (u := .int .i64) s7 0 rfl (VSet.i (VIf.f rfl ?_))
    refine VNw.i fun b8 w8 hb8 hk8 e8 => ?_
    have e26 := e25.then0 e6
    have e28 := (e26.then0 e7).then0 e8
    refine (ho.ext0 e28).push (x := (s7, pkt n (m : Int) (cnt l.length : Int) (chunk l m))) (h7.ext0 e8) (fun k hk b hb => ?_) ?_ (e2.then0 e28).size hk8 (by omega) fun s' W' ho' e' => ?_
    · have := (ho.ea k hk).lt b hb
      have := e26.size
      omega
    · have := (e2.then0 e26).size
      omega
    rw [w64 (n := (m : Int) + 1) (by omega)]
    have hrow : ∀ i ∈ rowB out, w1.heap.size ≤ i := ho.er.2
    refine ⟨_, (show cnt l.length - (m + 1) < cnt l.length - m by omega), m + 1, X ++ [(s7, pkt n (m : Int) (cnt l.length : Int) (chunk l m))], rfl, by omega, rfl, by simp; omega, ?_, ho', (e2.then0 e28).then e' (fun i hi hlt => by have := hrow i hi; omega)⟩
    have hlen2 : m < (cutL n l).length := by unfold cutL; simpa using hm'
    have hget := cutL_get n l m hlen2
    rw [List.take_succ_eq_append_getElem hlen2, List.map_append, hXm, hget]
    rfl
  · have hmm : m = cnt l.length := by simp at hc; omega
    refine ⟨out, X, rfl, ?_, ho, e2⟩
    rw [hXm, List.take_of_length_le]
    unfold cutL
    simp; omega
end Go.Proofs.Ythpbkkjggnejcaa
