/-
  Engine, part E: the runs of the operations that ask something.
-/
import Derived.Test.YtknohdgcigcmdaaEngD
namespace Go.Proofs.Ytknohdgcigcmdaa
open Go.RowKit

section runs
variable {P : Program} {w : World}

theorem run_indexAt {t e : TypeId} {b : Addr} {n c : Nat} {k : IntKind} {j : Int} (h : sliceElem P t = some e) (h0 : 0 ≤ j) (h1 : j < (n : Int)) (he : ∃ i, P.info? e = some i) :
    (Instr.indexAt t (.slice (some b) n c) (.int k j)).run P w = .ok (.pointer (some (b.add (j.toNat * sizeOf? P e)))) w := by
  obtain ⟨i, hi⟩ := he
  simp [Instr.indexAt, asIntOf, und (elem_und h), h0, h1, sizeOf, typeInfo, hi, sizeOf?]

theorem run_index {t : TypeId} {s : ByteArray} {k : IntKind} {j : Int} (h : isStr P t = true) (h0 : 0 ≤ j) (h1 : j < (s.size : Int)) :
    (Instr.index t (.string s) (.int k j)).run P w = .ok (.int .u8 (strAt s j.toNat)) w := by
  have hlt : j.toNat < s.size := by omega
  have e : s[j.toNat]? = some (s[j.toNat]) := by simp [hlt]
  have hv : ((s[j.toNat]).toNat : Int) = strAt s j.toNat := by
    unfold strAt
    rw [List.getD_eq_getElem?_getD, Array.getElem?_toList]
    have : s.data[j.toNat]? = some s.data[j.toNat] := by simp
    rw [this]; rfl
  simp [Instr.index, asIntOf, und (str_und h), h0, e, hv]

theorem run_bound {k : IntKind} {i : Int} {y : Nat} {code : BoundsCode} (h0 : 0 ≤ i) (h1 : i ≤ y) : (Instr.sliceBound (.int k i) y code).run P w = .ok i.toNat w := by
  simp [Instr.sliceBound, asIntOf, h0, h1]

/-- a bound as an operand's value, or none -/
def BoundIs (v : Option Value) (d : Int) (l : Int) : Prop := (v = none ∧ l = d) ∨ ∃ k, v = some (.int k l)

theorem run_sliceAt {t e : TypeId} {b : Option Addr} {n c : Nat} {lo hi : Option Value} {l h : Int} (ht : sliceElem P t = some e) (he : ∃ i, P.info? e = some i)
    (hl : BoundIs lo 0 l) (hh : BoundIs hi n h) (h0 : 0 ≤ l) (h1 : l ≤ h) (h2 : h ≤ (c : Int)) :
    (Instr.sliceAt t (.slice b n c) lo hi none).run P w = .ok (.slice (cutB b c (sizeOf? P e) l.toNat) (h.toNat - l.toNat) (c - l.toNat)) w := by
  obtain ⟨i, hi'⟩ := he
  have hb : ∀ y code, l ≤ (y : Nat) → ∀ k, (Instr.sliceBound (.int k l) y code).run P w = .ok l.toNat w := fun y code hy k => run_bound h0 hy
  have hb' : ∀ code k, (Instr.sliceBound (.int k h) c code).run P w = .ok h.toNat w := fun code k => run_bound (by omega) h2
  have hle : l ≤ (h.toNat : Nat) := by omega
  rcases hl with ⟨rfl, rfl⟩ | ⟨kl, rfl⟩ <;> rcases hh with ⟨rfl, rfl⟩ | ⟨kh, rfl⟩
  · simp [Instr.sliceAt, Instr.slice, Instr.sliceBounds, und (elem_und ht), sizeOf, typeInfo, hi', sizeOf?, cutB]
  · simp [Instr.sliceAt, Instr.slice, Instr.sliceBounds, und (elem_und ht), sizeOf, typeInfo, hi', sizeOf?, cutB, hb']
  · have hle' : l ≤ (n : Nat) := h1
    simp [Instr.sliceAt, Instr.slice, Instr.sliceBounds, und (elem_und ht), sizeOf, typeInfo, hi', sizeOf?, cutB, hb _ _ hle']
  · simp [Instr.sliceAt, Instr.slice, Instr.sliceBounds, und (elem_und ht), sizeOf, typeInfo, hi', sizeOf?, cutB, hb', hb _ _ hle]

theorem run_sliceAt3 {t e : TypeId} {b : Option Addr} {n c : Nat} {lo : Option Value} {hv mv : Value} {l h m d1 d2 : Int} (ht : sliceElem P t = some e) (he : ∃ i, P.info? e = some i)
    (hl : BoundIs lo 0 l) (hh : BoundIs (some hv) d1 h) (hm : BoundIs (some mv) d2 m) (h0 : 0 ≤ l) (h1 : l ≤ h) (h2 : h ≤ m) (h3 : m ≤ (c : Int)) :
    (Instr.sliceAt t (.slice b n c) lo (some hv) (some mv)).run P w = .ok (.slice (cutB b m.toNat (sizeOf? P e) l.toNat) (h.toNat - l.toNat) (m.toNat - l.toNat)) w := by
  obtain ⟨i, hi'⟩ := he
  obtain ⟨kh, hkh⟩ : ∃ k, hv = .int k h := by
    rcases hh with ⟨e, _⟩ | ⟨k, e⟩
    · cases e
    · exact ⟨k, Option.some.inj e⟩
  obtain ⟨km, hkm⟩ : ∃ k, mv = .int k m := by
    rcases hm with ⟨e, _⟩ | ⟨k, e⟩
    · cases e
    · exact ⟨k, Option.some.inj e⟩
  subst hkh hkm
  have hbl : ∀ y code, l ≤ (y : Nat) → ∀ k, (Instr.sliceBound (.int k l) y code).run P w = .ok l.toNat w := fun y code hy k => run_bound h0 hy
  have hbh : ∀ y code, h ≤ (y : Nat) → ∀ k, (Instr.sliceBound (.int k h) y code).run P w = .ok h.toNat w := fun y code hy k => run_bound (by omega) hy
  have hbm : ∀ code k, (Instr.sliceBound (.int k m) c code).run P w = .ok m.toNat w := fun code k => run_bound (by omega) h3
  have e1 : l ≤ (h.toNat : Nat) := by omega
  have e2 : h ≤ (m.toNat : Nat) := by omega
  rcases hl with ⟨rfl, rfl⟩ | ⟨kl, rfl⟩
  · simp [Instr.sliceAt, Instr.slice, Instr.sliceBounds, und (elem_und ht), sizeOf, typeInfo, hi', sizeOf?, cutB, hbm, hbh _ _ e2]
  · simp [Instr.sliceAt, Instr.slice, Instr.sliceBounds, und (elem_und ht), sizeOf, typeInfo, hi', sizeOf?, cutB, hbm, hbh _ _ e2, hbl _ _ e1]

theorem run_sliceStr {t : TypeId} {s : ByteArray} {lo hi : Option Value} {l h : Int} (ht : isStr P t = true)
    (hl : BoundIs lo 0 l) (hh : BoundIs hi s.size h) (h0 : 0 ≤ l) (h1 : l ≤ h) (h2 : h ≤ (s.size : Int)) :
    (Instr.sliceAt t (.string s) lo hi none).run P w = .ok (.string (s.extract l.toNat h.toNat)) w := by
  have hb : ∀ y code, l ≤ (y : Nat) → ∀ k, (Instr.sliceBound (.int k l) y code).run P w = .ok l.toNat w := fun y code hy k => run_bound h0 hy
  have hb' : ∀ code k, (Instr.sliceBound (.int k h) s.size code).run P w = .ok h.toNat w := fun code k => run_bound (by omega) h2
  have hle : l ≤ (h.toNat : Nat) := by omega
  rcases hl with ⟨rfl, rfl⟩ | ⟨kl, rfl⟩ <;> rcases hh with ⟨rfl, rfl⟩ | ⟨kh, rfl⟩
  · simp [Instr.sliceAt, Instr.slice, Instr.sliceBounds, und (str_und ht)]
  · simp [Instr.sliceAt, Instr.slice, Instr.sliceBounds, und (str_und ht), hb']
  · have hle' : l ≤ (s.size : Nat) := h1
    simp [Instr.sliceAt, Instr.slice, Instr.sliceBounds, und (str_und ht), hb _ _ hle']
  · simp [Instr.sliceAt, Instr.slice, Instr.sliceBounds, und (str_und ht), hb', hb _ _ hle]

theorem info_of_zero {e : TypeId} {z : Value} (hz : zeroOf P e = some z) : ∃ i, P.info? e = some i ∧ i.zero = some z ∧ sizeOf? P e = i.size ∧ bytesOf? P e = i.bytes := by
  unfold zeroOf at hz
  unfold sizeOf? bytesOf?
  split at hz
  · rename_i i hi; exact ⟨i, hi, hz, by simp [hi], by simp [hi]⟩
  · cases hz

theorem run_makeSl {t e : TypeId} {z : Value} {l c : Int} (ht : sliceElem P t = some e) (hz : zeroOf P e = some z)
    (h0 : 0 ≤ l) (h1 : l ≤ c) (h2 : c * bytesOf? P e ≤ 140737488355328) (h3 : c ≤ 9223372036854775807) :
    (Instr.makeSlice t (.int .i64 l) (.int .i64 c)).run P w = .ok (.slice (some ⟨w.heap.size, 0, none⟩) l.toNat c.toNat) (w.alloc (.cells (madeCells z.cells (c.toNat * sizeOf? P e)) e)) := by
  obtain ⟨i, hi, hiz, hs, hb⟩ := info_of_zero hz
  rw [hb] at h2
  rw [hs]
  exact run_make w t e i z (elem_und ht) hi hiz .i64 .i64 l c h0 h1 (by rw [Int.mul_comm]; omega) h3

theorem run_first {size m c : Nat} {b : Option Addr} {xs : List Value} (h : Seg w b m size xs) : (Builtin.firstCells size m (.slice b m c)).run P w = .ok xs.toArray w := by
  obtain ⟨hl, h⟩ := h
  cases b with
  | none =>
    have : m = 0 := by rcases h with h | ⟨a, ha, _⟩; exact h; cases ha
    subst this
    have : xs = [] := List.eq_nil_of_length_eq_zero (by simpa using hl)
    subst this
    simp [Builtin.firstCells]
  | some a =>
    have hr : Rd w a xs := by
      rcases h with h | ⟨a', ha, hr⟩
      · subst h
        have : xs = [] := List.eq_nil_of_length_eq_zero (by simpa using hl)
        subst this
        intro i v hv; simp at hv
      · cases ha; exact hr
    have := run_rd (P := P) hr
    rw [hl] at this
    simp [Builtin.firstCells, this]
theorem run_first' {size m n c : Nat} {b : Option Addr} {xs : List Value} (h : Seg w b m size xs) : (Builtin.firstCells size m (.slice b n c)).run P w = .ok xs.toArray w := by
  have := run_first (P := P) (c := c) h
  cases b <;> simpa [Builtin.firstCells] using this

/-- what stands behind an append, whichever way it goes -/
theorem run_appends {t u ty e : TypeId} {z : Value} {b : Option Addr} {n cap m : Nat} {x : Value} {news : List Value} {K : Value → World → Prop}
    (ht : sliceElem P t = some e) (hz : zeroOf P e = some z) (hu : (∃ e', P.underlying u = some (.slice e')) ∨ P.underlying u = some .string)
    (hlen : (Builtin.lenOf x).run P w = .ok m w)
    (hfc : ∀ W : World, W.heap = w.heap → (Builtin.firstCells (sizeOf? P e) m x).run P W = .ok news.toArray W)
    (hl : news.length = m * sizeOf? P e) (hb : (n + m) * bytesOf? P e ≤ 140737488355328) (h63 : n + m ≤ 9223372036854775807)
    (hfit : n + m ≤ cap → (m = 0 ∧ ∀ w', w' = w → K (.slice b n cap) w') ∨ (∃ a, b = some a ∧ news.all Value.oneCell' = true ∧ Wr w (a.add (n * sizeOf? P e)) news.length ∧ ∀ w', w' = sets w (a.add (n * sizeOf? P e)) news → K (.slice b (n + m) cap) w'))
    (hgrow : cap < n + m → ∃ old, Seg w b n (sizeOf? P e) old ∧ ∀ g c w', n + m ≤ c → c ≤ 9223372036854775807 → NewB w g (.cells (old.toArray ++ news.toArray ++ Builtin.zeroCells z.cells (c - (n + m))) e) w' → K (.slice (some ⟨g, 0, none⟩) (n + m) c) w') :
    ∃ v w', (Builtin.append_ #[t, u] ty #[.slice b n cap, x]).run P w = .ok v w' ∧ K v w' := by
  obtain ⟨i, hi, hiz, hs, hby⟩ := info_of_zero hz
  rw [hs] at hfc hl hfit hgrow
  rw [hby] at hb
  have hfw := hfc w rfl
  have hcap' : cap < n + m → (Question.appendCap (n + m) cap e).cut (w.tape w.drawn (.appendCap (n + m) cap e)) = grownCap w (n + m) cap e := fun _ => rfl
  have hnot : ¬ ((9223372036854775807 : Int) < (n : Int) + m) := by omega
  by_cases hc : n + m ≤ cap
  · rcases hfit hc with ⟨h0, hk⟩ | ⟨a, rfl, h1, h2, hk⟩
    · subst h0
      have hn : news = [] := List.eq_nil_of_length_eq_zero (by simpa using hl)
      subst hn
      refine ⟨_, w, ?_, hk w rfl⟩
      have hc' : n ≤ cap := hc
      rcases hu with ⟨e', hu⟩ | hu <;> cases b <;>
        simp [Builtin.append_, und (elem_und ht), sizeOf, typeInfo, hi, und hu, hlen, hc', hfw, storeCells]
    · refine ⟨_, _, ?_, hk _ rfl⟩
      have hst := run_sets (P := P) h1 h2
      rcases hu with ⟨e', hu⟩ | hu <;>
        simp [Builtin.append_, und (elem_und ht), sizeOf, typeInfo, hi, und hu, hlen, hc, hfw, hst]
  · obtain ⟨old, ho, hk⟩ := hgrow (by omega)
    have hfits : ¬ (281474976710656 < Builtin.nextslicecap (n + m) cap * i.bytes) := by
      have := growslice_fits (need := n + m) (old := cap) (bytes := i.bytes) (by omega) hb; omega
    have hge : n + m ≤ grownCap w (n + m) cap e := grownCap_ge w (n + m) cap e
    have hle : grownCap w (n + m) cap e ≤ 9223372036854775807 := by
      have := grownCap_le_maxLen w (n + m) cap e (by simpa only [maxLen] using h63)
      simpa only [maxLen] using this
    refine ⟨_, _, ?_, hk w.heap.size (grownCap w (n + m) cap e) (w.drew.alloc _) hge hle (NewB.drew_alloc w _)⟩
    have ho' : (Builtin.firstCells i.size n (.slice b n cap)).run P w.drew = .ok old.toArray w.drew := run_first (w := w.drew) (by
      refine ⟨ho.1, ho.2.imp id fun ⟨a, ha, hr⟩ => ⟨a, ha, hr⟩⟩)
    have hfc' := hfc w.drew rfl
    have hq : (Question.appendCap (n + m) cap e).forced = false := rfl
    have hnew : ∀ cs : Array Value, (newRow e cs).run P w.drew = .ok ⟨w.heap.size, 0, none⟩ (w.drew.alloc (.cells cs e)) := fun cs => rfl
    have hzr : (zeroValue e).run P w.drew = .ok z w.drew := by simp [zeroValue, typeInfo, hi, hiz]
    rcases hu with ⟨e', hu⟩ | hu <;>
      simp [Builtin.append_, und (elem_und ht), sizeOf, typeInfo, hi, und hu, hlen, hc, hnot, hfits, hq, ho', hfc', hzr, hnew, hcap' (by omega)] <;>
      rw [show (old ++ news).toArray = old.toArray ++ news.toArray from by simp, Array.append_assoc]

/-- an append of nothing but zeros -/
theorem run_appends_mk {t u ty e : TypeId} {z : Value} {b : Option Addr} {n cap : Nat} {l : Int} {k : IntKind} {news : List Value} {K : Value → World → Prop}
    (ht : sliceElem P t = some e) (hz : zeroOf P e = some z) (hu : P.underlying u = some (.int k)) (hl0 : 0 ≤ l) (hlm : l ≤ 9223372036854775807) (hnews : news = (Builtin.zeroCells z.cells l.toNat).toList)
    (hl : news.length = l.toNat * sizeOf? P e) (hb : (n + l.toNat) * bytesOf? P e ≤ 140737488355328) (h63 : n + l.toNat ≤ 9223372036854775807)
    (hfit : n + l.toNat ≤ cap → (l.toNat = 0 ∧ ∀ w', w' = w → K (.slice b n cap) w') ∨ (∃ a, b = some a ∧ news.all Value.oneCell' = true ∧ Wr w (a.add (n * sizeOf? P e)) news.length ∧ ∀ w', w' = sets w (a.add (n * sizeOf? P e)) news → K (.slice b (n + l.toNat) cap) w'))
    (hgrow : cap < n + l.toNat → ∃ old, Seg w b n (sizeOf? P e) old ∧ ∀ g c w', n + l.toNat ≤ c → c ≤ 9223372036854775807 → NewB w g (.cells (old.toArray ++ news.toArray ++ Builtin.zeroCells z.cells (c - (n + l.toNat))) e) w' → K (.slice (some ⟨g, 0, none⟩) (n + l.toNat) c) w') :
    ∃ v w', (Builtin.append_ #[t, u] ty #[.slice b n cap, .int .i64 l]).run P w = .ok v w' ∧ K v w' := by
  obtain ⟨i, hi, hiz, hs, hby⟩ := info_of_zero hz
  rw [hs] at hl hfit hgrow
  rw [hby] at hb
  obtain ⟨m, rfl⟩ : ∃ m : Nat, l = (m : Int) := ⟨l.toNat, (Int.toNat_of_nonneg hl0).symm⟩
  rw [Int.toNat_natCast] at hnews hl hb h63 hfit hgrow
  have hw : IntKind.i64.wrap (m : Int) = (m : Int) := IntWalk.i64_in _ (by omega)
  have hb2 : ¬ ((281474976710656 : Int) < (m : Int) * (i.bytes : Int)) := by
    have h1 : m * i.bytes ≤ (n + m) * i.bytes := Nat.mul_le_mul_right _ (by omega)
    have h2 : ((m * i.bytes : Nat) : Int) = (m : Int) * (i.bytes : Int) := Int.natCast_mul ..
    omega
  have hneg : ¬ ((m : Int) < 0) := by omega
  have hcap' : cap < n + m → (Question.appendCap (n + m) cap e).cut (w.tape w.drawn (.appendCap (n + m) cap e)) = grownCap w (n + m) cap e := fun _ => rfl
  have hnot : ¬ ((9223372036854775807 : Int) < (n : Int) + m) := by omega
  have hzr : ∀ W : World, (zeroValue e).run P W = .ok z W := fun W => by simp [zeroValue, typeInfo, hi, hiz]
  have happ : ∀ (W : World), (if m * i.size = 0 then (pure #[] : Sem (Array Value)) else do pure (Builtin.zeroCells (← zeroValue e).cells m)).run P W = .ok news.toArray W := by
    intro W
    by_cases h0 : m * i.size = 0
    · have : news = [] := List.eq_nil_of_length_eq_zero (by rw [hl, h0])
      rw [if_pos h0, this]; rfl
    · rw [if_neg h0, Sem.run_bind, hzr W, Result.andThen_ok, hnews]
      rfl
  by_cases hc : n + m ≤ cap
  · rcases hfit hc with ⟨h0, hk⟩ | ⟨a, rfl, h1, h2, hk⟩
    · subst h0
      have hn : news = [] := List.eq_nil_of_length_eq_zero (by simpa using hl)
      subst hn
      refine ⟨_, w, ?_, hk w rfl⟩
      have hc' : n ≤ cap := hc
      cases b <;>
        simp [Builtin.append_, und (elem_und ht), sizeOf, typeInfo, hi, und hu, hc', asInt, asIntOf, storeCells, IntWalk.i64_in]
    · refine ⟨_, _, ?_, hk _ rfl⟩
      have hst := run_sets (P := P) h1 h2
      have hzr1 := hzr w
      by_cases h0 : m * i.size = 0
      · have hn : news = [] := List.eq_nil_of_length_eq_zero (by rw [hl, h0])
        subst hn
        simp [Builtin.append_, und (elem_und ht), sizeOf, typeInfo, hi, und hu, hc, hst, asInt, asIntOf, hw, hb2, hneg, h0]
      · rw [hnews] at hst ⊢
        simp [Builtin.append_, und (elem_und ht), sizeOf, typeInfo, hi, und hu, hc, hst, asInt, asIntOf, hw, hb2, hneg, h0, hzr1]
  · obtain ⟨old, ho, hk⟩ := hgrow (by omega)
    have hfits : ¬ (281474976710656 < Builtin.nextslicecap (n + m) cap * i.bytes) := by
      have := growslice_fits (need := n + m) (old := cap) (bytes := i.bytes) (by omega) hb; omega
    have hge : n + m ≤ grownCap w (n + m) cap e := grownCap_ge w (n + m) cap e
    have hle : grownCap w (n + m) cap e ≤ 9223372036854775807 := by
      have := grownCap_le_maxLen w (n + m) cap e (by simpa only [maxLen] using h63)
      simpa only [maxLen] using this
    refine ⟨_, _, ?_, hk w.heap.size (grownCap w (n + m) cap e) (w.drew.alloc _) hge hle (NewB.drew_alloc w _)⟩
    have ho' : (Builtin.firstCells i.size n (.slice b n cap)).run P w.drew = .ok old.toArray w.drew := run_first (w := w.drew) (by
      refine ⟨ho.1, ho.2.imp id fun ⟨a, ha, hr⟩ => ⟨a, ha, hr⟩⟩)
    have ha := happ w.drew
    have hq : (Question.appendCap (n + m) cap e).forced = false := rfl
    have hnew : ∀ cs : Array Value, (newRow e cs).run P w.drew = .ok ⟨w.heap.size, 0, none⟩ (w.drew.alloc (.cells cs e)) := fun cs => rfl
    have hzr1 := hzr w.drew
    simp [Builtin.append_, und (elem_und ht), sizeOf, typeInfo, hi, und hu, asInt, asIntOf, hw, hb2, hneg, hc, hnot, hfits, hq, ho', hzr1, hnew, hcap' (by omega)]
    by_cases h0 : m * i.size = 0
    · have hn : news = [] := List.eq_nil_of_length_eq_zero (by rw [hl, h0])
      simp [h0, hn]
    · have hx : (old ++ news).toArray = old.toArray ++ Builtin.zeroCells z.cells m := by rw [hnews]; simp
      rw [hx, Array.append_assoc]
      simp [h0]

theorem run_copies {t u ty e : TypeId} {b b' : Option Addr} {n cap m c : Nat} {news : List Value} {K : Value → World → Prop}
    (ht : sliceElem P t = some e) (he : ∃ i, P.info? e = some i)
    (hs : Seg w b' (Nat.min m n) (sizeOf? P e) news)
    (hk : (Nat.min m n = 0 ∧ ∀ w', w' = w → K (.int .i64 (Nat.min m n : Nat)) w') ∨ (∃ a, b = some a ∧ news.all Value.oneCell' = true ∧ Wr w a news.length ∧ ∀ w', w' = sets w a news → K (.int .i64 (Nat.min m n : Nat)) w')) :
    ∃ v w', (Builtin.copy_ #[t, u] ty #[.slice b n cap, .slice b' m c]).run P w = .ok v w' ∧ K v w' := by
  obtain ⟨i, hi⟩ := he
  have hsz : sizeOf? P e = i.size := by simp [sizeOf?, hi]
  rw [hsz] at hs
  have hf := run_first' (P := P) (n := m) (c := c) hs
  rcases hk with ⟨h0, hk⟩ | ⟨a, rfl, h1, h2, hk⟩
  · have hn : news = [] := List.eq_nil_of_length_eq_zero (by rw [hs.1, h0]; simp)
    subst hn
    refine ⟨_, w, ?_, hk w rfl⟩
    simp only [Builtin.copy_, List.getElem?_toArray, List.getElem?_cons_zero, List.getElem?_cons_succ, Sem.run_bind, und (elem_und ht), Result.andThen_ok, Builtin.lenOf, Sem.run_pure, sizeOf, typeInfo, run_program, hi, hf]
    cases b <;> simp [storeCells, h0, goInt]
  · refine ⟨_, _, ?_, hk _ rfl⟩
    simp only [Builtin.copy_, List.getElem?_toArray, List.getElem?_cons_zero, List.getElem?_cons_succ, Sem.run_bind, und (elem_und ht), Result.andThen_ok, Builtin.lenOf, Sem.run_pure, sizeOf, typeInfo, run_program, hi, hf, run_sets h1 h2, goInt]

theorem size_one {e : TypeId} (h : sizeIs P e 1 = true) : sizeOf? P e = 1 := by
  unfold sizeIs at h
  unfold sizeOf?
  split at h
  · exact Nat.eq_of_beq_eq_true h
  · cases h
theorem run_copies_str {t u ty e : TypeId} {b : Option Addr} {n cap : Nat} {s : ByteArray} {K : Value → World → Prop}
    (ht : sliceElem P t = some e) (he : ∃ i, P.info? e = some i) (h1 : sizeOf? P e = 1)
    (hk : (Nat.min s.size n = 0 ∧ ∀ w', w' = w → K (.int .i64 (Nat.min s.size n : Nat)) w') ∨ (∃ a, b = some a ∧ ((strCells s).take (Nat.min s.size n)).all Value.oneCell' = true ∧ Wr w a ((strCells s).take (Nat.min s.size n)).length ∧ ∀ w', w' = sets w a ((strCells s).take (Nat.min s.size n)) → K (.int .i64 (Nat.min s.size n : Nat)) w')) :
    ∃ v w', (Builtin.copy_ #[t, u] ty #[.slice b n cap, .string s]).run P w = .ok v w' ∧ K v w' := by
  obtain ⟨i, hi⟩ := he
  have hsz : sizeOf? P e = i.size := by simp [sizeOf?, hi]
  have hf : ∀ k, k ≤ s.size → ((s.extract 0 k).data.map fun b => Value.int .u8 ((b.toNat : Nat) : Int)).toList = (strCells s).take k := fun k hk => by
    unfold strCells
    rw [Array.toList_map, ByteArray.data_extract, Array.toList_extract, List.extract_eq_take_drop]
    simp
  have hm : Nat.min s.size n ≤ s.size := Nat.min_le_left _ _
  rcases hk with ⟨h0, hk⟩ | ⟨a, rfl, h1, h2, hk⟩
  · refine ⟨_, w, ?_, hk w rfl⟩
    have hz := hf 0 (Nat.zero_le _)
    rw [List.take_zero] at hz
    simp only [Builtin.copy_, List.getElem?_toArray, List.getElem?_cons_zero, List.getElem?_cons_succ, Sem.run_bind, und (elem_und ht), Result.andThen_ok, Builtin.lenOf, Sem.run_pure, sizeOf, typeInfo, run_program, hi, Builtin.firstCells, h0]
    cases b <;> simp only [hz, storeCells, goInt, Sem.run_bind, Sem.run_pure, Result.andThen_ok]
  · refine ⟨_, _, ?_, hk _ rfl⟩
    simp only [Builtin.copy_, List.getElem?_toArray, List.getElem?_cons_zero, List.getElem?_cons_succ, Sem.run_bind, und (elem_und ht), Result.andThen_ok, Builtin.lenOf, Sem.run_pure, sizeOf, typeInfo, run_program, hi, Builtin.firstCells, hf _ hm, run_sets h1 h2, goInt]
theorem arr_both {t : TypeId} {n : Nat} (h : arrElem P t = some n) : ∃ e, P.underlying t = some (.array n e) ∧ sizeIs P e 1 = true ∧ ∀ w : World, (isAgg e).run P w = .ok false w := by
  unfold arrElem at h
  split at h
  · rename_i m e hu
    split at h
    · cases h
    · cases h
    · rename_i d hs ha h1 hd
      cases h
      refine ⟨e, hu, h1, fun w => ?_⟩
      cases d <;> first | (exact (hs _ rfl).elim) | (exact (ha _ _ rfl).elim) | simp [isAgg, und hd]
    · cases h
  · cases h
theorem run_arrAt {t : TypeId} {n : Nat} {cs : Array Value} {k : IntKind} {j : Int} (h : arrElem P t = some n) (hs : cs.size = n) (h0 : 0 ≤ j) (h1 : j < (n : Int)) :
    (Instr.index t (.agg cs) (.int k j)).run P w = .ok (cs.getD j.toNat undef) w := by
  obtain ⟨e, hu, hz, ha⟩ := arr_both h
  obtain ⟨i, hi, he⟩ := beqSize hz
  have hlt : j.toNat < cs.size := by omega
  have hg : cs[j.toNat]? = some (cs.getD j.toNat undef) := by
    rw [Array.getD_eq_getD_getElem?, Array.getElem?_eq_getElem hlt]; rfl
  have hif : 0 ≤ j ∧ j < (n : Int) := ⟨h0, h1⟩
  simp only [Instr.index, asIntOf, Sem.run_bind, Sem.run_pure, Result.andThen_ok, und hu, if_pos hif, sizeOf, typeInfo, run_program, hi, part, ha, he, Nat.mul_one, hg, Bool.false_eq_true, if_false]
end runs
end Go.Proofs.Ytknohdgcigcmdaa
