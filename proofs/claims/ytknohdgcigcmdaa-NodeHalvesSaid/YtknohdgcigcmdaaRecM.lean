/-
  Rows of records that are made with zeros and then copied into.
-/
import Derived.Test.YtknohdgcigcmdaaRecO
namespace Go.Proofs.Ytknohdgcigcmdaa
open Go.RowKit
set_option maxRecDepth 100000

theorem madeR {α : Type} (r : Rec α) (z : α) (zc : Array Value) (hz : zc.toList = r.f z) (n : Nat) : (madeCells zc (n * r.k)).toList = r.cells (List.replicate n z) := by
  have hk : zc.size = r.k := by rw [← Array.length_toList, hz, r.len]
  apply List.ext_getElem?
  intro i
  have h1 : (madeCells zc (n * r.k)).toList[i]? = if i < n * r.k then some (zc[i % zc.size]!) else none := by
    unfold madeCells
    simp only [Array.getElem?_toList, Array.getElem?_map]
    by_cases h : i < n * r.k
    · simp [h]
    · have h' := Nat.le_of_not_lt h
      rw [if_neg h, Array.getElem?_eq_none (by simpa using h')]; rfl
  rw [h1]
  split
  · rename_i hi
    have hq : i / r.k < n := Nat.div_lt_of_lt_mul (by rw [Nat.mul_comm]; exact hi)
    have hm : i % r.k < r.k := Nat.mod_lt _ r.pos
    have hi' : i = i / r.k * r.k + i % r.k := by rw [Nat.mul_comm]; exact (Nat.div_add_mod i r.k).symm
    have := Rec.cells_get (r := r) (L := List.replicate n z) (i := i / r.k) (j := i % r.k) (by simpa using hq) hm
    rw [← hi'] at this
    rw [this, List.getElem_replicate, ← hz, hk]
    have hlt : i % r.k < zc.size := by omega
    rw [Array.getElem?_toList, Array.getElem?_eq_getElem hlt]
    simp [hlt]
  · rename_i hi
    rw [List.getElem?_eq_none (by rw [Rec.cells_len, List.length_replicate]; omega)]

theorem Bk.made {α : Type} {w : World} {b : Nat} {t : TypeId} (r : Rec α) (z : α) {zc : Array Value} {n : Nat} (hz : zc.toList = r.f z) {k : Nat} (hk : k = r.k) (h : Bk w b (madeCells zc (n * k)).toList t) : Bk w b (r.cells (List.replicate n z)) t := by
  rw [hk, madeR r z zc hz] at h; exact h

/-- a row that is filled with the records of one as long -/
theorem VCopy.full {α : Type} {r : Rec α} {w : World} {e : TypeId} {b n m1 m2 : Nat} {base : Option Addr} {L Z : List α} {K : World → Prop} (hk : Bk w b (r.cells Z) e) (hz : Z.length = n) (h : Seg w base n r.k (r.cells L)) (h1 : m1 = n) (h2 : m2 = n)
    (k : ∀ w', Bk w' b (r.cells L) e → Ext [b] w w' → K w') : VCopy none w r.k (some ⟨b, 0, none⟩) m1 m2 (fun news => Seg w base (Nat.min m2 m1) r.k news) K := by
  subst h1 h2
  have hn := h.rlen
  have hmin : Nat.min m2 m2 = m2 := Nat.min_self _
  refine ⟨r.cells L, ?_, ?_, ?_⟩
  · rw [hmin]; exact h
  · rw [hmin, Rec.cells_len, hn]
  · rw [hmin]
    by_cases h0 : m2 = 0
    · refine .inl ⟨h0, fun w' hw => ?_⟩
      subst hw
      have hL : L = [] := List.length_eq_zero_iff.1 (by omega)
      have hZ : Z = [] := List.length_eq_zero_iff.1 (by omega)
      rw [hZ] at hk
      rw [hL] at k
      exact k _ hk (Ext.refl _ _)
    · have hlen : (r.cells L).length = (r.cells Z).length := by rw [Rec.cells_len, Rec.cells_len, hz, hn]
      refine .inr ⟨⟨b, 0, none⟩, rfl, Rec.cells_all _, Wr.of_bk hk (by omega), fun w' hw => ?_⟩
      obtain ⟨hk', e'⟩ := sets_bk hk (by omega) hw
      rw [List.take_zero, List.nil_append, Nat.zero_add, List.drop_of_length_le (by omega), List.append_nil] at hk'
      exact k _ hk' e'
end Go.Proofs.Ytknohdgcigcmdaa
