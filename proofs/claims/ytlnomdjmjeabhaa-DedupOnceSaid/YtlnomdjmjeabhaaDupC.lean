/-
  Rows that are copied into, at a place; appends that must grow.
-/
import Derived.Test.YtlnomdjmjeabhaaRecM
import Derived.Lib.Overlaps
namespace Go.Proofs.Ytlnomdjmjeabhaa
open Go.RowKit
set_option maxRecDepth 100000

theorem idxI_at {α : Type} {p : α → Bool} {L : List α} {m : Nat} (hm : m < L.length) (hp : p L[m] = true) (hno : ∀ j (hj : j < L.length), j < m → p L[j] = false) : L.findIdx? p = some m :=
  List.findIdx?_eq_some_iff_getElem.2 ⟨hm, hp, fun j hj => by rw [hno j (by omega) hj]; simp⟩
theorem idxI_none {α : Type} {p : α → Bool} {L : List α} (hno : ∀ j (hj : j < L.length), p L[j] = false) : L.findIdx? p = none :=
  List.findIdx?_eq_none_iff.2 fun x hx => by obtain ⟨j, hj, rfl⟩ := List.mem_iff_getElem.1 hx; exact hno j hj
theorem VIx.rd2 {α : Type} {r : Rec α} {g : Option Bool} {w : World} {base : Option Addr} {n j : Nat} {i : Int} {L : List α} {K : Addr → Prop} (h : Seg w base n r.k (r.cells L)) (hi : j < L.length) (hj : i = (j : Int)) (k : ∀ a, Rd w (a.add (j * r.k)) (r.f L[j]) → K a) : VIx g base n i K := by
  obtain ⟨a, ha, hrd⟩ := h.rec_at hi
  have := h.rlen
  subst ha hj
  exact VIx.i (by omega) (by omega) (k a hrd)
theorem VApp.grow {α : Type} {r : Rec α} {w : World} {e : TypeId} {base : Option Addr} {n cap m bytes : Nat} {zc : Array Value} {src : List Value → Prop} {K : Sl → World → Prop} {L news : List α} (h : Seg w base n r.k (r.cells L)) (hs : src (r.cells news)) (hm : news.length = m) (hz : zc.size = r.k)
    (hb : (n + m) * bytes ≤ 140737488355328) (h63 : n + m ≤ 9223372036854775807) (hgt : cap < n + m)
    (k : ∀ s' w', Row w' e r.k s' (r.cells (L ++ news)) → s'.len = n + m → (∀ b ∈ rowB s', b = w.heap.size) → Ext [] w w' → K s' w') : VApp none w e r.k bytes zc base n cap m src K := by
  have hl := h.rlen
  refine ⟨r.cells news, hs, by rw [Rec.cells_len, hm], hb, h63, fun hfit => by omega, fun _ => ⟨r.cells L, h, fun b c w' hc hc63 hnew => ?_⟩⟩
  have hk := hnew.bk0
  refine k _ _ ⟨?_, hc, hc63, .inr ⟨b, (Builtin.zeroCells zc (c - (n + m))).toList, rfl, ?_, ?_⟩⟩ rfl (by simp [rowB]; exact hnew.at_) hnew.ext
  · show (r.cells (L ++ news)).length = (n + m) * r.k
    rw [Rec.cells_len, List.length_append, hl, hm]
  · rw [Rec.cells_app]; simpa using hk
  · have hzl : (Builtin.zeroCells zc (c - (n + m))).size = (c - (n + m)) * r.k := by rw [size_zeroCells, hz]
    show (r.cells (L ++ news)).length + _ = c * r.k
    rw [Rec.cells_len, List.length_append, ← hl, hm, Array.length_toList, hzl, ← Nat.add_mul]
    congr 1
    omega
theorem VCopy.rowv {w : World} {e : TypeId} {size i n m : Nat} {s : Sl} {xs N : List Value} {src : List Value → Prop} {K : World → Prop} (h : Row w e size s xs) (hz : 0 < size) (hi : i * size + N.length ≤ xs.length) (hN : N.length = Nat.min m n * size) (h1 : N.all Value.oneCell' = true) (hs : src N)
    (k : ∀ w', Row w' e size s (xs.take (i * size) ++ N ++ xs.drop (i * size + N.length)) → Ext (rowB s) w w' → K w') : VCopy none w size (cutB s.base s.cap size i) n m src K := by
  obtain ⟨g1, g2, g3, g4⟩ := h
  refine ⟨N, hs, hN, ?_⟩
  by_cases h0 : Nat.min m n = 0
  · refine .inl ⟨h0, fun w' hw => ?_⟩
    subst hw
    have hNe : N = [] := List.eq_nil_of_length_eq_zero (by rw [hN, h0]; simp)
    subst hNe
    refine k _ ?_ (Ext.refl _ _)
    rw [List.append_nil, List.length_nil, Nat.add_zero, List.take_append_drop]
    exact ⟨g1, g2, g3, g4⟩
  · have hNp : 0 < N.length := by rw [hN]; exact Nat.mul_pos (by omega) hz
    have hip : i < s.len := by
      apply Classical.byContradiction
      intro hn
      have : s.len * size ≤ i * size := Nat.mul_le_mul_right _ (by omega)
      omega
    rcases g4 with ⟨_, h6⟩ | ⟨b, rest, hb, hk, hl⟩
    · omega
    refine .inr ⟨⟨b, i * size, none⟩, ?_, h1, Wr.of_bk hk (by rw [List.length_append]; omega), fun w' hw => ?_⟩
    · unfold cutB; rw [if_neg (by omega), hb]; simp
    · obtain ⟨hk', e'⟩ := sets_bk hk (by rw [List.length_append]; omega) hw
      refine k w' ⟨?_, g2, g3, .inr ⟨b, rest, hb, ?_, ?_⟩⟩ (by rw [show rowB s = [b] by simp [rowB, hb]]; exact e')
      · simp only [List.length_append, List.length_take, List.length_drop]; omega
      · rw [List.take_append_of_le_length (by omega), List.drop_append_of_le_length (by omega)] at hk'
        simpa only [List.append_assoc] using hk'
      · rw [← hl]; simp only [List.length_append, List.length_take, List.length_drop]; omega
/-- one more, of what stands behind -/
theorem Row.more {w : World} {e : TypeId} {size n cap : Nat} {base : Option Addr} {xs : List Value} (h : Row w e size ⟨base, n, cap⟩ xs) (hc : n + 1 ≤ cap) : ∃ ys : List Value, ys.length = size ∧ Row w e size ⟨base, n + 1, cap⟩ (xs ++ ys) := by
  obtain ⟨g1, g2, g3, g4⟩ := h
  simp only at g1 g2 g3 g4
  rcases g4 with ⟨_, h6⟩ | ⟨b, rest, hb, hk, hl⟩
  · omega
  have hle : (n + 1) * size ≤ cap * size := Nat.mul_le_mul_right _ hc
  rw [Nat.add_mul, Nat.one_mul] at hle
  have hr : size ≤ rest.length := by omega
  refine ⟨rest.take size, by rw [List.length_take]; omega, ?_, hc, g3, .inr ⟨b, rest.drop size, hb, ?_, ?_⟩⟩
  · show _ = (n + 1) * size
    rw [List.length_append, List.length_take, Nat.add_mul, Nat.one_mul]; omega
  · rw [List.append_assoc, List.take_append_drop]; exact hk
  · rw [List.length_append, List.length_take, List.length_drop]; show _ = cap * size; omega
/-- a block that was made, and not touched since -/
def New0 (w : World) (b : Nat) (cs : List Value) (t : TypeId) : Prop := w.heap[b]? = some (.cells cs.toArray t (0, 0))
theorem New0.bk {w : World} {b : Nat} {cs : List Value} {t : TypeId} (h : New0 w b cs t) : Bk w b cs t := ⟨(0, 0), h, .inr rfl⟩
theorem New0.ext {M : List Nat} {w w' : World} {b : Nat} {cs : List Value} {t : TypeId} (h : New0 w b cs t) (e : Ext M w w') (hm : b ∉ M) : New0 w' b cs t := by
  unfold New0
  rw [e.blk b h.bk.lt hm]; exact h
theorem VNw.i0 {w : World} {c : Array Value} {t : TypeId} {K : Nat → World → Prop} (k : ∀ b w', b = w.heap.size → New0 w' b c.toList t → Ext [] w w' → K b w') : VNw none w (.cells c t) K :=
  fun b w' h => k b w' h.at_ (by unfold New0; rw [h.get]) h.ext
/-- a run that does nothing but tell a number -/
def pureN (P : Program) : Sem Nat → Option Nat
  | .pure n => some n
  | .program k => pureN P (k P)
  | .mark _ k => pureN P k
  | _ => none
theorem pureU_nat {P : Program} (s : Sem Nat) (n : Nat) (h : pureN P s = some n) (w : World) : s.run P w = .ok n w := by
  induction s with
  | pure m => simp only [pureN, Option.some.injEq] at h; subst h; rfl
  | program k ih => exact ih P (by simpa [pureN] using h)
  | mark m k ih => exact ih (by simpa [pureN] using h)
  | _ => simp [pureN] at h
theorem overlaps_run {P : Program} {w : World} {tS tR e : TypeId} {size : Nat} {vb b off la ca lb cb : Nat} {vs cs : List Value} {t t' : TypeId} (ht : P.underlying tS = some (.slice e)) (hz : ∀ w, (Go.sizeOf e).run P w = .ok size w) (hv : New0 w vb vs t) (hk : Bk w b cs t') (hne : vb ≠ b) (hc : cs ≠ []) :
    (Extern.SlicesOverlaps.overlaps #[tS, tS] #[tR] #[.slice (some ⟨vb, 0, none⟩) la ca, .slice (some ⟨b, off, none⟩) lb cb]).run P w = .ok (.bool false) w := by
  obtain ⟨fr, hk1, _⟩ := hk
  refine Lib.run_overlaps_apart w tS tR e ht size hz ⟨vb, 0, none⟩ ⟨b, off, none⟩ la ca lb cb hne t t' vs.length cs.length ?_ ?_ (by simpa using hc) ?_ ?_
  · unfold World.shape?; simp only; rw [hv]; simp
  · unfold World.shape?; simp only; rw [hk1]; simp
  · simp [World.frozen?, show w.heap[vb]? = some (.cells vs.toArray t (0, 0)) from hv]
  · simp [World.frozen?, show w.heap[vb]? = some (.cells vs.toArray t (0, 0)) from hv]
end Go.Proofs.Ytlnomdjmjeabhaa
