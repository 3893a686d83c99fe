/-
  Slices of records: in memory of their own, read, cut, put behind one another.
-/
import Derived.Test.YtknohdgcigcmdaaEngW
namespace Go.Proofs.Ytknohdgcigcmdaa
open Go.RowKit
set_option maxRecDepth 100000

/-- how a record lies in cells -/
structure Rec (α : Type) where
  f : α → List Value
  k : Nat
  len : ∀ x, (f x).length = k
  one : ∀ x, (f x).all Value.oneCell' = true
  pos : 0 < k
def Rec.cells {α : Type} (r : Rec α) (L : List α) : List Value := L.flatMap r.f

theorem VLd.s {g : Option Bool} {w : World} {a : Addr} {K : ArrP [CT.sl]} (s : Sl) (h : Rd w a [.slice s.base s.len s.cap]) (k : K s) : VLd g w a [CT.sl] K := ⟨s, gd.i h, k⟩
section
variable {α : Type} {r : Rec α} {w w' w0 : World} {s : Sl} {L : List α} {e : TypeId} {base : Option Addr} {n : Nat} {M : List Nat}
theorem Rec.cells_nil : r.cells [] = [] := rfl
theorem Rec.cells_cons (x : α) (L : List α) : r.cells (x :: L) = r.f x ++ r.cells L := rfl
theorem Rec.cells_app (a b : List α) : r.cells (a ++ b) = r.cells a ++ r.cells b := by simp [Rec.cells]
theorem Rec.cells_one (x : α) : r.cells [x] = r.f x := by simp [Rec.cells]
theorem Rec.cells_len : ∀ L : List α, (r.cells L).length = L.length * r.k
  | [] => by simp [Rec.cells]
  | x :: L => by rw [Rec.cells_cons, List.length_append, r.len, Rec.cells_len L, List.length_cons, Nat.add_mul]; omega
theorem Rec.cells_all : ∀ L : List α, (r.cells L).all Value.oneCell' = true
  | [] => rfl
  | x :: L => by rw [Rec.cells_cons, List.all_append, r.one, Rec.cells_all L]; rfl
theorem Rec.cells_drop : ∀ (L : List α) (i : Nat), (r.cells L).drop (i * r.k) = r.cells (L.drop i)
  | L, 0 => by simp
  | [], i + 1 => by simp [Rec.cells]
  | x :: L, i + 1 => by
    rw [Rec.cells_cons, show (i + 1) * r.k = r.k + i * r.k by rw [Nat.add_mul]; omega, ← List.drop_drop, ← r.len x, List.drop_left, r.len x, List.drop_succ_cons, Rec.cells_drop L i]
theorem Rec.cells_take : ∀ (L : List α) (i : Nat), (r.cells L).take (i * r.k) = r.cells (L.take i)
  | L, 0 => by simp [Rec.cells]
  | [], i + 1 => by simp [Rec.cells]
  | x :: L, i + 1 => by
    rw [Rec.cells_cons, show (i + 1) * r.k = (r.f x).length + i * r.k by rw [Nat.add_mul, r.len]; omega, List.take_length_add_append, List.take_succ_cons, Rec.cells_cons, Rec.cells_take L i]
theorem Rec.cells_at {i : Nat} (h : i < L.length) : ((r.cells L).drop (i * r.k)).take r.k = r.f L[i] := by
  rw [Rec.cells_drop, List.drop_eq_getElem_cons h, Rec.cells_cons, ← r.len L[i], List.take_left]
theorem Seg.rlen (h : Seg w base n r.k (r.cells L)) : n = L.length := by
  have := h.1
  rw [Rec.cells_len] at this
  exact (Nat.eq_of_mul_eq_mul_right r.pos this).symm
/-- the i-th record -/
theorem Seg.rec_at (h : Seg w base n r.k (r.cells L)) {i : Nat} (hi : i < L.length) : ∃ a, base = some a ∧ Rd w (a.add (i * r.k)) (r.f L[i]) := by
  have hn := h.rlen
  obtain ⟨a, ha, hrd⟩ := h.at_ (i := i) (by omega)
  rw [Rec.cells_at hi] at hrd
  exact ⟨a, ha, hrd⟩
theorem Rd.fld {a : Addr} {vs : List Value} {v : Value} (h : Rd w a vs) (i : Nat) (hv : vs[i]? = some v) : Rd w (a.add i) [v] :=
  h.drop fun j x hj => by
    cases j with
    | zero => simp at hj; subst hj; exact hv
    | succ j => simp at hj
theorem Rd.fld0 {a : Addr} {vs : List Value} {v : Value} (h : Rd w a vs) (hv : vs[0]? = some v) : Rd w a [v] := by
  have := h.fld 0 hv
  rwa [add_zero] at this

/-- a slice that reads as these records, and may be cut -/
def InR (r : Rec α) (w : World) (s : Sl) (L : List α) : Prop := Seg w s.base s.len r.k (r.cells L) ∧ s.len ≤ s.cap ∧ s.cap ≤ 9223372036854775807
theorem InR.len (h : InR r w s L) : s.len = L.length := h.1.rlen
theorem InR.ext0 (h : InR r w s L) (e : Ext [] w w') : InR r w' s L := ⟨h.1.ext0 e, h.2⟩
theorem InR.nil (w : World) : InR r w ⟨none, 0, 0⟩ [] := ⟨Seg.nil _ _ _, Nat.le_refl _, by simp⟩
theorem InR.cut (h : InR r w s L) (a b : Nat) (hab : a ≤ b) (hb : b ≤ L.length) : InR r w ⟨cutB s.base s.cap r.k a, b - a, s.cap - a⟩ ((L.take b).drop a) := by
  obtain ⟨h1, h2, h3⟩ := h
  have hn := h1.rlen
  refine ⟨⟨by rw [Rec.cells_len, List.length_drop, List.length_take, Nat.min_eq_left hb], ?_⟩, by simp only; omega, by simp only; omega⟩
  by_cases hz : b - a = 0
  · exact .inl hz
  · right
    obtain ⟨ad, had, hrd⟩ := h1.2.resolve_left (by omega)
    refine ⟨ad.add (a * r.k), ?_, ?_⟩
    · simp only [cutB]
      rw [if_neg (by omega), had]; rfl
    · refine hrd.drop fun j v hj => ?_
      rw [← Rec.cells_drop, ← Rec.cells_take, List.getElem?_drop, List.getElem?_take] at hj
      split at hj
      · exact hj
      · cases hj

/-- a slice of records in memory of its own -/
def OwnR (r : Rec α) (e : TypeId) (w0 w : World) (s : Sl) (L : List α) : Prop := Row w e r.k s (r.cells L) ∧ ∀ b ∈ rowB s, w0.heap.size ≤ b
theorem OwnR.ext0 (h : OwnR r e w0 w s L) (x : Ext [] w w') : OwnR r e w0 w' s L := ⟨h.1.ext0 x, h.2⟩
theorem OwnR.ext (h : OwnR r e w0 w s L) (x : Ext M w w') (hm : ∀ b ∈ rowB s, b ∉ M) : OwnR r e w0 w' s L := ⟨h.1.ext x hm, h.2⟩
theorem OwnR.seg (h : OwnR r e w0 w s L) : Seg w s.base s.len r.k (r.cells L) := h.1.seg
theorem OwnR.len (h : OwnR r e w0 w s L) : s.len = L.length := h.seg.rlen
theorem OwnR.cap (h : OwnR r e w0 w s L) : s.len ≤ s.cap ∧ s.cap ≤ 9223372036854775807 := ⟨h.1.2.1, h.1.2.2.1⟩
theorem OwnR.in_ (h : OwnR r e w0 w s L) : InR r w s L := ⟨h.seg, h.cap⟩
theorem OwnR.nil (r : Rec α) (e : TypeId) (w0 w : World) : OwnR r e w0 w ⟨none, 0, 0⟩ [] := ⟨Row.nil _ _ _, by simp [rowB]⟩
theorem OwnR.mono {w1 : World} (h : OwnR r e w1 w s L) (le : w0.heap.size ≤ w1.heap.size) : OwnR r e w0 w s L := ⟨h.1, fun b hb => Nat.le_trans le (h.2 b hb)⟩
theorem Row.bk_of {xs : List Value} {size : Nat} (h : Row w e size s xs) {b : Nat} (hb : b ∈ rowB s) : ∃ cs, Bk w b cs e := by
  obtain ⟨_, _, _, h3⟩ := h
  rcases h3 with ⟨h3, _⟩ | ⟨b', rest, hb', hk, _⟩
  · simp [rowB, h3] at hb
  · simp [rowB, hb'] at hb; subst hb; exact ⟨_, hk⟩
theorem Bk.neT {a b : Nat} {cs ds : List Value} {t u : TypeId} (h : Bk w a cs t) (k : Bk w b ds u) (hne : t ≠ u) : a ≠ b := by
  rintro rfl
  obtain ⟨f, h1, _⟩ := h
  obtain ⟨g, k1, _⟩ := k
  rw [h1] at k1
  cases k1
  exact hne rfl

/-- records put behind an own row -/
theorem VApp.rec {news : List α} {m bytes : Nat} {zc : Array Value} {src : List Value → Prop} {K : Sl → World → Prop} (h : OwnR r e w0 w s L) (e0 : Ext [] w0 w) (hs : src (r.cells news)) (hm : news.length = m) (hz : zc.size = r.k)
    (hb : (L.length + m) * bytes ≤ 140737488355328) (h63 : L.length + m ≤ 9223372036854775807)
    (k : ∀ s' w', OwnR r e w0 w' s' (L ++ news) → Ext [] w0 w' → Ext (rowB s) w w' → (∀ b ∈ rowB s', b ∈ rowB s ∨ b = w.heap.size) → K s' w') : VApp none w e r.k bytes zc s.base s.len s.cap m src K := by
  have hl := h.len
  refine VApp.row (news := r.cells news) h.1 hz hs (by rw [Rec.cells_len, hm]) (Rec.cells_all _) (by rw [hl]; exact hb) (by omega) fun s' w' hr hlen he hbl _ => ?_
  rw [← Rec.cells_app] at hr
  refine k s' w' ⟨hr, fun b hb => ?_⟩ (e0.then he (fun i hi hlt => by have := h.2 i hi; omega)) he hbl
  rcases hbl b hb with h' | h'
  · exact h.2 b h'
  · have := e0.size; omega
/-- 'append([]T{}, l...)' -/
theorem VApp.rclone {w1 : World} {b m bytes : Nat} {zc : Array Value} {base : Option Addr} {K : Sl → World → Prop} (hb : b = w.heap.size) (hk : Bk w1 b [] e) (e1 : Ext [] w w1) (h : Seg w base m r.k (r.cells L)) (hz : zc.size = r.k)
    (hl : L.length * bytes ≤ 140737488355328) (h63 : L.length ≤ 9223372036854775807)
    (k : ∀ s' w', OwnR r e w w' s' L → Ext [] w w' → K s' w') : VApp none w1 e r.k bytes zc (some ⟨b, 0, none⟩) 0 0 m (fun news => Seg w1 base m r.k news) K := by
  have ho : OwnR r e w w1 ⟨some ⟨b, 0, none⟩, 0, 0⟩ [] := ⟨Row.of_bk hk (by simp [Rec.cells]) (by omega), by simp [rowB]; omega⟩
  have hn := h.rlen
  exact VApp.rec (s := ⟨some ⟨b, 0, none⟩, 0, 0⟩) (L := []) ho e1 (h.ext0 e1) hn.symm hz (by simpa [hn] using hl) (by simp; omega) fun s' w' h' e' _ _ => k s' w' h' e'
theorem cutB_zero (b : Option Addr) (c k : Nat) : cutB b c k 0 = b := by
  unfold cutB
  split
  · rfl
  · cases b <;> simp
theorem OwnR.apart {β : Type} {q : Rec β} {e' : TypeId} {w1 w1' w2 : World} {t : Sl} {T : List β} (hs : OwnR r e w0 w1 s L) (le : w1.heap.size ≤ w1'.heap.size) (ht : OwnR q e' w1' w2 t T) : ∀ b ∈ rowB s, b ∉ rowB t := fun b hb hb' => by
  have h1 := hs.1.lt b hb
  have h2 := ht.2 b hb'
  omega
theorem OwnR.apart' {β : Type} {q : Rec β} {e' : TypeId} {w1 w1' w2 : World} {t : Sl} {T : List β} (hs : OwnR r e w0 w1 s L) (le : w1.heap.size ≤ w1'.heap.size) (ht : OwnR q e' w1' w2 t T) : ∀ b ∈ rowB t, b ∉ rowB s := fun b hb hb' => by
  have h1 := hs.1.lt b hb'
  have h2 := ht.2 b hb
  omega
/-- a record's cells are written, from a place in it on -/
theorem Row.putR {g : Option Bool} {W : World} {i j : Nat} {vs : List Value} {x : α} {K : World → Prop} (h : Row W e r.k s (r.cells L)) (hi : i < L.length) (hj : j + vs.length ≤ r.k) (h1 : vs.all Value.oneCell' = true)
    (hx : (r.f (L[i])).take j ++ vs ++ (r.f (L[i])).drop (j + vs.length) = r.f x) {ad : Addr → Addr} (ha : ∀ a, ad a = (a.add (i * r.k)).add j)
    (k : ∀ W', Row W' e r.k s (r.cells (L.set i x)) → Ext (rowB s) W W' → K W') :
    VIx g s.base s.len (i : Int) fun (a : Addr) => VSt none W (ad a) vs K := by
  have hlen := h.seg.rlen
  obtain ⟨g1, g2, g3, g4⟩ := h
  rcases g4 with ⟨_, h6⟩ | ⟨b, rest, hb, hk, hl⟩
  · omega
  · rw [hb]
    refine VIx.i (by omega) (by omega) ?_
    rw [ha]
    simp only [add_blk, Nat.zero_add]
    have hc : (r.cells L).length = L.length * r.k := Rec.cells_len L
    have hle : (i + 1) * r.k ≤ L.length * r.k := Nat.mul_le_mul_right _ hi
    rw [Nat.add_mul, Nat.one_mul] at hle
    refine VSt.bk hk h1 (by simp only [List.length_append]; omega) fun w5 hk5 e5 => ?_
    have hset : (r.cells L ++ rest).take (i * r.k + j) ++ vs ++ (r.cells L ++ rest).drop (i * r.k + j + vs.length) = r.cells (L.set i x) ++ rest := by
      have hsplit : r.cells L = r.cells (L.take i) ++ (r.f L[i] ++ r.cells (L.drop (i + 1))) := by
        conv => lhs; rw [← List.take_append_drop i L, List.drop_eq_getElem_cons hi]
        rw [Rec.cells_app, Rec.cells_cons]
      have hset' : r.cells (L.set i x) = r.cells (L.take i) ++ (r.f x ++ r.cells (L.drop (i + 1))) := by
        rw [List.set_eq_take_append_cons_drop, if_pos hi, Rec.cells_app, Rec.cells_cons]
      have ht : (r.cells (L.take i)).length = i * r.k := by rw [Rec.cells_len, List.length_take, Nat.min_eq_left (by omega)]
      rw [hset', hsplit, ← hx, List.append_assoc, List.append_assoc (r.cells (L.take i)), ← ht]
      rw [List.take_length_add_append, show (r.cells (L.take i)).length + j + vs.length = (r.cells (L.take i)).length + (j + vs.length) by omega, List.drop_length_add_append]
      have hf : (r.f L[i]).length = r.k := r.len _
      rw [List.append_assoc (r.f L[i]), List.take_append_of_le_length (by omega), List.drop_append_of_le_length (by omega)]
      simp only [List.append_assoc]
    rw [hset] at hk5
    refine k w5 ⟨?_, g2, g3, .inr ⟨b, rest, hb, hk5, ?_⟩⟩ (by rw [show rowB s = [b] by simp [rowB, hb]]; exact e5)
    · rw [Rec.cells_len, List.length_set, hlen]
    · rw [Rec.cells_len, List.length_set, ← hc]; exact hl
/-- 'copy(l[i:], l[i+1:])': what stands behind the i-th one goes down by one -/
theorem VCopy.shift {i : Nat} {K : World → Prop} (h : Row w e r.k s (r.cells L)) (hi : i < L.length)
    (k : ∀ w', Row w' e r.k ⟨s.base, s.len - 1, s.cap⟩ (r.cells (L.eraseIdx i)) → Ext (rowB s) w w' → K w') :
    VCopy none w r.k (cutB s.base s.cap r.k i) (s.len - i) (s.len - (i + 1)) (fun news => Seg w (cutB s.base s.cap r.k (i + 1)) (Nat.min (s.len - (i + 1)) (s.len - i)) r.k news) K := by
  have hlen := h.seg.rlen
  have hin : InR r w s L := ⟨h.seg, h.2.1, h.2.2.1⟩
  have hmin : Nat.min (s.len - (i + 1)) (s.len - i) = s.len - (i + 1) := Nat.min_eq_left (by omega)
  have hcut := hin.cut (i + 1) L.length (by omega) (Nat.le_refl _)
  rw [List.take_length] at hcut
  obtain ⟨g1, g2, g3, g4⟩ := h
  have her : L.eraseIdx i = L.take i ++ L.drop (i + 1) := List.eraseIdx_eq_take_drop_succ ..
  rcases g4 with ⟨_, h6⟩ | ⟨b, rest, hb, hk, hl⟩
  · omega
  have hc : (r.cells L).length = L.length * r.k := Rec.cells_len L
  have hmul : L.length * r.k = i * r.k + (L.length - (i + 1)) * r.k + r.k := by
    rw [← Nat.add_mul, ← Nat.succ_mul]; congr 1; omega
  have hnl : (r.cells (L.drop (i + 1))).length = (L.length - (i + 1)) * r.k := by rw [Rec.cells_len, List.length_drop]
  have ht : (r.cells (L.take i)).length = i * r.k := by rw [Rec.cells_len, List.length_take, Nat.min_eq_left (by omega)]
  have hlem : (r.cells (L.eraseIdx i)).length = i * r.k + (L.length - (i + 1)) * r.k := by rw [her, Rec.cells_app, List.length_append, ht, hnl]
  have fin : ∀ w' cs, Bk w' b cs e → cs.length = (r.cells L ++ rest).length → cs.take (i * r.k + (L.length - (i + 1)) * r.k) = r.cells (L.eraseIdx i) → Ext (rowB s) w w' → K w' := by
    intro w' cs hk' hcl htk e'
    refine k w' ⟨?_, by simp only; omega, g3, .inr ⟨b, cs.drop (i * r.k + (L.length - (i + 1)) * r.k), hb, ?_, ?_⟩⟩ e'
    · show _ = (s.len - 1) * r.k
      rw [hlem, hlen, ← Nat.add_mul]; congr 1; omega
    · rw [← htk, List.take_append_drop]; exact hk'
    · rw [hlem, List.length_drop, hcl, List.length_append, hc]
      simp only [hc] at hl
      simp only
      omega
  refine ⟨r.cells (L.drop (i + 1)), ?_, ?_, ?_⟩
  · rw [hmin, hlen]; exact hcut.1
  · rw [hmin, hnl, hlen]
  · rw [hmin]
    by_cases hz : s.len - (i + 1) = 0
    · refine .inl ⟨hz, fun w' hw => ?_⟩
      subst hw
      refine fin _ _ hk rfl ?_ (Ext.refl _ _)
      have hd : L.drop (i + 1) = [] := List.drop_eq_nil_of_le (by omega)
      have h0 : L.length - (i + 1) = 0 := by omega
      rw [her, hd, List.append_nil, h0, Nat.zero_mul, Nat.add_zero, List.take_append_of_le_length (by omega), Rec.cells_take]
    · refine .inr ⟨⟨b, i * r.k, none⟩, ?_, Rec.cells_all _, Wr.of_bk hk (by rw [hnl, List.length_append, hc]; omega), fun w' hw => ?_⟩
      · unfold cutB; rw [if_neg (by omega), hb]; simp
      · obtain ⟨hk', e'⟩ := sets_bk hk (by rw [hnl, List.length_append, hc]; omega) hw
        refine fin _ _ hk' ?_ ?_ (by rw [show rowB s = [b] by simp [rowB, hb]]; exact e')
        · simp only [List.length_append, List.length_take, List.length_drop, hnl, hc]; omega
        · have h1 : (r.cells L ++ rest).take (i * r.k) = r.cells (L.take i) := by
            rw [List.take_append_of_le_length (by rw [hc]; omega), Rec.cells_take]
          rw [h1, ← Rec.cells_app, ← her, List.take_append_of_le_length (by rw [hlem]; omega), List.take_of_length_le (by rw [hlem]; omega)]
theorem Rec.cells_get {i j : Nat} (hi : i < L.length) (hj : j < r.k) : (r.cells L)[i * r.k + j]? = (r.f L[i])[j]? := by
  have := congrArg (fun l => l[j]?) (Rec.cells_at (r := r) hi)
  simp only [List.getElem?_take, if_pos hj, List.getElem?_drop] at this
  exact this
theorem pick_rows {β : Type} [Inhabited β] {n : Nat} {p : Nat → β → Prop} (h : ∀ i, i < n → ∃ x, p i x) : ∃ f : Nat → β, ∀ i, i < n → p i (f i) := by
  classical
  exact ⟨fun i => if hi : i < n then (h i hi).choose else default, fun i hi => by simp only [dif_pos hi]; exact (h i hi).choose_spec⟩
/-- records that can be read, one by one, are a list -/
theorem seg_recs [Inhabited α] (r : Rec α) {len : Nat} {P : α → Prop} (h : ∀ i, i < len → ∃ x, P x ∧ ∃ a0, base = some a0 ∧ Rd w (a0.add (i * r.k)) (r.f x)) :
    ∃ L : List α, L.length = len ∧ (∀ x ∈ L, P x) ∧ Seg w base len r.k (r.cells L) := by
  obtain ⟨f, hf⟩ := pick_rows h
  refine ⟨(List.range len).map f, by simp, ?_, ?_⟩
  · intro x hx
    obtain ⟨i, hi, rfl⟩ := List.mem_map.1 hx
    exact (hf i (List.mem_range.1 hi)).1
  · refine ⟨by rw [Rec.cells_len]; simp, ?_⟩
    by_cases h0 : len = 0
    · exact .inl h0
    · obtain ⟨_, a0, ha, _⟩ := hf 0 (by omega)
      refine .inr ⟨a0, ha, fun t v hv => ?_⟩
      have htl := (List.getElem?_eq_some_iff.1 hv).1
      rw [Rec.cells_len, List.length_map, List.length_range] at htl
      have hi : t / r.k < len := Nat.div_lt_of_lt_mul (by rw [Nat.mul_comm]; exact htl)
      have hj : t % r.k < r.k := Nat.mod_lt _ r.pos
      obtain ⟨_, a1, ha1, hrd⟩ := hf (t / r.k) hi
      obtain rfl : a1 = a0 := by rw [ha] at ha1; cases ha1; rfl
      have ht : t = t / r.k * r.k + t % r.k := by rw [Nat.mul_comm]; exact (Nat.div_add_mod t r.k).symm
      rw [ht] at hv ⊢
      rw [Rec.cells_get (by simpa using hi) hj] at hv
      rw [← add_add]
      exact hrd _ _ (by simpa using hv)
end
end Go.Proofs.Ytknohdgcigcmdaa
