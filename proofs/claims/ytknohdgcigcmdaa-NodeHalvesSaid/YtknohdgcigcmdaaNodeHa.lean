/-
  Package node: what is cut in two is joined again; both halves may be, and are alike. Plain.
-/
import Derived.Test.YtknohdgcigcmdaaNodeJp
namespace Go.Proofs.Ytknohdgcigcmdaa
open Go.RowKit
set_option maxRecDepth 100000

/-! the order of texts -/
theorem bl_eq : ∀ (x y : List UInt8), Op.bytesLess x y = decide (x < y)
  | [], [] => by simp [Op.bytesLess]
  | _ :: _, [] => by simp [Op.bytesLess]
  | [], _ :: _ => by simp [Op.bytesLess]
  | a :: x, b :: y => by
    rw [Op.bytesLess, bl_eq x y]
    simp only [List.cons_lt_cons_iff]
    by_cases h1 : a < b <;> by_cases h2 : a = b <;> by_cases h3 : x < y <;> simp [h1, h2, h3]
theorem lt_iff (a b : ByteArray) : ltB a b = true ↔ a.data.toList < b.data.toList := by
  rw [ltB_l, bl_eq, decide_eq_true_eq]
theorem lt_tr {a b c : ByteArray} (h : ltB a b = true) (k : ltB b c = true) : ltB a c = true := by
  rw [lt_iff] at *
  exact List.lt_trans h k
theorem lt_irr (a : ByteArray) : ltB a a = false := by
  rw [Bool.eq_false_iff]
  intro h
  rw [lt_iff] at h
  exact List.lt_irrefl _ h
theorem lt_asym {a b : ByteArray} (h : ltB a b = true) : ltB b a = false := by
  rw [Bool.eq_false_iff]
  intro k
  have := lt_tr h k
  rw [lt_irr] at this
  cases this
theorem okC_iff {leaf : Bool} {cs : List Ce} : okC leaf cs = true ↔ (∀ j (h : j < cs.length), mayC leaf cs[j] = true) ∧ ∀ j (h : j + 1 < cs.length), ltB (cs[j]).key (cs[j + 1]).key = true := by
  unfold okC
  rw [List.all_eq_true]
  constructor
  · intro h
    refine ⟨fun j hj => ?_, fun j hj => ?_⟩
    · have := h j (List.mem_range.2 hj)
      unfold stepC at this
      rw [getD_at hj] at this
      simp only [Bool.and_eq_true] at this
      exact this.1
    · have := h (j + 1) (List.mem_range.2 hj)
      unfold stepC at this
      rw [getD_at hj, Nat.add_sub_cancel, getD_at (show j < cs.length by omega)] at this
      simp only [Bool.and_eq_true, Bool.or_eq_true, decide_eq_true_eq] at this
      rcases this.2 with h0 | h0
      · omega
      · exact h0
  · rintro ⟨h1, h2⟩ j hj
    have hj := List.mem_range.1 hj
    unfold stepC
    rw [getD_at hj, h1 j hj, Bool.true_and]
    cases j with
    | zero => rfl
    | succ j =>
      rw [Nat.add_sub_cancel, getD_at (show j < cs.length by omega), h2 j hj]
      simp
theorem okC_take {leaf : Bool} {cs : List Ce} (h : okC leaf cs = true) (i : Nat) : okC leaf (cs.take i) = true := by
  rw [okC_iff] at *
  refine ⟨fun j hj => ?_, fun j hj => ?_⟩
  · rw [List.length_take] at hj
    rw [List.getElem_take]; exact h.1 j (by omega)
  · rw [List.length_take] at hj
    rw [List.getElem_take, List.getElem_take]; exact h.2 j (by omega)
theorem okC_drop {leaf : Bool} {cs : List Ce} (h : okC leaf cs = true) (i : Nat) : okC leaf (cs.drop i) = true := by
  rw [okC_iff] at *
  refine ⟨fun j hj => ?_, fun j hj => ?_⟩
  · rw [List.length_drop] at hj
    rw [List.getElem_drop]; exact h.1 (i + j) (by omega)
  · rw [List.length_drop] at hj
    rw [List.getElem_drop, List.getElem_drop]
    exact h.2 (i + j) (by omega)
theorem okC_sorted {leaf : Bool} {cs : List Ce} (h : okC leaf cs = true) : ∀ (d i : Nat) (hd : i + (d + 1) < cs.length), ltB (cs[i]).key (cs[i + (d + 1)]).key = true
  | 0, i, hd => (okC_iff.1 h).2 i hd
  | d + 1, i, hd => lt_tr (okC_sorted h d i (by omega)) ((okC_iff.1 h).2 (i + (d + 1)) hd)
theorem okC_lt {leaf : Bool} {cs : List Ce} (h : okC leaf cs = true) {i j : Nat} (hij : i < j) (hj : j < cs.length) : ltB (cs[i]).key (cs[j]).key = true := by
  have := okC_sorted h (j - i - 1) i (by omega)
  simpa [show i + (j - i - 1 + 1) = j by omega] using this
theorem okN_iff {n : Nd} : okN n = true ↔ okC n.leaf n.cs = true ∧ n.ks.length = (if n.leaf then 0 else n.cs.length + 1) ∧ n.ks.all kidOk = true := by
  unfold okN
  simp only [Bool.and_eq_true, decide_eq_true_eq]
theorem findI_at {n : Nd} (h : okN n = true) {i : Nat} (hi : i < n.cs.length) : findI n (n.cs[i]).key = i ∧ findB n (n.cs[i]).key = true := by
  have hc := (okN_iff.1 h).1
  have h1 : findI n (n.cs[i]).key = i := by
    refine (findIdx_of (by omega) (fun j hj hlt => ?_) (fun _ => ?_)).symm
    · rw [okC_lt hc hlt hi]; rfl
    · rw [lt_irr]; rfl
  refine ⟨h1, ?_⟩
  unfold findB
  rw [h1, getD_at hi]
  simp [hi]
theorem okN_atN {n : Nd} (h : okN n = true) {i : Nat} (hi : i < n.cs.length) : okN (atN n i).1 = true ∧ okN (atN n i).2 = true := by
  obtain ⟨h1, h2, h3⟩ := okN_iff.1 h
  have hall : ∀ x ∈ n.ks, kidOk x = true := List.all_eq_true.1 h3
  unfold atN
  split
  · rename_i hl
    rw [hl] at h1
    exact ⟨okN_iff.2 ⟨okC_take h1 i, rfl, rfl⟩, okN_iff.2 ⟨okC_drop h1 i, rfl, rfl⟩⟩
  · rename_i hl
    have hl : n.leaf = false := by simpa using hl
    rw [hl] at h1
    rw [if_neg (by simp [hl])] at h2
    refine ⟨okN_iff.2 ⟨okC_take h1 i, ?_, List.all_eq_true.2 fun x hx => hall x (List.mem_of_mem_take hx)⟩, okN_iff.2 ⟨okC_drop h1 (i + 1), ?_, List.all_eq_true.2 fun x hx => hall x (List.mem_of_mem_drop hx)⟩⟩
    · simp only [Bool.false_eq_true, if_false, List.length_take]; omega
    · simp only [Bool.false_eq_true, if_false, List.length_drop]; omega
theorem joinN_atN {n : Nd} (h : okN n = true) {i : Nat} (hi : i < n.cs.length) : joinN (atN n i).1 (n.cs[i]).key (atN n i).2 = n := by
  obtain ⟨h1, h2, h3⟩ := okN_iff.1 h
  have hm := (okC_iff.1 h1).1 i hi
  obtain ⟨leaf, cs, ks⟩ := n
  simp only at h1 h2 h3 hi hm
  unfold atN
  cases leaf with
  | true =>
    have hk : ks = [] := List.eq_nil_of_length_eq_zero (by simpa using h2)
    subst hk
    unfold joinN
    simp
  | false =>
    unfold joinN
    simp only [Bool.false_eq_true, if_false]
    have hc : sepC (cs[i]).key = cs[i] := by
      unfold mayC at hm
      split at hm
      · cases hm
      · simp only [if_true, Bool.and_eq_true, decide_eq_true_eq] at hm
        obtain ⟨a, b, c⟩ := hm
        have hv : (cs[i]).val = ByteArray.empty := by
          generalize (cs[i]).val = x at a
          obtain ⟨⟨l⟩⟩ := x
          have : l.length = 0 := a
          rw [List.eq_nil_of_length_eq_zero this]; rfl
        unfold sepC
        generalize cs[i] = x at *
        obtain ⟨k, v, l, s⟩ := x
        simp only at b c hv
        subst b c hv
        rfl
    rw [hc, List.take_append_drop]
    congr 1
    rw [List.append_assoc, List.singleton_append, ← List.drop_eq_getElem_cons hi, List.take_append_drop]
/-- the places of the halves' keys -/
theorem atN_low {n : Nd} (h : okN n = true) {i : Nat} (hi : i < n.cs.length) : ∀ j (hj : j < (atN n i).1.cs.length), ltB ((atN n i).1.cs[j]).key (n.cs[i]).key = true := by
  have hc := (okN_iff.1 h).1
  have e : (atN n i).1.cs = n.cs.take i := by unfold atN; split <;> rfl
  rw [e]
  intro j hj
  rw [List.length_take] at hj
  rw [List.getElem_take]
  exact okC_lt hc (by omega) hi
theorem atN_high {n : Nd} (h : okN n = true) {i : Nat} (hi : i < n.cs.length) : ∀ j (hj : j < (atN n i).2.cs.length), ltB ((atN n i).2.cs[j]).key (n.cs[i]).key = false := by
  have hc := (okN_iff.1 h).1
  unfold atN
  split
  · intro j hj
    rw [List.length_drop] at hj
    rw [List.getElem_drop]
    cases j with
    | zero => exact lt_irr _
    | succ j => exact lt_asym (okC_lt hc (by omega) (by omega))
  · intro j hj
    rw [List.length_drop] at hj
    rw [List.getElem_drop]
    exact lt_asym (okC_lt hc (by omega) (by omega))
/-! the halves of a leaf are alike -/
def cellsTo (cs : List Ce) (i : Nat) : Int := (((cs.take i).flatMap (cellB true)).length : Int)
theorem cellsTo_succ {cs : List Ce} {i : Nat} (h : i < cs.length) : cellsTo cs (i + 1) = cellsTo cs i + ((cellB true cs[i]).length : Int) := by
  unfold cellsTo
  rw [flatMap_take_succ _ _ _ h, List.length_append]
  omega
theorem cellsTo_pos (cs : List Ce) (i : Nat) : 0 ≤ cellsTo cs i := by unfold cellsTo; omega
theorem enc_small1 {n : Nat} (h : n < 128) : (enc n).length = 1 := by rw [enc_small h]; rfl
theorem headB_len2 {n : Nd} (h : n.cs.length ≤ 100) : (headB n).length = 2 := by
  have e : encC (n.cs.length : Int) = enc n.cs.length := by unfold encC; rw [if_pos (by omega)]; rfl
  unfold headB
  have e1 : (enc (if n.leaf then 1 else 0)).length = 1 := enc_small1 (by split <;> omega)
  rw [List.length_append, e, e1, enc_small1 (by omega)]
theorem subN_leaf {n : Nd} (hl : n.leaf = true) (hn : n.cs.length ≤ 100) (i : Nat) : subN n i = 2 * cellsTo n.cs i - cellsTo n.cs n.cs.length := by
  have hs : cellsTo n.cs n.cs.length = cellsTo n.cs i + (((n.cs.drop i).flatMap (cellB true)).length : Int) := by
    unfold cellsTo
    rw [List.take_length]
    conv => lhs; rw [← List.take_append_drop i n.cs, List.flatMap_append, List.length_append]
    omega
  unfold subN atN
  rw [if_pos hl]
  unfold bytesN
  simp only [if_true, List.append_nil, List.length_append]
  rw [headB_len2 (by simp only [List.length_take]; omega), headB_len2 (by simp only [List.length_drop]; omega), hs]
  unfold cellsTo
  omega
theorem bestTo_min (n : Nd) (first : Nat) : ∀ k j, j ≤ k → diffN n (bestTo n first k) ≤ diffN n (first + j)
  | 0, j, h => by
    have : j = 0 := by omega
    subst this
    exact Int.le_refl _
  | k + 1, j, h => by
    unfold bestTo
    by_cases hj : j = k + 1
    · subst hj
      have e : first + 1 + k = first + (k + 1) := by omega
      split
      · rw [e]; exact Int.le_refl _
      · rename_i hn; rw [e] at hn; omega
    · have := bestTo_min n first k j (by omega)
      split
      · rename_i hn; omega
      · exact this
theorem near (cs : List Ce) (r : Int) (hr : ∀ c ∈ cs, ((cellB true c).length : Int) ≤ r) : ∀ (m i : Nat), cs.length - 1 - i = m → 1 ≤ i → i ≤ cs.length - 1 → 2 * cellsTo cs i - cellsTo cs cs.length < 0 →
    ∃ i, 1 ≤ i ∧ i ≤ cs.length - 1 ∧ 2 * cellsTo cs i - cellsTo cs cs.length ≤ r ∧ -(2 * cellsTo cs i - cellsTo cs cs.length) ≤ r
  | 0, i, hm, h1, h2, h3 => by
    have hi : i + 1 = cs.length := by omega
    have hc := hr cs[i] (List.getElem_mem (by omega))
    have hs := cellsTo_succ (cs := cs) (i := i) (by omega)
    have hp := cellsTo_pos cs i
    rw [hi] at hs
    have hcp : 0 ≤ ((cellB true cs[i]).length : Int) := by omega
    exact ⟨i, h1, h2, by omega, by omega⟩
  | m + 1, i, hm, h1, h2, h3 => by
    have hs := cellsTo_succ (cs := cs) (i := i) (by omega)
    have hc := hr cs[i] (List.getElem_mem (by omega))
    by_cases h : 2 * cellsTo cs (i + 1) - cellsTo cs cs.length < 0
    · exact near cs r hr m (i + 1) (by omega) (by omega) (by omega) h
    · by_cases hq : -(2 * cellsTo cs i - cellsTo cs cs.length) ≤ r
      · exact ⟨i, h1, h2, by omega, hq⟩
      · exact ⟨i + 1, by omega, by omega, by omega, by omega⟩
theorem near_ex (cs : List Ce) (r : Int) (hr : ∀ c ∈ cs, ((cellB true c).length : Int) ≤ r) (hn : 2 ≤ cs.length) :
    ∃ i, 1 ≤ i ∧ i ≤ cs.length - 1 ∧ 2 * cellsTo cs i - cellsTo cs cs.length ≤ r ∧ -(2 * cellsTo cs i - cellsTo cs cs.length) ≤ r := by
  by_cases h : 2 * cellsTo cs 1 - cellsTo cs cs.length < 0
  · exact near cs r hr _ 1 rfl (by omega) (by omega) h
  · have hs := cellsTo_succ (cs := cs) (i := 0) (by omega)
    have h0 : cellsTo cs 0 = 0 := by unfold cellsTo; simp
    have hc := hr cs[0] (List.getElem_mem (by omega))
    have hle : cellsTo cs 1 ≤ cellsTo cs cs.length := by
      unfold cellsTo
      rw [List.take_length]
      conv => rhs; rw [← List.take_append_drop 1 cs, List.flatMap_append, List.length_append]
      omega
    refine ⟨1, by omega, by omega, ?_, by omega⟩
    rw [Nat.zero_add] at hs
    omega
/-- the halves of a leaf are alike up to any bound of its cells -/
theorem halves {n : Nd} (hl : n.leaf = true) (hn : n.cs.length ≤ 100) (h2 : 2 ≤ n.cs.length) {r : Int} (hr : ∀ c ∈ n.cs, ((cellB true c).length : Int) ≤ r) :
    subN n (bestTo n (firstN n) (n.cs.length - firstN n - 1)) ≤ r ∧ - subN n (bestTo n (firstN n) (n.cs.length - firstN n - 1)) ≤ r := by
  have hf : firstN n = 1 := by unfold firstN; rw [if_pos hl]
  rw [hf]
  obtain ⟨i, h3, h4, h5, h6⟩ := near_ex n.cs r hr h2
  have hb := bestTo_min n 1 (n.cs.length - 1 - 1) (i - 1) (by omega)
  rw [show 1 + (i - 1) = i by omega] at hb
  rw [← subN_leaf hl hn] at h5 h6
  unfold diffN at hb
  constructor <;> split at hb <;> split at hb <;> omega
/-- what Cut gives of a node that may be -/
theorem cutN_at {n : Nd} (hd : firstN n < n.cs.length) : ∃ b, ∃ hb : b < n.cs.length, cutN n = ((atN n b).1, (n.cs[b]).key, (atN n b).2) ∧ b = bestTo n (firstN n) (n.cs.length - firstN n - 1) := by
  have hbl := bestTo_le n (firstN n) (n.cs.length - firstN n - 1)
  have hb : bestTo n (firstN n) (n.cs.length - firstN n - 1) < n.cs.length := by omega
  refine ⟨_, hb, ?_, rfl⟩
  unfold cutN
  rw [if_neg (by omega), getD_at hb]
theorem cutN_no {n : Nd} (hd : n.cs.length ≤ firstN n) : cutN n = (n, ByteArray.mk #[], ⟨false, [], []⟩) := by unfold cutN; rw [if_pos hd]
end Go.Proofs.Ytknohdgcigcmdaa
