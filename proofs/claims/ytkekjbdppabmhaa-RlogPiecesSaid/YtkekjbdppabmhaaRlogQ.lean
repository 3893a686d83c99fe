/-
  Package rlog: pieces of one log, plain.
-/
import Derived.Test.YtkekjbdppabmhaaRlogP
namespace Go.Proofs.Ytkekjbdppabmhaa
open Go.RowKit
set_option maxRecDepth 100000

/-- the term ahead of the i-th entry -/
def tA (T : List Int) : Nat → Int
  | 0 => 0
  | 1 => 1 + 2 * (T.getD 0 0 % 3)
  | i + 2 => tA T (i + 1) + 2 * (T.getD (i + 1) 0 % 3)
theorem tA_odd (T : List Int) : ∀ i, tA T (i + 1) % 2 = 1
  | 0 => by unfold tA; omega
  | i + 1 => by have := tA_odd T i; unfold tA; omega
theorem tA_le (T : List Int) : ∀ i, 1 ≤ tA T (i + 1) ∧ tA T (i + 1) ≤ 1 + 4 * ((i : Int) + 1)
  | 0 => by
    have h1 := Int.emod_nonneg (T.getD 0 0) (show (3 : Int) ≠ 0 by omega)
    have h2 := Int.emod_lt_of_pos (T.getD 0 0) (show (0 : Int) < 3 by omega)
    unfold tA; omega
  | i + 1 => by
    have := tA_le T i
    have h1 := Int.emod_nonneg (T.getD (i + 1) 0) (show (3 : Int) ≠ 0 by omega)
    have h2 := Int.emod_lt_of_pos (T.getD (i + 1) 0) (show (0 : Int) < 3 by omega)
    unfold tA; omega
theorem tA_up (T : List Int) : ∀ i, tA T i ≤ tA T (i + 1)
  | 0 => by have := tA_le T 0; show (0 : Int) ≤ _; omega
  | i + 1 => by
    have h1 := Int.emod_nonneg (T.getD (i + 1) 0) (show (3 : Int) ≠ 0 by omega)
    have : tA T (i + 1 + 1) = tA T (i + 1) + 2 * (T.getD (i + 1) 0 % 3) := rfl
    omega
def byA (i : Nat) : ByteArray := ⟨#[UInt8.ofNat i]⟩
def eA (T : List Int) (i : Nat) : En := ⟨tA T (i + 1), 2, byA i, []⟩
/-- the whole log -/
def allA (T : List Int) (n : Nat) : List En := (List.range n).map (eA T)
theorem allA_len (T : List Int) (n : Nat) : (allA T n).length = n := by unfold allA; simp
theorem allA_get (T : List Int) {n i : Nat} (h : i < (allA T n).length) : (allA T n)[i] = eA T i := by
  have h2 : i < n := by rw [allA_len] at h; exact h
  have : (allA T n)[i]? = some (eA T i) := by unfold allA; rw [List.getElem?_map, List.getElem?_range h2]; rfl
  exact Option.some.inj ((List.getElem?_eq_getElem h).symm.trans this)
theorem allA_getD (T : List Int) {n i : Nat} (h : i < n) : (allA T n).getD i zEn = eA T i := by
  rw [getD_getE (by rw [allA_len]; exact h), allA_get]
theorem allA_succ (T : List Int) (n : Nat) : allA T (n + 1) = allA T n ++ [eA T n] := by unfold allA; rw [List.range_succ, List.map_append]; rfl
theorem eA_ok (T : List Int) {i : Nat} (h : i < 100) : okE (eA T i) = true := by
  have := tA_le T i
  unfold okE eA
  rw [if_neg (by simp only; omega), if_neg (by show ¬ (2 : Int) = 1; decide), if_pos rfl]
  rfl
/-- a list that may stand behind a term -/
theorem may_iff {t : Int} {L : List En} : mayB t L = true ↔ ∀ i : Nat, i < L.length → okE (L.getD i zEn) = true ∧ termAt t L i ≤ (L.getD i zEn).term := by
  unfold mayB
  rw [decide_eq_true_eq]
  constructor
  · intro h i hi
    have := h i hi
    unfold badM at this
    rw [Bool.or_eq_false_iff, decide_eq_false_iff_not] at this
    exact ⟨by simpa using this.1, by omega⟩
  · intro h i hi
    obtain ⟨h1, h2⟩ := h i hi
    unfold badM
    rw [Bool.or_eq_false_iff, decide_eq_false_iff_not]
    exact ⟨by rw [h1]; rfl, by omega⟩
theorem may_nil (t : Int) : mayB t [] = true := by rw [may_iff]; intro i hi; exact absurd hi (by simp)
theorem may_snoc {t : Int} {L : List En} {e : En} (h : mayB t L = true) (h1 : okE e = true) (h2 : termAt t L L.length ≤ e.term) : mayB t (L ++ [e]) = true := by
  rw [may_iff] at h ⊢
  intro i hi
  rw [List.length_append, List.length_singleton] at hi
  by_cases hl : i < L.length
  · have hg : (L ++ [e]).getD i zEn = L.getD i zEn := by rw [List.getD_eq_getElem?_getD, List.getD_eq_getElem?_getD, List.getElem?_append_left hl]
    have ht : termAt t (L ++ [e]) i = termAt t L i := by
      unfold termAt
      split
      · rfl
      · rw [List.getD_eq_getElem?_getD, List.getD_eq_getElem?_getD, List.getElem?_append_left (by omega)]
    rw [hg, ht]
    exact h i hl
  · have hil : i = L.length := by omega
    subst hil
    have hg : (L ++ [e]).getD L.length zEn = e := by rw [List.getD_eq_getElem?_getD, List.getElem?_append_right (Nat.le_refl _)]; simp
    have ht : termAt t (L ++ [e]) L.length = termAt t L L.length := by
      unfold termAt
      split
      · rfl
      · rw [List.getD_eq_getElem?_getD, List.getD_eq_getElem?_getD, List.getElem?_append_left (by omega)]
    rw [hg, ht]
    exact ⟨h1, h2⟩
theorem termAt_snoc {t : Int} {L : List En} {e : En} : termAt t (L ++ [e]) (L ++ [e]).length = e.term := by
  unfold termAt
  rw [if_neg (by simp), List.length_append, List.length_singleton, Nat.add_sub_cancel, List.getD_eq_getElem?_getD, List.getElem?_append_right (Nat.le_refl _)]
  simp
/-- a piece -/
def pcA (T : List Int) (n a b : Nat) : List En := ((allA T n).take b).drop a
theorem pc_len (T : List Int) {n a b : Nat} (hb : b ≤ n) : (pcA T n a b).length = b - a := by unfold pcA; rw [List.length_drop, List.length_take, allA_len]; omega
theorem pc_getD (T : List Int) {n a b i : Nat} (hb : b ≤ n) (hi : a + i < b) : (pcA T n a b).getD i zEn = eA T (a + i) := by
  unfold pcA
  rw [List.getD_eq_getElem?_getD, List.getElem?_drop, List.getElem?_take, if_pos hi, ← List.getD_eq_getElem?_getD, allA_getD T (by omega)]
theorem pc_may (T : List Int) {n a b : Nat} (hn : n ≤ 40) (hb : b ≤ n) : mayB (tA T a) (pcA T n a b) = true := by
  rw [may_iff]
  intro i hi
  rw [pc_len T hb] at hi
  rw [pc_getD T hb (by omega)]
  refine ⟨eA_ok T (by omega), ?_⟩
  unfold termAt
  split
  · rename_i h0
    subst h0
    exact tA_up T a
  · rw [pc_getD T hb (by omega)]
    show tA T (a + (i - 1) + 1) ≤ tA T (a + i + 1)
    rw [show a + (i - 1) + 1 = a + i by omega]
    exact tA_up T (a + i)
theorem pc_lists (T : List Int) {n a b : Nat} : ∀ e ∈ pcA T n a b, e.list = [] := fun e he => by
  have h1 := List.mem_of_mem_take (List.mem_of_mem_drop he)
  unfold allA at h1
  obtain ⟨i, _, rfl⟩ := List.mem_map.1 h1
  rfl
theorem pc_join (T : List Int) {n a b c : Nat} (hab : a ≤ b) (hbc : b ≤ c) (hc : c ≤ n) : pcA T n a b ++ pcA T n b c = pcA T n a c := by
  apply List.ext_getElem?
  intro i
  have hl : (pcA T n a b).length = b - a := pc_len T (by omega)
  by_cases h : i < b - a
  · rw [List.getElem?_append_left (by omega)]
    unfold pcA
    rw [List.getElem?_drop, List.getElem?_drop, List.getElem?_take, List.getElem?_take, if_pos (by omega), if_pos (by omega)]
  · rw [List.getElem?_append_right (by omega), hl]
    unfold pcA
    rw [List.getElem?_drop, List.getElem?_drop, List.getElem?_take, List.getElem?_take, show b + (i - (b - a)) = a + i by omega]
/-- the other log: a part of the whole one, and entries of even terms behind -/
structure PI (T : List Int) (n c K : Nat) (g : Lg) : Prop where
  ck : c ≤ K
  kn : K ≤ n
  hb : g.base = (c : Int)
  ht : g.term = tA T c
  hx : ∃ X, g.l = pcA T n c K ++ X ∧ X.length ≤ 40 ∧ (∀ e ∈ X, e.term % 2 = 0 ∧ e.list = [])
section
variable {T : List Int} {n c K : Nat} {g : Lg}
theorem PI.len (h : PI T n c K g) : K - c ≤ g.l.length ∧ g.l.length ≤ K - c + 40 := by
  obtain ⟨X, hX, hl, _⟩ := h.hx
  rw [hX, List.length_append, pc_len T h.kn]
  omega
theorem PI.lists (h : PI T n c K g) : ∀ e ∈ g.l, e.list = [] := fun e he => by
  obtain ⟨X, hX, hl, hv⟩ := h.hx
  rw [hX] at he
  rcases List.mem_append.1 he with he | he
  · exact pc_lists T e he
  · exact (hv e he).2
/-- up to K the terms are the whole one's -/
theorem PI.term_in (h : PI T n c K g) {i : Nat} (h1 : c ≤ i) (h2 : i ≤ K) : termO g (i : Int) = (tA T i, true) := by
  have hlen := h.len
  have hin : inL g (i : Int) = true := by rw [inL_iff, h.hb]; omega
  unfold termO
  rw [hin, if_pos rfl, h.hb]
  by_cases hi : i = c
  · subst hi; rw [if_pos rfl, h.ht]
  · rw [if_neg (by omega)]
    obtain ⟨X, hX, _, _⟩ := h.hx
    have e1 : ((i : Int) - (c : Int) - 1).toNat = i - c - 1 := by omega
    have hl : (pcA T n c K).length = K - c := pc_len T h.kn
    rw [e1, hX, List.getD_eq_getElem?_getD, List.getElem?_append_left (by omega), ← List.getD_eq_getElem?_getD, pc_getD T h.kn (by omega)]
    show (tA T (c + (i - c - 1) + 1), true) = _
    rw [show c + (i - c - 1) + 1 = i by omega]
/-- behind K none is the whole one's -/
theorem PI.term_out (h : PI T n c K g) {i : Nat} (h2 : K < i) : ¬ (inL g (i : Int) = true ∧ (termO g (i : Int)).1 = tA T i) := by
  rintro ⟨hin, he⟩
  have hck := h.ck
  have hi := inL_iff.1 hin
  rw [h.hb] at hi
  unfold termO at he
  rw [hin, if_pos rfl, h.hb, if_neg (by omega)] at he
  obtain ⟨X, hX, _, hv⟩ := h.hx
  have hl : (pcA T n c K).length = K - c := pc_len T h.kn
  have e1 : ((i : Int) - (c : Int) - 1).toNat = i - c - 1 := by omega
  have hlt : i - c - 1 < g.l.length := by omega
  rw [e1] at he
  simp only at he
  rw [getD_getE hlt] at he
  have hmem : g.l[i - c - 1] ∈ X := by
    have : g.l[i - c - 1] = (pcA T n c K ++ X)[i - c - 1]'(by rw [← hX]; exact hlt) := by simp only [hX]
    rw [this, List.getElem_append_right (by omega)]
    exact List.getElem_mem _
  have heven := (hv _ hmem).1
  obtain ⟨q, rfl⟩ : ∃ q, i = q + 1 := ⟨i - 1, by omega⟩
  have hodd := tA_odd T q
  rw [he] at heven
  omega
/-- a piece is merged -/
theorem PI.merge (h : PI T n c K g) (hn : n ≤ 40) {a b : Nat} (hab : a ≤ b) (hb : b ≤ n) :
    (K < a → mergeO g (a : Int) (tA T a) (pcA T n a b) = ((0, 50), g)) ∧
    (a ≤ K → b ≤ K → mergeO g (a : Int) (tA T a) (pcA T n a b) = ((0, 0), g)) ∧
    (a ≤ K → K < b → mergeO g (a : Int) (tA T a) (pcA T n a b) = (((K : Int) + 1, 0), ⟨(c : Int), tA T c, pcA T n c b⟩)) := by
  have hck := h.ck
  have hkn := h.kn
  have hl : (pcA T n a b).length = b - a := pc_len T hb
  have hlen := h.len
  have hta : 0 ≤ tA T a ∧ tA T a ≤ 2147483647 := by
    cases a with
    | zero => show (0 : Int) ≤ 0 ∧ (0 : Int) ≤ 2147483647; decide
    | succ a => have := tA_le T a; omega
  have good : ¬ (cntB (a : Int) && (cntB (tA T a) && mayB (tA T a) (pcA T n a b))) = false := by
    have c1 : cntB (a : Int) = true := cntB_iff.2 (by omega)
    have c2 : cntB (tA T a) = true := cntB_iff.2 hta
    rw [c1, c2, pc_may T hn hb]; simp
  have fit : ¬ 2147483647 - (a : Int) < ((pcA T n a b).length : Int) := by rw [hl]; omega
  refine ⟨fun hka => ?_, fun hak hbk => ?_, fun hak hkb => ?_⟩
  · exact merge_state good fit ⟨by rw [h.hb]; omega, h.term_out hka⟩
  all_goals
    have same : ¬ (g.base ≤ (a : Int) ∧ ¬ (inL g (a : Int) = true ∧ (termO g (a : Int)).1 = tA T a)) := by
      rintro ⟨h1, h2⟩
      rw [h.hb] at h1
      have ht := h.term_in (i := a) (by omega) hak
      exact h2 ⟨by rw [← termO_in, ht], by rw [ht]⟩
    have old : ¬ ((a : Int) ≤ g.base ∧ g.base - (a : Int) < ((pcA T n a b).length : Int) ∧ ((pcA T n a b).getD (g.base - (a : Int)).toNat zEn).term < g.term) := by
      rintro ⟨h1, h2, h3⟩
      rw [h.hb, hl] at h2
      rw [h.hb] at h1
      rw [h.hb, h.ht, show ((c : Int) - (a : Int)).toNat = c - a by omega, pc_getD T hb (by omega)] at h3
      have h4 : tA T (a + (c - a) + 1) < tA T c := h3
      rw [show a + (c - a) + 1 = c + 1 by omega] at h4
      have := tA_up T c
      omega
    have inn : ∀ q, a + 1 + q ≤ K → a + 1 + q ≤ b → badP g (a : Int) (pcA T n a b) q = false := fun q h1 h2 => by
      unfold badP
      by_cases hc : c < a + 1 + q
      · have ht := h.term_in (i := a + 1 + q) (by omega) h1
        have e1 : (a : Int) + 1 + (q : Int) = ((a + 1 + q : Nat) : Int) := by omega
        rw [e1, pc_getD T hb (by omega), ← termO_in, ht]
        show (decide _ && (!true || (tA T (a + 1 + q) != tA T (a + q + 1)))) = false
        rw [show a + 1 + q = a + q + 1 by omega]
        simp
      · rw [Bool.and_eq_false_iff]
        left
        rw [decide_eq_false_iff_not, h.hb]
        omega
  · have := merge_go good fit same old (i := b - a) (by omega) (fun q hq => inn q (by omega) (by omega)) (fun hq => by omega)
    rw [this, if_pos hl.symm]
  · have hbad : badP g (a : Int) (pcA T n a b) (K - a) = true := by
      unfold badP
      have e1 : (a : Int) + 1 + ((K - a : Nat) : Int) = ((K + 1 : Nat) : Int) := by omega
      rw [e1, pc_getD T hb (by omega), Bool.and_eq_true, decide_eq_true_eq, h.hb]
      refine ⟨by omega, ?_⟩
      have ho := h.term_out (i := K + 1) (by omega)
      show (!inL g ((K + 1 : Nat) : Int) || ((termO g ((K + 1 : Nat) : Int)).1 != tA T (a + (K - a) + 1))) = true
      rw [show a + (K - a) + 1 = K + 1 by omega]
      cases hin : inL g ((K + 1 : Nat) : Int) with
      | false => rfl
      | true =>
        rw [Bool.not_true, Bool.false_or, bne_iff_ne]
        exact fun he => ho ⟨hin, he⟩
    have := merge_go good fit same old (i := K - a) (by omega) (fun q hq => inn q (by omega) (by omega)) (fun _ => hbad)
    rw [this, if_neg (by omega)]
    obtain ⟨X, hX, _, _⟩ := h.hx
    have e2 : ((a : Int) + ((K - a : Nat) : Int) - g.base).toNat = K - c := by rw [h.hb]; omega
    have hpl : (pcA T n c K).length = K - c := pc_len T hkn
    have e3 : g.l.take (K - c) = pcA T n c K := by rw [hX, ← hpl, List.take_left]
    have e4 : (pcA T n a b).drop (K - a) = pcA T n K b := by
      unfold pcA
      rw [List.drop_drop, show a + (K - a) = K by omega]
    rw [e2, e3, e4, pc_join T hck (by omega) hb, h.hb, h.ht]
    congr 2
    omega
theorem PI.next (h : PI T n c K g) {b : Nat} (hkb : K < b) (hb : b ≤ n) : PI T n c b ⟨(c : Int), tA T c, pcA T n c b⟩ :=
  ⟨by have := h.ck; omega, hb, rfl, rfl, [], by simp, by simp, by simp⟩
theorem PI.entry (h : PI T n c K g) {i : Nat} (h1 : c < i) (h2 : i ≤ K) : entO g (i : Int) = (eA T (i - 1), true) := by
  have hlen := h.len
  have hin : inL g (i : Int) = true := by rw [inL_iff, h.hb]; omega
  unfold entO
  rw [if_pos ⟨hin, by rw [h.hb]; omega⟩, h.hb]
  obtain ⟨X, hX, _, _⟩ := h.hx
  have e1 : ((i : Int) - (c : Int) - 1).toNat = i - c - 1 := by omega
  have hl : (pcA T n c K).length = K - c := pc_len T h.kn
  rw [e1, hX, List.getD_eq_getElem?_getD, List.getElem?_append_left (by omega), ← List.getD_eq_getElem?_getD, pc_getD T h.kn (by omega), show c + (i - c - 1) = i - 1 by omega]
theorem PI.last (h : PI T n c K g) : (lastO g).1 = (c : Int) + (g.l.length : Int) := by unfold lastO; rw [h.hb]
end
end Go.Proofs.Ytkekjbdppabmhaa
