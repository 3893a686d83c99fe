/-
  Package parts, plain: a message's packets, taken.
-/
import Derived.Test.YthpbkkjggnejcaaPartsK
namespace Go.Proofs.Ythpbkkjggnejcaa
open Go.RowKit
set_option maxRecDepth 100000

def ba (l : List UInt8) : ByteArray := ⟨l.toArray⟩
theorem ba_list (l : List UInt8) : (ba l).data.toList = l := by simp [ba]
theorem ba_len (l : List UInt8) : (ba l).size = l.length := by rw [ba_size, ba_list]
/-! what is found -/
theorem findA_app (A : Ab) (who c : Ky) (s : Slots) : findA (A ++ [(who, s)]) c = (findA A c).or (if who = c then some s else none) := by
  unfold findA
  rw [List.find?_append]
  cases h : A.find? fun k => decide (k.1 = c) with
  | some x => simp
  | none =>
    by_cases hw : who = c
    · simp [List.find?, hw]
    · simp [List.find?, hw]
theorem findA_set (A : Ab) (who c : Ky) (s : Slots) : findA (setA A who s) c = if c = who then (findA A c).map (fun _ => s) else findA A c := by
  unfold findA setA
  induction A with
  | nil => simp
  | cons x A ih =>
    simp only [List.map_cons, List.find?_cons]
    by_cases hx : x.1 = who
    · rw [if_pos hx]
      by_cases hc : c = who
      · subst hc
        simp [hx]
      · have h1 : ¬ who = c := fun e => hc e.symm
        have h2 : ¬ x.1 = c := fun e => hc (e.symm.trans hx)
        simp only [h1, h2, decide_false, if_neg hc] at ih ⊢
        exact ih
    · rw [if_neg hx]
      by_cases hxc : x.1 = c
      · have hc : ¬ c = who := fun e => hx (hxc.trans e)
        simp [hxc, hc]
      · simp only [hxc, decide_false] at ih ⊢
        exact ih
theorem findA_drop (A : Ab) (who c : Ky) : findA (dropA A who) c = if c = who then none else findA A c := by
  unfold findA dropA
  induction A with
  | nil => simp
  | cons x A ih =>
    by_cases hx : x.1 = who
    · rw [List.filter_cons_of_neg (by simp [hx])]
      rw [ih]
      by_cases hc : c = who
      · simp [hc]
      · have h2 : ¬ x.1 = c := fun e => hc (e.symm.trans hx)
        simp [hc, h2, List.find?_cons]
    · rw [List.filter_cons_of_pos (by simp [hx])]
      simp only [List.find?_cons]
      by_cases hxc : x.1 = c
      · have hc : ¬ c = who := fun e => hx (hxc.trans e)
        simp [hxc, hc]
      · simp only [hxc, decide_false]
        exact ih
theorem setA_len (A : Ab) (who : Ky) (s : Slots) : (setA A who s).length = A.length := List.length_map ..
theorem findA_key {A : Ab} {who : Ky} (h : findA A who = none) : ∀ x ∈ A, x.1 ≠ who := by
  unfold findA at h
  intro x hx e
  have := List.find?_eq_none.1 (Option.map_eq_none_iff.1 h) x hx
  simp [e] at this
theorem dropA_len {A : Ab} {who : Ky} (hn : (A.map (·.1)).Nodup) {s : Slots} (h : findA A who = some s) : (dropA A who).length + 1 = A.length := by
  unfold findA dropA at *
  induction A with
  | nil => simp at h
  | cons x A ih =>
    simp only [List.map_cons, List.nodup_cons] at hn
    by_cases hx : x.1 = who
    · rw [List.filter_cons_of_neg (by simp [hx]), List.filter_eq_self.2, List.length_cons]
      intro y hy
      have : y.1 ≠ who := fun e => hn.1 (by rw [hx, ← e]; exact List.mem_map_of_mem hy)
      simp [this]
    · rw [List.filter_cons_of_pos (by simp [hx]), List.length_cons, List.length_cons]
      simp only [List.find?_cons, hx, decide_false] at h
      have := ih hn.2 h
      omega
/-! a packet, case by case -/
section
variable {A : Ab} {fr : Int} {l : List UInt8} {n p c : Int} {x : ByteArray} {N pl : Nat} {s : Slots}
theorem take_bad (h : (readP l).2 ≠ 0) : takeP A fr l = (A, [], false, (readP l).2) := by unfold takeP; rw [if_pos h]
theorem take_one (h : readP l = (⟨n, p, 1, x⟩, 0)) (hf : findA A (fr, n) = none) : takeP A fr l = (A, x.data.toList, true, 0) := by
  unfold takeP takeA1
  rw [h]
  simp [hf]
theorem take_new (h : readP l = (⟨n, (pl : Int), (N : Int), x⟩, 0)) (hf : findA A (fr, n) = none) (hN : 2 ≤ N) (hp : pl < N) (hA : A.length < 16) :
    takeP A fr l = (A ++ [((fr, n), putS (List.replicate N none) pl x)], [], false, 0) := by
  have hg : (List.replicate N (none : Option ByteArray))[pl]? = some none := by rw [List.getElem?_replicate, if_pos hp]
  have hl := left_set (d := x) hg
  rw [leftOf_rep] at hl
  have hps : putS (List.replicate N none) pl x = (List.replicate N none).set pl (some x) := by unfold putS; rw [if_pos hg]
  have h2 : takeA2 A (fr, n) N = A ++ [((fr, n), List.replicate N none)] := by
    unfold takeA2 roomA
    rw [hf]
    simp only
    rw [if_neg (by omega)]
  have h1 : takeA1 A (fr, n) (N : Int) = A := by unfold takeA1; rw [hf]
  have h3 : findA (A ++ [((fr, n), List.replicate N none)]) (fr, n) = some (List.replicate N none) := by rw [findA_app, hf]; simp
  have h4 : setA (A ++ [((fr, n), List.replicate N none)]) (fr, n) (putS (List.replicate N none) pl x) = A ++ [((fr, n), putS (List.replicate N none) pl x)] := by
    unfold setA
    rw [List.map_append]
    have : (A.map fun k => if k.1 = (fr, n) then ((fr, n), putS (List.replicate N none) pl x) else k) = A := by
      conv => rhs; rw [← List.map_id A]
      apply List.map_congr_left
      intro k hk
      rw [if_neg (findA_key hf k hk)]; rfl
    rw [this]
    simp
  unfold takeP
  rw [h]
  simp only [ne_eq, not_true_eq_false, if_false, h1, h2, h3, h4, Int.toNat_natCast, Option.getD_some]
  rw [if_neg (by omega), if_pos (by rw [hps]; omega)]
theorem take_more (h : readP l = (⟨n, (pl : Int), (N : Int), x⟩, 0)) (hf : findA A (fr, n) = some s) (hs : s.length = N) (hN : 2 ≤ N) (hl : 0 < leftOf (putS s pl x)) :
    takeP A fr l = (setA A (fr, n) (putS s pl x), [], false, 0) := by
  have h1 : takeA1 A (fr, n) (N : Int) = A := by unfold takeA1; rw [hf]; simp [hs]
  have h2 : takeA2 A (fr, n) N = A := by unfold takeA2; rw [hf]
  unfold takeP
  rw [h]
  simp only [ne_eq, not_true_eq_false, if_false, h1, h2, hf, Int.toNat_natCast, Option.getD_some]
  rw [if_neg (by omega), if_pos hl]
theorem take_last (h : readP l = (⟨n, (pl : Int), (N : Int), x⟩, 0)) (hf : findA A (fr, n) = some s) (hs : s.length = N) (hN : 2 ≤ N) (hl : ¬ 0 < leftOf (putS s pl x)) :
    takeP A fr l = (dropA A (fr, n), joinS (putS s pl x), true, 0) := by
  have h1 : takeA1 A (fr, n) (N : Int) = A := by unfold takeA1; rw [hf]; simp [hs]
  have h2 : takeA2 A (fr, n) N = A := by unfold takeA2; rw [hf]
  unfold takeP
  rw [h]
  simp only [ne_eq, not_true_eq_false, if_false, h1, h2, hf, Int.toNat_natCast, Option.getD_some]
  rw [if_neg (by omega), if_neg hl]
end
/-! a message's packets -/
def slT (l : List UInt8) (T : Nat → Bool) : Slots := (List.range (cnt l.length)).map fun i => if T i then some (ba (chunk l i)) else none
theorem slT_len (l : List UInt8) (T : Nat → Bool) : (slT l T).length = cnt l.length := by simp [slT]
theorem slT_none (l : List UInt8) : slT l (fun _ => false) = List.replicate (cnt l.length) none := by
  unfold slT
  apply List.ext_getElem
  · simp
  · intro i h1 h2
    simp
theorem slT_get (l : List UInt8) (T : Nat → Bool) (k : Nat) (h : k < cnt l.length) : (slT l T)[k]? = some (if T k then some (ba (chunk l k)) else none) := by
  unfold slT
  rw [List.getElem?_map, List.getElem?_range h]
  rfl
theorem slT_put (l : List UInt8) (T : Nat → Bool) (k : Nat) (h : k < cnt l.length) : putS (slT l T) k (ba (chunk l k)) = slT l (fun i => T i || i == k) := by
  have hg := slT_get l T k h
  have hp : putS (slT l T) k (ba (chunk l k)) = if T k then slT l T else (slT l T).set k (some (ba (chunk l k))) := by
    unfold putS
    rw [hg]
    cases hT : T k with
    | true => simp
    | false => simp
  rw [hp]
  apply List.ext_getElem?
  intro i
  by_cases hi : i < cnt l.length
  · rw [slT_get l _ i hi]
    cases hT : T k with
    | true =>
      simp only [if_true]
      rw [slT_get l T i hi]
      by_cases hik : i = k
      · subst hik; simp [hT]
      · simp [hik]
    | false =>
      simp only [Bool.false_eq_true, if_false]
      rw [List.getElem?_set]
      by_cases hik : k = i
      · subst hik
        simp [slT_len, h]
      · have : ¬ i = k := fun e => hik e.symm
        rw [if_neg hik, slT_get l T i hi]
        simp [this]
  · rw [List.getElem?_eq_none (by split <;> simp [slT_len] <;> omega), List.getElem?_eq_none (by rw [slT_len]; omega)]
theorem slT_left (l : List UInt8) (T : Nat → Bool) : leftOf (slT l T) = (List.range (cnt l.length)).countP fun i => !T i := by
  unfold leftOf slT
  rw [List.countP_map]
  congr 1
  funext i
  simp only [Function.comp]
  cases T i <;> rfl
theorem slT_some (l : List UInt8) (T : Nat → Bool) : 0 < leftOf (slT l T) ↔ ∃ i, i < cnt l.length ∧ T i = false := by
  rw [slT_left, List.countP_pos_iff]
  constructor
  · rintro ⟨i, hi, h⟩
    exact ⟨i, List.mem_range.1 hi, by simpa using h⟩
  · rintro ⟨i, hi, h⟩
    exact ⟨i, List.mem_range.2 hi, by simp [h]⟩
theorem chunks (l : List UInt8) : ∀ m : Nat, (List.range m).flatMap (chunk l) = l.take (380 * m)
  | 0 => by simp
  | m + 1 => by
    rw [List.range_succ, List.flatMap_append, chunks l m]
    simp only [List.flatMap_cons, List.flatMap_nil, List.append_nil]
    unfold chunk
    rw [show 380 * (m + 1) = 380 * m + 380 by omega, List.take_add]
theorem cnt_ge (n : Nat) : n ≤ 380 * cnt n := by unfold cnt; split <;> omega
theorem flat_congr {α : Type} {f g : α → List UInt8} : ∀ (L : List α), (∀ x ∈ L, f x = g x) → L.flatMap f = L.flatMap g
  | [], _ => rfl
  | x :: L, h => by rw [List.flatMap_cons, List.flatMap_cons, h x (List.mem_cons_self ..), flat_congr L fun y hy => h y (List.mem_cons_of_mem _ hy)]
theorem slT_join (l : List UInt8) (T : Nat → Bool) (h : ¬ 0 < leftOf (slT l T)) : joinS (slT l T) = l := by
  have hT : ∀ i, i < cnt l.length → T i = true := fun i hi => by
    cases hv : T i with
    | true => rfl
    | false => exact absurd ((slT_some l T).2 ⟨i, hi, hv⟩) h
  have : joinS (slT l T) = (List.range (cnt l.length)).flatMap (chunk l) := by
    unfold joinS slT
    rw [List.flatMap_map]
    refine flat_congr _ fun i hi => ?_
    rw [hT i (List.mem_range.1 hi)]
    exact ba_list _
  rw [this, chunks, List.take_of_length_le (cnt_ge _)]
theorem chunk_valid {l : List UInt8} (hl : l.length ≤ 8192) {i : Nat} (hi : i < cnt l.length) : validP (i : Int) (cnt l.length : Int) (chunk l i).length := by
  have hc : (chunk l i).length = min 380 (l.length - 380 * i) := by unfold chunk; rw [List.length_take, List.length_drop]
  have hn : cnt l.length = if l.length ≤ 380 then 1 else (l.length + 379) / 380 := rfl
  unfold validP badP
  split at hn
  · rw [hn] at hi ⊢
    refine ⟨by omega, by omega, by omega, by omega, ?_⟩
    rintro (h | h | h) <;> omega
  · refine ⟨by omega, by omega, by omega, by omega, ?_⟩
    rintro (h | h | h) <;> omega
theorem read_cut {n : Int} {l : List UInt8} (hn : 0 ≤ n ∧ n ≤ 2147483647) (hl : l.length ≤ 8192) {i : Nat} (hi : i < cnt l.length) : readP (pkt n (i : Int) (cnt l.length : Int) (chunk l i)) = (⟨n, (i : Int), (cnt l.length : Int), ba (chunk l i)⟩, 0) := by
  have hv := chunk_valid hl hi
  have hc := chunk_len l i
  have hb : cnt l.length ≤ 22 := by unfold cnt; split <;> omega
  have := readP_pkt n (i : Int) (cnt l.length : Int) (ba (chunk l i)) hn (by omega) (by omega) (by rw [ba_len]; omega)
  rw [ba_list, ba_len, if_pos hv] at this
  exact this
/-- what the packets' takings come to, one by one -/
theorem take_step {A : Ab} {fr n : Int} {l : List UInt8} (hn : 0 ≤ n ∧ n ≤ 2147483647) (hl : l.length ≤ 8192) (T : Nat → Bool) {i : Nat} (hi : i < cnt l.length) (hA : A.length < 16) (hnd : (A.map (·.1)).Nodup)
    (hf : findA A (fr, n) = some (slT l T) ∧ 2 ≤ cnt l.length ∨ findA A (fr, n) = none ∧ (∀ j, j < cnt l.length → T j = false)) :
    ∃ A' : Ab, takeP A fr (pkt n (i : Int) (cnt l.length : Int) (chunk l i)) = (if 0 < leftOf (slT l (fun j => T j || j == i)) then (A', [], false, 0) else (A', l, true, 0)) ∧
      (∀ c, c ≠ (fr, n) → findA A' c = findA A c) ∧ (findA A' (fr, n) = if 0 < leftOf (slT l (fun j => T j || j == i)) then some (slT l (fun j => T j || j == i)) else none) ∧
      A'.length + (if findA A (fr, n) = none then 0 else 1) = A.length + (if 0 < leftOf (slT l (fun j => T j || j == i)) then 1 else 0) := by
  have hr := read_cut hn hl hi
  have hput := slT_put l T i hi
  rcases hf with ⟨hf, h2⟩ | ⟨hf, hT⟩
  · by_cases hleft : 0 < leftOf (slT l (fun j => T j || j == i))
    · refine ⟨setA A (fr, n) (slT l (fun j => T j || j == i)), ?_, ?_, ?_, ?_⟩
      · rw [if_pos hleft, ← hput]
        exact take_more hr hf (slT_len l T) h2 (by rw [hput]; exact hleft)
      · intro c hc
        rw [findA_set, if_neg hc]
      · rw [findA_set, if_pos rfl, hf, if_pos hleft]; rfl
      · rw [setA_len, hf, if_pos hleft]; simp
    · refine ⟨dropA A (fr, n), ?_, ?_, ?_, ?_⟩
      · rw [if_neg hleft]
        have := take_last hr hf (slT_len l T) h2 (by rw [hput]; exact hleft)
        rw [this, hput, slT_join l _ hleft]
      · intro c hc
        rw [findA_drop, if_neg hc]
      · rw [findA_drop, if_pos rfl, if_neg hleft]
      · have := dropA_len hnd hf
        rw [hf, if_neg hleft]
        simp
        exact this
  · by_cases h1 : cnt l.length = 1
    · have hleft : ¬ 0 < leftOf (slT l (fun j => T j || j == i)) := by
        rw [slT_some]
        rintro ⟨j, hj, hTj⟩
        have : j = i := by omega
        subst this
        simp at hTj
      have hi0 : i = 0 := by omega
      refine ⟨A, ?_, fun c _ => rfl, ?_, ?_⟩
      · rw [if_neg hleft]
        have h1' : readP (pkt n (i : Int) (cnt l.length : Int) (chunk l i)) = (⟨n, (i : Int), 1, ba (chunk l i)⟩, 0) := by rw [hr, h1]; rfl
        rw [take_one h1' hf, ba_list]
        have : chunk l i = l := by
          have h3 := cnt_ge l.length
          unfold chunk
          rw [hi0, List.take_of_length_le (by rw [List.length_drop]; omega)]
          rfl
        rw [this]
      · rw [hf, if_neg hleft]
      · rw [hf, if_neg hleft]; simp
    · have h2 : 2 ≤ cnt l.length := by have := cnt_pos l.length; omega
      have hTf : slT l T = List.replicate (cnt l.length) none := by
        rw [← slT_none]
        unfold slT
        apply List.map_congr_left
        intro j hj
        rw [hT j (List.mem_range.1 hj)]
      have hleft : 0 < leftOf (slT l (fun j => T j || j == i)) := by
        rw [slT_some]
        by_cases h0 : i = 0
        · exact ⟨1, by omega, by simp [hT 1 (by omega), h0]⟩
        · exact ⟨0, by omega, by simp [hT 0 (by omega)]; omega⟩
      have ht := take_new hr hf h2 hi hA
      rw [← hTf, hput] at ht
      refine ⟨_, by rw [if_pos hleft]; exact ht, fun c hc => ?_, ?_, ?_⟩
      · rw [findA_app, if_neg (fun e => hc e.symm)]
        cases findA A c <;> rfl
      · rw [findA_app, hf, if_pos hleft]; simp
      · rw [hf, if_pos hleft]; simp
end Go.Proofs.Ythpbkkjggnejcaa
