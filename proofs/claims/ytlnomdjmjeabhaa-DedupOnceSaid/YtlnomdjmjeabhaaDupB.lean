/-
  Package dedup: what an operation does, plain.
-/
import Derived.Test.YtlnomdjmjeabhaaDupA
namespace Go.Proofs.Ytlnomdjmjeabhaa
open Go.RowKit
set_option maxRecDepth 100000

def eB : ByteArray := ByteArray.empty
def checkO (o : Wo) : Int := if o.kind < 1 ∨ 4 < o.kind then 1 else if o.key.size = 0 ∨ 32 < o.key.size ∨ 2000 < o.value.size ∨ 2000 < o.old.size then 40 else 0
def gtB (a b : ByteArray) : Bool := ltB b a
def gtI (a b : Int) : Bool := decide (b < a)
def prK (p : Pr) : ByteArray := p.1
def lsK (x : Ls) : Int := x.1
def fstP (m : List Pr) (k : ByteArray) : Option Pr := fst1 prK m k
def fstL (l : List Ls) (k : Int) : Option Ls := fst1 lsK l k
def putP (m : List Pr) (p : Pr) : List Pr := putL prK gtB m p
def putN (l : List Ls) (x : Ls) : List Ls := putL lsK gtI l x
def hasP (m : List Pr) (k : ByteArray) : Bool := (fstP m k).isSome
def valP (m : List Pr) (k : ByteArray) : ByteArray := match fstP m k with | some p => p.2 | none => eB
def delP (m : List Pr) (k : ByteArray) : List Pr := m.filter (fun p => !decide (p.1 = k))
def fits (m : List Pr) (o : Wo) : Bool := (hasP m o.key == o.had) && (!hasP m o.key || decide (valP m o.key = o.old))
/-- an operation that may be -/
def doM (m : List Pr) (o : Wo) : List Pr := if o.kind = 1 then m else if o.kind = 2 then putP m (o.key, o.value) else if o.kind = 3 then delP m o.key else if fits m o then putP m (o.key, o.value) else m
def doR (m : List Pr) (o : Wo) : Rs := if o.kind = 1 then (1, hasP m o.key, valP m o.key) else if o.kind = 2 then (1, false, eB) else if o.kind = 3 then (1, hasP m o.key, eB) else if fits m o then (1, true, eB) else (1, false, eB)
/-- any operation: a list, a result, an error -/
def doO (m : List Pr) (o : Wo) : List Pr × Rs × Int := if checkO o = 0 then (doM m o, doR m o, 0) else ([], (0, false, eB), checkO o)
def seenO (l : List Ls) (who id : Int) : Rs × Int := match fstL l who with
  | none => ((0, false, eB), 5)
  | some x => if x.2.1 < id then ((0, false, eB), 5) else if id < x.2.1 then ((0, false, eB), 6) else (x.2.2, 0)
def stepO (m : List Pr) (l : List Ls) (who id : Int) (o : Wo) : List Pr × List Ls × Rs × Int :=
  if checkO o ≠ 0 then ([], [], (0, false, eB), checkO o)
  else if o.kind = 1 then ([], [], (0, false, eB), 1)
  else if (seenO l who id).2 = 0 then (m, l, (seenO l who id).1, 0)
  else if (seenO l who id).2 = 6 then ([], [], (0, false, eB), 6)
  else (doM m o, putN l (who, id, doR m o), doR m o, 0)

theorem fstP_put (m : List Pr) (p : Pr) (k : ByteArray) : fstP (putP m p) k = if p.1 = k then some p else fstP m k := fst1_put m p k
theorem fstL_put (l : List Ls) (x : Ls) (k : Int) : fstL (putN l x) k = if x.1 = k then some x else fstL l k := fst1_put l x k
theorem fstP_del : ∀ (m : List Pr) (a k : ByteArray), fstP (delP m a) k = if a = k then none else fstP m k
  | [], a, k => by simp [delP, fstP, fst1]
  | p :: m, a, k => by
    have ih := fstP_del m a k
    unfold fstP delP at ih ⊢
    rw [List.filter_cons]
    by_cases h : p.1 = a
    · rw [if_neg (by simpa using h), ih, fst1_cons]
      by_cases hk : a = k
      · rw [if_pos hk, if_pos hk]
      · rw [if_neg hk, if_neg hk, if_neg (by show ¬ p.1 = k; rw [h]; exact hk)]
    · rw [if_pos (by simpa using h), fst1_cons, fst1_cons, ih]
      by_cases hk : a = k
      · rw [if_pos hk, if_pos hk, if_neg (by show ¬ p.1 = k; rw [← hk]; exact h)]
      · rw [if_neg hk, if_neg hk]
/-- what is done to one key changes no other one -/
theorem do_apart (m : List Pr) (o : Wo) (k : ByteArray) (h : o.key ≠ k) : fstP (doM m o) k = fstP m k := by
  unfold doM
  split
  · rfl
  · split
    · rw [fstP_put, if_neg h]
    · split
      · rw [fstP_del, if_neg h]
      · split
        · rw [fstP_put, if_neg h]
        · rfl
/-- keys that rise -/
def rises (m : List Pr) : Prop := (m.map prK).Pairwise (fun a b => ltB a b = true)
theorem rises_nil : rises [] := List.Pairwise.nil
theorem rises_put {m : List Pr} (h : rises m) (p : Pr) : rises (putP m p) := by
  unfold putP putL
  split
  · rename_i i hi
    obtain ⟨hl, he, _⟩ := List.findIdx?_eq_some_iff_getElem.1 hi
    simp only [decide_eq_true_eq] at he
    have : (m.set i p).map prK = m.map prK := by
      rw [List.map_set]
      apply List.ext_getElem (by simp)
      intro j h1 h2
      rw [List.getElem_set]
      split
      · rename_i hij; subst hij; rw [List.getElem_map, he]
      · rfl
    unfold rises
    rw [this]; exact h
  · rename_i hn
    have hno : ∀ y ∈ m, prK y ≠ prK p := fun y hy => by simpa using List.findIdx?_eq_none_iff.1 hn y hy
    split
    · rename_i i hi
      obtain ⟨hl, hg, hf⟩ := List.findIdx?_eq_some_iff_getElem.1 hi
      unfold rises at h ⊢
      have hsp : m.map prK = (m.take i).map prK ++ (m.drop i).map prK := by rw [← List.map_append, List.take_append_drop]
      rw [hsp, List.pairwise_append] at h
      rw [List.map_append, List.map_cons, List.pairwise_append, List.pairwise_cons]
      have hfst : ∀ y ∈ (m.take i).map prK, ltB y (prK p) = true := by
        intro y hy
        obtain ⟨z, hz, rfl⟩ := List.mem_map.1 hy
        obtain ⟨j, hj, rfl⟩ := List.mem_iff_getElem.1 hz
        rw [List.length_take] at hj
        have h1 := hf j (by omega)
        rw [List.getElem_take] at *
        simp only [Bool.not_eq_true] at h1
        exact lt_of (a := prK p) h1 (fun e => hno _ (List.getElem_mem _) e.symm)
      have hsnd : ∀ y ∈ (m.drop i).map prK, ltB (prK p) y = true := by
        intro y hy
        rw [List.drop_eq_getElem_cons hl, List.map_cons] at hy h
        rcases List.mem_cons.1 hy with rfl | hy
        · exact hg
        · exact lt_tr hg ((List.pairwise_cons.1 h.2.1).1 y hy)
      refine ⟨h.1, ⟨hsnd, h.2.1⟩, fun a ha b hb => ?_⟩
      rcases List.mem_cons.1 hb with rfl | hb
      · exact hfst a ha
      · exact h.2.2 a ha b hb
    · rename_i hn2
      unfold rises at h ⊢
      rw [List.map_append, List.pairwise_append]
      refine ⟨h, List.pairwise_singleton _ _, fun a ha b hb => ?_⟩
      simp only [List.map_cons, List.map_nil, List.mem_singleton] at hb
      subst hb
      obtain ⟨z, hz, rfl⟩ := List.mem_map.1 ha
      have := List.findIdx?_eq_none_iff.1 hn2 z hz
      exact lt_of (a := prK p) (by simpa [gtB] using this) (fun e => hno _ hz e.symm)
theorem rises_del {m : List Pr} (h : rises m) (a : ByteArray) : rises (delP m a) := by
  unfold rises delP at *
  exact h.sublist (List.filter_sublist.map _)
theorem rises_do {m : List Pr} (h : rises m) (o : Wo) : rises (doM m o) := by
  unfold doM
  split
  · exact h
  · split
    · exact rises_put h _
    · split
      · exact rises_del h _
      · split
        · exact rises_put h _
        · exact h
theorem rises_nodup {m : List Pr} (h : rises m) : (m.map prK).Nodup := by
  unfold rises at h
  exact h.imp (fun {a b} hab e => by subst e; rw [lt_irr] at hab; cases hab)
theorem rises_adj {m : List Pr} (h : rises m) (i : Nat) (h1 : i + 1 < m.length) : ltB (m[i]).1 (m[i + 1]).1 = true := by
  unfold rises at h
  have := List.pairwise_iff_getElem.1 h i (i + 1) (by simp; omega) (by simpa using h1) (by omega)
  simpa [prK] using this
theorem fstP_none {m : List Pr} {k : ByteArray} : fstP m k = none ↔ k ∉ m.map prK := by
  unfold fstP fst1
  rw [List.find?_eq_none]
  simp only [List.mem_map, not_exists, not_and, decide_eq_true_eq]
theorem fstP_at {m : List Pr} (h : rises m) (i : Nat) (hi : i < m.length) : fstP m (m[i]).1 = some m[i] := by
  have hn := rises_nodup h
  unfold fstP fst1
  rw [List.find?_eq_some_iff_getElem]
  refine ⟨by simp [prK], i, hi, rfl, fun j hj => ?_⟩
  have := List.pairwise_iff_getElem.1 hn j i (by simp; omega) (by simpa using hi) hj
  rw [List.getElem_map, List.getElem_map] at this
  show (!decide (prK m[j] = prK m[i])) = true
  simpa using this
theorem put_len (m : List Pr) (p : Pr) : (putP m p).length ≤ m.length + 1 := by
  unfold putP putL
  split
  · simp
  · split
    · simp; omega
    · simp
theorem do_len (m : List Pr) (o : Wo) : (doM m o).length ≤ m.length + 1 := by
  unfold doM
  split
  · omega
  · split
    · exact put_len _ _
    · split
      · have := List.length_filter_le (fun p : Pr => !decide (p.1 = o.key)) m
        unfold delP; omega
      · split
        · exact put_len _ _
        · omega
theorem putN_len (l : List Ls) (x : Ls) : (putN l x).length ≤ l.length + 1 := by
  unfold putN putL
  split
  · simp
  · split
    · simp; omega
    · simp
/-- as many keys as the language's map has -/
theorem keys_len {ν : Type} {m : List Pr} (h : rises m) {E : List (ByteArray × ν)} (hE : (E.map (·.1)).Nodup) (hk : ∀ k, k ∈ m.map prK ↔ k ∈ E.map (·.1)) : m.length = E.length := by
  have hp : (m.map prK).Perm (E.map (·.1)) := (List.perm_ext_iff_of_nodup (rises_nodup h) hE).2 hk
  have := hp.length_eq
  simpa using this
end Go.Proofs.Ytlnomdjmjeabhaa
