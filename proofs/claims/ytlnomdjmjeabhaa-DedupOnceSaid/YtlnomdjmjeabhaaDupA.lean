/-
  Package dedup: lists with keys, plain: what is found, put, done, seen.
-/
import Derived.Test.YtlnomdjmjeabhaaRecO
import Derived.Test.YtlnomdjmjeabhaaCodeP
namespace Go.Proofs.Ytlnomdjmjeabhaa
open Go.RowKit
set_option maxRecDepth 100000

abbrev Pr := ByteArray × ByteArray
def prR : Rec Pr := ⟨fun p => [.string p.1, .string p.2], 2, fun _ => rfl, fun _ => rfl, by omega⟩
abbrev Rs := Int × Bool × ByteArray
abbrev Ls := Int × Int × Int × Bool × ByteArray
def lsR : Rec Ls := ⟨fun x => [.int .i64 x.1, .int .i64 x.2.1, .int .u8 x.2.2.1, .bool x.2.2.2.1, .string x.2.2.2.2], 5, fun _ => rfl, fun _ => rfl, by omega⟩
/-- an operation -/
structure Wo where
  kind : Int
  key : ByteArray
  value : ByteArray
  old : ByteArray
  had : Bool
theorem ba_beq (a b : ByteArray) : (a.toList == b.toList) = decide (a = b) := by
  by_cases h : a = b
  · subst h; simp
  · have : a.toList ≠ b.toList := fun e => h (by
      rw [ByteArray.toList_eq, ByteArray.toList_eq] at e
      obtain ⟨⟨x⟩⟩ := a
      obtain ⟨⟨y⟩⟩ := b
      simp at e
      rw [e])
    rw [decide_eq_false h]; simpa using this
/-! the order of texts -/
def ltB (a b : ByteArray) : Bool := Op.bytesLess a.toList b.toList
theorem bl_eq : ∀ (x y : List UInt8), Op.bytesLess x y = decide (x < y)
  | [], [] => by simp [Op.bytesLess]
  | _ :: _, [] => by simp [Op.bytesLess]
  | [], _ :: _ => by simp [Op.bytesLess]
  | a :: x, b :: y => by
    rw [Op.bytesLess, bl_eq x y]
    simp only [List.cons_lt_cons_iff]
    by_cases h1 : a < b <;> by_cases h2 : a = b <;> by_cases h3 : x < y <;> simp [h1, h2, h3]
theorem lt_iff (a b : ByteArray) : ltB a b = true ↔ a.data.toList < b.data.toList := by
  unfold ltB
  rw [bl_eq, decide_eq_true_eq, ByteArray.toList_eq, ByteArray.toList_eq]
theorem ba_ext {a b : ByteArray} (h : a.data.toList = b.data.toList) : a = b := by
  obtain ⟨⟨x⟩⟩ := a
  obtain ⟨⟨y⟩⟩ := b
  simp at h
  rw [h]
theorem lt_tr {a b c : ByteArray} (h : ltB a b = true) (k : ltB b c = true) : ltB a c = true := by
  rw [lt_iff] at *
  exact List.lt_trans h k
theorem lt_irr (a : ByteArray) : ltB a a = false := by
  rw [Bool.eq_false_iff]
  intro h
  rw [lt_iff] at h
  exact List.lt_irrefl _ h
theorem lt_asym {a b : ByteArray} (h : ltB a b = true) : ltB b a = false := by
  rw [Bool.eq_false_iff]
  intro k
  have := lt_tr h k
  rw [lt_irr] at this
  cases this
theorem lt_tri : ∀ x y : List UInt8, ¬ x < y → x ≠ y → y < x
  | [], [], _, h => absurd rfl h
  | [], _ :: _, h, _ => absurd (by simp) h
  | _ :: _, [], _, _ => by simp
  | a :: x, b :: y, h, hne => by
    rw [List.cons_lt_cons_iff] at h ⊢
    by_cases h1 : a = b
    · subst h1
      right
      exact ⟨rfl, lt_tri x y (fun k => h (.inr ⟨rfl, k⟩)) (fun e => hne (by rw [e]))⟩
    · left
      have h2 : ¬ a < b := fun k => h (.inl k)
      rw [UInt8.lt_iff_toNat_lt] at *
      have h3 : a.toNat ≠ b.toNat := fun e => h1 (UInt8.toNat_inj.1 e)
      omega
theorem lt_of {a b : ByteArray} (h : ltB a b = false) (hne : a ≠ b) : ltB b a = true := by
  rw [lt_iff]
  exact lt_tri _ _ (fun k => by rw [← lt_iff, h] at k; cases k) (fun e => hne (ba_ext e))

/-! put -/
def idxI {α : Type} (p : α → Bool) (L : List α) : Int := match L.findIdx? p with | some i => (i : Int) | none => -1
section
variable {α κ : Type} [DecidableEq κ] (key : α → κ) (gt : κ → κ → Bool)
def putL (L : List α) (x : α) : List α :=
  match L.findIdx? (fun y => decide (key y = key x)) with
  | some i => L.set i x
  | none => match L.findIdx? (fun y => gt (key y) (key x)) with
    | some i => L.take i ++ x :: L.drop i
    | none => L ++ [x]
def fst1 (L : List α) (k : κ) : Option α := L.find? (fun y => decide (key y = k))
variable {key gt}
theorem fst1_app {A B : List α} {k : κ} : fst1 key (A ++ B) k = (fst1 key A k).or (fst1 key B k) := by unfold fst1; rw [List.find?_append]
theorem fst1_cons {B : List α} {k : κ} {x : α} : fst1 key (x :: B) k = if key x = k then some x else fst1 key B k := by
  unfold fst1
  rw [List.find?_cons]
  by_cases h : key x = k <;> simp [h]
theorem fst1_none {A : List α} {k : κ} (h : ∀ y ∈ A, key y ≠ k) : fst1 key A k = none := by
  unfold fst1
  rw [List.find?_eq_none]
  intro y hy
  simpa using h y hy
theorem fst1_key {A : List α} {k : κ} {x : α} (h : fst1 key A k = some x) : key x = k := by
  unfold fst1 at h
  simpa using List.find?_some h
theorem fst1_mem {A : List α} {k : κ} {x : α} (h : fst1 key A k = some x) : x ∈ A := List.mem_of_find?_eq_some h
theorem fst1_some {A : List α} {k : κ} {y : α} (hy : y ∈ A) (hk : key y = k) : (fst1 key A k).isSome = true := by
  unfold fst1
  rw [List.find?_isSome]
  exact ⟨y, hy, by simpa using hk⟩
theorem fst1_put (L : List α) (x : α) (k : κ) : fst1 key (putL key gt L x) k = if key x = k then some x else fst1 key L k := by
  unfold putL
  split
  · rename_i i hi
    obtain ⟨hl, he, hf⟩ := List.findIdx?_eq_some_iff_getElem.1 hi
    simp only [decide_eq_true_eq] at he
    have hsp : L = L.take i ++ L[i] :: L.drop (i + 1) := by rw [← List.drop_eq_getElem_cons hl, List.take_append_drop]
    rw [List.set_eq_take_append_cons_drop, if_pos hl, fst1_app, fst1_cons]
    by_cases hk : key x = k
    · rw [if_pos hk, fst1_none]
      · simp
        intro h; exact absurd hk h
      · intro y hy
        obtain ⟨j, hj, rfl⟩ := List.mem_iff_getElem.1 hy
        rw [List.length_take] at hj
        rw [List.getElem_take]
        have := hf j (by omega)
        simp only [decide_eq_true_eq, Bool.not_eq_true', decide_eq_false_iff_not] at this
        rw [← hk]; simpa using this
    · conv => rhs; rw [hsp, fst1_app, fst1_cons]
      rw [if_neg hk, if_neg hk, if_neg (by rw [he]; exact hk)]
  · rename_i hn
    have hno : ∀ y ∈ L, key y ≠ key x := by
      intro y hy
      have := List.findIdx?_eq_none_iff.1 hn y hy
      simpa using this
    split
    · rename_i i hi
      rw [fst1_app, fst1_cons]
      by_cases hk : key x = k
      · rw [if_pos hk, fst1_none]
        · simp
          intro h; exact absurd hk h
        · intro y hy
          rw [← hk]
          exact hno y (List.mem_of_mem_take hy)
      · rw [if_neg hk, if_neg hk, ← fst1_app, List.take_append_drop]
    · rw [fst1_app, fst1_cons]
      by_cases hk : key x = k
      · rw [if_pos hk, fst1_none]
        · simp [hk]
        · intro y hy; rw [← hk]; exact hno y hy
      · rw [if_neg hk, if_neg hk]; simp [fst1]
/-- the document's put, step by step -/
def stepP (had : Bool) (x : α) (s : List α × Bool) (y : α) : List α × Bool :=
  if !s.2 && had && decide (key y = key x) then (s.1 ++ [x], true)
  else if !s.2 && !had && gt (key y) (key x) then (s.1 ++ [x] ++ [y], true)
  else (s.1 ++ [y], s.2)
variable (key gt) in
def foldP (had : Bool) (x : α) (L : List α) (s : List α × Bool) : List α × Bool := L.foldl (stepP (key := key) (gt := gt) had x) s
theorem foldP_done (had : Bool) (x : α) : ∀ (L o : List α), foldP key gt had x L (o, true) = (o ++ L, true)
  | [], o => by simp [foldP]
  | y :: L, o => by
    have := foldP_done had x L (o ++ [y])
    unfold foldP at this ⊢
    rw [List.foldl_cons]
    have hs : stepP (key := key) (gt := gt) had x (o, true) y = (o ++ [y], true) := by simp [stepP]
    rw [hs, this]; simp
theorem foldP_had (x : α) : ∀ (L o : List α), foldP key gt true x L (o, false) = match L.findIdx? (fun y => decide (key y = key x)) with | some i => (o ++ L.set i x, true) | none => (o ++ L, false)
  | [], o => by simp [foldP]
  | y :: L, o => by
    have hd := foldP_done (key := key) (gt := gt) true x L (o ++ [x])
    have hr := foldP_had x L (o ++ [y])
    unfold foldP at hd hr ⊢
    rw [List.foldl_cons, List.findIdx?_cons]
    by_cases hk : key y = key x
    · have hs : stepP (key := key) (gt := gt) true x (o, false) y = (o ++ [x], true) := by simp [stepP, hk]
      rw [hs, hd, if_pos (by simpa using hk)]; simp
    · have hs : stepP (key := key) (gt := gt) true x (o, false) y = (o ++ [y], false) := by simp [stepP, hk]
      rw [hs, hr, if_neg (by simpa using hk)]
      cases L.findIdx? (fun y => decide (key y = key x)) with
      | none => simp
      | some i => simp
theorem foldP_not (x : α) : ∀ (L o : List α), foldP key gt false x L (o, false) = match L.findIdx? (fun y => gt (key y) (key x)) with | some i => (o ++ (L.take i ++ x :: L.drop i), true) | none => (o ++ L, false)
  | [], o => by simp [foldP]
  | y :: L, o => by
    have hd := foldP_done (key := key) (gt := gt) false x L (o ++ [x] ++ [y])
    have hr := foldP_not x L (o ++ [y])
    unfold foldP at hd hr ⊢
    rw [List.foldl_cons, List.findIdx?_cons]
    by_cases hk : gt (key y) (key x) = true
    · have hs : stepP (key := key) (gt := gt) false x (o, false) y = (o ++ [x] ++ [y], true) := by simp [stepP, hk]
      rw [hs, hd, if_pos hk]; simp
    · have hs : stepP (key := key) (gt := gt) false x (o, false) y = (o ++ [y], false) := by simp [stepP, hk]
      rw [hs, hr, if_neg hk]
      cases L.findIdx? (fun y => gt (key y) (key x)) with
      | none => simp
      | some i => simp
theorem foldP_put (x : α) (L : List α) : (if (foldP key gt (fst1 key L (key x)).isSome x L ([], false)).2 then (foldP key gt (fst1 key L (key x)).isSome x L ([], false)).1 else (foldP key gt (fst1 key L (key x)).isSome x L ([], false)).1 ++ [x]) = putL key gt L x := by
  have hiff : (fst1 key L (key x)).isSome = (L.findIdx? (fun y => decide (key y = key x))).isSome := by
    unfold fst1
    rw [Bool.eq_iff_iff, List.find?_isSome, List.findIdx?_isSome, List.any_eq_true]
  unfold putL
  rw [hiff]
  cases h : L.findIdx? (fun y => decide (key y = key x)) with
  | some i =>
    rw [Option.isSome_some, foldP_had, h]
    simp
  | none =>
    rw [Option.isSome_none, foldP_not]
    cases h2 : L.findIdx? (fun y => gt (key y) (key x)) with
    | some i => simp
    | none => simp
end
end Go.Proofs.Ytlnomdjmjeabhaa
