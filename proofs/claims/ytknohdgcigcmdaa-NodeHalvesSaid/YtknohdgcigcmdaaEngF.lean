/-
  Engine, part F: more runs; 'vcOp' is sound.
-/
import Derived.Test.YtknohdgcigcmdaaEngE
import Derived.Lib.ConvBytes
import Derived.ChangeKeysEq
namespace Go.Proofs.Ytknohdgcigcmdaa
open Go.RowKit

section runs
variable {P : Program} {w : World}

theorem foldl_push : ∀ (l : List UInt8) (acc : ByteArray), (l.map fun b => (b.toNat : Int)).foldl (fun r n => r.push (UInt8.ofNat n.toNat)) acc = ⟨acc.data ++ l.toArray⟩
  | [], acc => by simp
  | b :: l, acc => by
    simp only [List.map_cons, List.foldl_cons]
    rw [foldl_push l]
    have : UInt8.ofNat ((b.toNat : Int).toNat) = b := by simp
    rw [this]
    cases acc
    simp [ByteArray.push]

theorem run_toString {src dst e : TypeId} {b : Option Addr} {n c : Nat} {s : ByteArray} (hs : sliceElem P src = some e) (he : P.underlying e = some (.int .u8)) (hd : isStr P dst = true)
    (h : Seg w b n 1 (strCells s)) : (convert src dst (.slice b n c)).run P w = .ok (.string s) w := by
  rw [run_convert_bytes_string w src dst e b n c (elem_und hs) he (str_und hd)]
  cases b with
  | none =>
    have : n = 0 := by rcases h.2 with h | ⟨a, ha, _⟩; exact h; cases ha
    subst this
    have h1 : (strCells s).length = 0 := by simpa using h.1
    have : s = ByteArray.empty := by simpa [strCells] using h1
    subst this
    simp [Conv.bytesToString]
  | some a =>
    have hl := run_first (P := P) (c := c) h
    simp only [Builtin.firstCells, Nat.mul_one] at hl
    have hl' : (loadCells a n).run P w = .ok ((s.data.toList.map fun b => (b.toNat : Int)).map (Value.int .u8)).toArray w := by
      rw [hl]; simp [strCells, Function.comp_def]
    rw [run_bytesToString w a n c _ hl', foldl_push]
    simp

theorem NewB.of_reads {w w' : World} {b : Nat} {o : Obj} (hb : b = w.heap.size) (hs : w'.heap.size = w.heap.size + 1) (hold : ∀ j, j < w.heap.size → w'.heap[j]? = w.heap[j]?) (hn : w'.heap[b]? = some o)
    (h1 : w'.os = w.os) (h2 : w'.tape = w.tape) (h3 : w'.output = w.output) : NewB w b o w' := by
  subst hb
  refine ⟨rfl, ?_, h1, h2, h3⟩
  refine Array.ext_getElem? fun j => ?_
  rw [Array.getElem?_push]
  split
  · rename_i h; subst h; exact hn
  · rename_i h
    rcases Nat.lt_or_ge j w.heap.size with hj | hj
    · exact hold j hj
    · rw [Array.getElem?_eq_none (by omega), Array.getElem?_eq_none (by omega)]

theorem run_toBytes {src dst e : TypeId} {s : ByteArray} (hs : isStr P src = true) (hd : sliceElem P dst = some e) (he : P.underlying e = some (.int .u8)) :
    ∃ c w', s.size ≤ c ∧ (convert src dst (.string s)).run P w = .ok (.slice (some ⟨w.heap.size, 0, none⟩) s.size c) w' ∧
      NewB w w.heap.size (.cells ((strCells s).toArray ++ Array.replicate (c - s.size) (.int .u8 0)) e (c, c + 1)) w' := by
  have hge : s.size ≤ grownCap w s.size 0 e := grownCap_ge w s.size 0 e
  refine ⟨grownCap w s.size 0 e, _, hge, Lib.run_convert_string_bytes w src dst e s (str_und hs) (elem_und hd) he, ?_⟩
  have hsz : (Lib.bytesCells w e s).size = grownCap w s.size 0 e := by
    have : s.data.size = s.size := rfl
    simp [Lib.bytesCells]; omega
  have hc : Lib.bytesCells w e s = (strCells s).toArray ++ Array.replicate (grownCap w s.size 0 e - s.size) (.int .u8 0) := by
    unfold Lib.bytesCells strCells
    congr 1
    rw [← List.map_toArray]
  refine NewB.of_reads rfl (Lib.bytesWorld_size w e s) (fun j hj => Lib.bytesWorld_at_old w e s j hj) ?_ ?_ ?_ ?_
  · rw [Lib.bytesWorld_at_new, hsz, hc]
  all_goals simp [Lib.bytesWorld, World.freeze, World.drew, World.alloc, -World.alloc_eq, -World.drew_eq]

theorem run_cellEq {t : TypeId} {x y : Value} {r : Bool} (h : cellEq P t x y = some r) (d : Nat) : (Op.equalIn (d + 1) t x y).run P w = .ok r w ∧ (isAgg t).run P w = .ok false w := by
  unfold cellEq at h
  split at h
  · rename_i hu
    split at h
    · rename_i hk
      simp at hk h; subst hk; subst h
      exact ⟨run_equalIn_int w d t _ _ _ _ hu, by simp [isAgg, und hu]⟩
    · cases h
  · rename_i hu
    simp at h; subst h
    exact ⟨run_equalIn_bool' w d t _ _ hu, by simp [isAgg, und hu]⟩
  · rename_i hu
    simp at h; subst h
    exact ⟨run_equalIn_string w d t _ _ hu, by simp [isAgg, und hu]⟩
  · cases h

theorem run_fieldsEq (d : Nat) (xs ys : Array Value) : ∀ (fs : List Field) (n : Nat) (r : Bool), fieldsEq P n fs (xs.toList.drop n) (ys.toList.drop n) = some r →
    (Op.eqFields (d + 1) xs ys fs).run P w = .ok r w := by
  intro fs
  induction fs with
  | nil =>
    intro n r h
    unfold fieldsEq at h
    split at h <;> simp_all [Op.eqFields]
  | cons f fs ih =>
    intro n r h
    generalize hX : xs.toList.drop n = X at h
    generalize hY : ys.toList.drop n = Y at h
    match X, Y with
    | [], _ => simp [fieldsEq] at h
    | _ :: _, [] => simp [fieldsEq] at h
    | x :: X', y :: Y' =>
      have hx : xs[n]? = some x := by
        have := congrArg (·[0]?) hX; simpa using this
      have hy : ys[n]? = some y := by
        have := congrArg (·[0]?) hY; simpa using this
      have hX' : xs.toList.drop (n + 1) = X' := by
        have := congrArg (List.drop 1) hX; simpa [List.drop_drop] using this
      have hY' : ys.toList.drop (n + 1) = Y' := by
        have := congrArg (List.drop 1) hY; simpa [List.drop_drop] using this
      simp only [fieldsEq] at h
      split at h
      · rename_i hoff
        simp only [Bool.and_eq_true, Bool.not_eq_true'] at hoff
        have ho : f.offset = n := Nat.eq_of_beq_eq_true hoff.1
        have hn : f.name ≠ "_" := by simpa using hoff.2
        have step : ∀ r1, cellEq P f.type x y = some r1 → (Op.eqFields (d + 1) xs ys (f :: fs)).run P w = (if r1 = true then (Op.eqFields (d + 1) xs ys fs).run P w else .ok false w) := by
          intro r1 h1
          obtain ⟨he, ha⟩ := run_cellEq (w := w) h1 d
          simp only [Op.eqFields, if_pos hn]
          cases r1 <;> simp [part, ha, ho, hx, hy, he]
        split at h
        · rename_i r1 h1
          have hnil : X' = [] ∧ Y' = [] ∧ r = r1 := by
            split at h <;> simp_all
          rw [step _ h1, hnil.2.2]
          cases r1 <;> simp [Op.eqFields]
        · rename_i r1 f' fs' h1
          split at h
          · rename_i r' hr'
            simp at h; subst h
            rw [step _ h1, ih (n + 1) r' (by rw [hX', hY']; exact hr')]
            cases r1 <;> rfl
          · cases h
        · cases h
      · cases h

theorem run_partEq {t : TypeId} {n : Nat} {xs ys : Array Value} {r : Bool} (h : partEq P t (P.cellsOf t) (xs.toList.drop n) (ys.toList.drop n) = some r) (d : Nat) :
    ∃ a b, (part t xs n).run P w = .ok a w ∧ (part t ys n).run P w = .ok b w ∧ (Op.equalIn (d + 2) t a b).run P w = .ok r w := by
  unfold partEq at h
  split at h
  · rename_i fs hu
    split at h
    · rename_i hs
      simp only [Bool.not_eq_true'] at hs
      have hf : P.fieldsOf t = fs := by simp [Program.fieldsOf, hu]
      obtain ⟨i, hi⟩ : ∃ i, P.info? t = some i := by
        cases hq : P.info? t with
        | some i => exact ⟨i, rfl⟩
        | none => rw [Program.underlying, hq] at hu; cases hu
      have hc : P.cellsOf t = i.size := by simp [Program.cellsOf, hi]
      have ha : (isAgg t).run P w = .ok true w := by simp [isAgg, und hu]
      have hz : (sizeOf t).run P w = .ok i.size w := by simp [sizeOf, typeInfo, hi]
      refine ⟨.agg (xs.extract n (n + i.size)), .agg (ys.extract n (n + i.size)), by simp [part, ha, hz], by simp [part, ha, hz], ?_⟩
      rw [run_equalIn_struct w (d + 1) t _ _ (by rw [hf]; exact hu) hs, hf]
      refine run_fieldsEq d _ _ fs.toList 0 r ?_
      rw [hc] at h
      have he : ∀ z : Array Value, (z.extract n (n + i.size)).toList.drop 0 = (z.toList.drop n).take i.size := fun z => by
        rw [List.drop_zero, Array.toList_extract, List.extract_eq_take_drop]
        congr 1; omega
      rw [he, he]; exact h
    · cases h
  · rename_i hno
    split at h
    · rename_i x X y Y hk hX hY
      obtain ⟨he, ha⟩ := run_cellEq (w := w) h (d + 1)
      have hx : xs[n]? = some x := by have := congrArg (·[0]?) hX; simpa using this
      have hy : ys[n]? = some y := by have := congrArg (·[0]?) hY; simpa using this
      exact ⟨x, y, by simp [part, ha, hx], by simp [part, ha, hy], he⟩
    · cases h
theorem run_fieldsEq2 (d : Nat) (xs ys : Array Value) : ∀ (fs : List Field) (n : Nat) (r : Bool), fieldsEq2 P n fs (xs.toList.drop n) (ys.toList.drop n) = some r →
    (Op.eqFields (d + 2) xs ys fs).run P w = .ok r w := by
  intro fs
  induction fs with
  | nil =>
    intro n r h
    unfold fieldsEq2 at h
    split at h <;> simp_all [Op.eqFields]
  | cons f fs ih =>
    intro n r h
    simp only [fieldsEq2] at h
    split at h
    · rename_i hoff
      simp only [Bool.and_eq_true, Bool.not_eq_true'] at hoff
      have ho : f.offset = n := Nat.eq_of_beq_eq_true hoff.1
      have hn : f.name ≠ "_" := by simpa using hoff.2
      have step : ∀ r1, partEq P f.type (P.cellsOf f.type) (xs.toList.drop n) (ys.toList.drop n) = some r1 → (Op.eqFields (d + 2) xs ys (f :: fs)).run P w = (if r1 = true then (Op.eqFields (d + 2) xs ys fs).run P w else .ok false w) := by
        intro r1 h1
        obtain ⟨a, b, p1, p2, he⟩ := run_partEq (w := w) h1 d
        rw [← ho] at p1 p2
        simp only [Op.eqFields, if_pos hn]
        cases r1 <;> simp [p1, p2, he]
      split at h
      · rename_i r1 h1
        split at h
        · simp at h; subst h
          rw [step _ h1]
          cases r1 <;> simp [Op.eqFields]
        · cases h
      · rename_i r1 f' fs' h1
        split at h
        · rename_i r' hr'
          simp at h; subst h
          rw [step _ h1, ih (n + P.cellsOf f.type) r' (by rw [← List.drop_drop, ← List.drop_drop]; exact hr')]
          cases r1 <;> rfl
        · cases h
      · cases h
    · cases h

theorem run_arrEq {e : TypeId} (hc : P.cellsOf e = 1) (d : Nat) (xs ys : Array Value) : ∀ (n j : Nat) (r : Bool), arrEq P e n (xs.toList.drop j) (ys.toList.drop j) = some r →
    (Op.eqItems (d + 1) e 1 xs ys (List.range' j n)).run P w = .ok r w := by
  have step : ∀ (j : Nat) (x y : Value) (X Y : List Value) (r : Bool) (is : List Nat), xs.toList.drop j = x :: X → ys.toList.drop j = y :: Y → cellEq P e x y = some r →
      (Op.eqItems (d + 1) e 1 xs ys (j :: is)).run P w = (if r = true then (Op.eqItems (d + 1) e 1 xs ys is).run P w else .ok false w) := by
    intro j x y X Y r is hX hY h
    obtain ⟨he, ha⟩ := run_cellEq (w := w) h d
    have hx : xs[j]? = some x := by have := congrArg (·[0]?) hX; simpa using this
    have hy : ys[j]? = some y := by have := congrArg (·[0]?) hY; simpa using this
    simp only [Op.eqItems, Nat.mul_one]
    cases r <;> simp [part, ha, hx, hy, he]
  have more : ∀ {L : List Value} {x : Value} {X : List Value} {j : Nat}, L.drop j = x :: X → L.drop (j + 1) = X := fun {L x X j} h => by
    rw [← List.drop_drop, h]; rfl
  intro n
  induction n with
  | zero =>
    intro j r h
    simp only [arrEq, Option.some.injEq] at h
    subst h
    simp [Op.eqItems]
  | succ n ih =>
    intro j r h
    unfold arrEq at h
    split at h
    · rename_i hn _ _; omega
    · rename_i x X y Y hn hX hY
      obtain rfl : n = 0 := by omega
      rw [show List.range' j (0 + 1) = [j] from rfl, step j x y X Y r [] hX hY h]
      cases r <;> simp [Op.eqItems]
    · rename_i m x X y Y hne hn hX hY
      obtain rfl : m = n := by omega
      split at h
      · rename_i r1 r2 h1 h2
        simp only [Option.some.injEq] at h
        subst h
        rw [List.range'_succ, step j x y X Y r1 _ hX hY h1]
        rw [← more hX, ← more hY] at h2
        rw [ih (j + 1) r2 h2]
        cases r1 <;> rfl
      · cases h
    · cases h
theorem run_structEq {t : TypeId} {x y : Value} {r : Bool} (h : structEq P t x y = some r) : (Op.equalIn 10000 t x y).run P w = .ok r w ∧ (∀ op (a b : Operand), (eqGuard op t a b x y).run P w = .ok () w) ∧ ∃ xs ys, x = .agg xs ∧ y = .agg ys := by
  unfold structEq at h
  split at h
  · rename_i n e xs ys hu
    split at h
    · rename_i hc hi
      simp only [Bool.and_eq_true, Bool.not_eq_true'] at hc
      have h1 : P.cellsOf e = 1 := Nat.eq_of_beq_eq_true hc.1
      refine ⟨?_, fun op a b => run_eqGuard_agg w op t a b xs ys hc.2, xs, ys, rfl, rfl⟩
      rw [run_equalIn_array w 9999 xs ys hu hi, h1, List.range_eq_range']
      exact run_arrEq h1 9998 xs ys n 0 r (by simpa using h)
    · cases h
  · rename_i fs xs ys hu
    split at h
    · rename_i hc
      simp only [Bool.and_eq_true, Bool.not_eq_true'] at hc
      have hf : P.fieldsOf t = fs := by simp [Program.fieldsOf, hu]
      refine ⟨?_, fun op a b => run_eqGuard_agg w op t a b xs ys hc.2, xs, ys, rfl, rfl⟩
      rw [run_equalIn_struct w 9999 t xs ys (by rw [hf]; exact hu) hc.1, hf]
      exact run_fieldsEq2 9997 xs ys fs.toList 0 r (by simpa using h)
    · cases h
  · cases h

theorem run_nilIn {t : TypeId} {v c : Value} {r : Bool} (h : nilV P t v c = some r) (d : Nat) : (Op.equalIn (d + 1) t v c).run P w = .ok r w := by
  unfold nilV at h
  split at h
  · rename_i p hu
    simp at h; subst h
    cases ‹Option Addr› <;> simp [Op.equalIn, und hu]
  · rename_i p hu
    simp at h; subst h
    cases ‹Option Addr› <;> simp [Op.equalIn, und hu]
  · rename_i p hu
    simp at h; subst h
    cases ‹Option Nat› <;> simp [Op.equalIn, und hu]
  · cases h
theorem nil_forms {t : TypeId} {v c : Value} {r : Bool} (h : nilV P t v c = some r) :
    (∃ p, v = .pointer p ∧ c = .pointer none) ∨ (∃ b n cp, v = .slice b n cp ∧ c = .slice none 0 0) ∨ (∃ m, v = .map m ∧ c = .map none) := by
  unfold nilV at h
  split at h
  · exact .inl ⟨_, rfl, rfl⟩
  · exact .inr (.inl ⟨_, _, _, rfl, rfl⟩)
  · exact .inr (.inr ⟨_, rfl, rfl⟩)
  · cases h
theorem run_nil {t : TypeId} {v c : Value} {r : Bool} (h : nilV P t v c = some r) :
    (binOp .eql t v c).run P w = .ok (.bool r) w ∧ (binOp .neq t v c).run P w = .ok (.bool (!r)) w ∧ (∀ op (a b : Operand), (eqGuard op t a b v c).run P w = .ok () w) := by
  have he : (Op.equal t v c).run P w = .ok r w := run_nilIn h 9999
  have h1 : binOp .eql t v c = (do pure (.bool (← Op.equal t v c))) := by
    rcases nil_forms h with ⟨p, rfl, rfl⟩ | ⟨b, n, cp, rfl, rfl⟩ | ⟨m, rfl, rfl⟩ <;> rfl
  have h2 : binOp .neq t v c = (do pure (.bool (!(← Op.equal t v c)))) := by
    rcases nil_forms h with ⟨p, rfl, rfl⟩ | ⟨b, n, cp, rfl, rfl⟩ | ⟨m, rfl, rfl⟩ <;> rfl
  refine ⟨?_, ?_, fun op a b => ?_⟩
  · rw [h1]; simp only [Sem.run_bind, he, Result.andThen_ok, Sem.run_pure]
  · rw [h2]; simp only [Sem.run_bind, he, Result.andThen_ok, Sem.run_pure]
  · rcases nil_forms h with ⟨p, rfl, rfl⟩ | ⟨b, n, cp, rfl, rfl⟩ | ⟨m, rfl, rfl⟩ <;> cases op <;> rfl
end runs
end Go.Proofs.Ytknohdgcigcmdaa
