/-
  What an argument holds, read from its type's shape: numbers, truth values, texts, slices of such, structs of such; at any depth.
-/
import Derived.Test.YtknohdgcigcmdaaEngZ
namespace Go.Proofs.Ytknohdgcigcmdaa
open Go.ChangeShapes Go.WideShapes Go.ChangeAt Go.RowKit Go.WideElems Go.Deep

inductive Sp where
  | int (k : IntKind) | bool | str | sl (e : List Sp)

def shapeFs (P : Program) (sh : TypeId → Option (List Sp)) : List Field → Nat → Option (List Sp)
  | [], _ => some []
  | f :: fs, off => if f.offset == off then (sh f.type).bind fun s => if s.length == P.cellsOf f.type then (shapeFs P sh fs (off + s.length)).map (s ++ ·) else none else none
def shapeOf (P : Program) : Nat → TypeId → Option (List Sp)
  | 0, _ => none
  | n + 1, t => match P.underlying t with
    | some (.int k) => some [.int k]
    | some .bool => some [.bool]
    | some .string => some [.str]
    | some (.slice e) => (shapeOf P n e).bind fun s => if s.length == P.cellsOf e then some [.sl s] else none
    | some (.struct fs) => (shapeFs P (shapeOf P n) fs.toList 0).bind fun s => if s.length == P.cellsOf t then some s else none
    | _ => none

def sumTo (f : Nat → Nat) : Nat → Nat
  | 0 => 0
  | n + 1 => sumTo f n + f n
mutual
/-- a value of a shape; the last number is its bulk, or more -/
def HoldV (w : World) : Sp → Value → Nat → Prop
  | .int k, v, _ => ∃ n, v = .int k n ∧ (k.min ≤ n ∧ n ≤ k.max)
  | .bool, v, _ => ∃ b, v = .bool b
  | .str, v, B => ∃ s : ByteArray, v = .string s ∧ (s.size ≤ maxLen ∧ s.size < B)
  | .sl e, v, B => ∃ (a : Option Addr) (len cap : Nat) (bud : Nat → Nat), v = .slice a len cap ∧ len ≤ cap ∧ cap ≤ maxLen ∧ (a = none → len = 0 ∧ cap = 0) ∧ (len < B ∧ sumTo bud len < B) ∧
      ∀ i, i < len → ∃ a0 ys, a = some a0 ∧ ys.length = e.length ∧ Rd w (a0.add (i * e.length)) ys ∧ HoldL w e ys (bud i)
def HoldL (w : World) : List Sp → List Value → Nat → Prop
  | [], vs, _ => vs = []
  | s :: ss, vs, B => ∃ v rest B1 B2, vs = v :: rest ∧ HoldV w s v B1 ∧ HoldL w ss rest B2 ∧ B1 + B2 ≤ B
end

theorem HoldL.len {w : World} : ∀ {ss : List Sp} {vs : List Value} {B : Nat}, HoldL w ss vs B → vs.length = ss.length
  | [], vs, _, h => by simp only [HoldL] at h; simp [h]
  | s :: ss, vs, _, h => by simp only [HoldL] at h; obtain ⟨v, r, _, _, rfl, _, h2, _⟩ := h; simp [HoldL.len h2]
theorem HoldL.app {w : World} : ∀ {ss tt : List Sp} {vs us : List Value} {B C D : Nat}, HoldL w ss vs B → HoldL w tt us C → B + C ≤ D → HoldL w (ss ++ tt) (vs ++ us) D
  | [], tt, vs, us, B, C, D, h, k, hd => by
    simp only [HoldL] at h
    subst h
    cases tt with
    | nil => simpa only [HoldL, List.nil_append] using k
    | cons t tt =>
      simp only [HoldL, List.nil_append] at k ⊢
      obtain ⟨v, r, B1, B2, h1, h2, h3, h4⟩ := k
      exact ⟨v, r, B1, B2, h1, h2, h3, by omega⟩
  | s :: ss, tt, vs, us, B, C, D, h, k, hd => by
    simp only [HoldL, List.cons_append] at h ⊢
    obtain ⟨v, r, B1, B2, rfl, h1, h2, h3⟩ := h
    exact ⟨v, r ++ us, B1, B2 + C, rfl, h1, HoldL.app h2 k (Nat.le_refl _), by omega⟩
theorem bulkAll_sum {H : Type} : ∀ l : List (DataW H), Rows.uptoBulkAll l = (l.map Rows.uptoBulk).sum
  | [] => by simp [Rows.uptoBulkAll]
  | d :: r => by simp [Rows.uptoBulkAll, bulkAll_sum r]
theorem bulk_pos {H : Type} (d : DataW H) : 1 ≤ Rows.uptoBulk d := by
  cases d with
  | lit l => cases l <;> simp [Rows.uptoBulk]
  | _ => simp [Rows.uptoBulk]
theorem sum_range (f : Nat → Nat) : ∀ n, ((List.range n).map f).sum = sumTo f n
  | 0 => rfl
  | n + 1 => by rw [List.range_succ]; simp [sum_range f n, sumTo]
theorem sumTo_ge (f : Nat → Nat) (h : ∀ i, 1 ≤ f i) : ∀ n, n ≤ sumTo f n
  | 0 => Nat.le_refl _
  | n + 1 => by have := sumTo_ge f h n; have := h n; simp only [sumTo]; omega

section
variable {H : Type} {enc : TypeId × Value → H} {P : Program} {w : World} {spare : Nat → Bool} {held : Bool}

theorem hold_fs {sh : TypeId → Option (List Sp)} {n : Nat} {cs : List Value}
    (hsh : ∀ t s cs x, sh t = some s → DataW.trod enc P w 0 spare held n t cs = some x → HoldL w s cs (Rows.uptoBulk x.1)) :
    ∀ (fs : List Field) (off : Nat) (sps : List Sp) (ds : List (DataW H)), shapeFs P sh fs off = some sps → cs.length = off + sps.length → ds.length = fs.length →
      (∀ (i : Nat) (f : Field), fs[i]? = some f → ∃ x, DataW.trod enc P w 0 spare held n f.type ((cs.drop f.offset).take (P.cellsOf f.type)) = some x ∧ ds[i]? = some x.1) → HoldL w sps (cs.drop off) (Rows.uptoBulkAll ds)
  | [], off, sps, ds, h, hl, _, _ => by
    simp only [shapeFs, Option.some.injEq] at h
    subst h
    simp only [HoldL]
    simp at hl
    exact List.drop_eq_nil_of_le (by omega)
  | f :: fs, off, sps, [], h, hl, hd, hf => by simp at hd
  | f :: fs, off, sps, d :: ds, h, hl, hd, hf => by
    simp only [shapeFs] at h
    split at h
    · rename_i ho
      rw [beq_iff_eq] at ho
      cases hs : sh f.type with
      | none => rw [hs] at h; cases h
      | some s =>
        rw [hs] at h
        simp only [Option.bind_some] at h
        split at h
        · rename_i hc
          rw [beq_iff_eq] at hc
          cases hr : shapeFs P sh fs (off + s.length) with
          | none => rw [hr] at h; cases h
          | some ss =>
            rw [hr] at h
            simp only [Option.map_some, Option.some.injEq] at h
            subst h
            obtain ⟨x, hx, hxd⟩ := hf 0 f rfl
            have h1 := hsh _ _ _ _ hs hx
            have hl' : cs.length = off + s.length + ss.length := by rw [List.length_append] at hl; omega
            have hd' : ds.length = fs.length := by simpa using hd
            have h2 := hold_fs hsh fs (off + s.length) ss ds hr hl' hd' (fun i f' hf' => by simpa using hf (i + 1) f' (by simpa using hf'))
            rw [ho, ← hc] at h1
            have he : cs.drop off = (cs.drop off).take s.length ++ cs.drop (off + s.length) := by
              rw [← List.drop_drop, List.take_append_drop]
            rw [he]
            obtain rfl : d = x.1 := by simpa using hxd
            exact h1.app h2 (show Rows.uptoBulk x.1 + Rows.uptoBulkAll ds ≤ Rows.uptoBulkAll (x.1 :: ds) by simp [Rows.uptoBulkAll])
        · cases h
    · cases h

theorem hold_trod : ∀ (n : Nat) (t : TypeId) (sps : List Sp), shapeOf P n t = some sps → ∀ (fuel : Nat) (cs : List Value) (x : DataW H × List MemPlace), DataW.trod enc P w 0 spare held fuel t cs = some x → HoldL w sps cs (Rows.uptoBulk x.1)
  | 0, t, sps, h => by simp [shapeOf] at h
  | n + 1, t, sps, h => by
    intro fuel cs x hx
    unfold shapeOf at h
    split at h
    · rename_i k hk
      cases h
      obtain ⟨m, rfl, _, hw⟩ := DataW.trod_int hk hx
      simp only [Lit.wf, Bool.and_eq_true, decide_eq_true_eq] at hw
      exact ⟨_, _, 0, 0, rfl, ⟨m, rfl, hw⟩, rfl, Nat.zero_le _⟩
    · rename_i hk
      cases h
      obtain ⟨m, rfl, _⟩ := DataW.trod_bool hk hx
      exact ⟨_, _, 0, 0, rfl, ⟨m, rfl⟩, rfl, Nat.zero_le _⟩
    · rename_i hk
      cases h
      obtain ⟨m, rfl, rfl, hs⟩ := DataW.trod_string hk hx
      refine ⟨_, _, m.size + 1, 0, rfl, ⟨m, rfl, hs, by omega⟩, rfl, ?_⟩
      simp only [Rows.uptoBulk, Array.length_toList]
      exact Nat.le_refl _
    · rename_i e hk
      cases hs : shapeOf P n e with
      | none => rw [hs] at h; cases h
      | some s =>
        rw [hs] at h
        simp only [Option.bind_some] at h
        split at h
        · rename_i hc
          rw [beq_iff_eq] at hc
          cases h
          refine ⟨cs.headD (.bool false), [], Rows.uptoBulk x.1, 0, ?_, ?_, rfl, Nat.le_refl _⟩
          · rcases open_slice hk hx with ⟨rfl, _⟩ | ⟨a, len, cap, m, n', D, Pl, rfl, _⟩ <;> rfl
          · rcases open_slice hk hx with ⟨rfl, rfl⟩ | ⟨a, len, cap, m, n', D, Pl, rfl, hb, hl, hm, hmm, rfl, hi⟩
            · exact ⟨none, 0, 0, fun _ => 0, rfl, Nat.le_refl _, by unfold maxLen; omega, fun _ => ⟨rfl, rfl⟩, ⟨bulk_pos _, bulk_pos _⟩, fun i hi => absurd hi (by omega)⟩
            · have hsum : sumTo (fun i => Rows.uptoBulk (D i)) len < Rows.uptoBulk (.slice ((List.range len).map D) ((List.range (m - len)).map fun j => D (len + j))) := by
                simp only [Rows.uptoBulk, bulkAll_sum, List.map_map, Function.comp_def]
                rw [sum_range (fun i => Rows.uptoBulk (D i))]
                omega
              have hge := sumTo_ge (fun i => Rows.uptoBulk (D i)) (fun i => bulk_pos _) len
              refine ⟨some a, len, cap, fun i => Rows.uptoBulk (D i), rfl, hl, hm, (fun h => by cases h), ⟨Nat.lt_of_le_of_lt hge hsum, hsum⟩, fun i hil => ?_⟩
              obtain ⟨cs', hcs, ht⟩ := hi i (by rw [hmm]; split <;> omega)
              obtain ⟨_, hlen, hat⟩ := World.cells?_some hcs
              refine ⟨a, cs', rfl, by omega, fun j v hj => ?_, hold_trod n e s hs _ _ _ ht⟩
              rw [hc, hat j (by have := (List.getElem?_eq_some_iff.1 hj).1; omega), hj]
        · cases h
    · rename_i fs hk
      cases hs : shapeFs P (shapeOf P n) fs.toList 0 with
      | none => rw [hs] at h; cases h
      | some s =>
        rw [hs] at h
        simp only [Option.bind_some] at h
        split at h
        · rename_i hc
          rw [beq_iff_eq] at hc
          cases h
          obtain ⟨xs, n', _, rfl, hl, hxl, hf⟩ := DataW.trod_struct hk hx
          have := hold_fs (sh := shapeOf P n) (n := n') (cs := cs) (fun t s cs x h1 h2 => hold_trod n t s h1 _ _ _ h2) fs.toList 0 _ (xs.map (·.1)) hs (by omega) (by simpa using hxl) (fun i f hfi => by
            have hi : i < fs.size := by simpa using (List.getElem?_eq_some_iff.1 hfi).1
            have h1 := hf i f (by simpa using hfi)
            exact ⟨xs[i]'(by omega), by rw [h1]; exact List.getElem?_eq_getElem (by omega), by simp [show i < xs.length by omega]⟩)
          rw [List.drop_zero] at this
          have h0 : HoldL w [] [] 0 := rfl
          have h2 := HoldL.app h0 this (show 0 + Rows.uptoBulkAll (xs.map (·.1)) ≤ Rows.uptoBulk (.agg (xs.map (·.1))) by simp [Rows.uptoBulk])
          simpa using h2
        · cases h
    · cases h
end

theorem HoldV.mono {w : World} {s : Sp} {v : Value} {B C : Nat} (h : HoldV w s v B) (hb : B ≤ C) : HoldV w s v C := by
  cases s with
  | int k => simpa only [HoldV] using h
  | bool => simpa only [HoldV] using h
  | str => simp only [HoldV] at h ⊢; obtain ⟨s, h1, h2, h3⟩ := h; exact ⟨s, h1, h2, by omega⟩
  | sl e => simp only [HoldV] at h ⊢; obtain ⟨a, l, c, b, h1, h2, h3, h4, h5, h6⟩ := h; exact ⟨a, l, c, b, h1, h2, h3, h4, by omega, h6⟩

theorem choose_rows {α : Type} [Inhabited α] {n : Nat} {p : Nat → α → Prop} (h : ∀ i, i < n → ∃ x, p i x) : ∃ f : Nat → α, ∀ i, i < n → p i (f i) := by
  classical
  exact ⟨fun i => if hi : i < n then (h i hi).choose else default, fun i hi => by simp only [dif_pos hi]; exact (h i hi).choose_spec⟩

/-- a slice of numbers, read -/
theorem seg_ints {w : World} {k : IntKind} {a : Option Addr} {len : Nat} {bud : Nat → Nat}
    (r : ∀ i, i < len → ∃ a0 ys, a = some a0 ∧ ys.length = 1 ∧ Rd w (a0.add (i * 1)) ys ∧ HoldL w [.int k] ys (bud i)) :
    ∃ L : List Int, L.length = len ∧ (∀ x ∈ L, k.min ≤ x ∧ x ≤ k.max) ∧ Seg w a len 1 (L.map (.int k)) := by
  have h : ∀ i, i < len → ∃ n : Int, ∃ a0, a = some a0 ∧ w.cell? (a0.add i) = some (.int k n) ∧ (k.min ≤ n ∧ n ≤ k.max) := by
    intro i hi
    obtain ⟨a0, ys, ha, _, hrd, hh⟩ := r i hi
    simp only [HoldL, HoldV] at hh
    obtain ⟨v, rest, _, _, rfl, ⟨n, rfl, hn⟩, rfl, _⟩ := hh
    have := hrd 0 _ rfl
    rw [add_zero, Nat.mul_one] at this
    exact ⟨n, a0, ha, this, hn⟩
  obtain ⟨f, hf⟩ := choose_rows h
  refine ⟨(List.range len).map f, by simp, ?_, by simp, ?_⟩
  · intro x hx
    obtain ⟨i, hi, rfl⟩ := List.mem_map.1 hx
    obtain ⟨_, _, _, h3⟩ := hf i (List.mem_range.1 hi)
    exact h3
  · by_cases h0 : len = 0
    · exact .inl h0
    · obtain ⟨a0, ha, _, _⟩ := hf 0 (by omega)
      refine .inr ⟨a0, ha, fun j v hj => ?_⟩
      have hjl : j < len := by have := (List.getElem?_eq_some_iff.1 hj).1; simpa using this
      obtain ⟨a1, ha1, h2, _⟩ := hf j hjl
      obtain rfl : a1 = a0 := by rw [ha] at ha1; cases ha1; rfl
      simp only [List.getElem?_map, List.getElem?_range hjl, Option.map_some, Option.some.injEq] at hj
      rw [h2, hj]

/-- an argument's value, by its type's shape -/
theorem hold_one {H : Type} {enc : TypeId × Value → H} {P : Program} {w : World} {t : TypeId} {v : Value} {d : DataW H} {ps : List MemPlace} {r : Reach} {b0 : Nat} {s : Sp} (n : Nat)
    (hs : shapeOf P n t = some [s]) (hn : (match P.underlying t with | some (.struct _) => false | some (.array _ _) => false | _ => true) = true) (hv : Value.okWide P w r b0 t v) (h : DataW.Trod enc P w 0 (fun _ => true) true t v d ps) : HoldV w s v (Rows.uptoBulk d) := by
  obtain ⟨fuel, hf⟩ := h
  obtain ⟨v', r', B1, B2, he, h1, h2, h3⟩ := hold_trod n t _ hs _ _ _ hf
  simp only [HoldL] at h2
  subst h2
  have : v.cells = #[v] := by
    cases n with
    | zero => simp [shapeOf] at hs
    | succ n =>
      unfold shapeOf at hs
      split at hs
      · rename_i k hk; obtain ⟨n, rfl⟩ := okWide_int hk hv; rfl
      · rename_i hk; obtain ⟨n, rfl⟩ := okWide_bool hk hv; rfl
      · rename_i hk; obtain ⟨n, rfl⟩ := okWide_string hk hv; rfl
      · rename_i e hk; obtain ⟨a, l, c, rfl⟩ := okWide_slice hk hv; rfl
      · rename_i fs hk; rw [hk] at hn; cases hn
      · cases hs
  rw [this] at he
  cases he
  exact HoldV.mono h1 (by simp only at h3; omega)
/-- a struct's value -/
theorem hold_agg {H : Type} {enc : TypeId × Value → H} {P : Program} {w : World} {t : TypeId} {v : Value} {d : DataW H} {ps : List MemPlace} {r : Reach} {b0 : Nat} {s : List Sp} {fs : Array Field} (n : Nat)
    (hs : shapeOf P n t = some s) (ht : P.underlying t = some (.struct fs)) (hv : Value.okWide P w r b0 t v) (h : DataW.Trod enc P w 0 (fun _ => true) true t v d ps) : ∃ cs : List Value, v = .agg cs.toArray ∧ HoldL w s cs (Rows.uptoBulk d) := by
  obtain ⟨fuel, hf⟩ := h
  obtain ⟨cs, rfl, _⟩ := okWide_struct ht hv
  obtain ⟨cs⟩ := cs
  exact ⟨cs, rfl, by simpa [Value.cells] using hold_trod n t _ hs _ _ _ hf⟩
end Go.Proofs.Ytknohdgcigcmdaa
