/-
  What an argument holds, read from its type's shape: numbers, truth values, texts, slices of such, structs of such; at any depth.
-/
import Derived.Test.YthhegdghcnhkbaaEngZ
namespace Go.Proofs.Ythhegdghcnhkbaa
open Go.ChangeShapes Go.WideShapes Go.ChangeAt Go.RowKit Go.WideElems Go.Deep

inductive Sp where
  | int (k : IntKind) | bool | str | sl (e : List Sp)

def shapeFs (P : Program) (sh : TypeId → Option (List Sp)) : List Field → Nat → Option (List Sp)
  | [], _ => some []
  | f :: fs, off => if f.offset == off then (sh f.type).bind fun s => if s.length == P.cellsOf f.type then (shapeFs P sh fs (off + s.length)).map (s ++ ·) else none else none
def shapeOf (P : Program) : Nat → TypeId → Option (List Sp)
  | 0, _ => none
  | n + 1, t => match P.underlying t with
    | some (.int k) => some [.int k]
    | some .bool => some [.bool]
    | some .string => some [.str]
    | some (.slice e) => (shapeOf P n e).bind fun s => if s.length == P.cellsOf e then some [.sl s] else none
    | some (.struct fs) => (shapeFs P (shapeOf P n) fs.toList 0).bind fun s => if s.length == P.cellsOf t then some s else none
    | _ => none

mutual
def HoldV (w : World) : Sp → Value → Prop
  | .int k, v => ∃ n, v = .int k n ∧ (k.min ≤ n ∧ n ≤ k.max)
  | .bool, v => ∃ b, v = .bool b
  | .str, v => ∃ s : ByteArray, v = .string s ∧ s.size ≤ maxLen
  | .sl e, v => ∃ (a : Option Addr) (len cap : Nat), v = .slice a len cap ∧ len ≤ cap ∧ cap ≤ maxLen ∧ (a = none → len = 0 ∧ cap = 0) ∧
      ∀ i, i < len → ∃ a0 ys, a = some a0 ∧ ys.length = e.length ∧ Rd w (a0.add (i * e.length)) ys ∧ HoldL w e ys
def HoldL (w : World) : List Sp → List Value → Prop
  | [], vs => vs = []
  | s :: ss, vs => ∃ v rest, vs = v :: rest ∧ HoldV w s v ∧ HoldL w ss rest
end

theorem HoldL.len {w : World} : ∀ {ss : List Sp} {vs : List Value}, HoldL w ss vs → vs.length = ss.length
  | [], vs, h => by simp only [HoldL] at h; simp [h]
  | s :: ss, vs, h => by simp only [HoldL] at h; obtain ⟨v, r, rfl, _, h2⟩ := h; simp [HoldL.len h2]
theorem HoldL.app {w : World} : ∀ {ss tt : List Sp} {vs us : List Value}, HoldL w ss vs → HoldL w tt us → HoldL w (ss ++ tt) (vs ++ us)
  | [], tt, vs, us, h, k => by simp only [HoldL] at h; simpa [h] using k
  | s :: ss, tt, vs, us, h, k => by
    simp only [HoldL, List.cons_append] at h ⊢
    obtain ⟨v, r, rfl, h1, h2⟩ := h
    exact ⟨v, r ++ us, rfl, h1, HoldL.app h2 k⟩

section
variable {H : Type} {enc : TypeId × Value → H} {P : Program} {w : World} {spare : Nat → Bool} {held : Bool}

theorem hold_fs {sh : TypeId → Option (List Sp)} {n : Nat} {cs : List Value}
    (hsh : ∀ t s cs x, sh t = some s → DataW.trod enc P w 0 spare held n t cs = some x → HoldL w s cs) :
    ∀ (fs : List Field) (off : Nat) (sps : List Sp), shapeFs P sh fs off = some sps → cs.length = off + sps.length →
      (∀ f ∈ fs, ∃ x, DataW.trod enc P w 0 spare held n f.type ((cs.drop f.offset).take (P.cellsOf f.type)) = some x) → HoldL w sps (cs.drop off)
  | [], off, sps, h, hl, _ => by
    simp only [shapeFs, Option.some.injEq] at h
    subst h
    simp only [HoldL]
    simp at hl
    exact List.drop_eq_nil_of_le (by omega)
  | f :: fs, off, sps, h, hl, hf => by
    simp only [shapeFs] at h
    split at h
    · rename_i ho
      rw [beq_iff_eq] at ho
      cases hs : sh f.type with
      | none => rw [hs] at h; cases h
      | some s =>
        rw [hs] at h
        simp only [Option.bind_some] at h
        split at h
        · rename_i hc
          rw [beq_iff_eq] at hc
          cases hr : shapeFs P sh fs (off + s.length) with
          | none => rw [hr] at h; cases h
          | some ss =>
            rw [hr] at h
            simp only [Option.map_some, Option.some.injEq] at h
            subst h
            obtain ⟨x, hx⟩ := hf f (by simp)
            have h1 := hsh _ _ _ _ hs hx
            have h2 := hold_fs hsh fs (off + s.length) ss hr (by simp at hl; omega) (fun f' hf' => hf f' (by simp [hf']))
            rw [ho, ← hc] at h1
            have he : cs.drop off = (cs.drop off).take s.length ++ cs.drop (off + s.length) := by
              rw [← List.drop_drop, List.take_append_drop]
            rw [he]
            exact h1.app h2
        · cases h
    · cases h

theorem hold_trod : ∀ (n : Nat) (t : TypeId) (sps : List Sp), shapeOf P n t = some sps → ∀ (fuel : Nat) (cs : List Value) (x : DataW H × List MemPlace), DataW.trod enc P w 0 spare held fuel t cs = some x → HoldL w sps cs
  | 0, t, sps, h => by simp [shapeOf] at h
  | n + 1, t, sps, h => by
    intro fuel cs x hx
    unfold shapeOf at h
    split at h
    · rename_i k hk
      cases h
      obtain ⟨m, rfl, _, hw⟩ := DataW.trod_int hk hx
      simp only [Lit.wf, Bool.and_eq_true, decide_eq_true_eq] at hw
      exact ⟨_, _, rfl, ⟨m, rfl, hw⟩, rfl⟩
    · rename_i hk
      cases h
      obtain ⟨m, rfl, _⟩ := DataW.trod_bool hk hx
      exact ⟨_, _, rfl, ⟨m, rfl⟩, rfl⟩
    · rename_i hk
      cases h
      obtain ⟨m, rfl, _, hs⟩ := DataW.trod_string hk hx
      exact ⟨_, _, rfl, ⟨m, rfl, hs⟩, rfl⟩
    · rename_i e hk
      cases hs : shapeOf P n e with
      | none => rw [hs] at h; cases h
      | some s =>
        rw [hs] at h
        simp only [Option.bind_some] at h
        split at h
        · rename_i hc
          rw [beq_iff_eq] at hc
          cases h
          refine ⟨cs.headD (.bool false), [], ?_, ?_, rfl⟩
          · rcases open_slice hk hx with ⟨rfl, _⟩ | ⟨a, len, cap, m, n', D, Pl, rfl, _⟩ <;> rfl
          · rcases open_slice hk hx with ⟨rfl, _⟩ | ⟨a, len, cap, m, n', D, Pl, rfl, hb, hl, hm, hmm, _, hi⟩
            · exact ⟨none, 0, 0, rfl, Nat.le_refl _, by unfold maxLen; omega, fun _ => ⟨rfl, rfl⟩, fun i hi => absurd hi (by omega)⟩
            · refine ⟨some a, len, cap, rfl, hl, hm, (fun h => by cases h), fun i hil => ?_⟩
              obtain ⟨cs', hcs, ht⟩ := hi i (by rw [hmm]; split <;> omega)
              obtain ⟨_, hlen, hat⟩ := World.cells?_some hcs
              refine ⟨a, cs', rfl, by omega, fun j v hj => ?_, hold_trod n e s hs _ _ _ ht⟩
              rw [hc, hat j (by have := (List.getElem?_eq_some_iff.1 hj).1; omega), hj]
        · cases h
    · rename_i fs hk
      cases hs : shapeFs P (shapeOf P n) fs.toList 0 with
      | none => rw [hs] at h; cases h
      | some s =>
        rw [hs] at h
        simp only [Option.bind_some] at h
        split at h
        · rename_i hc
          rw [beq_iff_eq] at hc
          cases h
          obtain ⟨xs, n', _, _, hl, hxl, hf⟩ := DataW.trod_struct hk hx
          have := hold_fs (sh := shapeOf P n) (n := n') (cs := cs) (fun t s cs x h1 h2 => hold_trod n t s h1 _ _ _ h2) fs.toList 0 _ hs (by omega) (fun f hfm => by
            obtain ⟨i, hi, rfl⟩ := List.getElem_of_mem hfm
            have hi' : i < fs.size := by simpa using hi
            have := hf i fs[i] (by simp [hi'])
            exact ⟨xs[i]'(by omega), by rw [Array.getElem_toList]; rw [this]; exact List.getElem?_eq_getElem (by omega)⟩)
          simpa using this
        · cases h
    · cases h
end

theorem choose_rows {α : Type} [Inhabited α] {n : Nat} {p : Nat → α → Prop} (h : ∀ i, i < n → ∃ x, p i x) : ∃ f : Nat → α, ∀ i, i < n → p i (f i) := by
  classical
  exact ⟨fun i => if hi : i < n then (h i hi).choose else default, fun i hi => by simp only [dif_pos hi]; exact (h i hi).choose_spec⟩

/-- an argument's value, by its type's shape -/
theorem hold_one {H : Type} {enc : TypeId × Value → H} {P : Program} {w : World} {t : TypeId} {v : Value} {d : DataW H} {ps : List MemPlace} {r : Reach} {b0 : Nat} {s : Sp} (n : Nat)
    (hs : shapeOf P n t = some [s]) (hn : (match P.underlying t with | some (.struct _) => false | some (.array _ _) => false | _ => true) = true) (hv : Value.okWide P w r b0 t v) (h : DataW.Trod enc P w 0 (fun _ => true) true t v d ps) : HoldV w s v := by
  obtain ⟨fuel, hf⟩ := h
  obtain ⟨v', r', he, h1, h2⟩ := hold_trod n t _ hs _ _ _ hf
  simp only [HoldL] at h2
  subst h2
  have : v.cells = #[v] := by
    cases n with
    | zero => simp [shapeOf] at hs
    | succ n =>
      unfold shapeOf at hs
      split at hs
      · rename_i k hk; obtain ⟨n, rfl⟩ := okWide_int hk hv; rfl
      · rename_i hk; obtain ⟨n, rfl⟩ := okWide_bool hk hv; rfl
      · rename_i hk; obtain ⟨n, rfl⟩ := okWide_string hk hv; rfl
      · rename_i e hk; obtain ⟨a, l, c, rfl⟩ := okWide_slice hk hv; rfl
      · rename_i fs hk; rw [hk] at hn; cases hn
      · cases hs
  rw [this] at he
  cases he
  exact h1
/-- a struct's value -/
theorem hold_agg {H : Type} {enc : TypeId × Value → H} {P : Program} {w : World} {t : TypeId} {v : Value} {d : DataW H} {ps : List MemPlace} {r : Reach} {b0 : Nat} {s : List Sp} {fs : Array Field} (n : Nat)
    (hs : shapeOf P n t = some s) (ht : P.underlying t = some (.struct fs)) (hv : Value.okWide P w r b0 t v) (h : DataW.Trod enc P w 0 (fun _ => true) true t v d ps) : ∃ cs : List Value, v = .agg cs.toArray ∧ HoldL w s cs := by
  obtain ⟨fuel, hf⟩ := h
  obtain ⟨cs, rfl, _⟩ := okWide_struct ht hv
  obtain ⟨cs⟩ := cs
  exact ⟨cs, rfl, by simpa [Value.cells] using hold_trod n t _ hs _ _ _ hf⟩
end Go.Proofs.Ythhegdghcnhkbaa
