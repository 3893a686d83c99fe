/-
  Package node: a node is read: what a reader tells.
-/
import Derived.Test.YtknohdgcigcmdaaNodeK
namespace Go.Proofs.Ytknohdgcigcmdaa
open Go.RowKit
set_option maxRecDepth 100000

def lenO (st : Option (List UInt8)) : Nat := (st.getD []).length
theorem rCount_lenO (m : Int) (st : Option (List UInt8)) : lenO (rCount m st).2 ≤ lenO st := by
  unfold rCount
  cases hb : st.bind rd with
  | none => exact Nat.zero_le _
  | some p =>
    obtain ⟨u, t⟩ := p
    simp only
    split
    · cases st with
      | none => cases hb
      | some l =>
        have hb : rd l = some (u, t) := hb
        unfold rd at hb
        split at hb
        · cases hb
        · simp only [Option.some.injEq, Prod.mk.injEq] at hb
          obtain ⟨_, rfl⟩ := hb
          show (List.drop _ l).length ≤ l.length
          rw [List.length_drop]; omega
    · exact Nat.zero_le _
theorem rStr_lenO (m : Int) (st : Option (List UInt8)) : lenO (rStr m st).2 ≤ lenO st := by
  have h := rCount_lenO m st
  unfold rStr
  cases hs : (rCount m st).2 with
  | none => exact Nat.zero_le _
  | some t =>
    rw [hs] at h
    simp only
    split
    · show (List.drop _ t).length ≤ _
      have : lenO (some t) = t.length := rfl
      rw [List.length_drop]; omega
    · exact Nat.zero_le _
theorem rCe_lenO (leaf : Bool) (st : Option (List UInt8)) : lenO (rCe leaf st).2 ≤ lenO st := by
  have h1 := rStr_lenO 48 st
  have h2 := rCount_lenO 2147483647 (rStr 48 st).2
  have h3 := rStr_lenO 64 (rCount 2147483647 (rStr 48 st).2).2
  have h4 := rCount_lenO 2147483647 (rCount 2147483647 (rStr 48 st).2).2
  unfold rCe
  split
  · exact h1
  · split
    · simp only; omega
    · simp only; omega
/-- cells, while nothing fails -/
def rCes (leaf : Bool) : Nat → Option (List UInt8) → List Ce × Option (List UInt8)
  | 0, st => ([], st)
  | _ + 1, none => ([], none)
  | m + 1, some l => ((rCe leaf (some l)).1 :: (rCes leaf m (rCe leaf (some l)).2).1, (rCes leaf m (rCe leaf (some l)).2).2)
def rKs : Nat → Option (List UInt8) → List Int × Option (List UInt8)
  | 0, st => ([], st)
  | _ + 1, none => ([], none)
  | m + 1, some l => ((rCount 2147483647 (some l)).1 :: (rKs m (rCount 2147483647 (some l)).2).1, (rKs m (rCount 2147483647 (some l)).2).2)
theorem rCes_none (leaf : Bool) (m : Nat) : rCes leaf m none = ([], none) := by cases m <;> rfl
theorem rKs_none (m : Nat) : rKs m none = ([], none) := by cases m <;> rfl
theorem rCes_len (leaf : Bool) : ∀ (m : Nat) (st : Option (List UInt8)), (rCes leaf m st).1.length ≤ m ∧ ((rCes leaf m st).2 ≠ none → (rCes leaf m st).1.length = m) ∧ lenO (rCes leaf m st).2 ≤ lenO st
  | 0, st => ⟨Nat.le_refl _, fun _ => rfl, Nat.le_refl _⟩
  | m + 1, none => ⟨Nat.zero_le _, fun h => absurd rfl h, Nat.le_refl _⟩
  | m + 1, some l => by
    obtain ⟨h1, h2, h3⟩ := rCes_len leaf m (rCe leaf (some l)).2
    have h4 := rCe_lenO leaf (some l)
    refine ⟨by simp only [rCes, List.length_cons]; omega, fun h => ?_, by simp only [rCes]; omega⟩
    simp only [rCes, List.length_cons] at h ⊢
    rw [h2 h]
theorem rKs_lenO : ∀ (m : Nat) (st : Option (List UInt8)), (rKs m st).1.length ≤ m ∧ lenO (rKs m st).2 ≤ lenO st
  | 0, st => ⟨Nat.le_refl _, Nat.le_refl _⟩
  | m + 1, none => ⟨Nat.zero_le _, Nat.le_refl _⟩
  | m + 1, some l => by
    obtain ⟨h1, h3⟩ := rKs_lenO m (rCount 2147483647 (some l)).2
    have h4 := rCount_lenO 2147483647 (some l)
    exact ⟨by simp only [rKs, List.length_cons]; omega, by simp only [rKs]; omega⟩
def leafR (l : List UInt8) : Bool := (rCount 1 (some l)).1 == 1
def cntR (l : List UInt8) : Nat := (rCount 512 (rCount 1 (some l)).2).1.toNat
def csR (l : List UInt8) : List Ce × Option (List UInt8) := rCes (leafR l) (cntR l) (rCount 512 (rCount 1 (some l)).2).2
def ksR (l : List UInt8) : List Int × Option (List UInt8) := if leafR l then ([], (csR l).2) else rKs ((csR l).1.length + 1) (csR l).2
def rawN (l : List UInt8) : Nd := ⟨leafR l, (csR l).1, (ksR l).1⟩
def tailR (l : List UInt8) : List UInt8 := l.drop (l.length - lenO (ksR l).2)
def zNd : Nd := ⟨false, [], []⟩
def goodR (l : List UInt8) : Bool := (ksR l).2.isSome && (okN (rawN l) && !(tailR l).any (fun x => x != 0))
/-- the node of some bytes, or the refusal -/
def decN (l : List UInt8) : Nd × Int := if 512 < l.length then (zNd, 4) else if goodR l then (rawN l, 0) else (zNd, 4)
theorem cntR_le (l : List UInt8) : ((rCount 512 (rCount 1 (some l)).2).1 = ((cntR l : Nat) : Int)) ∧ cntR l ≤ 512 := by
  have h1 := (rCount_pos 512 (rCount 1 (some l)).2).1
  have h2 : (rCount 512 (rCount 1 (some l)).2).1 ≤ 512 := by
    unfold rCount
    split
    · simp
    · split
      · simp only; omega
      · simp
  unfold cntR
  omega
theorem csR_lenO (l : List UInt8) : lenO (csR l).2 ≤ l.length := by
  have h1 := (rCes_len (leafR l) (cntR l) (rCount 512 (rCount 1 (some l)).2).2).2.2
  have h2 := rCount_lenO 512 (rCount 1 (some l)).2
  have h3 := rCount_lenO 1 (some l)
  have : lenO (some l) = l.length := rfl
  unfold csR
  omega
theorem ksR_lenO (l : List UInt8) : lenO (ksR l).2 ≤ l.length := by
  have h1 := csR_lenO l
  unfold ksR
  split
  · exact h1
  · have := (rKs_lenO ((csR l).1.length + 1) (csR l).2).2
    omega
theorem csR_len (l : List UInt8) : (csR l).1.length ≤ 512 := by
  have h1 := (rCes_len (leafR l) (cntR l) (rCount 512 (rCount 1 (some l)).2).2).1
  have := (cntR_le l).2
  unfold csR
  omega
/-- what stands while a node is read -/
structure DS (T U : TypeId) (w W : World) (nb b2 : Nat) (leaf : Bool) (c k : Sl) (X : List Ce) (Y : List Int) : Prop where
  n : Bk W nb (nhC leaf c k) U
  z : Bk W b2 (nhC false ⟨none, 0, 0⟩ ⟨none, 0, 0⟩) U
  co : OwnR ceR T w W c X
  ko : OwnR itR 3 w W k Y
  e : Ext [] w W
  gn : w.heap.size ≤ nb
  ne : nb ≠ b2
section
variable {T U : TypeId} {w W W' : World} {nb b2 : Nat} {leaf : Bool} {c k : Sl} {X : List Ce} {Y : List Int} {M : List Nat}
theorem DS.ext0 (h : DS T U w W nb b2 leaf c k X Y) (e : Ext [] W W') : DS T U w W' nb b2 leaf c k X Y := ⟨h.n.ext e, h.z.ext e, h.co.ext0 e, h.ko.ext0 e, h.e.then0 e, h.gn, h.ne⟩
/-- a reader's block changed -/
theorem DS.rd (h : DS T U w W nb b2 leaf c k X Y) {q : Nat} {cs : List Value} {t : TypeId} (hq : Bk W q cs t) (hw : w.heap.size ≤ q) (h1 : t ≠ T) (h2 : t ≠ U) (h3 : t ≠ 3) (e : Ext [q] W W') : DS T U w W' nb b2 leaf c k X Y := by
  refine ⟨h.n.ext e (by simp; exact fun e => hq.neT h.n h2 e.symm), h.z.ext e (by simp; exact fun e => hq.neT h.z h2 e.symm), h.co.ext e fun b hb hm => ?_, h.ko.ext e fun b hb hm => ?_, h.e.then e (fun i hi hlt => by simp at hi; omega), h.gn, h.ne⟩
  · simp at hm; subst hm
    obtain ⟨_, hz⟩ := h.co.1.bk_of hb
    exact hq.neT hz h1 rfl
  · simp at hm; subst hm
    obtain ⟨_, hz⟩ := h.ko.1.bk_of hb
    exact hq.neT hz h3 rfl
end
end Go.Proofs.Ytknohdgcigcmdaa
