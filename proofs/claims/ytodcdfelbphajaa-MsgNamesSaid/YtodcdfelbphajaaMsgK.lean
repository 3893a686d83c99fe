/-
  Package msg, plain: a message's bytes are read as the message; what is read has just these bytes.
-/
import Derived.Test.YtodcdfelbphajaaMsgJ
import Derived.Test.YtodcdfelbphajaaCodeC
namespace Go.Proofs.Ytodcdfelbphajaa
open Go.RowKit
set_option maxRecDepth 100000

/-- a kind of thing, its bytes and its reading -/
structure Cod {T : Type} (r : Option (List UInt8) → T × Option (List UInt8)) (c : T → List UInt8) (ok : T → Prop) : Prop where
  enc : ∀ (x : T) (t : List UInt8), ok x → r (some (c x ++ t)) = (x, some t)
  only : ∀ (l t : List UInt8) (x : T), r (some l) = (x, some t) → ok x ∧ l = c x ++ t
  none : (r none).2 = none
def rPair {S T : Type} (r1 : Option (List UInt8) → S × Option (List UInt8)) (r2 : Option (List UInt8) → T × Option (List UInt8)) (st : Option (List UInt8)) : (S × T) × Option (List UInt8) :=
  (((r1 st).1, (r2 (r1 st).2).1), (r2 (r1 st).2).2)
theorem Cod.pair {S T : Type} {r1 : Option (List UInt8) → S × Option (List UInt8)} {r2 : Option (List UInt8) → T × Option (List UInt8)} {c1 : S → List UInt8} {c2 : T → List UInt8} {o1 : S → Prop} {o2 : T → Prop}
    (h1 : Cod r1 c1 o1) (h2 : Cod r2 c2 o2) : Cod (rPair r1 r2) (fun x => c1 x.1 ++ c2 x.2) (fun x => o1 x.1 ∧ o2 x.2) where
  enc := fun x t h => by
    unfold rPair
    rw [List.append_assoc, h1.enc x.1 _ h.1]
    simp only
    rw [h2.enc x.2 t h.2]
  only := fun l t x h => by
    unfold rPair at h
    obtain ⟨x1, x2⟩ := x
    cases ha : r1 (some l) with
    | mk a s1 =>
    rw [ha] at h
    simp only [Prod.mk.injEq] at h
    obtain ⟨⟨rfl, rfl⟩, h3⟩ := h
    cases s1 with
    | none => rw [h2.none] at h3; cases h3
    | some m =>
      obtain ⟨p1, rfl⟩ := h1.only _ _ _ ha
      obtain ⟨p2, e2⟩ := h2.only m t _ (Prod.ext rfl h3)
      exact ⟨⟨p1, p2⟩, by rw [List.append_assoc, ← e2]⟩
  none := by
    unfold rPair
    simp only
    rw [h1.none, h2.none]
def rIso {S T : Type} (f : S → T) (r : Option (List UInt8) → S × Option (List UInt8)) (st : Option (List UInt8)) : T × Option (List UInt8) := (f (r st).1, (r st).2)
theorem Cod.iso {S T : Type} {r : Option (List UInt8) → S × Option (List UInt8)} {c : S → List UInt8} {o : S → Prop} (h : Cod r c o) (f : S → T) (g : T → S) (fg : ∀ y, f (g y) = y) (gf : ∀ x, g (f x) = x) : Cod (rIso f r) (fun y => c (g y)) (fun y => o (g y)) where
  enc := fun y t hy => by
    unfold rIso
    rw [h.enc _ t hy]
    simp only [fg]
  only := fun l t y hy => by
    unfold rIso at hy
    cases ha : r (some l) with
    | mk a s1 =>
    rw [ha] at hy
    simp only [Prod.mk.injEq] at hy
    obtain ⟨rfl, rfl⟩ := hy
    simp only [gf]
    exact h.only _ _ _ ha
  none := h.none

def rIts {T : Type} (r : Option (List UInt8) → T × Option (List UInt8)) : Nat → Option (List UInt8) → List T × Option (List UInt8)
  | 0, st => ([], st)
  | n + 1, none => ([], none)
  | n + 1, some l => ((r (some l)).1 :: (rIts r n (r (some l)).2).1, (rIts r n (r (some l)).2).2)
def rL {T : Type} (r : Option (List UInt8) → T × Option (List UInt8)) (st : Option (List UInt8)) : List T × Option (List UInt8) := rIts r (rCount 8192 st).1.toNat (rCount 8192 st).2
theorem rIts_none {T : Type} (r : Option (List UInt8) → T × Option (List UInt8)) (n : Nat) : rIts r n none = ([], none) := by cases n <;> rfl
theorem rIts_enc {T : Type} {r : Option (List UInt8) → T × Option (List UInt8)} {c : T → List UInt8} {ok : T → Prop} (h : Cod r c ok) : ∀ (L : List T) (t : List UInt8), (∀ x ∈ L, ok x) → rIts r L.length (some (L.flatMap c ++ t)) = (L, some t)
  | [], t, _ => rfl
  | x :: L, t, hL => by
    rw [List.flatMap_cons, List.append_assoc, List.length_cons, rIts, h.enc x _ (hL x (List.mem_cons_self ..))]
    simp only
    rw [rIts_enc h L t fun y hy => hL y (List.mem_cons_of_mem _ hy)]
theorem rIts_only {T : Type} {r : Option (List UInt8) → T × Option (List UInt8)} {c : T → List UInt8} {ok : T → Prop} (h : Cod r c ok) : ∀ (n : Nat) (l t : List UInt8) (L : List T), rIts r n (some l) = (L, some t) → L.length = n ∧ (∀ x ∈ L, ok x) ∧ l = L.flatMap c ++ t
  | 0, l, t, L, e => by
    simp only [rIts, Prod.mk.injEq, Option.some.injEq] at e
    obtain ⟨rfl, rfl⟩ := e
    exact ⟨rfl, by simp, rfl⟩
  | n + 1, l, t, L, e => by
    rw [rIts] at e
    cases ha : r (some l) with
    | mk a s1 =>
    rw [ha] at e
    simp only [Prod.mk.injEq] at e
    obtain ⟨rfl, e2⟩ := e
    cases s1 with
    | none => rw [rIts_none] at e2; cases e2
    | some m =>
      obtain ⟨p1, rfl⟩ := h.only _ _ _ ha
      obtain ⟨q1, q2, q3⟩ := rIts_only h n m t _ (Prod.ext rfl e2)
      refine ⟨by rw [List.length_cons, q1], fun x hx => ?_, ?_⟩
      · rcases List.mem_cons.mp hx with rfl | hx
        · exact p1
        · exact q2 x hx
      · rw [List.flatMap_cons, List.append_assoc, ← q3]
def cL {T : Type} (c : T → List UInt8) (L : List T) : List UInt8 := encC (L.length : Int) ++ L.flatMap c
theorem cnt_only {most : Int} {l t : List UInt8} {n : Int} (h : rCount most (some l) = (n, some t)) : 0 ≤ n ∧ n ≤ 2147483647 ∧ n ≤ most ∧ l = encC n ++ t := by
  unfold rCount at h
  rw [Option.bind_some] at h
  cases hr : rd l with
  | none => rw [hr] at h; simp at h
  | some p =>
    obtain ⟨u, t'⟩ := p
    rw [hr] at h
    simp only at h
    split at h
    · simp only [Prod.mk.injEq, Option.some.injEq] at h
      obtain ⟨rfl, rfl⟩ := h
      have := (rd_ok hr).2
      exact ⟨by omega, by omega, by omega, by unfold encC; rw [if_pos (by omega)]; simpa using this⟩
    · simp at h
theorem str_only {most : Int} {l t : List UInt8} {s : ByteArray} (h : rStr most (some l) = (s, some t)) : (s.size : Int) ≤ 2147483647 ∧ (s.size : Int) ≤ most ∧ l = encS s ++ t := by
  unfold rStr at h
  cases hc : rCount most (some l) with
  | mk n st =>
    rw [hc] at h
    cases st with
    | none => simp at h
    | some t' =>
      obtain ⟨h1, h2, h3, h4⟩ := cnt_only hc
      simp only at h
      split at h
      · rename_i hn
        simp only [Prod.mk.injEq, Option.some.injEq] at h
        obtain ⟨rfl, rfl⟩ := h
        have hsz : (⟨(t'.take n.toNat).toArray⟩ : ByteArray).size = n.toNat := by
          show (t'.take n.toNat).toArray.size = _
          simp; omega
        refine ⟨by omega, by omega, ?_⟩
        unfold encS
        unfold encC at h4
        rw [if_pos (by omega)] at h4
        rw [hsz, if_pos (by omega), List.append_assoc, h4]
        simp
      · simp at h
theorem Cod.list {T : Type} {r : Option (List UInt8) → T × Option (List UInt8)} {c : T → List UInt8} {ok : T → Prop} (h : Cod r c ok) : Cod (rL r) (cL c) (fun L => L.length ≤ 8192 ∧ ∀ x ∈ L, ok x) where
  enc := fun L t hL => by
    unfold rL cL
    rw [List.append_assoc, rCount_enc 8192 _ (by omega) (by omega) (by omega)]
    simp only [Int.toNat_natCast]
    exact rIts_enc h L t hL.2
  only := fun l t L e => by
    unfold rL at e
    cases ha : rCount 8192 (some l) with
    | mk a s1 =>
    rw [ha] at e
    cases s1 with
    | none => rw [rIts_none] at e; cases e
    | some m =>
      obtain ⟨p0, p1, p2, rfl⟩ := cnt_only ha
      obtain ⟨q1, q2, rfl⟩ := rIts_only h _ m t L e
      refine ⟨⟨by omega, q2⟩, ?_⟩
      unfold cL
      rw [List.append_assoc, q1, Int.toNat_of_nonneg p0]
  none := by
    show (rIts r _ Option.none).2 = _
    rw [rIts_none]
def rK (st : Option (List UInt8)) : Int × Option (List UInt8) := rCount 255 st
def rS (st : Option (List UInt8)) : ByteArray × Option (List UInt8) := rStr 8192 st
def rF (st : Option (List UInt8)) : Bool × Option (List UInt8) := ((rCount 1 st).1 == 1, (rCount 1 st).2)
theorem cod_K : Cod rK encC u8ok where
  enc := fun x t h => rCount_enc 255 x h.1 (by have := h.2; omega) h.2 t
  only := fun l t x h => by
    obtain ⟨h0, h1, h2, rfl⟩ := cnt_only h
    exact ⟨⟨h0, h2⟩, rfl⟩
  none := rfl
theorem cod_N : Cod rNum cNum i64ok where
  enc := fun x t h => rNum_enc x h t
  only := fun l t x h => by
    unfold rNum at h
    rw [Option.bind_some] at h
    cases hr : rd l with
    | none => rw [hr] at h; simp at h
    | some p =>
      obtain ⟨u, t'⟩ := p
      rw [hr] at h
      simp only [Prod.mk.injEq, Option.some.injEq] at h
      obtain ⟨rfl, rfl⟩ := h
      obtain ⟨hu, rfl⟩ := rd_ok hr
      refine ⟨?_, by unfold cNum; rw [zz_unzz]⟩
      unfold i64ok unzz
      split <;> omega
  none := rfl
theorem cod_S0 : Cod rS encS (fun s => s.size ≤ 8192) where
  enc := fun x t h => rStr_enc 8192 x (by omega) (by omega) t
  only := fun l t x h => by
    obtain ⟨h1, h2, rfl⟩ := str_only h
    exact ⟨by omega, rfl⟩
  none := rfl
theorem cod_S : Cod rS encT (fun s => s.size ≤ 8192) where
  enc := fun x t h => by rw [encT_eq (by omega)]; exact cod_S0.enc x t h
  only := fun l t x h => by
    obtain ⟨h1, h2⟩ := cod_S0.only l t x h
    exact ⟨h1, by rw [encT_eq (by omega)]; exact h2⟩
  none := rfl
theorem cod_F : Cod rF cFlag (fun _ => True) where
  enc := fun x t _ => by
    have : cFlag x = encC (if x then 1 else 0) := by cases x <;> rfl
    rw [this]
    unfold rF
    rw [rCount_enc 1 _ (by split <;> omega) (by split <;> omega) (by split <;> omega)]
    cases x <;> rfl
  only := fun l t x h => by
    unfold rF at h
    cases ha : rCount 1 (some l) with
    | mk a s1 =>
    rw [ha] at h
    simp only [Prod.mk.injEq] at h
    obtain ⟨rfl, rfl⟩ := h
    obtain ⟨h0, h1, h2, rfl⟩ := cnt_only ha
    refine ⟨trivial, ?_⟩
    have : a = 0 ∨ a = 1 := by omega
    rcases this with rfl | rfl <;> rfl
  none := rfl
def rEn := rPair rNum (rPair rK (rPair rS (rL rNum)))
def rPr := rPair rS rS
def rLs := rPair rNum (rPair rNum (rPair rK (rPair rF rS)))
def okE (x : En) : Prop := i64ok x.1 ∧ u8ok x.2.1 ∧ x.2.2.1.size ≤ 8192 ∧ x.2.2.2.length ≤ 8192 ∧ ∀ n ∈ x.2.2.2, i64ok n
def okP (x : Pr) : Prop := x.1.size ≤ 8192 ∧ x.2.size ≤ 8192
def okQ (x : Ls) : Prop := i64ok x.1 ∧ i64ok x.2.1 ∧ u8ok x.2.2.1 ∧ True ∧ x.2.2.2.2.size ≤ 8192
theorem Cod.eqc {T : Type} {r : Option (List UInt8) → T × Option (List UInt8)} {c c' : T → List UInt8} {o : T → Prop} (h : Cod r c o) (e : ∀ x, c x = c' x) : Cod r c' o := by
  have : c = c' := funext e
  subst this
  exact h
theorem cod_E : Cod rEn cEn okE := (cod_N.pair (cod_K.pair (cod_S.pair cod_N.list))).eqc fun x => by unfold cEn cInts cL; simp only [List.append_assoc]
theorem cod_P : Cod rPr cPr okP := cod_S.pair cod_S
theorem cod_Q : Cod rLs cLs okQ := (cod_N.pair (cod_N.pair (cod_K.pair (cod_F.pair cod_S)))).eqc fun x => by unfold cLs cRes; simp only [List.append_assoc]
end Go.Proofs.Ytodcdfelbphajaa
