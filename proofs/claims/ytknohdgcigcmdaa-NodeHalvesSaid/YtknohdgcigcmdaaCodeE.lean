/-
  Package code, outright: CodeBack, CodeOnly, CodeNames.
-/
import Derived.Test.YtknohdgcigcmdaaCodeD
namespace Go.Proofs.Ytknohdgcigcmdaa
open Go.RowKit
set_option maxRecDepth 100000

/-! what is read of the beginning is read of the whole -/
theorem rd_more {l t : List UInt8} {u : Nat} (h : rd l = some (u, t)) (x : List UInt8) : rd (l ++ x) = some (u, t ++ x) := by
  obtain ⟨hu, rfl⟩ := rd_ok h
  rw [List.append_assoc, rd_enc u hu]
theorem rNum_more {l t : List UInt8} {v : Int} (h : rNum (some l) = (v, some t)) (x : List UInt8) : rNum (some (l ++ x)) = (v, some (t ++ x)) := by
  unfold rNum at h ⊢
  rw [Option.bind_some] at h ⊢
  cases hr : rd l with
  | none => rw [hr] at h; simp at h
  | some p =>
    obtain ⟨u, t'⟩ := p
    rw [hr] at h
    rw [rd_more hr]
    simp only [Prod.mk.injEq, Option.some.injEq] at h ⊢
    exact ⟨h.1, by rw [h.2]⟩
theorem rCount_more {most : Int} {l t : List UInt8} {v : Int} (h : rCount most (some l) = (v, some t)) (x : List UInt8) : rCount most (some (l ++ x)) = (v, some (t ++ x)) := by
  unfold rCount at h ⊢
  rw [Option.bind_some] at h ⊢
  cases hr : rd l with
  | none => rw [hr] at h; simp at h
  | some p =>
    obtain ⟨u, t'⟩ := p
    rw [hr] at h
    rw [rd_more hr]
    simp only at h ⊢
    split at h
    · rename_i hc
      rw [if_pos hc]
      simp only [Prod.mk.injEq, Option.some.injEq] at h ⊢
      exact ⟨h.1, by rw [h.2]⟩
    · simp at h
theorem rStr_more {most : Int} {l t : List UInt8} {v : ByteArray} (h : rStr most (some l) = (v, some t)) (x : List UInt8) : rStr most (some (l ++ x)) = (v, some (t ++ x)) := by
  unfold rStr at h ⊢
  have hp := rCount_pos most (some l)
  cases hc : rCount most (some l) with
  | mk n st =>
    rw [hc] at h hp
    cases st with
    | none => simp at h
    | some t' =>
      rw [rCount_more hc]
      simp only at h hp ⊢
      split at h
      · rename_i hn
        rw [if_pos (by rw [List.length_append]; omega)]
        simp only [Prod.mk.injEq, Option.some.injEq] at h ⊢
        rw [List.take_append_of_le_length (by omega), List.drop_append_of_le_length (by omega)]
        exact ⟨h.1, by rw [h.2]⟩
      · simp at h
theorem rNum_none : rNum none = (0, none) := rfl
theorem rCount_none (most : Int) : rCount most none = (0, none) := rfl
theorem rStr_none (most : Int) : rStr most none = (⟨#[]⟩, none) := rfl

theorem b31 (x : Int) : bAnd .i64 x 2147483647 = x % 2147483648 := bAnd_mask x 31 (by omega)

/-! CodeOnly -/
theorem rDone_iff {st : Option (List UInt8)} (h : rDone st = true) : st = some [] := by
  unfold rDone at h
  split at h
  · rfl
  · cases h
theorem only_num {l : List UInt8} (h : rDone (rNum (some l)).2 = true) : enc (zz (rNum (some l)).1) = l := by
  have h := rDone_iff h
  unfold rNum at h ⊢
  rw [Option.bind_some] at h ⊢
  cases hr : rd l with
  | none => rw [hr] at h; simp at h
  | some p =>
    obtain ⟨u, t⟩ := p
    rw [hr] at h
    simp only [Option.some.injEq] at h ⊢
    rw [zz_unzz, (rd_ok hr).2, h, List.append_nil]
theorem only_count {most : Int} {l t : List UInt8} {n : Int} (h : rCount most (some l) = (n, some t)) : 0 ≤ n ∧ n ≤ 2147483647 ∧ n ≤ most ∧ l = enc n.toNat ++ t := by
  unfold rCount at h
  rw [Option.bind_some] at h
  cases hr : rd l with
  | none => rw [hr] at h; simp at h
  | some p =>
    obtain ⟨u, t'⟩ := p
    rw [hr] at h
    simp only at h
    split at h
    · simp only [Prod.mk.injEq, Option.some.injEq] at h
      obtain ⟨rfl, rfl⟩ := h
      have := (rd_ok hr).2
      exact ⟨by omega, by omega, by omega, by simpa using this⟩
    · simp at h
theorem only_str {most : Int} {l t : List UInt8} {s : ByteArray} (h : rStr most (some l) = (s, some t)) : (s.size : Int) ≤ 2147483647 ∧ (s.size : Int) ≤ most ∧ l = encS s ++ t := by
  unfold rStr at h
  cases hc : rCount most (some l) with
  | mk n st =>
    rw [hc] at h
    cases st with
    | none => simp at h
    | some t' =>
      obtain ⟨h1, h2, h3, h4⟩ := only_count hc
      simp only at h
      split at h
      · rename_i hn
        simp only [Prod.mk.injEq, Option.some.injEq] at h
        obtain ⟨rfl, rfl⟩ := h
        have hsz : (⟨(t'.take n.toNat).toArray⟩ : ByteArray).size = n.toNat := by
          show (t'.take n.toNat).toArray.size = _
          simp; omega
        refine ⟨by omega, by omega, ?_⟩
        unfold encS
        rw [hsz, if_pos (by omega), List.append_assoc, h4]
        simp
      · simp at h

theorem onlyOff {c : Bool} {sb s' : ByteArray} (hs : c = true → s'.data.toList = sb.data.toList) : (c && (!(s'.toList == sb.toList))) = false := by
  cases c with
  | false => rfl
  | true => rw [strEq, hs rfl]; simp
theorem onlyStep {c : Bool} {P : Program} {f : FuncId} {args : Array Value} {w : World} {base : Option Addr} {len : Nat} {l x : List UInt8} {K : ByteArray → ByteArray → World → Prop}
    (hb : Seg w base len 1 (bc l)) (hc : c = true → Calls P f args w fun e w' => ∃ s' : Sl, e = .returned (.slice s'.base s'.len s'.cap) ∧ Own w w' s' x ∧ Ext [] w w') (he : c = true → x = l)
    (k : ∀ w' (sb s' : ByteArray), Ext [] w w' → (c = true → s'.data.toList = sb.data.toList) → K sb s' w') :
    VStr (some c) w base len fun (sb : ByteArray) => VCall (some c) P f args w (.slice none 0 0) fun (r : Sl) (w6 : World) =>
      (c = true → Seg w6 base len 1 (strCells sb)) ∧ VStr (some c) w6 r.base r.len fun (s' : ByteArray) => K sb s' w6 := by
  cases c with
  | false =>
    refine VStr.off rfl fun sb => VCall.off rfl (exW.i1 (t := .sl) ⟨none, 0, 0⟩ trivial ⟨fun h => (Bool.noConfusion h), VStr.off rfl fun s' => k w sb s' (Ext.refl _ _) (fun h => (Bool.noConfusion h))⟩)
  | true =>
    refine VStr.i l hb fun sb hsb => VCall.on rfl (VCall.i (hc rfl) ?_)
    rintro e w' ⟨s', rfl, h', e'⟩
    refine exW.i1 (t := .sl) s' rfl ⟨fun _ => ?_, VStr.i x h'.seg fun s2 hs2 => k w' sb s2 e' (fun _ => by rw [hs2, hsb, he rfl])⟩
    rw [bc_str, hsb]
    exact hb.ext0 e'

/-! CodeNames -/
def bad (l : List UInt8) (kind most : Int) : Option (List UInt8) :=
  if kind = 0 then (rNum (some l)).2 else if kind = 1 then (rCount most (some l)).2 else if kind = 2 then (rStr most (some l)).2 else (rCount 1 (some l)).2

end Go.Proofs.Ytknohdgcigcmdaa
