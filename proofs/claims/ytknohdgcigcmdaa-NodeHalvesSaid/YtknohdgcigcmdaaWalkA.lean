/-
  Steps that a printed walk uses.
-/
import Derived.Test.YtknohdgcigcmdaaRecO
namespace Go.Proofs.Ytknohdgcigcmdaa
open Go.RowKit

theorem VSet.eq {n m : Int} {K : Int → Prop} (h : n = m) (k : K m) : VSet n K := h ▸ VSet.i k
theorem VLd.s' {g : Option Bool} {w : World} {a : Addr} {K : ArrP [CT.sl]} (s : Sl) (h : Rd w a [.slice s.base s.len s.cap]) (k : K s) : VLd g w a [CT.sl] K := ⟨s, gd.i h, k⟩
/-- the i-th record of a slice that can be read -/
theorem VIx.rd {α : Type} {r : Rec α} {g : Option Bool} {w : World} {base : Option Addr} {n j : Nat} {L : List α} {K : Addr → Prop} (h : Seg w base n r.k (r.cells L)) (hi : j < L.length) (k : ∀ a, Rd w (a.add (j * r.k)) (r.f L[j]) → K a) : VIx g base n (j : Int) K := by
  obtain ⟨a, ha, hrd⟩ := h.rec_at hi
  have := h.rlen
  subst ha
  exact VIx.i (by omega) (by omega) (k a hrd)
/-- where nothing older was changed -/
theorem Ext.newer {M : List Nat} {w w' : World} (h : Ext M w w') (hm : ∀ b ∈ M, w.heap.size ≤ b) : Ext [] w w' := h.mono fun k hk hlt => absurd hlt (Nat.not_lt.2 (hm k hk))
/-- a call that changes nothing old: its guard does not matter -/
theorem VCall.opt {g : Option Bool} {P : Program} {f : FuncId} {args : Array Value} {w : World} {z v : Value} {K : ArrW (flatCT z)} (h : Calls P f args w fun e w' => e = .returned v ∧ Ext [] w w') (k : ∀ w', Ext [] w w' → exW (flatCT z) (fun vs => v = rebuild z vs) K w') : VCall g P f args w z K := by
  cases g with
  | none =>
    refine h.mono fun e w' ⟨he, hw⟩ => ?_
    subst he
    exact exW.weaken (fun l hl => by rw [hl]) (k w' hw)
  | some c =>
    refine ⟨fun _ => h.mono fun e w' ⟨he, hw⟩ => ?_, fun _ => exW.weaken (fun _ _ => trivial) (k w (Ext.refl _ _))⟩
    subst he
    exact exW.weaken (fun l hl => by rw [hl]) (k w' hw)
end Go.Proofs.Ytknohdgcigcmdaa
