/-
  Package hand: how a shard is cut.
-/
import Derived.Test.YtoceilgifkncoaaHandC
namespace Go.Proofs.Ytoceilgifkncoaa
open Go.RowKit
set_option maxRecDepth 100000

def szP (x : Pr) : Int := IntKind.wrap .i64 ((IntKind.wrap .i64 (((x.1.size : Nat) : Int) + ((x.2.size : Nat) : Int))) + 8)
def szQ (x : Ls) : Int := IntKind.wrap .i64 (((x.2.2.2.2.size : Nat) : Int) + 32)
structure Cu where
  L : List Pt
  size : Int
  many : Int
def Cu.full (c : Cu) (n : Int) : Prop := c.many = 4 ∨ (0 < c.many ∧ 4000 < IntKind.wrap .i64 (c.size + n))
instance (c : Cu) (n : Int) : Decidable (c.full n) := by unfold Cu.full; infer_instance
def ptE : Pt := ⟨[], [], false⟩
/-- room for one of that size -/
def Cu.room (c : Cu) (n : Int) : Cu := if c.full n then ⟨c.L ++ [ptE], 0, 0⟩ else c
def addLast (L : List Pt) (f : Pt → Pt) : List Pt := L.set (L.length - 1) (f (L.getD (L.length - 1) ptE))
def Pt.putP (x : Pr) (p : Pt) : Pt := { p with P := p.P ++ [x] }
def Pt.putQ (x : Ls) (p : Pt) : Pt := { p with Q := p.Q ++ [x] }
def Cu.add (c : Cu) (n : Int) (f : Pt → Pt) : Cu := ⟨addLast (c.room n).L f, IntKind.wrap .i64 ((c.room n).size + n), (c.room n).many + 1⟩
def Cu.addP (c : Cu) (x : Pr) : Cu := c.add (szP x) (Pt.putP x)
def Cu.addQ (c : Cu) (x : Ls) : Cu := c.add (szQ x) (Pt.putQ x)
def cutL (P : List Pr) (Q : List Ls) : Cu := Q.foldl Cu.addQ (P.foldl Cu.addP ⟨[ptE], 0, 0⟩)
def Pt.end_ (p : Pt) : Pt := { p with last := true }
def cutI (P : List Pr) (Q : List Ls) : List Pt := addLast (cutL P Q).L Pt.end_

theorem sizeP_spec (x : Pr) (w : World) : Calls Try.prog 30 #[.agg #[.string x.1, .string x.2]] w fun e w' => e = .returned (.int .i64 (szP x)) ∧ Ext [] w w' := by
  refine sh_hand_Cut_1_ok _ _ _ _ ?_
  unfold sh_hand_Cut_1
  refine VNw.i fun b1 w1 hb1 hk1 e1 => ?_
  exact VLd.i1 (t := .str) _ (Rd.of_bk hk1 rfl) (VLd.i1 (t := .str) _ (Rd.of_bk hk1 rfl) (VSet.i ⟨rfl, e1⟩))
theorem sizeQ_spec (x : Ls) (w : World) : Calls Try.prog 33 #[.agg #[.int .i64 x.1, .int .i64 x.2.1, .int .u8 x.2.2.1, .bool x.2.2.2.1, .string x.2.2.2.2]] w fun e w' => e = .returned (.int .i64 (szQ x)) ∧ Ext [] w w' := by
  refine sh_hand_Cut_3_ok _ _ _ _ _ _ _ ?_
  unfold sh_hand_Cut_3
  refine VNw.i fun b1 w1 hb1 hk1 e1 => ?_
  exact VLd.i1 (t := .str) _ (Rd.of_bk hk1 rfl) (VSet.i ⟨rfl, e1⟩)

/-- a row's element, by its address -/
theorem Row.cell {α : Type} {r : Rec α} {w : World} {e : TypeId} {s : Sl} {L : List α} {i : Nat} (h : Row w e r.k s (r.cells L)) (hi : i < L.length) : ∃ b, s.base = some ⟨b, 0, none⟩ ∧ rowB s = [b] := by
  have hlen := h.seg.rlen
  obtain ⟨_, _, _, h4⟩ := h
  rcases h4 with ⟨_, h6⟩ | ⟨b, rest, hb, hk, _⟩
  · omega
  · exact ⟨b, hb, by simp [rowB, hb]⟩
theorem VSt.put {α : Type} {r : Rec α} {W : World} {e : TypeId} {s : Sl} {L : List α} {a0 : Addr} {i j : Nat} {vs : List Value} {x : α} {K : World → Prop} (hb : s.base = some a0) (h : Row W e r.k s (r.cells L)) (hi : i < L.length) (hj : j + vs.length ≤ r.k) (h1 : vs.all Value.oneCell' = true)
    (hx : (r.f (L[i])).take j ++ vs ++ (r.f (L[i])).drop (j + vs.length) = r.f x) {a : Addr} (ha : a = (a0.add (i * r.k)).add j)
    (k : ∀ W', Row W' e r.k s (r.cells (L.set i x)) → Ext (rowB s) W W' → K W') : VSt none W a vs K := by
  subst ha
  have h' := Row.putR (g := none) (s := s) (ad := fun a => (a.add (i * r.k)).add j) h hi hj h1 hx (fun _ => rfl) k
  obtain ⟨a', ha', h''⟩ := h'
  rw [hb] at ha'
  have : a' = a0 := by
    have := ha'.1
    cases this; rfl
  subst this
  exact h''
end Go.Proofs.Ytoceilgifkncoaa
