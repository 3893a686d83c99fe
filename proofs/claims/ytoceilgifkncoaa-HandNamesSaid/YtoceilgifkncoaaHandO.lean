/-
  Package hand: the law of names.
-/
import Derived.Test.YtoceilgifkncoaaHandN
namespace Go.Proofs.Ytoceilgifkncoaa
open Go.RowKit
set_option maxRecDepth 100000

/-- some lasts are cut: how many parts -/
theorem Cut_len {w0 W : World} {b n : Nat} {Q : List Ls} {N : Nat} (hk : Bk W b (lsR.cells Q) 68) (hn : Q.length = n) (hQ : n ≤ 300) (hN : (cutI [] Q).length = N) {K : Sl → World → Prop} (k : ∀ s w', s.len = N → Ext [] W w' → K s w') :
    VCall none Try.prog 11 #[.slice none 0 0, .slice (some ⟨b, 0, none⟩) n n] W (.slice none 0 0) K := by
  refine VCall.i (Cut_spec ⟨none, 0, 0⟩ ⟨some ⟨b, 0, none⟩, n, n⟩ [] Q W (InR.nil W) ⟨Seg.of_bk hk (by rw [List.drop_zero, List.take_length]) (by rw [Rec.cells_len, hn]), by simp; omega⟩ (by simp; omega)) ?_
  rintro e w' ⟨s, X, rfl, hX, hp, _, e'⟩
  refine exW.i1 (t := .sl) s rfl (k s w' ?_ e')
  rw [hX.len, ← hN, ← hp]; simp [pts]
theorem Due_nil (n : Int) (w : World) : Calls Try.prog 17 #[.pointer none, .int .i64 n] w fun e w' => e = .returned (.tuple #[.int .i64 0, ptv (⟨none, 0, 0⟩, ⟨none, 0, 0⟩, false), .bool false]) ∧ Ext [] w w' := by
  refine sh_hand_Sender_Due_ok _ _ _ _ ?_
  unfold sh_hand_Sender_Due
  refine VNw.i fun b5 w1 hb5 hk5 e1 => ?_
  intro w2 hw2
  have ed := Ext.drew' hw2
  have e2 := e1.then0 ed
  have hk5 := hk5.ext ed
  refine VNN.n _ rfl _ ⟨0, 0, none⟩ ⟨(0 : Int), fun e => absurd e (by simp), ?_⟩
  refine VNN.n _ rfl _ ⟨0, 0, none⟩ ⟨(⟨none, 0, 0⟩ : Sl), fun e => absurd e (by simp), ?_⟩
  refine VNN.n _ rfl _ ⟨0, 0, none⟩ ⟨(false : Bool), fun e => absurd e (by simp), ?_⟩
  refine VNN.n _ rfl _ ⟨0, 0, none⟩ ⟨(0 : Int), fun e => absurd e (by simp), ?_⟩
  refine VNN.n _ rfl _ ⟨0, 0, none⟩ ⟨(0 : Int), fun e => absurd e (by simp), ?_⟩
  refine VNN.n _ rfl _ ⟨0, 0, none⟩ ⟨(0 : Int), fun e => absurd e (by simp), ?_⟩
  refine VIf.t rfl (VSt.bk hk5 rfl (by simp) fun w3 hk3 e3 => ?_)
  exact ⟨(⟨none, 0, 0⟩ : Sl), (⟨none, 0, 0⟩ : Sl), (false : Bool), gd.i (Rd.of_bk hk3 rfl), rfl, e2.then e3 (fun i hi hlt => by simp at hi; omega)⟩
end Go.Proofs.Ytoceilgifkncoaa
