import Derived.Test.YthhegdghcnhkbaaRouteC
namespace Go.Proofs.Ythhegdghcnhkbaa
open Go.RowKit
set_option maxRecDepth 100000

theorem Owner_nil (shard : Int) (w : World) : Calls Try.prog 12 #[.pointer none, .int .i64 shard] w fun e w' =>
    e = .returned (.tuple #[.int .i64 0, .int .i64 0]) ∧ Ext [] w w' := by
  refine sh_route_Route_Owner_ok _ _ _ _ ?_
  unfold sh_route_Route_Owner
  refine VNN.n _ (by simp) _ ⟨0, 0, none⟩ ?_
  refine ⟨⟨none, 0, 0⟩, fun e => absurd e (by simp), ?_⟩
  exact VIf.t (by simp) ⟨rfl, Ext.refl _ _⟩
theorem Turn_nil (w : World) : Calls Try.prog 13 #[.pointer none] w fun e w' => e = .returned (.int .i64 0) ∧ Ext [] w w' := by
  refine sh_route_Route_Turn_ok _ _ _ ?_
  unfold sh_route_Route_Turn
  exact VIf.t rfl ⟨rfl, Ext.refl _ _⟩
theorem Copy_nil (w : World) : Calls Try.prog 16 #[.pointer none] w fun e w' => e = .returned (.pointer none) ∧ Ext [] w w' := by
  refine sh_route_Route_Copy_ok _ _ _ ?_
  unfold sh_route_Route_Copy
  exact VIf.t rfl ⟨rfl, Ext.refl _ _⟩
theorem Learn_nil (shard epoch owner : Int) (w : World) : Calls Try.prog 10 #[.pointer none, .int .i64 shard, .int .i64 epoch, .int .i64 owner] w fun e w' =>
    e = .returned (.bool false) ∧ Ext [] w w' := by
  refine sh_route_Route_Learn_ok _ _ _ _ _ _ ?_
  unfold sh_route_Route_Learn
  refine VNN.n _ (by simp) _ ⟨0, 0, none⟩ ?_
  refine ⟨⟨none, 0, 0⟩, fun e => absurd e (by simp), ?_⟩
  refine VNN.n _ (by simp) _ ⟨0, 0, none⟩ ?_
  refine ⟨0, fun e => absurd e (by simp), ?_⟩
  exact VIf.t (by simp) ⟨rfl, Ext.refl _ _⟩

theorem RouteSetups_law (s0 s1 s2 s3 s4 s5 s6 s7 s8 s9 s10 s11 s12 : Int) (w : World) :
    Calls Try.prog 5 #[.agg #[.int .i64 s0, .int .i64 s1, .int .i64 s2, .int .i64 s3, .int .i64 s4, .int .i64 s5, .int .i64 s6, .int .i64 s7, .int .i64 s8, .int .i64 s9, .int .i64 s10, .int .i64 s11, .int .i64 s12]] w fun e w' =>
      e = .returned (.bool true) ∧ Ext [] w w' := by
  refine sh_butterylaw25_RouteSetups_ok _ _ _ _ _ _ _ _ _ _ _ _ _ _ _ ?_
  unfold sh_butterylaw25_RouteSetups
  refine VNw.i fun b w1 hb hk e1 => ?_
  intro w2 hw2
  have e2 := Ext.drew' hw2
  have hk2 := hk.ext e2
  refine ⟨s0, s1, s2, s3, s4, s5, s6, s7, s8, s9, s10, s11, s12, gd.i (Rd.of_bk hk2 rfl), ?_⟩
  refine ⟨s0, s1, s2, s3, s4, s5, s6, s7, s8, s9, s10, s11, s12, gd.i (Rd.of_bk hk2 rfl), ?_⟩
  refine VCall.i (May_spec _ _ _ _ _ _ _ _ _ _ _ _ _ _) ?_
  rintro e w3 ⟨rfl, e3⟩
  refine exW.i1 _ rfl ?_
  refine ⟨Rd.of_bk (hk2.ext e3) rfl, ?_⟩
  refine VCall.i (XMay_spec _ _ _ _ _ _ _ _ _ _ _ _ _ _) ?_
  rintro e w4 ⟨rfl, e4⟩
  refine exW.i1 _ rfl ?_
  refine VCall.on (by simp) (VCall.i (works_spec _) ?_)
  rintro e w5 ⟨rfl, e5⟩
  refine exW.i1 _ rfl ?_
  exact ⟨by simp, (((e1.then0 e2).then0 e3).then0 e4).then0 e5⟩

theorem RouteNames_law (w : World) : Calls Try.prog 6 #[] w fun e w' => e = .returned (.bool true) ∧ Ext [] w w' := by
  refine sh_butterylaw25_RouteNames_ok _ _ ?_
  unfold sh_butterylaw25_RouteNames
  refine VCall.i (works_spec _) ?_
  rintro e w1 ⟨rfl, e1⟩
  refine exW.i1 _ rfl (VIf.f rfl ?_)
  refine VCall.i (New_bad 0 1 w1 (by omega)) ?_
  rintro e w2 ⟨rfl, rfl⟩
  refine exW.i2 _ _ rfl (VSet.i ?_)
  refine VCall.i (New_bad 5 1 _ (by omega)) ?_
  rintro e w2 ⟨rfl, rfl⟩
  refine exW.i2 _ _ rfl (VSet.i ?_)
  refine VCall.i (New_bad 1 0 _ (by omega)) ?_
  rintro e w2 ⟨rfl, rfl⟩
  refine exW.i2 _ _ rfl (VSet.i ?_)
  refine VCall.i (New_bad 1 6 _ (by omega)) ?_
  rintro e w2 ⟨rfl, rfl⟩
  refine exW.i2 _ _ rfl (VSet.i ?_)
  refine VCall.i (New_good 4 5 _ (by omega)) ?_
  rintro e w3 ⟨a, lb, rfl, h3, e3, ha, hlb⟩
  refine exW.i2 _ _ rfl (VSet.i ?_)
  have hs := e1.size
  have hn : ∀ {W W' : World}, Ext [] w W → Ext [lb] W W' → Ext [] w W' := fun x y => x.then y fun i hi hlt => by simp at hi; omega
  have e3 := e1.then0 e3
  refine VCall.i (Owner_nil 0 _) ?_
  rintro e w4 ⟨rfl, e4⟩
  refine exW.i2 _ _ rfl (VSet.i (VSet.i ?_))
  have h4 := h3.ext e4 (by simp) (by simp)
  have e4 := e3.then0 e4
  refine VCall.i (Owner_spec a lb _ _ _ 4 _ h4) ?_
  rintro e w5 ⟨rfl, e5⟩
  refine exW.i2 _ _ rfl (VSet.i (VSet.i ?_))
  have h5 := h4.ext e5 (by simp) (by simp)
  have e5 := e4.then0 e5
  refine VCall.on rfl (VCall.i (Turn_nil _) ?_)
  rintro e w6 ⟨rfl, e6⟩
  refine exW.i1 _ rfl ?_
  have h6 := h5.ext e6 (by simp) (by simp)
  have e6 := e5.then0 e6
  refine VCall.on rfl (VCall.i (Copy_nil _) ?_)
  rintro e w7 ⟨rfl, e7⟩
  refine exW.i1 (t := .ptr) none rfl ?_
  have h7 := h6.ext e7 (by simp) (by simp)
  have e7 := e6.then0 e7
  refine VCall.on rfl (VCall.i (Learn_nil _ _ _ _) ?_)
  rintro e w8 ⟨rfl, e8⟩
  refine exW.i1 _ rfl ?_
  have h8 := h7.ext e8 (by simp) (by simp)
  have e8 := e7.then0 e8
  clear h3 h4 h5 h6 h7 e1 e3 e4 e5 e6 e7
  iterate 9
    refine VCall.on rfl (VCall.i (Learn_spec _ _ _ _ _ _ _ _ _ h8) ?_)
    clear h8
    rintro e w9 ⟨rfl, h8, e9⟩
    refine exW.i1 _ rfl ?_
    have e8 := hn e8 e9
    clear e9
  exact ⟨rfl, e8⟩
end Go.Proofs.Ythhegdghcnhkbaa
