/-
  Package config: the first example; the law of one place.
-/
import Derived.Test.YtfihhleaciddpaaConfB
namespace Go.Proofs.Ytfihhleaciddpaa
open Go.RowKit
set_option maxRecDepth 100000

theorem Do_out {w0 w : World} {q : Nat} {s d : Sl} {c : CM} (x : Cmd) (h : CfgO 52 w0 w q s d c) (e0 : Ext [] w0 w) :
    Calls Try.prog 10 #[.pointer (some ⟨q, 0, none⟩), cmV x] w fun e w' => e = .returned (.bool (c.act x).isSome) ∧ CfgO 52 w0 w' q s d (c.next x) ∧ Ext (fpc q s d) w w' ∧ Ext [] w0 w' :=
  (Do_spec w0 w q s d c x h).mono fun e w' ⟨h1, h2, h3⟩ => ⟨h1, h2, h3, e0.then h3 (fun i hi hlt => by have := h.ges i hi; omega)⟩
theorem New_ok {a b : Int} (h : 1 ≤ a ∧ a ≤ 4 ∧ 1 ≤ b ∧ b ≤ 5) (w : World) : Calls Try.prog 8 #[.int .i64 a, .int .i64 b] w fun e w' =>
    ∃ q s d, e = .returned (.tuple #[.pointer (some ⟨q, 0, none⟩), .int .i64 0]) ∧ CfgO 52 w w' q s d ⟨List.replicate a.toNat (0, 0, 0), List.replicate b.toNat false⟩ ∧ Ext [] w w' := by
  refine (New_spec a b w).mono fun e w' he => ?_
  rcases he with ⟨hn, _⟩ | ⟨_, h'⟩
  · exact absurd h hn
  · exact h'
def k0 : CM := ⟨List.replicate 2 (0, 0, 0), List.replicate 3 false⟩
def x1 : Cmd := ⟨2, 0, 2, 0⟩
def x2 : Cmd := ⟨1, 0, 1, 0⟩
def x3 : Cmd := ⟨2, 0, 2, 1⟩
def x4 : Cmd := ⟨3, 0, 2, 2⟩
theorem f1 : (k0.act x1).isSome = false := by decide
theorem f2 : ((k0.next x1).act x2).isSome = true := by decide
theorem f3 : (((k0.next x1).next x2).act x2).isSome = false := by decide
theorem f4 : ((((k0.next x1).next x2).next x2).act x3).isSome = true := by decide
def k4 : CM := (((k0.next x1).next x2).next x2).next x3
theorem f5 : (k4.act x4).isSome = true := by decide
theorem g4 : k4.P = [(2, 1, 2), (0, 0, 0)] := by decide
theorem g5 : (k4.next x4).P = [(3, 2, 0), (0, 0, 0)] := by decide
theorem works_spec (w : World) : Calls Try.prog 7 #[] w (good w) := by
  refine sh_butterylaw17_works_ok _ _ ?_
  unfold sh_butterylaw17_works
  refine VCall.i (New_ok (a := 2) (b := 3) (by omega) w) ?_
  rintro e w1 ⟨q, s, d, rfl, h1, e1⟩
  have h1 : CfgO 52 w w1 q s d k0 := h1
  refine exW.i2 (t := .ptr) (u := .int .i64) (some ⟨q, 0, none⟩) 0 rfl (VSet.i ?_)
  refine VCall.on rfl (VCall.i (Do_out x1 h1 e1) ?_)
  rintro e w2 ⟨rfl, h2, _, e2⟩
  rw [f1]
  refine exW.i1 (t := .bool) false rfl (VCall.on rfl (VCall.i (Do_out x2 h2 e2) ?_))
  rintro e w3 ⟨rfl, h3, _, e3⟩
  rw [f2]
  refine exW.i1 (t := .bool) true rfl (VCall.on rfl (VCall.i (Do_out x2 h3 e3) ?_))
  rintro e w4 ⟨rfl, h4, _, e4⟩
  rw [f3]
  refine exW.i1 (t := .bool) false rfl (VCall.on rfl (VCall.i (Do_out x3 h4 e4) ?_))
  rintro e w5 ⟨rfl, h5, _, e5⟩
  rw [f4]
  have h5 : CfgO 52 w w5 q s d k4 := h5
  refine exW.i1 (t := .bool) true rfl (VIf.f rfl (VCall.i (Places_spec w w5 q s d k4 h5) ?_))
  rintro e w6 ⟨t6, rfl, p6, e56⟩
  have e6 := e5.then0 e56
  have h6 := h5.ext0 e56
  rw [g4] at p6
  have hl6 : t6.len = 2 := p6.len
  obtain ⟨a, ha, hrd⟩ := p6.seg.rec_at (i := 0) (by simp)
  rw [Nat.zero_mul, add_zero] at hrd
  refine exW.i1 (t := .sl) t6 rfl ?_
  rw [ha, hl6]
  refine VIx.i (by omega) (by omega) (VLd.i3 _ _ _ hrd ?_)
  refine VNw.i fun b7 w7 hb7 hk7 e7 => ?_
  refine VSt.bk hk7 rfl (by simp) fun w8 hk8 e8 => ?_
  have e68 : Ext [] w6 w8 := e7.then e8 (fun i hi hlt => by simp at hi; omega)
  have e8 := e6.then0 e68
  have h8 := h6.ext0 e68
  refine VCall.i (Do_out x4 h8 e8) ?_
  rintro e w9 ⟨rfl, h9, ea9, e9⟩
  have hk9 := hk8.ext ea9 (fun hx => by have := h6.lt _ hx; omega)
  rw [f5]
  refine exW.i1 (t := .bool) true rfl (VLd.i3 _ _ _ (Rd.of_bk hk9 rfl) ?_)
  refine VCall.on rfl (VCall.i (Places_spec w w9 q s d _ h9) ?_)
  rintro e w10 ⟨t10, rfl, p10, e910⟩
  rw [g5] at p10
  have hl10 : t10.len = 2 := p10.len
  obtain ⟨a, ha, hrd⟩ := p10.seg.rec_at (i := 0) (by simp)
  rw [Nat.zero_mul, add_zero] at hrd
  refine exW.i1 (t := .sl) t10 rfl ?_
  rw [ha, hl10]
  refine VIx.i (by omega) (by omega) (VLd.i3 _ _ _ hrd ?_)
  refine VCall.on rfl (VCall.i (Places_spec w w10 q s d _ (h9.ext0 e910)) ?_)
  rintro e w11 ⟨t11, rfl, p11, e1011⟩
  rw [g5] at p11
  have hl11 : t11.len = 2 := p11.len
  obtain ⟨a, ha, hrd⟩ := p11.seg.rec_at (i := 1) (by simp)
  refine exW.i1 (t := .sl) t11 rfl ?_
  rw [ha, hl11]
  refine VIx.i (by omega) (by omega) (VLd.i3 _ _ _ hrd ?_)
  exact ⟨rfl, (e9.then0 e910).then0 e1011⟩

theorem modu (n : Int) (m : Nat) (hm : 0 < m) (h : m ≤ 1000000) : ∃ k : Nat, k < m ∧ IntKind.wrap .i64 (Int.tmod (IntKind.wrap .u64 n) ((m : Nat) : Int)) = (k : Int) := by
  rw [w64u]
  have h0 := Int.emod_nonneg n (show (18446744073709551616 : Int) ≠ 0 by omega)
  rw [Int.tmod_eq_emod_of_nonneg h0]
  have h1 := Int.emod_nonneg (n % 18446744073709551616) (show ((m : Nat) : Int) ≠ 0 by omega)
  have h2 := Int.emod_lt_of_pos (n % 18446744073709551616) (show 0 < ((m : Nat) : Int) by omega)
  refine ⟨(n % 18446744073709551616 % ((m : Nat) : Int)).toNat, by omega, ?_⟩
  rw [w64 (by omega)]; omega
theorem mod_in (n : Int) (m : Nat) (hm : 0 < m) (h : m ≤ 1000) : 1 ≤ IntKind.wrap .i64 (1 + (IntKind.wrap .i64 (Int.tmod (IntKind.wrap .u64 n) ((m : Nat) : Int)))) ∧ IntKind.wrap .i64 (1 + (IntKind.wrap .i64 (Int.tmod (IntKind.wrap .u64 n) ((m : Nat) : Int)))) ≤ (m : Int) := by
  obtain ⟨k, hk, he⟩ := modu n m hm (by omega)
  rw [he, w64 (by omega)]
  omega

theorem turn_some {c : CM} {x : Cmd} {p p' : Pl} (h : turn c x p = some p') :
    (x.kind = 1 ∧ p.1 = 0 ∧ p.2.1 = 0 ∧ p' = (p.1 + 1, x.store, p.2.2)) ∨ (x.kind = 2 ∧ p.2.1 ≠ 0 ∧ p.2.2 = 0 ∧ x.store ≠ p.2.1 ∧ p' = (p.1 + 1, p.2.1, x.store)) ∨
    (x.kind = 3 ∧ p.2.2 ≠ 0 ∧ p.2.2 = x.store ∧ p' = (p.1 + 1, x.store, 0)) ∨ (p.2.2 ≠ 0 ∧ p' = (p.1 + 1, p.2.1, 0)) := by
  unfold turn at h
  split at h
  · rename_i hk
    split at h
    · cases h
    · rename_i hn
      cases h
      exact .inl ⟨hk, by omega, by omega, rfl⟩
  · split at h
    · rename_i hk
      split at h
      · cases h
      · rename_i hn
        cases h
        simp only [not_or] at hn
        exact .inr (.inl ⟨hk, hn.1, Decidable.byContradiction hn.2.1, hn.2.2.1, rfl⟩)
    · split at h
      · rename_i hk
        split at h
        · cases h
        · rename_i hn
          cases h
          simp only [not_or] at hn
          exact .inr (.inr (.inl ⟨hk, hn.1, Decidable.byContradiction hn.2, rfl⟩))
      · split at h
        · cases h
        · rename_i hn
          cases h
          exact .inr (.inr (.inr ⟨hn, rfl⟩))
/-- what a command that does something has done to a place -/
structure Turned (c : CM) (x : Cmd) (j : Nat) (p' : Pl) : Prop where
  lt : j < c.P.length
  sh : x.shard = (j : Int)
  kind : 1 ≤ x.kind ∧ x.kind ≤ 4
  e : p'.1 = (c.P[j]).1 + 1
  xe : x.epoch = (c.P[j]).1
  lo : 0 ≤ (c.P[j]).1 ∧ (c.P[j]).1 < 2147483647
  own : p'.2.1 ≠ 0
  ne : p'.2.2 ≠ p'.2.1
  hand : p'.2.1 ≠ (c.P[j]).2.1 → (c.P[j]).2.1 ≠ 0 → (c.P[j]).2.2 = p'.2.1 ∧ p'.2.2 = 0
theorem act_cases {c : CM} (h : c.ok) (x : Cmd) : (c.act x = none) ∨ (∃ D', c.act x = some ⟨c.P, D'⟩ ∧ (x.kind = 5 ∨ x.kind = 6)) ∨ ∃ j p', c.act x = some ⟨c.P.set j p', c.D⟩ ∧ Turned c x j p' := by
  unfold CM.act
  split
  · exact .inl rfl
  · rename_i hk
    split
    · split
      · exact .inl rfl
      · exact .inr (.inl ⟨_, rfl, by omega⟩)
    · rename_i h5
      split
      · exact .inl rfl
      · rename_i hsh
        split
        · exact .inl rfl
        · rename_i hep
          cases ht : turn c x (place c x) with
          | none => exact .inl rfl
          | some p' =>
            right; right
            obtain ⟨hi, hpl, hok⟩ := h.at_ (x := x) (by omega) (by omega)
            have hst : x.kind = 4 ∨ c.store x := by
              by_cases hst : c.store x
              · exact .inr hst
              · exact .inl (Decidable.byContradiction fun h4 => hsh (.inr (.inr ⟨hst, h4⟩)))
            have hst' : x.kind = 4 ∨ (1 ≤ x.store ∧ x.store ≤ (c.D.length : Int)) := hst
            refine ⟨x.shard.toNat, p', rfl, ?_⟩
            rw [hpl] at ht hok hep
            obtain ⟨⟨m1, m2⟩, a, b, c1, c2, d1, d2⟩ := hok
            have hxe : (c.P[x.shard.toNat]).1 = x.epoch := Decidable.byContradiction fun h' => hep (.inl h')
            have hlt : (c.P[x.shard.toNat]).1 < 2147483647 := by omega
            rcases turn_some ht with ⟨k, g1, g2, rfl⟩ | ⟨k, g1, g2, g3, rfl⟩ | ⟨k, g1, g2, rfl⟩ | ⟨g1, rfl⟩
            · exact ⟨hi, by omega, by omega, rfl, hxe.symm, ⟨a, hlt⟩, by simp only; omega, by simp only; omega, fun _ g => absurd g2 g⟩
            · exact ⟨hi, by omega, by omega, rfl, hxe.symm, ⟨a, hlt⟩, by simp only; omega, by simp only; omega, fun g _ => absurd rfl g⟩
            · exact ⟨hi, by omega, by omega, rfl, hxe.symm, ⟨a, hlt⟩, by simp only; omega, by simp only; omega, fun _ _ => ⟨g2, rfl⟩⟩
            · exact ⟨hi, by omega, by omega, rfl, hxe.symm, ⟨a, hlt⟩, by simp only; omega, by simp only; omega, fun g _ => absurd rfl g⟩
end Go.Proofs.Ytfihhleaciddpaa
