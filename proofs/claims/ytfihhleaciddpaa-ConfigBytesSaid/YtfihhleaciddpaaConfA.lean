/-
  Package config: a configuration in memory; New, Places, Do, the first example.
-/
import Derived.Test.YtfihhleaciddpaaRecO
import Derived.Test.YtfihhleaciddpaaCodeC
namespace Go.Proofs.Ytfihhleaciddpaa
open Go.RowKit
set_option maxRecDepth 100000

def good (w : World) (e : Ending) (w' : World) : Prop := e = .returned (.bool true) ∧ Ext [] w w'
abbrev Pl := Int × Int × Int
def plR : Rec Pl := ⟨fun p => [.int .i64 p.1, .int .i64 p.2.1, .int .i64 p.2.2], 3, fun _ => rfl, fun _ => rfl, by omega⟩
def blR : Rec Bool := ⟨fun b => [.bool b], 1, fun _ => rfl, fun _ => rfl, by omega⟩
structure Cmd where
  kind : Int
  shard : Int
  store : Int
  epoch : Int
instance : Inhabited Cmd := ⟨⟨0, 0, 0, 0⟩⟩
def cmR : Rec Cmd := ⟨fun x => [.int .u8 x.kind, .int .i64 x.shard, .int .i64 x.store, .int .i64 x.epoch], 4, fun _ => rfl, fun _ => rfl, by omega⟩
structure CM where
  P : List Pl
  D : List Bool
def CM.store (c : CM) (x : Cmd) : Prop := 1 ≤ x.store ∧ x.store ≤ (c.D.length : Int)
instance (c : CM) (x : Cmd) : Decidable (c.store x) := by unfold CM.store; infer_instance
def isDown (c : CM) (x : Cmd) : Bool := c.D.getD (x.store.toNat - 1) false
/-- what a command makes of a place -/
def turn (c : CM) (x : Cmd) (p : Pl) : Option Pl :=
  if x.kind = 1 then (if p.1 ≠ 0 ∨ p.2.1 ≠ 0 then none else some (p.1 + 1, x.store, p.2.2))
  else if x.kind = 2 then (if p.2.1 = 0 ∨ p.2.2 ≠ 0 ∨ x.store = p.2.1 ∨ isDown c x = true then none else some (p.1 + 1, p.2.1, x.store))
  else if x.kind = 3 then (if p.2.2 = 0 ∨ p.2.2 ≠ x.store then none else some (p.1 + 1, x.store, 0))
  else (if p.2.2 = 0 then none else some (p.1 + 1, p.2.1, 0))
def place (c : CM) (x : Cmd) : Pl := c.P.getD x.shard.toNat (0, 0, 0)
/-- what a command does; none: nothing -/
def CM.act (c : CM) (x : Cmd) : Option CM :=
  if x.kind < 1 ∨ 6 < x.kind then none
  else if 5 ≤ x.kind then (if ¬ c.store x ∨ isDown c x = (x.kind == 5) then none else some { c with D := c.D.set (x.store.toNat - 1) (x.kind == 5) })
  else if x.shard < 0 ∨ (c.P.length : Int) ≤ x.shard ∨ (¬ c.store x ∧ x.kind ≠ 4) then none
  else if (place c x).1 ≠ x.epoch ∨ 2147483647 ≤ (place c x).1 then none
  else (turn c x (place c x)).map fun p => { c with P := c.P.set x.shard.toNat p }
def CM.next (c : CM) (x : Cmd) : CM := (c.act x).getD c
/-- may a place be -/
def may (p : Pl) : Prop := (p.2.1 = 0 → p.1 = 0 ∧ p.2.2 = 0) ∧ (p.2.1 ≠ 0 → p.1 ≠ 0 ∧ p.2.2 ≠ p.2.1)
def okP (n : Int) (p : Pl) : Prop := may p ∧ 0 ≤ p.1 ∧ p.1 ≤ 2147483647 ∧ 0 ≤ p.2.1 ∧ p.2.1 ≤ n ∧ 0 ≤ p.2.2 ∧ p.2.2 ≤ n
structure CM.ok (c : CM) : Prop where
  p : 1 ≤ c.P.length ∧ c.P.length ≤ 4
  d : 1 ≤ c.D.length ∧ c.D.length ≤ 5
  all : ∀ p ∈ c.P, okP c.D.length p
theorem CM.ok.at_ {c : CM} (h : c.ok) {x : Cmd} (h0 : ¬ x.shard < 0) (h1 : ¬ (c.P.length : Int) ≤ x.shard) : ∃ hi : x.shard.toNat < c.P.length, place c x = c.P[x.shard.toNat] ∧ okP c.D.length (place c x) := by
  have hi : x.shard.toNat < c.P.length := by omega
  have : place c x = c.P[x.shard.toNat] := by unfold place; rw [List.getD_eq_getElem?_getD, List.getElem?_eq_getElem hi]; rfl
  exact ⟨hi, this, by rw [this]; exact h.all _ (List.getElem_mem hi)⟩
theorem turn_ok {c : CM} {x : Cmd} {p q : Pl} (hs : x.kind = 4 ∨ c.store x) (hk : 1 ≤ x.kind ∧ x.kind ≤ 4) (hp : okP c.D.length p) (he : ¬ 2147483647 ≤ p.1) (h : turn c x p = some q) : okP c.D.length q := by
  obtain ⟨⟨m1, m2⟩, a, b, c1, c2, d1, d2⟩ := hp
  unfold turn at h
  unfold CM.store at hs
  have hs' : x.kind = 4 ∨ (1 ≤ x.store ∧ x.store ≤ (c.D.length : Int)) := hs
  split at h
  · split at h
    · cases h
    · cases h
      refine ⟨⟨?_, ?_⟩, ?_⟩ <;> simp only <;> omega
  · split at h
    · split at h
      · cases h
      · cases h
        refine ⟨⟨?_, ?_⟩, ?_⟩ <;> simp only <;> omega
    · split at h
      · split at h
        · cases h
        · cases h
          refine ⟨⟨?_, ?_⟩, ?_⟩ <;> simp only <;> omega
      · split at h
        · cases h
        · cases h
          refine ⟨⟨?_, ?_⟩, ?_⟩ <;> simp only <;> omega
theorem CM.next_ok {c : CM} (h : c.ok) (x : Cmd) : (c.next x).ok := by
  unfold CM.next CM.act
  split
  · exact h
  · rename_i hk
    split
    · split
      · exact h
      · refine ⟨h.p, ?_, ?_⟩
        · simp only [Option.getD_some, List.length_set]; exact h.d
        · simp only [Option.getD_some, List.length_set]; exact h.all
    · rename_i h5
      split
      · exact h
      · rename_i hsh
        split
        · exact h
        · rename_i hep
          cases ht : turn c x (place c x) with
          | none => exact h
          | some q =>
            obtain ⟨hi, hpl, hok⟩ := h.at_ (x := x) (by omega) (by omega)
            have hq := turn_ok (c := c) (x := x) (p := place c x) (q := q) (by
              by_cases hst : c.store x
              · exact .inr hst
              · exact .inl (Decidable.byContradiction fun h4 => hsh (.inr (.inr ⟨hst, h4⟩)))) (by omega) hok (by omega) ht
            refine ⟨?_, h.d, ?_⟩
            · simp only [Option.map_some, Option.getD_some, List.length_set]; exact h.p
            · simp only [Option.map_some, Option.getD_some]
              intro p hp
              rcases List.mem_or_eq_of_mem_set hp with hp | rfl
              · exact h.all p hp
              · exact hq

/-! in memory -/
structure CfgO (T : TypeId) (w0 w : World) (q : Nat) (s d : Sl) (c : CM) : Prop where
  bk : Bk w q [.slice s.base s.len s.cap, .slice d.base d.len d.cap] T
  p : OwnR plR 35 w0 w s c.P
  d : OwnR blR 4 w0 w d c.D
  ge : w0.heap.size ≤ q
  ok : c.ok
  t1 : T ≠ 35
  t2 : T ≠ 4
def fpc (q : Nat) (s d : Sl) : List Nat := q :: (rowB s ++ rowB d)
section
variable {T : TypeId} {w0 w w' : World} {q : Nat} {s d : Sl} {c : CM} {M : List Nat}
theorem CfgO.ext (h : CfgO T w0 w q s d c) (x : Ext M w w') (hm : ∀ b ∈ fpc q s d, b ∉ M) : CfgO T w0 w' q s d c :=
  ⟨h.bk.ext x (hm q (by simp [fpc])), h.p.ext x (fun b hb => hm b (by simp [fpc, hb])), h.d.ext x (fun b hb => hm b (by simp [fpc, hb])), h.ge, h.ok, h.t1, h.t2⟩
theorem CfgO.ext0 (h : CfgO T w0 w q s d c) (x : Ext [] w w') : CfgO T w0 w' q s d c := h.ext x (fun _ _ => by simp)
theorem CfgO.lt (h : CfgO T w0 w q s d c) : ∀ b ∈ fpc q s d, b < w.heap.size := by
  intro b hb
  simp only [fpc, List.mem_cons, List.mem_append] at hb
  rcases hb with rfl | hb | hb
  · exact h.bk.lt
  · exact h.p.1.lt b hb
  · exact h.d.1.lt b hb
theorem CfgO.ges (h : CfgO T w0 w q s d c) : ∀ b ∈ fpc q s d, w0.heap.size ≤ b := by
  intro b hb
  simp only [fpc, List.mem_cons, List.mem_append] at hb
  rcases hb with rfl | hb | hb
  · exact h.ge
  · exact h.p.2 b hb
  · exact h.d.2 b hb
theorem CfgO.mono {w1 : World} (h : CfgO T w1 w q s d c) (le : w0.heap.size ≤ w1.heap.size) : CfgO T w0 w q s d c := ⟨h.bk, h.p.mono le, h.d.mono le, Nat.le_trans le h.ge, h.ok, h.t1, h.t2⟩
theorem CfgO.qp (h : CfgO T w0 w q s d c) : q ∉ rowB s := fun hq => by obtain ⟨cs, hk⟩ := h.p.1.bk_of hq; exact h.bk.neT hk h.t1 rfl
theorem CfgO.qd (h : CfgO T w0 w q s d c) : q ∉ rowB d := fun hq => by obtain ⟨cs, hk⟩ := h.d.1.bk_of hq; exact h.bk.neT hk h.t2 rfl
theorem CfgO.pd (h : CfgO T w0 w q s d c) : ∀ b ∈ rowB s, b ∉ rowB d := fun b hb hb' => by
  obtain ⟨_, k1⟩ := h.p.1.bk_of hb
  obtain ⟨_, k2⟩ := h.d.1.bk_of hb'
  exact k1.neT k2 (by decide) rfl
theorem CfgO.rd0 (h : CfgO T w0 w q s d c) : Rd w ⟨q, 0, none⟩ [.slice s.base s.len s.cap] := Rd.of_bk h.bk rfl
theorem CfgO.rd1 (h : CfgO T w0 w q s d c) : Rd w ⟨q, 1, none⟩ [.slice d.base d.len d.cap] := Rd.of_bk h.bk rfl
end

theorem madeR {α : Type} (r : Rec α) (z : α) (zc : Array Value) (hz : zc.toList = r.f z) (n : Nat) : (madeCells zc (n * r.k)).toList = r.cells (List.replicate n z) := by
  have hk : zc.size = r.k := by rw [← Array.length_toList, hz, r.len]
  apply List.ext_getElem?
  intro i
  have h1 : (madeCells zc (n * r.k)).toList[i]? = if i < n * r.k then some (zc[i % zc.size]!) else none := by
    unfold madeCells
    simp only [Array.getElem?_toList, Array.getElem?_map]
    by_cases h : i < n * r.k
    · simp [h]
    · have h' := Nat.le_of_not_lt h
      rw [if_neg h, Array.getElem?_eq_none (by simpa using h')]; rfl
  rw [h1]
  split
  · rename_i hi
    have hq : i / r.k < n := Nat.div_lt_of_lt_mul (by rw [Nat.mul_comm]; exact hi)
    have hm : i % r.k < r.k := Nat.mod_lt _ r.pos
    have hi' : i = i / r.k * r.k + i % r.k := by rw [Nat.mul_comm]; exact (Nat.div_add_mod i r.k).symm
    have := Rec.cells_get (r := r) (L := List.replicate n z) (i := i / r.k) (j := i % r.k) (by simpa using hq) hm
    rw [← hi'] at this
    rw [this, List.getElem_replicate, ← hz, hk]
    have hlt : i % r.k < zc.size := by omega
    rw [Array.getElem?_toList, Array.getElem?_eq_getElem hlt]
    simp [hlt]
  · rename_i hi
    rw [List.getElem?_eq_none (by rw [Rec.cells_len, List.length_replicate]; omega)]

theorem Bk.made {α : Type} {w : World} {b : Nat} {t : TypeId} (r : Rec α) (z : α) {zc : Array Value} {n : Nat} (hz : zc.toList = r.f z) {k : Nat} (hk : k = r.k) (h : Bk w b (madeCells zc (n * k)).toList t) : Bk w b (r.cells (List.replicate n z)) t := by
  rw [hk, madeR r z zc hz] at h; exact h
theorem New_spec (a b : Int) (w : World) : Calls Try.prog 8 #[.int .i64 a, .int .i64 b] w fun e w' =>
    (¬ (1 ≤ a ∧ a ≤ 4 ∧ 1 ≤ b ∧ b ≤ 5) ∧ e = .returned (.tuple #[.pointer none, .int .i64 1]) ∧ Ext [] w w') ∨ ((1 ≤ a ∧ a ≤ 4 ∧ 1 ≤ b ∧ b ≤ 5) ∧ ∃ q s d, e = .returned (.tuple #[.pointer (some ⟨q, 0, none⟩), .int .i64 0]) ∧
      CfgO 52 w w' q s d ⟨List.replicate a.toNat (0, 0, 0), List.replicate b.toNat false⟩ ∧ Ext [] w w') := by
  refine sh_config_New_ok _ _ _ _ ?_
  unfold sh_config_New
  refine VIf.mk (fun hc => ?_) (fun hc => ?_)
  · simp at hc
    exact .inl ⟨by omega, rfl, Ext.refl _ _⟩
  simp at hc
  have hok : CM.ok ⟨List.replicate a.toNat (0, 0, 0), List.replicate b.toNat false⟩ := by
    refine ⟨by simp; omega, by simp; omega, ?_⟩
    intro p hp
    obtain rfl := List.eq_of_mem_replicate hp
    refine ⟨⟨?_, ?_⟩, ?_⟩ <;> simp <;> omega
  have fin : ∀ (W : World) (b1 b2 q : Nat), Bk W b1 (plR.cells (List.replicate a.toNat (0, 0, 0))) 35 → Bk W b2 (blR.cells (List.replicate b.toNat false)) 4 →
      Bk W q [.slice (some ⟨b1, 0, none⟩) a.toNat a.toNat, .slice (some ⟨b2, 0, none⟩) b.toNat b.toNat] 52 → w.heap.size ≤ b1 → w.heap.size ≤ b2 → w.heap.size ≤ q →
      CfgO 52 w W q ⟨some ⟨b1, 0, none⟩, a.toNat, a.toNat⟩ ⟨some ⟨b2, 0, none⟩, b.toNat, b.toNat⟩ ⟨List.replicate a.toNat (0, 0, 0), List.replicate b.toNat false⟩ := by
    intro W b1 b2 q k1 k2 k3 g1 g2 g3
    refine ⟨k3, ⟨Row.of_bk k1 (by rw [Rec.cells_len, List.length_replicate]) (by omega), by simp [rowB]; exact g1⟩, ⟨Row.of_bk k2 (by rw [Rec.cells_len, List.length_replicate]) (by omega), by simp [rowB]; exact g2⟩, g3, hok, by decide, by decide⟩
  refine ⟨fun x e W => ∃ q s d, x = some ⟨q, 0, none⟩ ∧ e = 0 ∧ CfgO 52 w W q s d ⟨List.replicate a.toNat (0, 0, 0), List.replicate b.toNat false⟩ ∧ Ext [] w W, ?_, ?_⟩
  · intro w1 hw1
    have e1 := Ext.drew' hw1
    refine ⟨?_, ?_⟩
    · refine VMk.i (by omega) (by omega) (by omega) (by omega) fun b1 w2 hb1 hk1 e2 => ?_
      refine VMk.i (by omega) (by omega) (by omega) (by omega) fun b2 w3 hb2 hk2 e3 => ?_
      refine VNw.i fun q w4 hq hk4 e4 => ?_
      have s1 := e1.size; have s2 := e2.size; have s3 := e3.size
      have hk1 := Bk.made plR (0, 0, 0) (n := a.toNat) rfl (k := 3) rfl hk1
      have hk2 := Bk.made blR false (n := b.toNat) rfl (k := 1) rfl hk2
      exact ⟨q, _, _, rfl, rfl, fin w4 b1 b2 q ((hk1.ext e3).ext e4) (hk2.ext e4) hk4 (by omega) (by omega) (by omega), ((e1.then0 e2).then0 e3).then0 e4⟩
    · refine VMk.i (by omega) (by omega) (by omega) (by omega) fun b2 w2 hb2 hk2 e2 => ?_
      refine VMk.i (by omega) (by omega) (by omega) (by omega) fun b1 w3 hb1 hk1 e3 => ?_
      refine VNw.i fun q w4 hq hk4 e4 => ?_
      have s1 := e1.size; have s2 := e2.size; have s3 := e3.size
      have hk1 := Bk.made plR (0, 0, 0) (n := a.toNat) rfl (k := 3) rfl hk1
      have hk2 := Bk.made blR false (n := b.toNat) rfl (k := 1) rfl hk2
      exact ⟨q, _, _, rfl, rfl, fin w4 b1 b2 q (hk1.ext e4) ((hk2.ext e3).ext e4) hk4 (by omega) (by omega) (by omega), ((e1.then0 e2).then0 e3).then0 e4⟩
  · rintro x e w8 ⟨q, s, d, rfl, rfl, h, e8⟩
    exact .inr ⟨by omega, q, s, d, rfl, h, e8⟩

theorem PClone_spec (s : Sl) (L : List Pl) (w : World) (h : Seg w s.base s.len 3 (plR.cells L)) (hl : L.length ≤ 1000000) :
    Calls Try.prog 19 #[.slice s.base s.len s.cap] w fun e w' => ∃ s' : Sl, e = .returned (.slice s'.base s'.len s'.cap) ∧ OwnR plR 35 w w' s' L ∧ Ext [] w w' := by
  refine sh_slices_Clone_ok _ _ _ ?_
  unfold sh_slices_Clone
  have h' : Seg w s.base s.len plR.k (plR.cells L) := h
  have hn := h'.rlen
  refine VIf.mk (fun hc => ?_) (fun hc => ?_)
  · have hz : L = [] := by
      rcases h.2 with h0 | ⟨a, ha, _⟩
      · exact List.length_eq_zero_iff.1 (by omega)
      · rw [ha] at hc; simp at hc
    subst hz
    exact ⟨⟨none, 0, 0⟩, rfl, OwnR.nil _ _ _ _, Ext.refl _ _⟩
  · refine VNw.i fun b w1 hb hk e1 => ?_
    exact VApp.rclone (r := plR) hb hk e1 h' rfl (by omega) (by omega) fun s' w' h'' e' => ⟨s', rfl, h'', e'⟩
theorem Places_spec (w0 w : World) (q : Nat) (s d : Sl) (c : CM) (h : CfgO 52 w0 w q s d c) :
    Calls Try.prog 9 #[.pointer (some ⟨q, 0, none⟩)] w fun e w' => ∃ s' : Sl, e = .returned (.slice s'.base s'.len s'.cap) ∧ OwnR plR 35 w w' s' c.P ∧ Ext [] w w' := by
  refine sh_config_Config_Places_ok _ _ _ ?_
  unfold sh_config_Config_Places
  have := h.ok.p
  refine VIf.f rfl (VNN.i (VLd.s s h.rd0 ?_))
  refine VCall.i (PClone_spec s c.P w h.p.seg (by omega)) ?_
  rintro e w1 ⟨s1, rfl, k1, e1⟩
  exact exW.i1 (t := .sl) s1 rfl ⟨s1, rfl, k1, e1⟩
theorem changes_spec (w : World) : Calls Try.prog 20 #[] w fun e w' =>
    e = .returned (.agg #[.nilFunc, .func (.func 43) #[] #[], .func (.func 44) #[] #[], .func (.func 45) #[] #[], .func (.func 46) #[] #[]]) ∧ Ext [] w w' := by
  refine sh_config_changes_ok _ _ ?_
  unfold sh_config_changes
  refine VNw.i fun b w1 hb hk e1 => ?_
  refine VSt.bk hk rfl (by simp) fun w2 hk2 e2 => ?_
  refine ⟨_, _, _, _, _, Rd.of_bk hk2 rfl, rfl, e1.then e2 (fun i hi hlt => by simp at hi; omega)⟩
end Go.Proofs.Ytfihhleaciddpaa
