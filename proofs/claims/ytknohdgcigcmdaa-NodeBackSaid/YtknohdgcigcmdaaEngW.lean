/-
  Memory, for the contracts: what stays ('Ext'), a block known whole ('Bk'), and the steps of the generator's words over them.
-/
import Derived.Test.YtknohdgcigcmdaaEngJ
import Derived.IntWalk
namespace Go.Proofs.Ytknohdgcigcmdaa
open Go.RowKit

/-- only blocks of M, and new ones, may have turned -/
structure Ext (M : List Nat) (w w' : World) : Prop where
  os : w'.os = w.os
  tape : w'.tape = w.tape
  output : w'.output = w.output
  size : w.heap.size ≤ w'.heap.size
  blk : ∀ k, k < w.heap.size → k ∉ M → w'.heap[k]? = w.heap[k]?

section
variable {M N : List Nat} {w w' w'' : World}
theorem Ext.refl (M : List Nat) (w : World) : Ext M w w := ⟨rfl, rfl, rfl, Nat.le_refl _, fun _ _ _ => rfl⟩
theorem Ext.trans (h : Ext M w w') (k : Ext N w' w'') : Ext (M ++ N) w w'' :=
  ⟨k.os.trans h.os, k.tape.trans h.tape, k.output.trans h.output, Nat.le_trans h.size k.size, fun i hi hm => by
    rw [List.mem_append, not_or] at hm
    exact (k.blk i (Nat.lt_of_lt_of_le hi h.size) hm.2).trans (h.blk i hi hm.1)⟩
theorem Ext.mono (h : Ext M w w') (hs : ∀ k, k ∈ M → k < w.heap.size → k ∈ N) : Ext N w w' :=
  ⟨h.os, h.tape, h.output, h.size, fun i hi hn => h.blk i hi fun hm => hn (hs i hm hi)⟩
/-- one after the other, in one list; what is new between does not count -/
theorem Ext.then (h : Ext M w w') (k : Ext N w' w'') (hs : ∀ i, i ∈ N → i < w.heap.size → i ∈ M) : Ext M w w'' :=
  ⟨k.os.trans h.os, k.tape.trans h.tape, k.output.trans h.output, Nat.le_trans h.size k.size, fun i hi hm =>
    (k.blk i (Nat.lt_of_lt_of_le hi h.size) fun hn => hm (hs i hn hi)).trans (h.blk i hi hm)⟩
theorem Ext.then0 (h : Ext M w w') (k : Ext [] w' w'') : Ext M w w'' := h.then k (fun _ hi => by simp at hi)
theorem Ext.drew (w : World) : Ext [] w w.drew := ⟨rfl, rfl, rfl, Nat.le_refl _, fun _ _ _ => rfl⟩
theorem Ext.drew' (h : w' = w.drew) : Ext [] w w' := h ▸ Ext.drew w
theorem Ext.below (h : Ext [] w w') : Below w.heap.size w w' := ⟨h.os, h.tape, h.output, h.size, fun k hk => h.blk k hk (by simp)⟩
theorem Ext.of_new (h : ∀ k ∈ M, w.heap.size ≤ k) (e : Ext M w w') : Ext [] w w' :=
  e.mono fun k hk hlt => absurd hlt (Nat.not_lt.2 (h k hk))
theorem NewB.ext {b : Nat} {o : Obj} (h : NewB w b o w') : Ext [] w w' :=
  ⟨h.os, h.tape, h.output, by rw [h.heap]; simp, fun k hk _ => by rw [h.heap, Array.getElem?_push, if_neg (by omega)]⟩
theorem NewB.size {b : Nat} {o : Obj} (h : NewB w b o w') : w'.heap.size = b + 1 := by rw [h.heap, h.at_]; simp
theorem NewB.get {b : Nat} {o : Obj} (h : NewB w b o w') : w'.heap[b]? = some o := by rw [h.heap, h.at_]; simp
end

/-- block b is known whole: its cells, of element type t; no cell is frozen -/
def Bk (w : World) (b : Nat) (cs : List Value) (t : TypeId) : Prop := ∃ fr : Nat × Nat, w.heap[b]? = some (.cells cs.toArray t fr) ∧ (cs.length ≤ fr.1 ∨ fr.2 = fr.1)

@[simp] theorem add_blk (b i n : Nat) : Addr.add ⟨b, i, none⟩ n = ⟨b, i + n, none⟩ := by unfold Addr.add; split <;> simp_all
@[simp] theorem addr_block (a : Addr) (n : Nat) : (a.add n).block = a.block := by unfold Addr.add; split <;> rfl
theorem add_add (a : Addr) (i j : Nat) : (a.add i).add j = a.add (i + j) := by
  unfold Addr.add
  by_cases hi : i = 0 <;> by_cases hj : j = 0 <;> simp [hi, hj, Nat.add_assoc]
@[simp] theorem add_zero (a : Addr) : a.add 0 = a := by simp [Addr.add]

section
variable {M : List Nat} {w w' : World} {b : Nat} {cs vs : List Value} {t : TypeId}
theorem Bk.lt (h : Bk w b cs t) : b < w.heap.size := by
  obtain ⟨fr, h, _⟩ := h
  exact (Array.getElem?_eq_some_iff.1 h).1
theorem Bk.ext (h : Bk w b cs t) (e : Ext M w w') (hm : b ∉ M := by first | assumption | (simp; done) | (simp; omega)) : Bk w' b cs t := by
  have hl := h.lt
  obtain ⟨fr, h, hf⟩ := h
  exact ⟨fr, by rw [e.blk b hl hm]; exact h, hf⟩
theorem Bk.cell (h : Bk w b cs t) (i : Nat) : w.cell? ⟨b, i, none⟩ = cs[i]? := by
  obtain ⟨fr, h, _⟩ := h
  simp [World.cell?, h]
theorem Bk.frozen (h : Bk w b cs t) {i : Nat} (hi : i < cs.length) : w.frozen? ⟨b, i, none⟩ = false := by
  obtain ⟨fr, h, hf⟩ := h
  simp only [World.frozen?, h, Bool.and_eq_false_iff, decide_eq_false_iff_not]
  omega
theorem Rd.of_bk {i : Nat} (h : Bk w b cs t) (hs : (cs.drop i).take vs.length = vs) : Rd w ⟨b, i, none⟩ vs := by
  intro j v hj
  rw [add_blk, h.cell, ← hj, ← hs]
  have hlt : j < vs.length := (List.getElem?_eq_some_iff.1 hj).1
  rw [List.getElem?_take, if_pos hlt, List.getElem?_drop]
theorem Wr.of_bk {i n : Nat} (h : Bk w b cs t) (hs : i + n ≤ cs.length) : Wr w ⟨b, i, none⟩ n := by
  intro j hj
  rw [add_blk]
  refine ⟨⟨cs[i + j]'(by omega), by rw [h.cell]; exact List.getElem?_eq_getElem (by omega)⟩, h.frozen (by omega)⟩
theorem NewB.bk {o : Obj} (h : NewB w b o w') (ho : o = .cells cs.toArray t (0, 0)) : Bk w' b cs t := ⟨(0, 0), by rw [h.get, ho], .inr rfl⟩
theorem NewB.bk0 {c : Array Value} (h : NewB w b (.cells c t) w') : Bk w' b c.toList t := ⟨(0, 0), by rw [h.get], .inr rfl⟩

theorem Ext.setCell (w : World) (a : Addr) (v : Value) : Ext [a.block] w (w.setCell a v) :=
  ⟨rfl, rfl, rfl, by simp [World.setCell], fun k _ hm => by
    simp only [World.setCell, Array.getElem?_modify]
    rw [if_neg (by simp at hm; omega)]⟩
theorem Bk.setCell (h : Bk w b cs t) (i : Nat) (v : Value) : Bk (w.setCell ⟨b, i, none⟩ v) b (cs.set i v) t := by
  obtain ⟨fr, h, hf⟩ := h
  refine ⟨fr, ?_, by simpa using hf⟩
  simp [World.setCell, Array.getElem?_modify, h]

theorem setsAt_bk : ∀ (vs : List Value) (j : Nat) (w : World) (cs : List Value), Bk w b cs t → ∀ i, i + j + vs.length ≤ cs.length →
    Bk (setsAt w ⟨b, i, none⟩ vs j) b (cs.take (i + j) ++ vs ++ cs.drop (i + j + vs.length)) t ∧ Ext [b] w (setsAt w ⟨b, i, none⟩ vs j)
  | [], j, w, cs, h, i, hl => by simp [setsAt]; exact ⟨h, Ext.refl _ _⟩
  | v :: vs, j, w, cs, h, i, hl => by
    simp only [List.length_cons] at hl
    simp only [setsAt, add_blk]
    have h1 := h.setCell (i + j) v
    obtain ⟨h2, e2⟩ := setsAt_bk vs (j + 1) _ _ h1 i (by simp; omega)
    refine ⟨?_, ?_⟩
    · have : (cs.set (i + j) v).take (i + (j + 1)) ++ vs ++ (cs.set (i + j) v).drop (i + (j + 1) + vs.length) = cs.take (i + j) ++ (v :: vs) ++ cs.drop (i + j + (v :: vs).length) := by
        rw [List.drop_set_of_lt (by omega)]
        have : (cs.set (i + j) v).take (i + (j + 1)) = cs.take (i + j) ++ [v] := by
          rw [show i + (j + 1) = (i + j) + 1 by omega, List.take_succ_eq_append_getElem (by simp; omega)]
          simp [List.take_set_of_le]
        rw [this]
        simp only [List.append_assoc, List.singleton_append, List.length_cons, List.cons_append, List.nil_append]
        rw [show i + (j + 1) + vs.length = i + j + (vs.length + 1) by omega]
      rw [this] at h2
      exact h2
    · have e1 : Ext [b] w (w.setCell ⟨b, i + j, none⟩ v) := Ext.setCell w ⟨b, i + j, none⟩ v
      exact e1.then e2 (fun _ h _ => h)
theorem sets_bk {i : Nat} (h : Bk w b cs t) (hl : i + vs.length ≤ cs.length) (hw : w' = sets w ⟨b, i, none⟩ vs) :
    Bk w' b (cs.take i ++ vs ++ cs.drop (i + vs.length)) t ∧ Ext [b] w w' := by
  subst hw
  have := setsAt_bk vs 0 w cs h i (by omega)
  simpa [sets] using this

theorem Rd.ext {a : Addr} (h : Rd w a vs) (e : Ext M w w') (hm : a.block ∉ M := by first | assumption | (simp; done) | (simp; omega)) : Rd w' a vs := by
  intro i v hi
  have hc := h i v hi
  have hlt := World.block_lt_of_cell? w _ hc
  rw [← hc]
  refine World.cell?_of_block ?_
  rw [addr_block] at hlt ⊢
  exact e.blk _ hlt hm
theorem Seg.ext {base : Option Addr} {n size : Nat} (h : Seg w base n size vs) (e : Ext M w w') (hm : ∀ a, base = some a → n ≠ 0 → a.block ∉ M) : Seg w' base n size vs := by
  refine ⟨h.1, ?_⟩
  by_cases hn : n = 0
  · exact .inl hn
  · obtain ⟨a, ha, hr⟩ := h.2.resolve_left hn
    exact .inr ⟨a, ha, hr.ext e (hm a ha hn)⟩
theorem Seg.ext0 {base : Option Addr} {n size : Nat} (h : Seg w base n size vs) (e : Ext [] w w') : Seg w' base n size vs := h.ext e (fun _ _ _ => by simp)
theorem Seg.nil (w : World) (base : Option Addr) (size : Nat) : Seg w base 0 size [] := ⟨by simp, .inl rfl⟩
theorem Seg.of_bk {i n size : Nat} (h : Bk w b cs t) (hs : (cs.drop i).take vs.length = vs) (hl : vs.length = n * size) : Seg w (some ⟨b, i, none⟩) n size vs :=
  ⟨hl, .inr ⟨_, rfl, Rd.of_bk h hs⟩⟩
/-- the i-th element of what a slice reads -/
theorem Seg.at_ {base : Option Addr} {n size i : Nat} (h : Seg w base n size vs) (hi : i < n) : ∃ a, base = some a ∧ Rd w (a.add (i * size)) ((vs.drop (i * size)).take size) := by
  obtain ⟨a, ha, hr⟩ := h.2.resolve_left (by omega)
  refine ⟨a, ha, fun j v hj => ?_⟩
  rw [add_add]
  refine hr _ _ ?_
  rw [List.getElem?_take] at hj
  split at hj
  · rwa [List.getElem?_drop] at hj
  · cases hj
theorem Rd.drop {a : Addr} {i : Nat} (h : Rd w a vs) (hs : ∀ j v, cs[j]? = some v → vs[i + j]? = some v) : Rd w (a.add i) cs := by
  intro j v hj
  rw [add_add]
  exact h _ _ (hs j v hj)
end

/-! the steps -/
section
variable {g : Option Bool} {w w' : World} {P : Program}
theorem VIf.mk {b : Bool} {p q : Prop} (h1 : b = true → p) (h2 : b = false → q) : VIf b p q := ⟨h1, h2⟩
theorem VIf.t {b : Bool} {p q : Prop} (h : b = true) (hp : p) : VIf b p q := ⟨fun _ => hp, fun e => absurd (h.symm.trans e) (by simp)⟩
theorem VIf.f {b : Bool} {p q : Prop} (h : b = false) (hq : q) : VIf b p q := ⟨fun e => absurd (h.symm.trans e) (by simp), fun _ => hq⟩
theorem gd.i {p : Prop} (h : p) : gd g p := by cases g; exact h; exact fun _ => h
theorem VNN.i {a : Addr} {K : Addr → Prop} (k : K a) : VNN g (some a) K := ⟨a, gd.i rfl, k⟩
theorem VNN.n {K : Addr → Prop} (c : Bool) (hc : c = false) (p : Option Addr) (a : Addr) (k : K a) : VNN (some c) p K := ⟨a, fun e => absurd (hc.symm.trans e) (by simp), k⟩
theorem VIx.i {a : Addr} {n : Nat} {i : Int} {K : Addr → Prop} (h0 : 0 ≤ i) (h1 : i < (n : Int)) (k : K a) : VIx g (some a) n i K := ⟨a, gd.i ⟨rfl, h0, h1⟩, k⟩
theorem VCk.i {p K : Prop} (h : p) (k : K) : VCk g p K := ⟨gd.i h, k⟩
theorem VSet.i {n : Int} {K : Int → Prop} (k : K n) : VSet n K := fun _ e => e ▸ k
theorem VLd.i1 {a : Addr} {t : CT} {K : ArrP [t]} (x : t.D) (h : Rd w a [t.val x]) (k : K x) : VLd g w a [t] K := ⟨x, gd.i h, k⟩
theorem VLd.i2 {a : Addr} {t u : CT} {K : ArrP [t, u]} (x : t.D) (y : u.D) (h : Rd w a [t.val x, u.val y]) (k : K x y) : VLd g w a [t, u] K := ⟨x, y, gd.i h, k⟩
theorem VLd.i3 {a : Addr} {t u v : CT} {K : ArrP [t, u, v]} (x : t.D) (y : u.D) (z : v.D) (h : Rd w a [t.val x, u.val y, v.val z]) (k : K x y z) : VLd g w a [t, u, v] K := ⟨x, y, z, gd.i h, k⟩
theorem VLd.sl {a : Addr} {K : ArrP [CT.sl]} (b : Option Addr) (n c : Nat) (h : Rd w a [.slice b n c]) (k : K ⟨b, n, c⟩) : VLd g w a [CT.sl] K := ⟨⟨b, n, c⟩, gd.i h, k⟩
/-- a load whose guard does not hold: whatever -/
theorem VSt.i {a : Addr} {vs : List Value} {K : World → Prop} (h1 : vs.all Value.oneCell' = true) (h2 : Wr w a vs.length) (k : ∀ w', w' = sets w a vs → K w') : VSt none w a vs K := ⟨h1, h2, k⟩
theorem VSt.bk {b i : Nat} {cs vs : List Value} {t : TypeId} {K : World → Prop} (h : Bk w b cs t) (h1 : vs.all Value.oneCell' = true) (hl : i + vs.length ≤ cs.length)
    (k : ∀ w', Bk w' b (cs.take i ++ vs ++ cs.drop (i + vs.length)) t → Ext [b] w w' → K w') : VSt none w ⟨b, i, none⟩ vs K :=
  ⟨h1, Wr.of_bk h hl, fun w' e => k w' (sets_bk h hl e).1 (sets_bk h hl e).2⟩
theorem VNw.i {c : Array Value} {t : TypeId} {K : Nat → World → Prop} (k : ∀ b w', b = w.heap.size → Bk w' b c.toList t → Ext [] w w' → K b w') : VNw none w (.cells c t) K :=
  fun b w' h => k b w' h.at_ h.bk0 h.ext
theorem VMk.i {e : TypeId} {size bytes : Nat} {zc : Array Value} {l c : Int} {K : Nat → World → Prop} (h0 : 0 ≤ l) (h1 : l ≤ c) (h2 : c * bytes ≤ 140737488355328) (h3 : c ≤ 9223372036854775807)
    (k : ∀ b w', b = w.heap.size → Bk w' b (madeCells zc (c.toNat * size)).toList e → Ext [] w w' → K b w') : VMk none w e size bytes zc l c K :=
  ⟨h0, h1, h2, h3, fun b w' h => k b w' h.at_ h.bk0 h.ext⟩
end

/-! calls -/
section
variable {g : Option Bool} {w w' : World} {P : Program} {f : FuncId} {args : Array Value}
theorem exW.i0 {R : List Value → Prop} {K : ArrW []} (h : R []) (k : K w) : exW [] R K w := ⟨h, k⟩
theorem exW.i1 {t : CT} {R : List Value → Prop} {K : ArrW [t]} (x : t.D) (h : R [t.val x]) (k : K x w) : exW [t] R K w := ⟨x, h, k⟩
theorem exW.i2 {t u : CT} {R : List Value → Prop} {K : ArrW [t, u]} (x : t.D) (y : u.D) (h : R [t.val x, u.val y]) (k : K x y w) : exW [t, u] R K w := ⟨x, y, h, k⟩
theorem exW.i3 {t u v : CT} {R : List Value → Prop} {K : ArrW [t, u, v]} (x : t.D) (y : u.D) (z : v.D) (h : R [t.val x, u.val y, v.val z]) (k : K x y z w) : exW [t, u, v] R K w := ⟨x, y, z, h, k⟩
theorem exW.i4 {t u v q : CT} {R : List Value → Prop} {K : ArrW [t, u, v, q]} (x : t.D) (y : u.D) (z : v.D) (p : q.D) (h : R [t.val x, u.val y, v.val z, q.val p]) (k : K x y z p w) : exW [t, u, v, q] R K w := ⟨x, y, z, p, h, k⟩
theorem VCall.i {z : Value} {K : ArrW (flatCT z)} {R0 : Ending → World → Prop} (h : Calls P f args w R0) (k : ∀ e w', R0 e w' → exW (flatCT z) (fun vs => e = .returned (rebuild z vs)) K w') : VCall none P f args w z K := h.mono k
theorem VCall.on {c : Bool} {z : Value} {K : ArrW (flatCT z)} (hc : c = true) (h : VCall none P f args w z K) : VCall (some c) P f args w z K := ⟨fun _ => h, fun e => absurd (hc.symm.trans e) (by simp)⟩
theorem VCall.off {c : Bool} {z : Value} {K : ArrW (flatCT z)} (hc : c = false) (k : exW (flatCT z) (fun _ => True) K w) : VCall (some c) P f args w z K := ⟨fun e => absurd (hc.symm.trans e) (by simp), fun _ => k⟩
theorem exW.weaken : ∀ {ts : List CT} {R R' : List Value → Prop} {K : ArrW ts}, (∀ l, R l → R' l) → exW ts R K w → exW ts R' K w
  | [], _, _, _, h, k => ⟨h _ k.1, k.2⟩
  | _ :: _, _, _, _, h, ⟨x, k⟩ => ⟨x, exW.weaken (fun l => h _) k⟩
/-- a call that leaves the world alone: its guard does not matter -/
theorem VCall.pure {z v : Value} {K : ArrW (flatCT z)} (h : Calls P f args w fun e w' => e = .returned v ∧ w' = w) (k : exW (flatCT z) (fun vs => v = rebuild z vs) K w) : VCall g P f args w z K := by
  cases g with
  | none => exact h.mono fun e w' ⟨he, hw⟩ => by subst he; subst hw; exact exW.weaken (fun l hl => by rw [hl]) k
  | some c => exact ⟨fun _ => h.mono fun e w' ⟨he, hw⟩ => by subst he; subst hw; exact exW.weaken (fun l hl => by rw [hl]) k, fun _ => exW.weaken (fun _ _ => trivial) k⟩
end

/-! a row of the call's own: nil, or from the head of a block of its own -/
def rowB (s : Sl) : List Nat := match s.base with | some a => [a.block] | none => []
def Row (w : World) (e : TypeId) (size : Nat) (s : Sl) (xs : List Value) : Prop :=
  xs.length = s.len * size ∧ s.len ≤ s.cap ∧ s.cap ≤ 9223372036854775807 ∧ ((s.base = none ∧ s.cap = 0) ∨ ∃ b rest, s.base = some ⟨b, 0, none⟩ ∧ Bk w b (xs ++ rest) e ∧ xs.length + rest.length = s.cap * size)

section
variable {M : List Nat} {w w' : World} {e : TypeId} {size : Nat} {s : Sl} {xs news : List Value}
theorem Row.nil (w : World) (e : TypeId) (size : Nat) : Row w e size ⟨none, 0, 0⟩ [] := ⟨by simp, Nat.le_refl _, by simp, .inl ⟨rfl, rfl⟩⟩
theorem Row.ext (h : Row w e size s xs) (x : Ext M w w') (hm : ∀ b ∈ rowB s, b ∉ M) : Row w' e size s xs := by
  obtain ⟨h1, h2, h0, h3⟩ := h
  refine ⟨h1, h2, h0, h3.imp id ?_⟩
  rintro ⟨b, rest, hb, hk, hl⟩
  exact ⟨b, rest, hb, hk.ext x (hm b (by simp [rowB, hb])), hl⟩
theorem Row.ext0 (h : Row w e size s xs) (x : Ext [] w w') : Row w' e size s xs := h.ext x (fun _ _ => by simp)
theorem Row.lt (h : Row w e size s xs) : ∀ b ∈ rowB s, b < w.heap.size := by
  obtain ⟨_, _, _, h3⟩ := h
  intro b hb
  rcases h3 with ⟨h3, _⟩ | ⟨b', rest, hb', hk, _⟩
  · simp [rowB, h3] at hb
  · simp [rowB, hb'] at hb; subst hb; exact hk.lt
theorem Row.seg (h : Row w e size s xs) : Seg w s.base s.len size xs := by
  obtain ⟨h1, h2, _, h3⟩ := h
  refine ⟨h1, ?_⟩
  rcases h3 with ⟨_, h0⟩ | ⟨b, rest, hb, hk, _⟩
  · exact .inl (by omega)
  · exact .inr ⟨_, hb, Rd.of_bk hk (by simp)⟩
theorem Row.of_bk {b n : Nat} (h : Bk w b xs e) (hl : xs.length = n * size) (hn : n ≤ 9223372036854775807) : Row w e size ⟨some ⟨b, 0, none⟩, n, n⟩ xs :=
  ⟨hl, Nat.le_refl _, hn, .inr ⟨b, [], rfl, by simpa using h, by simpa using hl⟩⟩

theorem VApp.row {bytes : Nat} {zc : Array Value} {base : Option Addr} {n cap m : Nat} {src : List Value → Prop} {K : Sl → World → Prop} (h : Row w e size ⟨base, n, cap⟩ xs) (hz : zc.size = size)
    (hs : src news) (hl : news.length = m * size) (h1 : news.all Value.oneCell' = true) (hb : (n + m) * bytes ≤ 140737488355328) (h63 : n + m ≤ 9223372036854775807)
    (k : ∀ s' w', Row w' e size s' (xs ++ news) → s'.len = n + m → Ext (rowB ⟨base, n, cap⟩) w w' → (∀ b ∈ rowB s', b ∈ rowB ⟨base, n, cap⟩ ∨ b = w.heap.size) → (base.isSome = true ∨ 0 < n + m → s'.base.isSome = true) → K s' w') :
    VApp none w e size bytes zc base n cap m src K := by
  obtain ⟨hx, hnc, hcp, hr⟩ := h
  simp only at hx hnc hr hcp
  refine ⟨news, hs, hl, hb, h63, fun hfit => ?_, fun hgr => ?_⟩
  · by_cases hm : m = 0
    · subst hm
      have hn : news = [] := List.eq_nil_of_length_eq_zero (by simpa using hl)
      subst hn
      refine .inl ⟨rfl, fun w' hw => ?_⟩
      subst hw
      refine k _ _ ⟨by simpa using hx, hnc, hcp, by simpa using hr⟩ rfl (Ext.refl _ _) (fun b hb => .inl hb) (fun hp => ?_)
      rcases hr with ⟨hbn, h0⟩ | ⟨b, _, hbb, _⟩
      · rcases hp with hp | hp
        · exact hp
        · omega
      · simp [hbb]
    · rcases hr with ⟨_, h0⟩ | ⟨b, rest, hbb, hk, hrl⟩
      · omega
      · subst hbb
        have hle : (n + m) * size ≤ cap * size := Nat.mul_le_mul_right _ hfit
        rw [Nat.add_mul] at hle
        have hfit' : n * size + news.length ≤ (xs ++ rest).length := by simp; omega
        refine .inr ⟨_, rfl, h1, ?_, fun w' hw => ?_⟩
        · rw [add_blk, Nat.zero_add]; exact Wr.of_bk hk hfit'
        · rw [add_blk, Nat.zero_add] at hw
          obtain ⟨hk', he⟩ := sets_bk hk hfit' hw
          refine k _ _ ⟨by simp [hx, hl, Nat.add_mul], hfit, hcp, .inr ⟨b, (xs ++ rest).drop (n * size + news.length), rfl, ?_, ?_⟩⟩ rfl ?_ (fun b' hb' => .inl hb') (fun _ => rfl)
          · rw [← hx] at hk' ⊢
            simpa [List.take_left] using hk'
          · simp; omega
          · simpa [rowB] using he
  · refine ⟨xs, ⟨hx, ?_⟩, fun b c w' hc hc63 hnew => ?_⟩
    · rcases hr with ⟨_, h0⟩ | ⟨b, rest, hbb, hk, hrl⟩
      · exact .inl (by omega)
      · exact .inr ⟨_, hbb, Rd.of_bk hk (by simp)⟩
    · have hk := hnew.bk0
      refine k _ _ ⟨by simp [hx, hl, Nat.add_mul], hc, hc63, .inr ⟨b, (Builtin.zeroCells zc (c - (n + m))).toList, rfl, by simpa using hk, ?_⟩⟩ rfl (hnew.ext.mono (by simp)) (fun b' hb' => ?_) (fun _ => rfl)
      · have hzl : (Builtin.zeroCells zc (c - (n + m))).size = (c - (n + m)) * size := by rw [size_zeroCells, hz]
        simp only [List.length_append, Array.length_toList, hzl, hx, hl, ← Nat.add_mul]
        congr 1
        omega
      · simp [rowB] at hb'; subst hb'; exact .inr hnew.at_
/-- an append to a made empty row (or nil) gives a row of the call's own that is new -/
theorem VApp.fresh {bytes : Nat} {zc : Array Value} {base : Option Addr} {m : Nat} {src : List Value → Prop} {K : Sl → World → Prop} {w0 : World} (h : Row w e size ⟨base, 0, 0⟩ []) (hz : zc.size = size)
    (hs : src news) (hl : news.length = m * size) (h1 : news.all Value.oneCell' = true) (hb : m * bytes ≤ 140737488355328) (h63 : m ≤ 9223372036854775807)
    (e0 : Ext [] w0 w) (hn : ∀ b ∈ rowB ⟨base, 0, 0⟩, w0.heap.size ≤ b)
    (k : ∀ s' w', Row w' e size s' news → s'.len = m → Ext [] w0 w' → (∀ b ∈ rowB s', w0.heap.size ≤ b) → (base.isSome = true ∨ 0 < m → s'.base.isSome = true) → K s' w') :
    VApp none w e size bytes zc base 0 0 m src K := by
  refine VApp.row (xs := []) h hz hs hl h1 (by simpa using hb) (by simpa using h63) fun s' w' hr hlen he hbl hs' => ?_
  refine k s' w' (by simpa using hr) (by simpa using hlen) (e0.then he (fun i hi hlt => by have := hn i hi; omega)) (fun b hb => ?_) (by simpa using hs')
  rcases hbl b hb with h | h
  · exact hn b h
  · have := e0.size; omega
end

/-! texts made bytes -/
theorem VBytes.i {w : World} {e : TypeId} {s : ByteArray} {K : Nat → Nat → World → Prop}
    (k : ∀ b c w', b = w.heap.size → Bk w' b (strCells s ++ List.replicate (c - s.size) (.int .u8 0)) e → Ext [] w w' → s.size ≤ c → K b c w') : VBytes none w e s K := by
  intro b c w' hc hn
  refine k b c w' hn.at_ ⟨(c, c + 1), ?_, .inl ?_⟩ hn.ext hc
  · rw [hn.get]; simp
  · have : (strCells s).length = s.size := by unfold strCells; rw [List.length_map]; exact Array.length_toList
    simp only [List.length_append, List.length_replicate]; omega
theorem Ext.mark (w : World) (a : Addr) : Ext [a.block] w (markW w a) := by
  unfold markW
  split
  · rename_i e n _
    unfold World.freeze
    rw [if_neg (by decide)]
    refine ⟨rfl, rfl, rfl, by simp, fun k hk hm => ?_⟩
    simp only [List.mem_singleton] at hm
    simp only [Array.getElem?_modify]
    rw [if_neg (fun h => hm h.symm)]
  · exact (Ext.refl [a.block] w)
theorem Bk.mark {w : World} {b i : Nat} {cs : List Value} {t : TypeId} (h : Bk w b cs t) : Bk (markW w ⟨b, i, none⟩) b cs t := by
  obtain ⟨fr, h1, hf⟩ := h
  have hsh : w.shape? b = some (t, cs.length) := by unfold World.shape?; rw [h1]; simp
  unfold markW
  simp only [hsh]
  unfold World.freeze
  rw [if_neg (by decide)]
  obtain ⟨lo, hi⟩ := fr
  refine ⟨(if lo == hi then (cs.length, cs.length + 1) else (min lo cs.length, max hi (cs.length + 1))), ?_, ?_⟩
  · simp only [Array.getElem?_modify, if_true, h1, Option.map_some]
  · simp only at hf
    by_cases he : lo = hi
    · subst he; left; simp
    · rw [if_neg (by simpa using he)]
      left
      simp only
      omega
theorem VMark.bk {w : World} {b i : Nat} {cs : List Value} {t : TypeId} {K : World → Prop} (h : Bk w b cs t) (k : ∀ w', Bk w' b cs t → Ext [b] w w' → K w') : VMark none w ⟨b, i, none⟩ K :=
  fun w' e => e ▸ k _ h.mark (Ext.mark w ⟨b, i, none⟩)
/-! a call of a function value -/
theorem VDyn.i {P : Program} {n : FuncId} {fst cap args : Array Value} {w : World} {z : Value} {K : ArrW (flatCT z)} (hc : callee P n = true) (h : VCall none P n (fst ++ args ++ cap) w z K) :
    VDyn none P (.func (.func n) fst cap) args w z K := ⟨n, fst, cap, rfl, hc, h⟩
theorem VDyn.on {c : Bool} (hc : c = true) {P : Program} {v : Value} {args : Array Value} {w : World} {z : Value} {K : ArrW (flatCT z)} (h : VDyn none P v args w z K) : VDyn (some c) P v args w z K := ⟨fun _ => h, fun e => absurd (hc.symm.trans e) (by simp)⟩
theorem VDyn.off {c : Bool} (hc : c = false) {P : Program} {v : Value} {args : Array Value} {w : World} {z : Value} {K : ArrW (flatCT z)} (k : exW (flatCT z) (fun _ => True) K w) : VDyn (some c) P v args w z K := ⟨fun e => absurd (hc.symm.trans e) (by simp), fun _ => k⟩
/-! a step that is taken under a condition -/
theorem VApp.on {c : Bool} (hc : c = true) {w : World} {e : TypeId} {size bytes : Nat} {zc : Array Value} {base : Option Addr} {n cap m : Nat} {src : List Value → Prop} {K : Sl → World → Prop}
    (h : VApp none w e size bytes zc base n cap m src K) : VApp (some c) w e size bytes zc base n cap m src K := ⟨fun _ => h, fun e => absurd (hc.symm.trans e) (by simp)⟩
theorem VApp.off {c : Bool} (hc : c = false) {w : World} {e : TypeId} {size bytes : Nat} {zc : Array Value} {base : Option Addr} {n cap m : Nat} {src : List Value → Prop} {K : Sl → World → Prop}
    (s : Sl) (h : K s w) : VApp (some c) w e size bytes zc base n cap m src K := ⟨fun e => absurd (hc.symm.trans e) (by simp), fun _ => ⟨s, h⟩⟩
theorem VBytes.on {c : Bool} (hc : c = true) {w : World} {e : TypeId} {s : ByteArray} {K : Nat → Nat → World → Prop} (h : VBytes none w e s K) : VBytes (some c) w e s K := ⟨fun _ => h, fun e => absurd (hc.symm.trans e) (by simp)⟩
theorem VBytes.off {c : Bool} (hc : c = false) {w : World} {e : TypeId} {s : ByteArray} {K : Nat → Nat → World → Prop} (h : K 0 0 w) : VBytes (some c) w e s K := ⟨fun e => absurd (hc.symm.trans e) (by simp), fun _ => ⟨0, 0, h⟩⟩
theorem VMk.on {c : Bool} (hc : c = true) {w : World} {e : TypeId} {size bytes : Nat} {zc : Array Value} {l q : Int} {K : Nat → World → Prop} (h : VMk none w e size bytes zc l q K) : VMk (some c) w e size bytes zc l q K := ⟨fun _ => h, fun e => absurd (hc.symm.trans e) (by simp)⟩
theorem VMk.off {c : Bool} (hc : c = false) {w : World} {e : TypeId} {size bytes : Nat} {zc : Array Value} {l q : Int} {K : Nat → World → Prop} (h : K 0 w) : VMk (some c) w e size bytes zc l q K := ⟨fun e => absurd (hc.symm.trans e) (by simp), fun _ => ⟨0, h⟩⟩
theorem VNw.on {c : Bool} (hc : c = true) {w : World} {o : Obj} {K : Nat → World → Prop} (h : VNw none w o K) : VNw (some c) w o K := ⟨fun _ => h, fun e => absurd (hc.symm.trans e) (by simp)⟩
theorem VNw.off {c : Bool} (hc : c = false) {w : World} {o : Obj} {K : Nat → World → Prop} (h : K 0 w) : VNw (some c) w o K := ⟨fun e => absurd (hc.symm.trans e) (by simp), fun _ => ⟨0, h⟩⟩
theorem VSt.on {c : Bool} (hc : c = true) {w : World} {a : Addr} {vs : List Value} {K : World → Prop} (h : VSt none w a vs K) : VSt (some c) w a vs K := ⟨fun _ => h, fun e => absurd (hc.symm.trans e) (by simp)⟩
theorem VMark.on {c : Bool} (hc : c = true) {w : World} {a : Addr} {K : World → Prop} (h : VMark none w a K) : VMark (some c) w a K := ⟨fun _ => h, fun e => absurd (hc.symm.trans e) (by simp)⟩
theorem VMark.off {c : Bool} (hc : c = false) {w : World} {a : Addr} {K : World → Prop} (h : K w) : VMark (some c) w a K := ⟨fun e => absurd (hc.symm.trans e) (by simp), fun _ => h⟩

/-! numbers -/
theorem w64 {n : Int} (h : -9223372036854775808 ≤ n ∧ n ≤ 9223372036854775807) : IntKind.wrap .i64 n = n := IntWalk.i64_in n h

theorem w64u (n : Int) : IntKind.wrap .u64 n = n % 18446744073709551616 := IntKind.wrap_u64 n
theorem bAnd_mask (x : Int) (k : Nat) (hk : k ≤ 62) : bAnd .i64 x (2 ^ k - 1 : Nat) = x % (2 ^ k : Nat) := by
  unfold bAnd
  have h1 : (BitVec.ofInt (IntKind.bits .i64) x &&& BitVec.ofInt (IntKind.bits .i64) ((2 ^ k - 1 : Nat) : Int)).toNat = (x % 18446744073709551616).toNat % 2 ^ k := by
    have hb : IntKind.bits .i64 = 64 := rfl
    rw [hb, BitVec.toNat_and, BitVec.toNat_ofInt, BitVec.toNat_ofInt]
    have hlt : 2 ^ k - 1 < 2 ^ 64 := by
      have : 2 ^ k ≤ 2 ^ 62 := Nat.pow_le_pow_right (by omega) hk
      omega
    have : (((2 ^ k - 1 : Nat) : Int) % ((2 ^ 64 : Nat) : Int)).toNat = 2 ^ k - 1 := by
      rw [← Int.natCast_emod, Nat.mod_eq_of_lt hlt]; rfl
    rw [this, Nat.and_two_pow_sub_one_eq_mod]
    rfl
  rw [h1]
  have hd : (18446744073709551616 : Int) = (2 ^ k : Nat) * ((2 ^ (64 - k) : Nat) : Int) := by
    rw [← Int.natCast_mul, ← Nat.pow_add, show k + (64 - k) = 64 by omega]; rfl
  have h2 : (((x % 18446744073709551616).toNat % 2 ^ k : Nat) : Int) = x % (2 ^ k : Nat) := by
    rw [Int.natCast_emod, Int.toNat_of_nonneg (Int.emod_nonneg _ (by omega)), hd]
    exact Int.emod_emod_of_dvd _ ⟨_, rfl⟩
  rw [h2]
  have hp : (0 : Int) < (2 ^ k : Nat) := by have := Nat.pos_of_ne_zero (n := 2 ^ k) (by simp); omega
  have h3 := Int.emod_nonneg x (Int.ne_of_gt hp)
  have h4 := Int.emod_lt_of_pos x hp
  have h5 : (2 ^ k : Nat) ≤ 4611686018427387904 := by
    have : 2 ^ k ≤ 2 ^ 62 := Nat.pow_le_pow_right (by omega) hk
    omega
  exact w64 (by omega)
end Go.Proofs.Ytknohdgcigcmdaa
