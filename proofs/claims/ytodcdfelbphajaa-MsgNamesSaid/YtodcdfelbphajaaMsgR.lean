/-
  Package msg: a message is read.
-/
import Derived.Test.YtodcdfelbphajaaMsgQ
namespace Go.Proofs.Ytodcdfelbphajaa
open Go.RowKit
set_option maxRecDepth 100000

/-- what a reading stands at -/
structure De (w0 wA W : World) (mb rb b2 r q d : Nat) (x : MV) (X : List EX) (L : List Int) (P : List Pr) (Q : List Ls) (st : Option (List UInt8)) : Prop where
  rc : RC wA.heap.size W r q d st
  m : Bk W mb (mvF x) 34
  p : Bk W rb [.pointer (some ⟨r, 0, none⟩)] 90
  b : ∃ cs, cs.length = 33 ∧ Bk W b2 cs 34
  e : Ext [] w0 W
  n : wA.heap.size ≤ W.heap.size
  f1 : wA.heap.size ≤ mb
  f2 : wA.heap.size ≤ rb
  f3 : b2 < wA.heap.size
  f4 : w0.heap.size ≤ b2
  f5 : w0.heap.size ≤ q
  f6 : rb ≠ mb
  f7 : b2 ≠ q
  f8 : w0.heap.size ≤ wA.heap.size
  le : EOwn wA W x.e X
  ll : OwnR intR 3 wA W x.l L
  lp : OwnR prR 52 wA W x.p P
  lq : OwnR lsR 55 wA W x.q Q
  el : ∀ j (hj : j < X.length), ∀ b ∈ rowB (X[j]).1.2.2.2, b ∉ rowB x.l
theorem OwnR.nb {α : Type} {r : Rec α} {e t : TypeId} {w0 w : World} {s : Sl} {L : List α} {b : Nat} {cs : List Value} (h : OwnR r e w0 w s L) (k : Bk w b cs t) (hne : e ≠ t) : ∀ i ∈ rowB s, i ∉ [b] := fun i hi hq => by
  simp at hq; subst hq
  obtain ⟨_, hz⟩ := h.1.bk_of hi
  exact hz.neT k hne rfl
theorem EOwn.nb {w0 w w' : World} {s : Sl} {X : List EX} {t : TypeId} {b : Nat} {cs : List Value} (h : EOwn w0 w s X) (k : Bk w b cs t) (h1 : 58 ≠ t) (h2 : 3 ≠ t) (e : Ext [b] w w') : EOwn w0 w' s X :=
  h.ext e fun i _ hi hm => by
    simp at hm; subst hm
    rcases hi with ⟨_, hz⟩ | ⟨_, hz⟩
    · exact hz.neT k h1 rfl
    · exact hz.neT k h2 rfl
section
variable {w0 wA W : World} {mb rb b2 r q d : Nat} {x : MV} {X : List EX} {L : List Int} {P : List Pr} {Q : List Ls} {st : Option (List UInt8)}
theorem De.ext0 {W' : World} (h : De w0 wA W mb rb b2 r q d x X L P Q st) (e : Ext [] W W') : De w0 wA W' mb rb b2 r q d x X L P Q st := by
  obtain ⟨cs, hc, hb⟩ := h.b
  exact ⟨h.rc.ext0 e, h.m.ext e, h.p.ext e, ⟨cs, hc, hb.ext e⟩, h.e.then0 e, Nat.le_trans h.n e.size, h.f1, h.f2, h.f3, h.f4, h.f5, h.f6, h.f7, h.f8, h.le.ext0 e, h.ll.ext0 e, h.lp.ext0 e, h.lq.ext0 e, h.el⟩
/-- behind a reading -/
theorem De.rd {W' : World} {st' : Option (List UInt8)} (h : De w0 wA W mb rb b2 r q d x X L P Q st) (h' : RC wA.heap.size W' r q d st') (e : Ext [q] W W') : De w0 wA W' mb rb b2 r q d x X L P Q st' := by
  obtain ⟨cs, hc, hb⟩ := h.b
  have lq := h.rc.lq
  have f1 := h.f1
  have f2 := h.f2
  have f5 := h.f5
  have f7 := h.f7
  have ag : ∀ {α : Type} {r : Rec α} {e : TypeId} {s : Sl} {L : List α}, OwnR r e wA W s L → ∀ b ∈ rowB s, b ∉ [q] := fun ho b hb hm => by
    have := ho.2 b hb
    simp at hm; omega
  exact ⟨h', h.m.ext e (by simp; omega), h.p.ext e (by simp; omega), ⟨cs, hc, hb.ext e (by simpa using f7)⟩, h.e.then e (fun i hi hlt => by simp at hi; omega), Nat.le_trans h.n e.size, f1, f2, h.f3, h.f4, f5, h.f6, f7, h.f8, h.le.extq e lq, h.ll.ext e (ag h.ll), h.lp.ext e (ag h.lp), h.lq.ext e (ag h.lq), h.el⟩
/-- behind a writing into the message -/
theorem De.wr {W' : World} {x' : MV} (h : De w0 wA W mb rb b2 r q d x X L P Q st) (hk : Bk W' mb (mvF x') 34) (e : Ext [mb] W W') (he : x'.e = x.e) (hl : x'.l = x.l) (hp : x'.p = x.p) (hq : x'.q = x.q) : De w0 wA W' mb rb b2 r q d x' X L P Q st := by
  obtain ⟨cs, hc, hb⟩ := h.b
  have f1 := h.f1
  have f3 := h.f3
  have f6 := h.f6
  have f8 := h.f8
  refine ⟨h.rc.new e (fun i hi => by simp at hi; omega), hk, h.p.ext e (by simpa using f6), ⟨cs, hc, hb.ext e (by simp; omega)⟩, h.e.then e (fun i hi hlt => by simp at hi; omega), Nat.le_trans h.n e.size, f1, h.f2, f3, h.f4, h.f5, f6, h.f7, f8, ?_, ?_, ?_, ?_, ?_⟩
  · rw [he]; exact h.le.nb h.m (by decide) (by decide) e
  · rw [hl]; exact h.ll.ext e (h.ll.nb h.m (by decide))
  · rw [hp]; exact h.lp.ext e (h.lp.nb h.m (by decide))
  · rw [hq]; exact h.lq.ext e (h.lq.nb h.m (by decide))
  · rw [hl]; exact h.el
theorem De.ld (h : De w0 wA W mb rb b2 r q d x X L P Q st) {K : Option Addr → Prop} (k : K (some ⟨r, 0, none⟩)) : VLd none W ⟨rb, 0, none⟩ [CT.ptr] K := VLd.i1 (t := .ptr) (some ⟨r, 0, none⟩) (Rd.of_bk h.p rfl) k
theorem De.rp (h : De w0 wA W mb rb b2 r q d x X L P Q st) {K : Prop} (k : K) : Rd W ⟨rb, 0, none⟩ [.pointer (some ⟨r, 0, none⟩)] ∧ K := ⟨Rd.of_bk h.p rfl, k⟩
theorem De.num (h : De w0 wA W mb rb b2 r q d x X L P Q st) {K : Int → World → Prop} (k : ∀ v st' W', rNum st = (v, st') → De w0 wA W' mb rb b2 r q d x X L P Q st' → Ext [q] W W' → K v W') : VCall none Try.prog 51 #[.agg #[.pointer (some ⟨r, 0, none⟩)]] W (.int .i64 0) fun (v : Int) (W' : World) => K v W' :=
  h.rc.num' fun v s' W' h1 h2 h3 => k v s' W' h1 (h.rd h2 h3) h3
theorem De.kind (h : De w0 wA W mb rb b2 r q d x X L P Q st) {K : Int → World → Prop} (k : ∀ v st' W', rK st = (v, st') → De w0 wA W' mb rb b2 r q d x X L P Q st' → Ext [q] W W' → K v W') : VCall none Try.prog 50 #[.agg #[.pointer (some ⟨r, 0, none⟩)]] W (.int .u8 0) fun (v : Int) (W' : World) => K v W' :=
  h.rc.kind' fun v s' W' h1 h2 h3 => k v s' W' h1 (h.rd h2 h3) h3
theorem De.text (h : De w0 wA W mb rb b2 r q d x X L P Q st) {K : ByteArray → World → Prop} (k : ∀ v st' W', rS st = (v, st') → De w0 wA W' mb rb b2 r q d x X L P Q st' → Ext [q] W W' → K v W') : VCall none Try.prog 52 #[.agg #[.pointer (some ⟨r, 0, none⟩)]] W (.string ByteArray.empty) fun (v : ByteArray) (W' : World) => K v W' :=
  h.rc.text' fun v s' W' h1 h2 h3 => k v s' W' h1 (h.rd h2 h3) h3
theorem De.flag (h : De w0 wA W mb rb b2 r q d x X L P Q st) {K : Bool → World → Prop} (k : ∀ v st' W', rF st = (v, st') → De w0 wA W' mb rb b2 r q d x X L P Q st' → Ext [q] W W' → K v W') : VCall none Try.prog 53 #[.pointer (some ⟨r, 0, none⟩)] W (.bool false) fun (v : Bool) (W' : World) => K v W' :=
  h.rc.flag' fun v s' W' h1 h2 h3 => k v s' W' h1 (h.rd h2 h3) h3
theorem De.res (h : De w0 wA W mb rb b2 r q d x X L P Q st) {K : Int → Bool → ByteArray → World → Prop} (k : ∀ v1 v2 v3 st' W', rRes st = ((v1, v2, v3), st') → De w0 wA W' mb rb b2 r q d x X L P Q st' → Ext [q] W W' → K v1 v2 v3 W') :
    VCall none Try.prog 54 #[.agg #[.pointer (some ⟨r, 0, none⟩)]] W (.agg #[.int .u8 0, .bool false, .string ByteArray.empty]) fun (v1 : Int) (v2 : Bool) (v3 : ByteArray) (W' : World) => K v1 v2 v3 W' :=
  h.rc.res' h.n fun v1 v2 v3 s' W' h1 h2 h3 => k v1 v2 v3 s' W' h1 (h.rd h2 h3) h3
end
theorem exW.i5 {w : World} {t u v q s : CT} {R : List Value → Prop} {K : ArrW [t, u, v, q, s]} (x : t.D) (y : u.D) (z : v.D) (p : q.D) (a : s.D) (h : R [t.val x, u.val y, v.val z, q.val p, s.val a]) (k : K x y z p a w) : exW [t, u, v, q, s] R K w := ⟨x, y, z, p, a, h, k⟩
theorem EOwn.mono {w0 w1 w : World} {s : Sl} {X : List EX} (h : EOwn w1 w s X) (le : w0.heap.size ≤ w1.heap.size) : EOwn w0 w s X := ⟨h.er.mono le, fun j hj => (h.ea j hj).mono le, h.es⟩
theorem OwnR.extA {α : Type} {r : Rec α} {e : TypeId} {w0 w w' : World} {s : Sl} {L : List α} {q : Nat} (h : OwnR r e w0 w s L) (x : Ext [q] w w') (hq : q < w0.heap.size) : OwnR r e w0 w' s L := h.ext x fun b hb hm => by
  have := h.2 b hb
  simp at hm; omega
section
variable {w0 wA W W' : World} {mb rb b2 r q d : Nat} {x x' : MV} {X X' : List EX} {L L' : List Int} {P P' : List Pr} {Q Q' : List Ls} {st : Option (List UInt8)}
/-- behind the entries' list was put in -/
theorem De.wrE {se : Sl} (h : De w0 wA W mb rb b2 r q d x [] [] P Q st) (ho : EOwn wA W se X') (hk : Bk W' mb (mvF x') 34) (e : Ext [mb] W W') (he : x'.e = se) (hl : x'.l = x.l) (hl0 : x.l = ⟨none, 0, 0⟩) (hp : x'.p = x.p) (hq : x'.q = x.q) : De w0 wA W' mb rb b2 r q d x' X' [] P Q st := by
  obtain ⟨cs, hc, hb⟩ := h.b
  have f1 := h.f1
  have f3 := h.f3
  have f6 := h.f6
  have f8 := h.f8
  refine ⟨h.rc.new e (fun i hi => by simp at hi; omega), hk, h.p.ext e (by simpa using f6), ⟨cs, hc, hb.ext e (by simp; omega)⟩, h.e.then e (fun i hi hlt => by simp at hi; omega), Nat.le_trans h.n e.size, f1, h.f2, f3, h.f4, h.f5, f6, h.f7, f8, ?_, ?_, ?_, ?_, ?_⟩
  · rw [he]; exact ho.nb h.m (by decide) (by decide) e
  · rw [hl]; exact h.ll.ext e (h.ll.nb h.m (by decide))
  · rw [hp]; exact h.lp.ext e (h.lp.nb h.m (by decide))
  · rw [hq]; exact h.lq.ext e (h.lq.nb h.m (by decide))
  · rw [hl, hl0]; intro j hj b hb hb'; simp [rowB] at hb'
theorem De.wrL {sl : Sl} (h : De w0 wA W mb rb b2 r q d x X L P Q st) (ho : OwnR intR 3 wA W sl L') (hd : ∀ j (hj : j < X.length), ∀ b ∈ rowB (X[j]).1.2.2.2, b ∉ rowB sl) (hk : Bk W' mb (mvF x') 34) (e : Ext [mb] W W') (he : x'.e = x.e) (hl : x'.l = sl) (hp : x'.p = x.p) (hq : x'.q = x.q) (_ : True = True) : De w0 wA W' mb rb b2 r q d x' X L' P Q st := by
  obtain ⟨cs, hc, hb⟩ := h.b
  have f1 := h.f1
  have f3 := h.f3
  have f6 := h.f6
  have f8 := h.f8
  refine ⟨h.rc.new e (fun i hi => by simp at hi; omega), hk, h.p.ext e (by simpa using f6), ⟨cs, hc, hb.ext e (by simp; omega)⟩, h.e.then e (fun i hi hlt => by simp at hi; omega), Nat.le_trans h.n e.size, f1, h.f2, f3, h.f4, h.f5, f6, h.f7, f8, ?_, ?_, ?_, ?_, ?_⟩
  · rw [he]; exact h.le.nb h.m (by decide) (by decide) e
  · rw [hl]; exact ho.ext e (ho.nb h.m (by decide))
  · rw [hp]; exact h.lp.ext e (h.lp.nb h.m (by decide))
  · rw [hq]; exact h.lq.ext e (h.lq.nb h.m (by decide))
  · rw [hl]; exact hd
theorem De.wrP {sp : Sl} (h : De w0 wA W mb rb b2 r q d x X L P Q st) (ho : OwnR prR 52 wA W sp P') (hk : Bk W' mb (mvF x') 34) (e : Ext [mb] W W') (he : x'.e = x.e) (hl : x'.l = x.l) (hp : x'.p = sp) (hq : x'.q = x.q) (_ : True = True) : De w0 wA W' mb rb b2 r q d x' X L P' Q st := by
  obtain ⟨cs, hc, hb⟩ := h.b
  have f1 := h.f1
  have f3 := h.f3
  have f6 := h.f6
  have f8 := h.f8
  refine ⟨h.rc.new e (fun i hi => by simp at hi; omega), hk, h.p.ext e (by simpa using f6), ⟨cs, hc, hb.ext e (by simp; omega)⟩, h.e.then e (fun i hi hlt => by simp at hi; omega), Nat.le_trans h.n e.size, f1, h.f2, f3, h.f4, h.f5, f6, h.f7, f8, ?_, ?_, ?_, ?_, ?_⟩
  · rw [he]; exact h.le.nb h.m (by decide) (by decide) e
  · rw [hl]; exact h.ll.ext e (h.ll.nb h.m (by decide))
  · rw [hp]; exact ho.ext e (ho.nb h.m (by decide))
  · rw [hq]; exact h.lq.ext e (h.lq.nb h.m (by decide))
  · rw [hl]; exact h.el
theorem De.wrQ {sq : Sl} (h : De w0 wA W mb rb b2 r q d x X L P Q st) (ho : OwnR lsR 55 wA W sq Q') (hk : Bk W' mb (mvF x') 34) (e : Ext [mb] W W') (he : x'.e = x.e) (hl : x'.l = x.l) (hp : x'.p = x.p) (hq : x'.q = sq) (_ : True = True) : De w0 wA W' mb rb b2 r q d x' X L P Q' st := by
  obtain ⟨cs, hc, hb⟩ := h.b
  have f1 := h.f1
  have f3 := h.f3
  have f6 := h.f6
  have f8 := h.f8
  refine ⟨h.rc.new e (fun i hi => by simp at hi; omega), hk, h.p.ext e (by simpa using f6), ⟨cs, hc, hb.ext e (by simp; omega)⟩, h.e.then e (fun i hi hlt => by simp at hi; omega), Nat.le_trans h.n e.size, f1, h.f2, f3, h.f4, h.f5, f6, h.f7, f8, ?_, ?_, ?_, ?_, ?_⟩
  · rw [he]; exact h.le.nb h.m (by decide) (by decide) e
  · rw [hl]; exact h.ll.ext e (h.ll.nb h.m (by decide))
  · rw [hp]; exact h.lp.ext e (h.lp.nb h.m (by decide))
  · rw [hq]; exact ho.ext e (ho.nb h.m (by decide))
  · rw [hl]; exact h.el
end
theorem zero_msg (cs : List Value) (hc : cs.length = 33) (vs : List Value) (hv : vs.length = 33) : List.take 0 cs ++ vs ++ List.drop (0 + vs.length) cs = vs := by
  rw [List.drop_eq_nil_of_le (by omega)]; simp
theorem mv0_in (w0 w : World) : MO w0 w mv0 ⟨sc0, [], [], [], []⟩ [] := ⟨rfl, OwnR.nil _ _ _ _, fun j hj => absurd hj (by simp), fun i j hi => absurd hi (by simp), fun j hj => absurd hj (by simp), rfl, OwnR.nil _ _ _ _, OwnR.nil _ _ _ _, OwnR.nil _ _ _ _⟩
set_option maxHeartbeats 4000000 in
theorem Decode_spec (s : Sl) (l : List UInt8) (w : World) (h : Seg w s.base s.len 1 (bc l)) (hll : l.length ≤ 140737488355328) :
    Calls Try.prog 16 #[.slice s.base s.len s.cap] w fun e w' => ∃ (m : MV) (X : List EX), e = .returned (.tuple #[mva m, .int .i64 (decM l).2]) ∧ MO w w' m (decM l).1 X ∧ Ext [] w w' := by
  refine sh_msg_Decode_ok _ _ _ ?_
  unfold sh_msg_Decode
  have hlen := h.blen
  refine VNw.i fun b2 w1 hb2 hk1 e1 => VIf.mk (fun hc => ?_) (fun hc => ?_)
  · have hc : 8192 < l.length := by simp at hc; omega
    have hd : decM l = (⟨sc0, [], [], [], []⟩, 4) := by unfold decM; rw [if_pos hc]
    rw [hd]
    refine VSt.bk hk1 rfl (by simp) fun w2 hk2 e2 => ?_
    have hk2 : Bk w2 b2 (mvF mv0) 34 := hk2
    exact VLd.mv mv0 (Rd.of_bk hk2 rfl) ⟨mv0, [], rfl, mv0_in _ _, e1.then e2 (fun i hi hlt => by simp at hi; omega)⟩
  have hc : ¬ 8192 < l.length := by simp at hc; omega
  refine VCall.i (NewReader_spec s l w1 (h.ext0 e1) hll) ?_
  rintro e wA ⟨r, q, d0, rfl, hrep, eA, gr, gq, gd⟩
  refine exW.i1 (t := .ptr) (some ⟨r, 0, none⟩) rfl ?_
  obtain ⟨d, hrc⟩ := hrep.fix
  have lb2 := hk1.lt
  refine VNw.i fun rb w4 hrb hk4 e4 => VSt.bk hk4 rfl (by simp) fun w5 hk5 e5 => ?_
  have hk5 : Bk w5 rb [.pointer (some ⟨r, 0, none⟩)] 90 := hk5
  have eA5 : Ext [] wA w5 := e4.then e5 (fun i hi hlt => by simp at hi; omega)
  have rc5 := hrc.ext0 eA5
  refine VLd.i1 (t := .ptr) (some ⟨r, 0, none⟩) (Rd.of_bk hk5 rfl) ?_
  have lqA := hrc.lq
  refine rc5.kind' fun v0 s0 w6 g0 rc6 e6 => ?_
  have rq : rb ∉ [q] := by simp; omega
  have lrb := hk5.lt
  refine VNw.i fun mb w7 hmb hk7 e7 => VSt.bk hk7 rfl (by simp) fun w8 hk8 e8 => ?_
  have z1 := e1.size
  have zA := eA.size
  have z5 := eA5.size
  have z6 := e6.size
  have hk8 : Bk w8 mb (mvF ⟨⟨v0, 0, 0, 0, 0, 0, 0, 0, ByteArray.empty, ByteArray.empty, ByteArray.empty, false, 0, 0, false, ByteArray.empty, 0, 0, 0, 0, 0, false, ByteArray.empty, 0, false, 0, 0, 0, 0⟩, ⟨none, 0, 0⟩, ⟨none, 0, 0⟩, ⟨none, 0, 0⟩, ⟨none, 0, 0⟩⟩) 34 := hk8
  have e68 : Ext [] w6 w8 := e7.then e8 (fun i hi hlt => by simp at hi; omega)
  have e16 : Ext [] w1 w6 := (eA.then0 eA5).then e6 (fun i hi hlt => by simp at hi; omega)
  have hbq : b2 ∉ [q] := by simp; omega
  have hk1A := (((hk1.ext (eA.then0 eA5)).ext e6 hbq).ext e68)
  have h0 : De w wA w8 mb rb b2 r q d ⟨⟨v0, 0, 0, 0, 0, 0, 0, 0, ByteArray.empty, ByteArray.empty, ByteArray.empty, false, 0, 0, false, ByteArray.empty, 0, 0, 0, 0, 0, false, ByteArray.empty, 0, false, 0, 0, 0, 0⟩, ⟨none, 0, 0⟩, ⟨none, 0, 0⟩, ⟨none, 0, 0⟩, ⟨none, 0, 0⟩⟩ [] [] [] [] s0 := ⟨rc6.ext0 e68, hk8, ((hk5.ext e6 rq).ext e68), ⟨_, by rfl, hk1A⟩, (e1.then0 e16).then0 e68, by have := e68.size; omega, by omega, by omega, by omega, by omega, by omega, by omega, by omega, by omega, EOwn.nil _ _, OwnR.nil _ _ _ _, OwnR.nil _ _ _ _, OwnR.nil _ _ _ _, fun j hj => absurd hj (by simp)⟩
  intro wd1 hwd1
  have t1 := h0.ext0 (Ext.drew' hwd1)
  refine t1.ld ?_
  refine t1.ld ?_
  refine t1.ld ?_
  refine t1.ld ?_
  refine t1.ld ?_
  refine t1.ld ?_
  refine t1.num fun v1 s1 W2 g1 t2 E2 => ?_
  refine t2.rp ?_
  refine t2.rp ?_
  refine t2.rp ?_
  refine t2.rp ?_
  refine t2.rp ?_
  refine t2.num fun v2 s2 W3 g2 t3 E3 => ?_
  refine t3.rp ?_
  refine t3.rp ?_
  refine t3.rp ?_
  refine t3.rp ?_
  refine t3.num fun v3 s3 W4 g3 t4 E4 => ?_
  refine t4.rp ?_
  refine t4.rp ?_
  refine t4.rp ?_
  refine t4.num fun v4 s4 W5 g4 t5 E5 => ?_
  refine t5.rp ?_
  refine t5.rp ?_
  refine t5.num fun v5 s5 W6 g5 t6 E6 => ?_
  refine t6.rp ?_
  refine t6.num fun v6 s6 W7 g6 t7 E7 => ?_
  refine VSt.bk t7.m rfl (by simp [mvF]) fun W8 k8 E8 => ?_
  have t8 := t7.wr (x' := ⟨⟨v0, v1, 0, 0, 0, 0, 0, 0, ByteArray.empty, ByteArray.empty, ByteArray.empty, false, 0, 0, false, ByteArray.empty, 0, 0, 0, 0, 0, false, ByteArray.empty, 0, false, 0, 0, 0, 0⟩, ⟨none, 0, 0⟩, ⟨none, 0, 0⟩, ⟨none, 0, 0⟩, ⟨none, 0, 0⟩⟩) k8 E8 rfl rfl rfl rfl
  clear k8
  refine VSt.bk t8.m rfl (by simp [mvF]) fun W9 k9 E9 => ?_
  have t9 := t8.wr (x' := ⟨⟨v0, v1, v2, 0, 0, 0, 0, 0, ByteArray.empty, ByteArray.empty, ByteArray.empty, false, 0, 0, false, ByteArray.empty, 0, 0, 0, 0, 0, false, ByteArray.empty, 0, false, 0, 0, 0, 0⟩, ⟨none, 0, 0⟩, ⟨none, 0, 0⟩, ⟨none, 0, 0⟩, ⟨none, 0, 0⟩⟩) k9 E9 rfl rfl rfl rfl
  clear k9
  refine VSt.bk t9.m rfl (by simp [mvF]) fun W10 k10 E10 => ?_
  have t10 := t9.wr (x' := ⟨⟨v0, v1, v2, v3, 0, 0, 0, 0, ByteArray.empty, ByteArray.empty, ByteArray.empty, false, 0, 0, false, ByteArray.empty, 0, 0, 0, 0, 0, false, ByteArray.empty, 0, false, 0, 0, 0, 0⟩, ⟨none, 0, 0⟩, ⟨none, 0, 0⟩, ⟨none, 0, 0⟩, ⟨none, 0, 0⟩⟩) k10 E10 rfl rfl rfl rfl
  clear k10
  refine VSt.bk t10.m rfl (by simp [mvF]) fun W11 k11 E11 => ?_
  have t11 := t10.wr (x' := ⟨⟨v0, v1, v2, v3, v4, 0, 0, 0, ByteArray.empty, ByteArray.empty, ByteArray.empty, false, 0, 0, false, ByteArray.empty, 0, 0, 0, 0, 0, false, ByteArray.empty, 0, false, 0, 0, 0, 0⟩, ⟨none, 0, 0⟩, ⟨none, 0, 0⟩, ⟨none, 0, 0⟩, ⟨none, 0, 0⟩⟩) k11 E11 rfl rfl rfl rfl
  clear k11
  refine VSt.bk t11.m rfl (by simp [mvF]) fun W12 k12 E12 => ?_
  have t12 := t11.wr (x' := ⟨⟨v0, v1, v2, v3, v4, v5, 0, 0, ByteArray.empty, ByteArray.empty, ByteArray.empty, false, 0, 0, false, ByteArray.empty, 0, 0, 0, 0, 0, false, ByteArray.empty, 0, false, 0, 0, 0, 0⟩, ⟨none, 0, 0⟩, ⟨none, 0, 0⟩, ⟨none, 0, 0⟩, ⟨none, 0, 0⟩⟩) k12 E12 rfl rfl rfl rfl
  clear k12
  refine VSt.bk t12.m rfl (by simp [mvF]) fun W13 k13 E13 => ?_
  have t13 := t12.wr (x' := ⟨⟨v0, v1, v2, v3, v4, v5, v6, 0, ByteArray.empty, ByteArray.empty, ByteArray.empty, false, 0, 0, false, ByteArray.empty, 0, 0, 0, 0, 0, false, ByteArray.empty, 0, false, 0, 0, 0, 0⟩, ⟨none, 0, 0⟩, ⟨none, 0, 0⟩, ⟨none, 0, 0⟩, ⟨none, 0, 0⟩⟩) k13 E13 rfl rfl rfl rfl
  clear k13
  intro wd14 hwd14
  have t14 := t13.ext0 (Ext.drew' hwd14)
  refine t14.ld ?_
  refine t14.ld ?_
  refine t14.ld ?_
  refine t14.ld ?_
  refine t14.ld ?_
  refine t14.kind fun v7 s7 W15 g7 t15 E15 => ?_
  refine t15.rp ?_
  refine t15.rp ?_
  refine t15.rp ?_
  refine t15.rp ?_
  refine t15.text fun v8 s8 W16 g8 t16 E16 => ?_
  refine t16.rp ?_
  refine t16.rp ?_
  refine t16.rp ?_
  refine t16.text fun v9 s9 W17 g9 t17 E17 => ?_
  refine t17.rp ?_
  refine t17.rp ?_
  refine t17.text fun v10 s10 W18 g10 t18 E18 => ?_
  refine t18.rp ?_
  refine t18.flag fun v11 s11 W19 g11 t19 E19 => ?_
  refine VSt.bk t19.m rfl (by simp [mvF]) fun W20 k20 E20 => ?_
  have t20 := t19.wr (x' := ⟨⟨v0, v1, v2, v3, v4, v5, v6, v7, v8, v9, v10, v11, 0, 0, false, ByteArray.empty, 0, 0, 0, 0, 0, false, ByteArray.empty, 0, false, 0, 0, 0, 0⟩, ⟨none, 0, 0⟩, ⟨none, 0, 0⟩, ⟨none, 0, 0⟩, ⟨none, 0, 0⟩⟩) k20 E20 rfl rfl rfl rfl
  clear k20
  intro wd21 hwd21
  have t21 := t20.ext0 (Ext.drew' hwd21)
  refine t21.ld ?_
  refine t21.ld ?_
  refine t21.num fun v12 s12 W22 g12 t22 E22 => ?_
  refine t22.rp ?_
  refine t22.res fun v13 v14 v15 s13 W23 g13 t23 E23 => ?_
  refine VSt.bk t23.m rfl (by simp [mvF]) fun W24 k24 E24 => ?_
  have t24 := t23.wr (x' := ⟨⟨v0, v1, v2, v3, v4, v5, v6, v7, v8, v9, v10, v11, v12, 0, false, ByteArray.empty, 0, 0, 0, 0, 0, false, ByteArray.empty, 0, false, 0, 0, 0, 0⟩, ⟨none, 0, 0⟩, ⟨none, 0, 0⟩, ⟨none, 0, 0⟩, ⟨none, 0, 0⟩⟩) k24 E24 rfl rfl rfl rfl
  clear k24
  refine VSt.bk t24.m rfl (by simp [mvF]) fun W25 k25 E25 => ?_
  have t25 := t24.wr (x' := ⟨⟨v0, v1, v2, v3, v4, v5, v6, v7, v8, v9, v10, v11, v12, v13, v14, v15, 0, 0, 0, 0, 0, false, ByteArray.empty, 0, false, 0, 0, 0, 0⟩, ⟨none, 0, 0⟩, ⟨none, 0, 0⟩, ⟨none, 0, 0⟩, ⟨none, 0, 0⟩⟩) k25 E25 rfl rfl rfl rfl
  clear k25
  intro wd26 hwd26
  have t26 := t25.ext0 (Ext.drew' hwd26)
  refine t26.ld ?_
  refine t26.ld ?_
  refine t26.ld ?_
  refine t26.ld ?_
  refine t26.ld ?_
  refine t26.num fun v16 s16 W27 g16 t27 E27 => ?_
  refine t27.rp ?_
  refine t27.rp ?_
  refine t27.rp ?_
  refine t27.rp ?_
  refine t27.num fun v17 s17 W28 g17 t28 E28 => ?_
  refine t28.rp ?_
  refine t28.rp ?_
  refine t28.rp ?_
  refine t28.num fun v18 s18 W29 g18 t29 E29 => ?_
  refine t29.rp ?_
  refine t29.rp ?_
  refine t29.num fun v19 s19 W30 g19 t30 E30 => ?_
  refine t30.rp ?_
  refine t30.num fun v20 s20 W31 g20 t31 E31 => ?_
  refine VSt.bk t31.m rfl (by simp [mvF]) fun W32 k32 E32 => ?_
  have t32 := t31.wr (x' := ⟨⟨v0, v1, v2, v3, v4, v5, v6, v7, v8, v9, v10, v11, v12, v13, v14, v15, v16, 0, 0, 0, 0, false, ByteArray.empty, 0, false, 0, 0, 0, 0⟩, ⟨none, 0, 0⟩, ⟨none, 0, 0⟩, ⟨none, 0, 0⟩, ⟨none, 0, 0⟩⟩) k32 E32 rfl rfl rfl rfl
  clear k32
  refine VSt.bk t32.m rfl (by simp [mvF]) fun W33 k33 E33 => ?_
  have t33 := t32.wr (x' := ⟨⟨v0, v1, v2, v3, v4, v5, v6, v7, v8, v9, v10, v11, v12, v13, v14, v15, v16, v17, 0, 0, 0, false, ByteArray.empty, 0, false, 0, 0, 0, 0⟩, ⟨none, 0, 0⟩, ⟨none, 0, 0⟩, ⟨none, 0, 0⟩, ⟨none, 0, 0⟩⟩) k33 E33 rfl rfl rfl rfl
  clear k33
  refine VSt.bk t33.m rfl (by simp [mvF]) fun W34 k34 E34 => ?_
  have t34 := t33.wr (x' := ⟨⟨v0, v1, v2, v3, v4, v5, v6, v7, v8, v9, v10, v11, v12, v13, v14, v15, v16, v17, v18, 0, 0, false, ByteArray.empty, 0, false, 0, 0, 0, 0⟩, ⟨none, 0, 0⟩, ⟨none, 0, 0⟩, ⟨none, 0, 0⟩, ⟨none, 0, 0⟩⟩) k34 E34 rfl rfl rfl rfl
  clear k34
  refine VSt.bk t34.m rfl (by simp [mvF]) fun W35 k35 E35 => ?_
  have t35 := t34.wr (x' := ⟨⟨v0, v1, v2, v3, v4, v5, v6, v7, v8, v9, v10, v11, v12, v13, v14, v15, v16, v17, v18, v19, 0, false, ByteArray.empty, 0, false, 0, 0, 0, 0⟩, ⟨none, 0, 0⟩, ⟨none, 0, 0⟩, ⟨none, 0, 0⟩, ⟨none, 0, 0⟩⟩) k35 E35 rfl rfl rfl rfl
  clear k35
  refine VSt.bk t35.m rfl (by simp [mvF]) fun W36 k36 E36 => ?_
  have t36 := t35.wr (x' := ⟨⟨v0, v1, v2, v3, v4, v5, v6, v7, v8, v9, v10, v11, v12, v13, v14, v15, v16, v17, v18, v19, v20, false, ByteArray.empty, 0, false, 0, 0, 0, 0⟩, ⟨none, 0, 0⟩, ⟨none, 0, 0⟩, ⟨none, 0, 0⟩, ⟨none, 0, 0⟩⟩) k36 E36 rfl rfl rfl rfl
  clear k36
  refine t36.ld ?_
  refine t36.flag fun v21 s21 W37 g21 t37 E37 => ?_
  refine VSt.bk t37.m rfl (by simp [mvF]) fun W38 k38 E38 => ?_
  have t38 := t37.wr (x' := ⟨⟨v0, v1, v2, v3, v4, v5, v6, v7, v8, v9, v10, v11, v12, v13, v14, v15, v16, v17, v18, v19, v20, v21, ByteArray.empty, 0, false, 0, 0, 0, 0⟩, ⟨none, 0, 0⟩, ⟨none, 0, 0⟩, ⟨none, 0, 0⟩, ⟨none, 0, 0⟩⟩) k38 E38 rfl rfl rfl rfl
  clear k38
  refine t38.ld ?_
  refine VCall.i (itemsE _ _ r q d s21 _ t38.rc t38.n fun W' s' K' hr he hk => VDyn.i (by kernel_rfl) (VCall.i (getE_spec (rb := rb) hr (Nat.le_trans t38.n he.size) (t38.p.ext he (by have := t38.f2; have := t38.rc.lq; simp; omega)) (by have := t38.f2; have := t38.rc.lq; omega)) ?_)) ?_
  · rintro e w' ⟨x, s'', rfl, g, ho, hr', e'⟩
    exact exW.i4 (t := .int .i64) (u := .int .u8) (v := .str) (q := .sl) x.1.1 x.1.2.1 x.1.2.2.1 x.1.2.2.2 rfl (hk x s'' w' g ho hr' e')
  rintro e WE ⟨se, X, rfl, hE, hX, rcE, eE⟩
  refine exW.i1 (t := .sl) se rfl ?_
  have hE := hE.mono (w0 := wA) t38.n
  have tE := t38.rd rcE eE
  refine VSt.bk tE.m rfl (by simp [mvF]) fun WE2 kE EE => ?_
  have tE2 := tE.wrE (x' := ⟨⟨v0, v1, v2, v3, v4, v5, v6, v7, v8, v9, v10, v11, v12, v13, v14, v15, v16, v17, v18, v19, v20, v21, ByteArray.empty, 0, false, 0, 0, 0, 0⟩, se, ⟨none, 0, 0⟩, ⟨none, 0, 0⟩, ⟨none, 0, 0⟩⟩) hE kE EE rfl rfl rfl rfl rfl
  clear kE
  intro wd39 hwd39
  have t39 := tE2.ext0 (Ext.drew' hwd39)
  refine t39.ld ?_
  refine t39.ld ?_
  refine t39.ld ?_
  refine t39.ld ?_
  refine t39.ld ?_
  refine VCall.i (itemsI _ _ r q d _ _ t39.rc t39.n fun W' s' K' hr he hk => getI hr hk) ?_
  rintro e WL ⟨sl, rfl, hL, rcL, eL⟩
  refine exW.i1 (t := .sl) sl rfl ?_
  have hold : ∀ j (hj : j < X.length), ∀ b ∈ rowB (X[j]).1.2.2.2, b ∉ rowB sl := fun j hj b hb hb' => by
    have h1 := (t39.le.ea j hj).1.lt b hb
    have h2 := hL.2 b hb'
    omega
  have hL := hL.mono (w0 := wA) t39.n
  have tL := t39.rd rcL eL
  obtain ⟨L, s23, g23⟩ : ∃ L s23, rL rNum (rL rEn s21).2 = (L, s23) := ⟨_, _, rfl⟩
  rw [g23] at tL hL
  have tL : De _ _ _ _ _ _ _ _ _ _ _ _ _ _ s23 := tL
  have hL : OwnR intR 3 wA WL sl L := hL
  refine tL.rp ?_
  refine tL.rp ?_
  refine tL.rp ?_
  refine tL.text fun v24 s24 W24 g24 t24 E24 => t24.rp (t24.rp ?_)
  have hL := hL.extA E24 tL.rc.lq
  refine t24.num fun v25 s25 W25 g25 t25 E25 => t25.rp ?_
  have hL := hL.extA E25 tL.rc.lq
  refine t25.flag fun v26 s26 W26 g26 t26 E26 => ?_
  have hL := hL.extA E26 tL.rc.lq
  refine VSt.bk t26.m rfl (by simp [mvF]) fun WL2 kL EL => ?_
  have tL2 := t26.wrL (x' := ⟨⟨v0, v1, v2, v3, v4, v5, v6, v7, v8, v9, v10, v11, v12, v13, v14, v15, v16, v17, v18, v19, v20, v21, ByteArray.empty, 0, false, 0, 0, 0, 0⟩, se, sl, ⟨none, 0, 0⟩, ⟨none, 0, 0⟩⟩) hL hold kL EL rfl rfl rfl rfl rfl
  clear kL
  refine VSt.bk tL2.m rfl (by simp [mvF]) fun W40 k40 E40 => ?_
  have t40 := tL2.wr (x' := ⟨⟨v0, v1, v2, v3, v4, v5, v6, v7, v8, v9, v10, v11, v12, v13, v14, v15, v16, v17, v18, v19, v20, v21, v24, 0, false, 0, 0, 0, 0⟩, se, sl, ⟨none, 0, 0⟩, ⟨none, 0, 0⟩⟩) k40 E40 rfl rfl rfl rfl
  clear k40
  refine VSt.bk t40.m rfl (by simp [mvF]) fun W41 k41 E41 => ?_
  have t41 := t40.wr (x' := ⟨⟨v0, v1, v2, v3, v4, v5, v6, v7, v8, v9, v10, v11, v12, v13, v14, v15, v16, v17, v18, v19, v20, v21, v24, v25, false, 0, 0, 0, 0⟩, se, sl, ⟨none, 0, 0⟩, ⟨none, 0, 0⟩⟩) k41 E41 rfl rfl rfl rfl
  clear k41
  refine VSt.bk t41.m rfl (by simp [mvF]) fun W42 k42 E42 => ?_
  have t42 := t41.wr (x' := ⟨⟨v0, v1, v2, v3, v4, v5, v6, v7, v8, v9, v10, v11, v12, v13, v14, v15, v16, v17, v18, v19, v20, v21, v24, v25, v26, 0, 0, 0, 0⟩, se, sl, ⟨none, 0, 0⟩, ⟨none, 0, 0⟩⟩) k42 E42 rfl rfl rfl rfl
  clear k42
  refine t42.ld ?_
  refine VCall.i (itemsP _ _ r q d s26 _ t42.rc t42.n fun W' s' K' hr he hk => VDyn.i (by kernel_rfl) (VCall.i (getP_spec (rb := rb) hr (Nat.le_trans t42.n he.size) (t42.p.ext he (by have := t42.f2; have := t42.rc.lq; simp; omega)) (by have := t42.f2; have := t42.rc.lq; omega)) ?_)) ?_
  · rintro e w' ⟨v, s'', rfl, g, hr', e'⟩
    exact exW.i2 (t := .str) (u := .str) v.1 v.2 rfl (hk v s'' w' g hr' e')
  rintro e WP ⟨sp, rfl, hP, rcP, eP⟩
  refine exW.i1 (t := .sl) sp rfl ?_
  have hP := hP.mono (w0 := wA) t42.n
  have tP := t42.rd rcP eP
  obtain ⟨Pl, s27, gP⟩ : ∃ a b, rL rPr s26 = (a, b) := ⟨_, _, rfl⟩
  rw [gP] at tP hP
  refine VSt.bk tP.m rfl (by simp [mvF]) fun WP2 kP EP => ?_
  have tP2 := tP.wrP (x' := ⟨⟨v0, v1, v2, v3, v4, v5, v6, v7, v8, v9, v10, v11, v12, v13, v14, v15, v16, v17, v18, v19, v20, v21, v24, v25, v26, 0, 0, 0, 0⟩, se, sl, sp, ⟨none, 0, 0⟩⟩) hP kP EP rfl rfl rfl rfl rfl
  clear kP
  refine tP2.ld ?_
  refine VCall.i (itemsQ _ _ r q d s27 _ tP2.rc tP2.n fun W' s' K' hr he hk => VDyn.i (by kernel_rfl) (VCall.i (getQ_spec (rb := rb) hr (Nat.le_trans tP2.n he.size) (tP2.p.ext he (by have := tP2.f2; have := tP2.rc.lq; simp; omega)) (by have := tP2.f2; have := tP2.rc.lq; omega)) ?_)) ?_
  · rintro e w' ⟨v, s'', rfl, g, hr', e'⟩
    exact exW.i5 (t := .int .i64) (u := .int .i64) (v := .int .u8) (q := .bool) (s := .str) v.1 v.2.1 v.2.2.1 v.2.2.2.1 v.2.2.2.2 rfl (hk v s'' w' g hr' e')
  rintro e WQ ⟨sq, rfl, hQ, rcQ, eQ⟩
  refine exW.i1 (t := .sl) sq rfl ?_
  have hQ := hQ.mono (w0 := wA) tP2.n
  have tQ := tP2.rd rcQ eQ
  obtain ⟨Ql, s28, gQ⟩ : ∃ a b, rL rLs s27 = (a, b) := ⟨_, _, rfl⟩
  rw [gQ] at tQ hQ
  refine VSt.bk tQ.m rfl (by simp [mvF]) fun WQ2 kQ EQ => ?_
  have tQ2 := tQ.wrQ (x' := ⟨⟨v0, v1, v2, v3, v4, v5, v6, v7, v8, v9, v10, v11, v12, v13, v14, v15, v16, v17, v18, v19, v20, v21, v24, v25, v26, 0, 0, 0, 0⟩, se, sl, sp, sq⟩) hQ kQ EQ rfl rfl rfl rfl rfl
  clear kQ
  intro wd43 hwd43
  have t43 := tQ2.ext0 (Ext.drew' hwd43)
  refine t43.ld ?_
  refine t43.ld ?_
  refine t43.ld ?_
  refine t43.ld ?_
  refine t43.kind fun v29 s29 W44 g29 t44 E44 => ?_
  refine t44.rp ?_
  refine t44.rp ?_
  refine t44.rp ?_
  refine t44.num fun v30 s30 W45 g30 t45 E45 => ?_
  refine t45.rp ?_
  refine t45.rp ?_
  refine t45.num fun v31 s31 W46 g31 t46 E46 => ?_
  refine t46.rp ?_
  refine t46.num fun v32 s32 W47 g32 t47 E47 => ?_
  refine VSt.bk t47.m rfl (by simp [mvF]) fun W48 k48 E48 => ?_
  have t48 := t47.wr (x' := ⟨⟨v0, v1, v2, v3, v4, v5, v6, v7, v8, v9, v10, v11, v12, v13, v14, v15, v16, v17, v18, v19, v20, v21, v24, v25, v26, v29, v30, v31, v32⟩, se, sl, sp, sq⟩) k48 E48 rfl rfl rfl rfl
  clear k48
  refine t48.ld ?_
  obtain ⟨s13a, s13b, ga, gb, gc⟩ : ∃ a b, rK s12 = (v13, a) ∧ rF a = (v14, b) ∧ rS b = (v15, s13) := by
    unfold rRes rPair at g13
    simp only [Prod.mk.injEq] at g13
    obtain ⟨⟨h1, h2, h3⟩, h4⟩ := g13
    exact ⟨_, _, Prod.ext h1 rfl, Prod.ext h2 rfl, Prod.ext h3 h4⟩
  have gE : rL rEn s21 = (ens X, (rL rEn s21).2) := Prod.ext hX.symm rfl
  have hT := rPair_eq g0 (rPair_eq g1 (rPair_eq g2 (rPair_eq g3 (rPair_eq g4 (rPair_eq g5 (rPair_eq g6 (rPair_eq g7 (rPair_eq g8 (rPair_eq g9 (rPair_eq g10 (rPair_eq g11 (rPair_eq g12 (rPair_eq ga (rPair_eq gb (rPair_eq gc (rPair_eq g16 (rPair_eq g17 (rPair_eq g18 (rPair_eq g19 (rPair_eq g20 (rPair_eq g21 (rPair_eq gE (rPair_eq g23 (rPair_eq g24 (rPair_eq g25 (rPair_eq g26 (rPair_eq gP (rPair_eq gQ (rPair_eq g29 (rPair_eq g30 (rPair_eq g31 (g32))))))))))))))))))))))))))))))))
  have hM : rMsg (some l) = (⟨⟨v0, v1, v2, v3, v4, v5, v6, v7, v8, v9, v10, v11, v12, v13, v14, v15, v16, v17, v18, v19, v20, v21, v24, v25, v26, v29, v30, v31, v32⟩, ens X, L, Pl, Ql⟩, s32) := by
    show (toMP (rMT (some l)).1, (rMT (some l)).2) = _
    unfold rMT
    rw [hT]; rfl
  refine VCall.i (rDone_spec r q d s32 _ t48.rc.rep) ?_
  rintro e WD ⟨rfl, rfl⟩
  refine exW.i1 (t := .bool) _ rfl ?_
  have hv0 : 0 ≤ v0 := by
    have h1 := (rCount_pos 255 (some l)).1
    have h2 : (rCount 255 (some l)).1 = v0 := congrArg Prod.fst g0
    omega
  refine VLd.i1 (t := .int .u8) v0 (Rd.of_bk t48.m rfl) (VLd.i1 (t := .int .u8) v0 (Rd.of_bk t48.m rfl) (VIf.mk (fun hd => ?_) (fun hd => ?_)))
  · have hd2 : decM l = (⟨sc0, [], [], [], []⟩, 4) := by
      unfold decM
      rw [if_neg hc, hM, if_neg]
      rintro ⟨k1, k2, k3⟩
      simp only at k1 k2 k3
      rw [k1] at hd
      simp at hd
      omega
    rw [hd2]
    obtain ⟨cs, hcs, hkb⟩ := t48.b
    refine VSt.bk hkb rfl (by simp; omega) fun w2 hk2 e2 => ?_
    rw [zero_msg cs hcs _ rfl] at hk2
    have hk2 : Bk w2 b2 (mvF mv0) 34 := hk2
    have f4 := t48.f4
    exact VLd.mv mv0 (Rd.of_bk hk2 rfl) ⟨mv0, [], rfl, mv0_in _ _, t48.e.then e2 (fun i hi hlt => by simp at hi; omega)⟩
  · have hd2 : decM l = (⟨⟨v0, v1, v2, v3, v4, v5, v6, v7, v8, v9, v10, v11, v12, v13, v14, v15, v16, v17, v18, v19, v20, v21, v24, v25, v26, v29, v30, v31, v32⟩, ens X, L, Pl, Ql⟩, 0) := by
      unfold decM
      rw [if_neg hc, hM, if_pos]
      simp at hd
      refine ⟨hd.1.1, ?_, by simp only; omega⟩
      simp only
      have := hd.1.2
      omega
    rw [hd2]
    obtain ⟨cs, hcs, hkb⟩ := t48.b
    refine VLd.mv ⟨⟨v0, v1, v2, v3, v4, v5, v6, v7, v8, v9, v10, v11, v12, v13, v14, v15, v16, v17, v18, v19, v20, v21, v24, v25, v26, v29, v30, v31, v32⟩, se, sl, sp, sq⟩ (Rd.of_bk t48.m rfl) ?_
    refine VSt.bk hkb rfl (by simp; omega) fun w2 hk2 e2 => ?_
    rw [zero_msg cs hcs _ rfl] at hk2
    have hk2 : Bk w2 b2 (mvF ⟨⟨v0, v1, v2, v3, v4, v5, v6, v7, v8, v9, v10, v11, v12, v13, v14, v15, v16, v17, v18, v19, v20, v21, v24, v25, v26, v29, v30, v31, v32⟩, se, sl, sp, sq⟩) 34 := hk2
    have f3 := t48.f3
    have f4 := t48.f4
    have ag : ∀ {α : Type} {r : Rec α} {e : TypeId} {s : Sl} {L : List α} {W : World}, OwnR r e wA W s L → ∀ b ∈ rowB s, b ∉ [b2] := fun ho b hb hm => by
      have := ho.2 b hb
      simp at hm; omega
    exact VLd.mv ⟨⟨v0, v1, v2, v3, v4, v5, v6, v7, v8, v9, v10, v11, v12, v13, v14, v15, v16, v17, v18, v19, v20, v21, v24, v25, v26, v29, v30, v31, v32⟩, se, sl, sp, sq⟩ (Rd.of_bk hk2 rfl) ⟨⟨⟨v0, v1, v2, v3, v4, v5, v6, v7, v8, v9, v10, v11, v12, v13, v14, v15, v16, v17, v18, v19, v20, v21, v24, v25, v26, v29, v30, v31, v32⟩, se, sl, sp, sq⟩, X, rfl, ⟨rfl, (t48.le.er.ext e2 (ag t48.le.er)).mono t48.f8, fun j hj => ((t48.le.ea j hj).ext e2 (ag (t48.le.ea j hj))).mono t48.f8, t48.le.es, t48.el, rfl, (t48.ll.ext e2 (ag t48.ll)).mono t48.f8, (t48.lp.ext e2 (ag t48.lp)).mono t48.f8, (t48.lq.ext e2 (ag t48.lq)).mono t48.f8⟩, t48.e.then e2 (fun i hi hlt => by simp at hi; omega)⟩
end Go.Proofs.Ytodcdfelbphajaa
