/-
  Package hand: what is joined of a cut; the memory of the walk of HandWhole.
-/
import Derived.Test.YtoceilgifkncoaaHandL
namespace Go.Proofs.Ytoceilgifkncoaa
open Go.RowKit
set_option maxRecDepth 100000

/-! plain: what is cut is joined as it was -/
theorem all_set {α : Type} (g : Pt → List α) (A : List Pt) (p : Pt) (f : Pt → Pt) : (addLast (A ++ [p]) f).flatMap g = A.flatMap g ++ g (f p) := by
  unfold addLast
  rw [List.length_append, List.length_singleton, Nat.add_sub_cancel, List.set_append_right _ _ (Nat.le_refl _), Nat.sub_self, List.getD_eq_getElem?_getD, List.getElem?_append_right (Nat.le_refl _)]
  simp
theorem all_last {α : Type} (g : Pt → List α) (L : List Pt) (h : 1 ≤ L.length) (f : Pt → Pt) (x : List α) (hf : ∀ p, g (f p) = g p ++ x) : (addLast L f).flatMap g = L.flatMap g ++ x := by
  have : L = L.dropLast ++ [L.getLast (by intro e; rw [e] at h; simp at h)] := (List.dropLast_concat_getLast _).symm
  rw [this, all_set, hf]
  simp
theorem room_all {α : Type} (g : Pt → List α) (hg : g ptE = []) (c : Cu) (z : Int) (h : 1 ≤ c.L.length) : (c.room z).L.flatMap g = c.L.flatMap g ∧ 1 ≤ (c.room z).L.length := by
  unfold Cu.room
  split
  · simp [hg]
  · exact ⟨rfl, h⟩
theorem add_all {α : Type} (g : Pt → List α) (hg : g ptE = []) (c : Cu) (z : Int) (f : Pt → Pt) (x : List α) (hf : ∀ p, g (f p) = g p ++ x) (h : 1 ≤ c.L.length) : (c.add z f).L.flatMap g = c.L.flatMap g ++ x ∧ 1 ≤ (c.add z f).L.length := by
  obtain ⟨h1, h2⟩ := room_all g hg c z h
  refine ⟨?_, ?_⟩
  · show (addLast (c.room z).L f).flatMap g = _
    rw [all_last g _ h2 f x hf, h1]
  · show 1 ≤ (addLast (c.room z).L f).length
    unfold addLast
    rw [List.length_set]; exact h2
theorem foldP_all : ∀ (P : List Pr) (c : Cu), 1 ≤ c.L.length → allP (P.foldl Cu.addP c).L = allP c.L ++ P ∧ allQ (P.foldl Cu.addP c).L = allQ c.L ∧ 1 ≤ (P.foldl Cu.addP c).L.length
  | [], c, h => by simp [h]
  | x :: P, c, h => by
    have h1 := add_all (·.P) rfl c (szP x) (Pt.putP x) [x] (fun p => rfl) h
    have h2 := add_all (·.Q) rfl c (szP x) (Pt.putP x) [] (fun p => (List.append_nil _).symm) h
    obtain ⟨k1, k2, k3⟩ := foldP_all P (c.addP x) h1.2
    refine ⟨?_, ?_, k3⟩
    · show allP (P.foldl Cu.addP (c.addP x)).L = _
      rw [k1]
      show (c.addP x).L.flatMap (·.P) ++ P = _
      rw [show (c.addP x).L.flatMap (·.P) = _ from h1.1]
      show _ = c.L.flatMap (·.P) ++ (x :: P)
      simp
    · show allQ (P.foldl Cu.addP (c.addP x)).L = _
      rw [k2]
      show (c.addP x).L.flatMap (·.Q) = _
      rw [show (c.addP x).L.flatMap (·.Q) = _ from h2.1, List.append_nil]; rfl
theorem foldQ_all : ∀ (Q : List Ls) (c : Cu), 1 ≤ c.L.length → allQ (Q.foldl Cu.addQ c).L = allQ c.L ++ Q ∧ allP (Q.foldl Cu.addQ c).L = allP c.L ∧ 1 ≤ (Q.foldl Cu.addQ c).L.length
  | [], c, h => by simp [h]
  | x :: Q, c, h => by
    have h1 := add_all (·.Q) rfl c (szQ x) (Pt.putQ x) [x] (fun p => rfl) h
    have h2 := add_all (·.P) rfl c (szQ x) (Pt.putQ x) [] (fun p => (List.append_nil _).symm) h
    obtain ⟨k1, k2, k3⟩ := foldQ_all Q (c.addQ x) h1.2
    refine ⟨?_, ?_, k3⟩
    · show allQ (Q.foldl Cu.addQ (c.addQ x)).L = _
      rw [k1]
      show (c.addQ x).L.flatMap (·.Q) ++ Q = _
      rw [show (c.addQ x).L.flatMap (·.Q) = _ from h1.1]
      show _ = c.L.flatMap (·.Q) ++ (x :: Q)
      simp
    · show allP (Q.foldl Cu.addQ (c.addQ x)).L = _
      rw [k2]
      show (c.addQ x).L.flatMap (·.P) = _
      rw [show (c.addQ x).L.flatMap (·.P) = _ from h2.1, List.append_nil]; rfl
theorem cutI_all (P : List Pr) (Q : List Ls) : allP (cutI P Q) = P ∧ allQ (cutI P Q) = Q := by
  obtain ⟨a1, a2, a3⟩ := foldP_all P ⟨[ptE], 0, 0⟩ (by simp)
  obtain ⟨b1, b2, b3⟩ := foldQ_all Q _ a3
  have c1 := all_last (·.P) (cutL P Q).L b3 Pt.end_ [] (fun p => (List.append_nil _).symm)
  have c2 := all_last (·.Q) (cutL P Q).L b3 Pt.end_ [] (fun p => (List.append_nil _).symm)
  rw [List.append_nil] at c1 c2
  refine ⟨?_, ?_⟩
  · show (cutI P Q).flatMap (·.P) = P
    rw [show (cutI P Q).flatMap (·.P) = _ from c1, show (cutL P Q).L.flatMap (·.P) = _ from b2, a1]; rfl
  · show (cutI P Q).flatMap (·.Q) = Q
    rw [show (cutI P Q).flatMap (·.Q) = _ from c2, show (cutL P Q).L.flatMap (·.Q) = _ from b1, a2]; rfl

/-! memory -/
def intR : Rec Int := ⟨fun n => [.int .i64 n], 1, fun _ => rfl, fun _ => rfl, by omega⟩
def tuR : Rec (Int × Int) := ⟨fun x => [.int .i64 x.1, .int .i64 x.2], 2, fun _ => rfl, fun _ => rfl, by omega⟩
/-- blocks that hold no pairs and no last writes -/
def Kd (w : World) (M : List Nat) : Prop := ∀ b ∈ M, ∃ cs t, Bk w b cs t ∧ t ≠ 37 ∧ t ≠ 68
section
variable {w0 w w' : World} {v : PtV} {p : Pt} {s : Sl} {X : List PX} {M : List Nat}
theorem PtO.extK (h : PtO w0 w v p) (kd : Kd w M) (e : Ext M w w') : PtO w0 w' v p := by
  refine h.ext e fun b hb hm => ?_
  obtain ⟨cs, t, k, n1, n2⟩ := kd b hm
  simp only [fpt, List.mem_append] at hb
  rcases hb with hb | hb
  · obtain ⟨_, hz⟩ := h.P.1.bk_of hb
    exact hz.neT k (fun e => n1 e.symm) rfl
  · obtain ⟨_, hz⟩ := h.Q.1.bk_of hb
    exact hz.neT k (fun e => n2 e.symm) rfl
theorem PtsO.extK (h : PtsO w0 w s X) (kd : Kd w M) (e : Ext M w w') (hr : ∀ b ∈ rowB s, b ∉ M) : PtsO w0 w' s X :=
  ⟨h.row.ext e hr, fun x hx => (h.all x hx).extK kd e, h.sep⟩
theorem OwnR.kd {α : Type} {r : Rec α} {e : TypeId} {L : List α} (h : OwnR r e w0 w s L) (n1 : e ≠ 37) (n2 : e ≠ 68) : Kd w (rowB s) := fun b hb => by
  obtain ⟨cs, k⟩ := h.1.bk_of hb
  exact ⟨cs, e, k, n1, n2⟩
theorem OwnR.noB {α : Type} {r : Rec α} {e t : TypeId} {L : List α} {q : Nat} {cs : List Value} (h : OwnR r e w0 w s L) (k : Bk w q cs t) (hne : e ≠ t) : q ∉ rowB s := fun hb => by
  obtain ⟨_, hz⟩ := h.1.bk_of hb
  exact hz.neT k hne rfl
theorem SdO.extK {q : Nat} {x : Sd} (h : SdO w0 w q s X x) (kd : Kd w M) (e : Ext M w w') (hq : q ∉ M) (hr : ∀ b ∈ rowB s, b ∉ M) : SdO w0 w' q s X x :=
  ⟨h.bk.ext e hq, h.pt.extK kd e hr, h.eq, h.ge, h.nx, h.sm⟩
theorem RcO.extK {q : Nat} {L : List Pt} (h : RcO w0 w q s X L) (kd : Kd w M) (e : Ext M w w') (hq : q ∉ M) (hr : ∀ b ∈ rowB s, b ∉ M) : RcO w0 w' q s X L :=
  ⟨h.bk.ext e hq, h.pt.extK kd e hr, h.eq, h.ge⟩
end
structure Wh (w w6 : World) (q r : Nat) (s' s : Sl) (Y X : List PX) (W : World) (x : Sd) (s8 : Sl) (X8 : List PX) (L : List Pt) (pl tl wy : Sl) (PL TL : List Int) (WX : List PX) : Prop where
  sd : SdO w W q s' Y x
  rc : RcO w W r s8 X8 L
  xp : PtsO w W s X
  pO : OwnR intR 3 w W pl PL
  tO : OwnR intR 3 w W tl TL
  wO : OwnR ptR 33 w W wy (WX.map (·.1))
  wp : ∀ x ∈ WX, PtO w W x.1 x.2
  a1 : ∀ b ∈ rowB s', b < w6.heap.size
  a2 : ∀ b ∈ rowB s, b < w6.heap.size
  b1 : ∀ b ∈ rowB s8, w6.heap.size ≤ b
  b2 : ∀ b ∈ rowB wy, w6.heap.size ≤ b
  d1 : ∀ b ∈ rowB s8, b ∉ rowB wy
  d2 : ∀ b ∈ rowB pl, b ∉ rowB tl
  ge : w6.heap.size ≤ W.heap.size
  e : Ext [] w W
section
variable {w w6 W W' : World} {q r : Nat} {s' s s8 pl tl wy : Sl} {Y X X8 : List PX} {x : Sd} {L : List Pt} {PL TL : List Int} {WX : List PX}
theorem Wh.ext0 (h : Wh w w6 q r s' s Y X W x s8 X8 L pl tl wy PL TL WX) (e : Ext [] W W') : Wh w w6 q r s' s Y X W' x s8 X8 L pl tl wy PL TL WX :=
  ⟨h.sd.ext0 e, h.rc.ext0 e, h.xp.ext0 e, h.pO.ext0 e, h.tO.ext0 e, h.wO.ext0 e, fun x hx => (h.wp x hx).ext0 e, h.a1, h.a2, h.b1, h.b2, h.d1, h.d2, Nat.le_trans h.ge e.size, h.e.then0 e⟩
theorem Wh.sdq (h : Wh w w6 q r s' s Y X W x s8 X8 L pl tl wy PL TL WX) {x' : Sd} (hs : SdO w W' q s' Y x') (e : Ext [q] W W') : Wh w w6 q r s' s Y X W' x' s8 X8 L pl tl wy PL TL WX := by
  have kd : Kd W [q] := fun b hb => by rw [List.mem_singleton.1 hb]; exact ⟨_, _, h.sd.bk, by decide, by decide⟩
  have nb : ∀ {l : Sl}, q ∉ rowB l → ∀ b ∈ rowB l, b ∉ [q] := fun hl b hb hq => hl (List.mem_singleton.1 hq ▸ hb)
  have hqr : r ∉ [q] := by have := h.rc.bk.neT h.sd.bk (by decide); simpa using this
  have := h.sd.ge
  exact ⟨hs, h.rc.extK kd e hqr (nb (h.rc.pt.row.noB h.sd.bk (by decide))), h.xp.extK kd e (nb (h.xp.row.noB h.sd.bk (by decide))), h.pO.ext e (nb (h.pO.noB h.sd.bk (by decide))), h.tO.ext e (nb (h.tO.noB h.sd.bk (by decide))), h.wO.ext e (nb (h.wO.noB h.sd.bk (by decide))), fun x hx => (h.wp x hx).extK kd e,
    h.a1, h.a2, h.b1, h.b2, h.d1, h.d2, Nat.le_trans h.ge e.size, h.e.then e (fun i hi hlt => by simp at hi; omega)⟩
theorem Wh.rcq (h : Wh w w6 q r s' s Y X W x s8 X8 L pl tl wy PL TL WX) {s9 : Sl} {X9 : List PX} {L' : List Pt} (hr : RcO w W' r s9 X9 L') (hn : ∀ b ∈ rowB s9, b ∈ rowB s8 ∨ W.heap.size ≤ b) (e : Ext (r :: rowB s8) W W') : Wh w w6 q r s' s Y X W' x s9 X9 L' pl tl wy PL TL WX := by
  have kd : Kd W (r :: rowB s8) := fun b hb => by
    rcases List.mem_cons.1 hb with rfl | hb
    · exact ⟨_, _, h.rc.bk, by decide, by decide⟩
    · exact h.rc.pt.row.kd (by decide) (by decide) b hb
  have nb : ∀ {l : Sl}, r ∉ rowB l → (∀ b ∈ rowB l, b ∉ rowB s8) → ∀ b ∈ rowB l, b ∉ r :: rowB s8 := fun h1 h2 b hb hq => by
    rcases List.mem_cons.1 hq with rfl | hq
    · exact h1 hb
    · exact h2 b hb hq
  have hq1 : q ∉ r :: rowB s8 := by
    intro hq
    rcases List.mem_cons.1 hq with e | hq
    · exact h.sd.bk.neT h.rc.bk (by decide) e
    · exact h.rc.pt.row.noB h.sd.bk (by decide) hq
  have hge := h.rc.ge
  refine ⟨h.sd.extK kd e hq1 (nb (h.sd.pt.row.noB h.rc.bk (by decide)) (fun b hb hb' => by have := h.a1 b hb; have := h.b1 b hb'; omega)), hr, h.xp.extK kd e (nb (h.xp.row.noB h.rc.bk (by decide)) (fun b hb hb' => by have := h.a2 b hb; have := h.b1 b hb'; omega)),
    h.pO.ext e (nb (h.pO.noB h.rc.bk (by decide)) (h.pO.sepT h.rc.pt.row (by decide))), h.tO.ext e (nb (h.tO.noB h.rc.bk (by decide)) (h.tO.sepT h.rc.pt.row (by decide))), h.wO.ext e (nb (h.wO.noB h.rc.bk (by decide)) (fun b hb hb' => h.d1 b hb' hb)), fun x hx => (h.wp x hx).extK kd e,
    h.a1, h.a2, ?_, h.b2, ?_, h.d2, Nat.le_trans h.ge e.size, h.e.then e ?_⟩
  · intro b hb
    rcases hn b hb with h' | h'
    · exact h.b1 b h'
    · have := h.ge; omega
  · intro b hb hb'
    rcases hn b hb with h' | h'
    · exact h.d1 b h' hb'
    · have := h.wO.1.lt b hb'; omega
  · intro i hi hlt
    rcases List.mem_cons.1 hi with rfl | hi
    · omega
    · have := h.rc.pt.row.2 i hi; omega
theorem Wh.plq (h : Wh w w6 q r s' s Y X W x s8 X8 L pl tl wy PL TL WX) {l : Sl} {PL' : List Int} (hp : OwnR intR 3 w W' l PL') (hn : ∀ b ∈ rowB l, b ∈ rowB pl ∨ b = W.heap.size) (e : Ext (rowB pl) W W') : Wh w w6 q r s' s Y X W' x s8 X8 L l tl wy PL' TL WX := by
  have kd : Kd W (rowB pl) := h.pO.kd (by decide) (by decide)
  refine ⟨h.sd.extK kd e (h.pO.noB h.sd.bk (by decide)) (h.sd.pt.row.sepT h.pO (by decide)), h.rc.extK kd e (h.pO.noB h.rc.bk (by decide)) (h.rc.pt.row.sepT h.pO (by decide)), h.xp.extK kd e (h.xp.row.sepT h.pO (by decide)), hp,
    h.tO.ext e (fun b hb hb' => h.d2 b hb' hb), h.wO.ext e (h.wO.sepT h.pO (by decide)), fun x hx => (h.wp x hx).extK kd e, h.a1, h.a2, h.b1, h.b2, h.d1, ?_, Nat.le_trans h.ge e.size, h.e.then e ?_⟩
  · intro b hb hb'
    rcases hn b hb with h' | h'
    · exact h.d2 b h' hb'
    · have := h.tO.1.lt b hb'; omega
  · intro i hi hlt
    have := h.pO.2 i hi; omega
theorem Wh.tlq (h : Wh w w6 q r s' s Y X W x s8 X8 L pl tl wy PL TL WX) {l : Sl} {TL' : List Int} (hp : OwnR intR 3 w W' l TL') (hn : ∀ b ∈ rowB l, b ∈ rowB tl ∨ b = W.heap.size) (e : Ext (rowB tl) W W') : Wh w w6 q r s' s Y X W' x s8 X8 L pl l wy PL TL' WX := by
  have kd : Kd W (rowB tl) := h.tO.kd (by decide) (by decide)
  refine ⟨h.sd.extK kd e (h.tO.noB h.sd.bk (by decide)) (h.sd.pt.row.sepT h.tO (by decide)), h.rc.extK kd e (h.tO.noB h.rc.bk (by decide)) (h.rc.pt.row.sepT h.tO (by decide)), h.xp.extK kd e (h.xp.row.sepT h.tO (by decide)),
    h.pO.ext e h.d2, hp, h.wO.ext e (h.wO.sepT h.tO (by decide)), fun x hx => (h.wp x hx).extK kd e, h.a1, h.a2, h.b1, h.b2, h.d1, ?_, Nat.le_trans h.ge e.size, h.e.then e ?_⟩
  · intro b hb hb'
    rcases hn b hb' with h' | h'
    · exact h.d2 b hb h'
    · have := h.pO.1.lt b hb; omega
  · intro i hi hlt
    have := h.tO.2 i hi; omega
theorem Wh.wyq (h : Wh w w6 q r s' s Y X W x s8 X8 L pl tl wy PL TL WX) {l : Sl} {y : PX} (hy : PtO w W y.1 y.2) (hp : OwnR ptR 33 w W' l (WX.map (·.1) ++ [y.1])) (hn : ∀ b ∈ rowB l, b ∈ rowB wy ∨ b = W.heap.size) (e : Ext (rowB wy) W W') : Wh w w6 q r s' s Y X W' x s8 X8 L pl tl l PL TL (WX ++ [y]) := by
  have kd : Kd W (rowB wy) := h.wO.kd (by decide) (by decide)
  refine ⟨h.sd.extK kd e (h.wO.noB h.sd.bk (by decide)) (fun b hb hb' => by have := h.a1 b hb; have := h.b2 b hb'; omega), h.rc.extK kd e (h.wO.noB h.rc.bk (by decide)) h.d1, h.xp.extK kd e (fun b hb hb' => by have := h.a2 b hb; have := h.b2 b hb'; omega),
    h.pO.ext e (h.pO.sepT h.wO (by decide)), h.tO.ext e (h.tO.sepT h.wO (by decide)), by rw [List.map_append]; exact hp, ?_, h.a1, h.a2, h.b1, ?_, ?_, h.d2, Nat.le_trans h.ge e.size, h.e.then e ?_⟩
  · intro z hz
    rcases List.mem_append.1 hz with hz | hz
    · exact (h.wp z hz).extK kd e
    · rw [List.mem_singleton.1 hz]; exact hy.extK kd e
  · intro b hb
    rcases hn b hb with h' | h'
    · exact h.b2 b h'
    · have := h.ge; omega
  · intro b hb hb'
    rcases hn b hb' with h' | h'
    · exact h.d1 b hb h'
    · have := h.rc.pt.row.1.lt b hb; omega
  · intro i hi hlt
    have := h.wO.2 i hi; omega
end
end Go.Proofs.Ytoceilgifkncoaa
