/-
  Package hand: the document's cut: one thing put behind a copy, whatever the order in which Go makes the things.
-/
import Derived.Test.YtoceilgifkncoaaHandS
import Derived.Test.YtoceilgifkncoaaHandV
namespace Go.Proofs.Ytoceilgifkncoaa
open Go.RowKit
set_option maxRecDepth 100000

/-- 'T{}, append(append([]T{}, l...), x)': what of it is made -/
structure St {α : Type} (r : Rec α) (e : TypeId) (w4 W : World) (L : List α) (x : α) (o18 o26 om : Option Nat) (l21 l27 : Option Sl) : Prop where
  ex : Ext [] w4 W
  c18 : ∀ b, o18 = some b → l21 = none → Bk W b [] e ∧ w4.heap.size ≤ b
  c26 : ∀ b, o26 = some b → l27 = none → Bk W b (r.f x) e
  cm : ∀ b, om = some b → (∃ cs, cs.length = 3 ∧ Bk W b cs 31) ∧ w4.heap.size ≤ b
  c21 : ∀ l, l21 = some l → l27 = none → OwnR r e w4 W l L
  c27 : ∀ l, l27 = some l → OwnR r e w4 W l (L ++ [x])
  ne : ∀ a b, o18 = some a → o26 = some b → l21 = none → a ≠ b
section
variable {α : Type} {r : Rec α} {e : TypeId} {w4 W : World} {L : List α} {x : α} {o18 o26 om : Option Nat} {l21 l27 : Option Sl}
theorem St.new (h : Ext [] w4 W) : St r e w4 W L x none none none none none :=
  ⟨h, fun _ h => (by cases h), fun _ h => (by cases h), fun _ h => (by cases h), fun _ h => (by cases h), fun _ h => (by cases h), fun _ _ h => (by cases h)⟩
theorem St.ext0 {W' : World} (h : St r e w4 W L x o18 o26 om l21 l27) (y : Ext [] W W') : St r e w4 W' L x o18 o26 om l21 l27 :=
  ⟨h.ex.then0 y, fun b hb hl => ⟨(h.c18 b hb hl).1.ext y, (h.c18 b hb hl).2⟩, fun b hb hl => (h.c26 b hb hl).ext y, fun b hb => by
    obtain ⟨⟨cs, h1, h2⟩, h3⟩ := h.cm b hb
    exact ⟨⟨cs, h1, h2.ext y⟩, h3⟩, fun l hl hn => (h.c21 l hl hn).ext0 y, fun l hl => (h.c27 l hl).ext0 y, h.ne⟩
theorem St.rd {a : Addr} {vs : List Value} (h : St r e w4 W L x o18 o26 om l21 l27) (k : Rd w4 a vs) : Rd W a vs := k.ext h.ex (by simp)
theorem St.n18 {K : Nat → World → Prop} (h : St r e w4 W L x none o26 om none none) (k : ∀ b W', St r e w4 W' L x (some b) o26 om none none → K b W') : VNw none W (.cells #[] e) K :=
  VNw.i fun b W' hb hk y => k b W' (by
    have h1 := h.ext0 y
    have := h.ex.size
    refine ⟨h1.ex, fun b' hb' _ => by cases hb'; exact ⟨hk, by omega⟩, h1.c26, h1.cm, h1.c21, h1.c27, fun a c ha hc _ => ?_⟩
    cases ha
    have := (h.c26 c hc rfl).lt
    omega)
theorem St.n26 {c : Array Value} {K : Nat → World → Prop} (h : St r e w4 W L x o18 none om l21 none) (hc : c.toList = r.f x) (k : ∀ b W', St r e w4 W' L x o18 (some b) om l21 none → K b W') : VNw none W (.cells c e) K :=
  VNw.i fun b W' hb hk y => k b W' (by
    have h1 := h.ext0 y
    refine ⟨h1.ex, h1.c18, fun b' hb' _ => by cases hb'; rw [← hc]; exact hk, h1.cm, h1.c21, h1.c27, fun a c ha hc hl => ?_⟩
    cases hc
    have := (h.c18 a ha hl).1.lt
    omega)
theorem St.nm {c : Array Value} {K : Nat → World → Prop} (h : St r e w4 W L x o18 o26 none l21 l27) (hc : c.size = 3) (k : ∀ b W', St r e w4 W' L x o18 o26 (some b) l21 l27 → K b W') : VNw none W (.cells c 31) K :=
  VNw.i fun b W' hb hk y => k b W' (by
    have h1 := h.ext0 y
    have := h.ex.size
    exact ⟨h1.ex, h1.c18, h1.c26, fun b' hb' => by cases hb'; exact ⟨⟨_, by simpa using hc, hk⟩, by omega⟩, h1.c21, h1.c27, h1.ne⟩)
theorem St.a21 {b n bytes : Nat} {zc : Array Value} {base : Option Addr} {K : Sl → World → Prop} (h : St r e w4 W L x (some b) o26 om none none) (hne : e ≠ 31) (hL : Seg w4 base n r.k (r.cells L)) (hz : zc.size = r.k) (hl : L.length * bytes ≤ 140737488355328) (h63 : L.length ≤ 9223372036854775807)
    (k : ∀ l W', St r e w4 W' L x (some b) o26 om (some l) none → K l W') : VApp none W e r.k bytes zc (some ⟨b, 0, none⟩) 0 0 n (fun news => Seg W base n r.k news) K := by
  obtain ⟨hk, hge⟩ := h.c18 b rfl rfl
  have ho : OwnR r e w4 W ⟨some ⟨b, 0, none⟩, 0, 0⟩ [] := ⟨Row.of_bk hk (by simp [Rec.cells]) (by omega), by simp [rowB]; omega⟩
  have hn := hL.rlen
  refine VApp.rec (s := ⟨some ⟨b, 0, none⟩, 0, 0⟩) (L := []) ho h.ex (hL.ext0 h.ex) hn.symm hz (by simpa [hn] using hl) (by simp; omega) fun s' W' h' y' y _ => k s' W' ?_
  refine ⟨y', fun _ _ hl => (by cases hl), fun c hc hl => ?_, fun c hc => ?_, fun l hl _ => (by cases hl; exact h'), fun l hl => (by cases hl), fun _ _ _ _ hl => (by cases hl)⟩
  · refine (h.c26 c hc rfl).ext y fun hq => ?_
    have : c = b := by simpa [rowB] using hq
    exact h.ne b c rfl hc rfl this.symm
  · obtain ⟨⟨cs, h1, h2⟩, h3⟩ := h.cm c hc
    refine ⟨⟨cs, h1, h2.ext y fun hq => ?_⟩, h3⟩
    have : c = b := by simpa [rowB] using hq
    subst this
    exact h2.neT hk (fun e' => hne e'.symm) rfl
theorem St.a27 {b bytes : Nat} {s : Sl} {zc : Array Value} {K : Sl → World → Prop} (h : St r e w4 W L x o18 (some b) om (some s) none) (hne : e ≠ 31) (hz : zc.size = r.k) (hl : (L.length + 1) * bytes ≤ 140737488355328) (h63 : L.length + 1 ≤ 9223372036854775807)
    (k : ∀ l W', St r e w4 W' L x o18 (some b) om (some s) (some l) → K l W') : VApp none W e r.k bytes zc s.base s.len s.cap 1 (fun news => Seg W (some ⟨b, 0, none⟩) 1 r.k news) K := by
  have hk := h.c26 b rfl rfl
  have ho := h.c21 s rfl rfl
  refine VApp.rec ho h.ex (news := [x]) (by rw [Rec.cells_one]; exact Seg.of_bk hk (by simp) (by rw [r.len]; omega)) rfl hz hl h63 fun s' W' h' y' y _ => k s' W' ?_
  refine ⟨y', fun _ _ hl => (by cases hl), fun _ _ hl => (by cases hl), fun c hc => ?_, fun _ _ hl => (by cases hl), fun l hl => (by cases hl; exact h'), fun _ _ _ _ hl => (by cases hl)⟩
  obtain ⟨⟨cs, h1, h2⟩, h3⟩ := h.cm c hc
  exact ⟨⟨cs, h1, h2.ext y (ho.noB h2 hne)⟩, h3⟩
theorem St.fin {m : Nat} {l : Sl} {vs : List Value} {K : World → Prop} (h : St r e w4 W L x o18 o26 (some m) l21 (some l)) (hne : e ≠ 31) (h3 : vs.length = 3) (h1 : vs.all Value.oneCell' = true)
    (k : ∀ W', Bk W' m vs 31 → Ext [] w4 W' → OwnR r e w4 W' l (L ++ [x]) → w4.heap.size ≤ m → K W') : VSt none W ⟨m, 0, none⟩ vs K := by
  obtain ⟨⟨cs, c3, hk⟩, hge⟩ := h.cm m rfl
  have ho := h.c27 l rfl
  refine VSt.bk hk h1 (by omega) fun W' hk' y => k W' ?_ (h.ex.then y (fun i hi hlt => by simp at hi; omega)) (ho.ext y (fun b hb hq => by simp at hq; subst hq; exact ho.noB hk hne hb)) hge
  have : List.take 0 cs ++ vs ++ List.drop (0 + vs.length) cs = vs := by
    rw [List.drop_eq_nil_of_le (by omega)]; simp
  rw [this] at hk'
  exact hk'
end
/-- the parts that are cut off, and the one that is filled (in block mb) -/
structure Cr (w W : World) (now : Nat) (out : Sl) (OX : List PX) (v : PtV) (p : Pt) (mb : Nat) : Prop where
  ow : OwnR ptR 31 w W out (OX.map (·.1))
  op : ∀ x ∈ OX, PtO w W x.1 x.2
  bk : Bk W mb (ptR.f v) 31
  pt : PtO w W v p
  kn : ∃ cs, cs.length = 3 ∧ Bk W now cs 31
  nr : now ∉ rowB out
  nm : mb ∉ rowB out
  ng : w.heap.size ≤ now
  mg : w.heap.size ≤ mb
  e : Ext [] w W
section
variable {w W W' : World} {now mb : Nat} {out : Sl} {OX : List PX} {v : PtV} {p : Pt}
theorem Cr.ext0 (h : Cr w W now out OX v p mb) (y : Ext [] W W') : Cr w W' now out OX v p mb := by
  obtain ⟨cs, h1, h2⟩ := h.kn
  exact ⟨h.ow.ext0 y, fun x hx => (h.op x hx).ext0 y, h.bk.ext y, h.pt.ext0 y, ⟨cs, h1, h2.ext y⟩, h.nr, h.nm, h.ng, h.mg, h.e.then0 y⟩
theorem kd1 {m : Nat} {cs : List Value} (h : Bk W m cs 31) : Kd W [m] := fun b hb => by rw [List.mem_singleton.1 hb]; exact ⟨_, _, h, by decide, by decide⟩
theorem Cr.st (h : Cr w W now out OX v p mb) {K : World → Prop} (k : ∀ W', Cr w W' now out OX v p now → K W') : VSt none W ⟨now, 0, none⟩ (ptR.f v) K := by
  obtain ⟨cs, h1, h2⟩ := h.kn
  have h3 : (ptR.f v).length = 3 := rfl
  refine VSt.bk h2 rfl (by omega) fun W' hk y => k W' ?_
  have : List.take 0 cs ++ ptR.f v ++ List.drop (0 + (ptR.f v).length) cs = ptR.f v := by
    rw [List.drop_eq_nil_of_le (by omega)]; simp
  rw [this] at hk
  have kd := kd1 h2
  have hng := h.ng
  exact ⟨h.ow.ext y (fun b hb hq => by simp at hq; subst hq; exact h.nr hb), fun x hx => (h.op x hx).extK kd y, hk, h.pt.extK kd y, ⟨_, rfl, hk⟩, h.nr, h.nr, h.ng, h.ng, h.e.then y (fun i hi hlt => by simp at hi; omega)⟩
end
/-- the filled part is cut off; block mb is to hold the next one -/
structure Cx (w W : World) (now : Nat) (out : Sl) (OX : List PX) (mb : Nat) : Prop where
  ow : OwnR ptR 31 w W out (OX.map (·.1))
  op : ∀ x ∈ OX, PtO w W x.1 x.2
  km : ∃ cs, cs.length = 3 ∧ Bk W mb cs 31
  kn : ∃ cs, cs.length = 3 ∧ Bk W now cs 31
  nr : now ∉ rowB out
  nm : mb ∉ rowB out
  ng : w.heap.size ≤ now
  mg : w.heap.size ≤ mb
  e : Ext [] w W
section
variable {w W W' : World} {now mb : Nat} {out : Sl} {OX : List PX} {v : PtV} {p : Pt}
theorem Cx.ext0 (h : Cx w W now out OX mb) (y : Ext [] W W') : Cx w W' now out OX mb := by
  obtain ⟨cs, h1, h2⟩ := h.kn
  obtain ⟨ds, k1, k2⟩ := h.km
  exact ⟨h.ow.ext0 y, fun x hx => (h.op x hx).ext0 y, ⟨ds, k1, k2.ext y⟩, ⟨cs, h1, h2.ext y⟩, h.nr, h.nm, h.ng, h.mg, h.e.then0 y⟩
theorem Cx.fill (h : Cx w W now out OX mb) (hne : now ≠ mb) (hv : PtO w W v p) {K : World → Prop} (k : ∀ W', Cr w W' now out OX v p mb → K W') : VSt none W ⟨mb, 0, none⟩ (ptR.f v) K := by
  obtain ⟨cs, h1, h2⟩ := h.km
  obtain ⟨ds, k1, k2⟩ := h.kn
  have h3 : (ptR.f v).length = 3 := rfl
  refine VSt.bk h2 rfl (by omega) fun W' hk y => k W' ?_
  have : List.take 0 cs ++ ptR.f v ++ List.drop (0 + (ptR.f v).length) cs = ptR.f v := by
    rw [List.drop_eq_nil_of_le (by omega)]; simp
  rw [this] at hk
  have kd := kd1 h2
  have hmg := h.mg
  exact ⟨h.ow.ext y (fun b hb hq => by simp at hq; subst hq; exact h.nm hb), fun x hx => (h.op x hx).extK kd y, hk, hv.extK kd y, ⟨ds, k1, k2.ext y (by simpa using hne)⟩, h.nr, h.nm, h.ng, h.mg, h.e.then y (fun i hi hlt => by simp at hi; omega)⟩
theorem Cr.push (c : Cr w W now out OX v p now) {cs : List Value} (hmb : Bk W mb cs 31) (hcs : cs.length = 3) (hmn : mb ∉ rowB out) (hmg : w.heap.size ≤ mb) (hlen : OX.length ≤ 100000) {K : Sl → World → Prop}
    (k : ∀ l W', Cx w W' now l (OX ++ [(v, p)]) mb → K l W') :
    VLd none W ⟨now, 0, none⟩ [CT.sl, CT.sl, CT.bool] fun (v0 : Sl) (v1 : Sl) (v2 : Bool) =>
      VNw none W (.cells #[.slice v0.base v0.len v0.cap, .slice v1.base v1.len v1.cap, .bool v2] 31) fun (b : Nat) (w1 : World) =>
      VApp none w1 31 3 56 #[.slice none 0 0, .slice none 0 0, .bool false] out.base out.len out.cap 1 (fun news => Seg w1 (some ⟨b, 0, none⟩) 1 3 news) fun (l : Sl) (w2 : World) => K l w2 := by
  refine ⟨(v.1 : Sl), (v.2.1 : Sl), (v.2.2 : Bool), gd.i (Rd.of_bk c.bk rfl), ?_⟩
  refine VNw.i fun b w1 hb hk e1 => ?_
  have c1 := c.ext0 e1
  refine VApp.rec (r := ptR) c1.ow c1.e (news := [v]) (Seg.of_bk hk rfl rfl) rfl rfl (by simp; omega) (by simp; omega) fun l w2 hr ew e2 hbl => k l w2 ?_
  have kd : Kd w1 (rowB out) := c1.ow.kd (by decide) (by decide)
  have hml := hmb.lt
  have hnl := c.bk.lt
  have hs := e1.size
  refine ⟨by rw [List.map_append]; exact hr, ?_, ⟨cs, hcs, (hmb.ext e1).ext e2 hmn⟩, ⟨_, rfl, c1.bk.ext e2 c.nr⟩, ?_, ?_, c.ng, hmg, ew⟩
  · intro x hx
    rcases List.mem_append.1 hx with hx | hx
    · exact (c1.op x hx).extK kd e2
    · rw [List.mem_singleton.1 hx]; exact c1.pt.extK kd e2
  · intro hq
    rcases hbl _ hq with h | h
    · exact c.nr h
    · omega
  · intro hq
    rcases hbl _ hq with h | h
    · exact hmn h
    · omega
end
/-- a size that is asked for under a condition -/
theorem SizeC {c : Bool} {w : World} {v : PtV} {p : Pt} (h : PtIn w v p) {K : Int → World → Prop} (k : ∀ r w', (c = true → r = IntKind.wrap .i64 (zs p)) → Ext [] w w' → K r w') :
    VCall (some c) Try.prog 23 #[.agg #[.slice v.1.base v.1.len v.1.cap, .slice v.2.1.base v.2.1.len v.2.1.cap, .bool v.2.2]] w (.int .i64 0) fun (r : Int) (w8 : World) => K r w8 := by
  cases hc : c
  · exact VCall.off rfl (exW.i1 (t := .int .i64) 0 trivial (k _ _ (fun h => by rw [hc] at h; cases h) (Ext.refl _ _)))
  · refine VCall.on rfl (VCall.i (Size_spec v p w h) ?_)
    rintro e w2 ⟨rfl, e2⟩
    exact exW.i1 (t := .int .i64) _ rfl (k _ w2 (fun _ => rfl) e2)
/-- plain: what a cutter does with one thing more -/
theorem add_out {c : Cu} {A : List Pt} {p : Pt} (hL : c.L = A ++ [p]) (h : c.kp) (e : Int) (f : Pt → Pt) :
    ((cnt p = 4 ∨ (0 < cnt p ∧ 4000 < IntKind.wrap .i64 (zs p + e))) → (c.add (IntKind.wrap .i64 e) f).L = (A ++ [p]) ++ [f ptE]) ∧
    (¬ (cnt p = 4 ∨ (0 < cnt p ∧ 4000 < IntKind.wrap .i64 (zs p + e))) → (c.add (IntKind.wrap .i64 e) f).L = A ++ [f p]) := by
  obtain ⟨A', p', hL', hk, hm, hs⟩ := h
  rw [hL] at hL'
  obtain ⟨rfl, h2⟩ := List.append_inj' hL' rfl
  cases h2
  have hfull : c.full (IntKind.wrap .i64 e) ↔ (cnt p = 4 ∨ (0 < cnt p ∧ 4000 < IntKind.wrap .i64 (zs p + e))) := by
    unfold Cu.full
    rw [hs, wrap_add2, wrap_add, hm]
    omega
  refine ⟨fun hf => ?_, fun hf => ?_⟩
  · rw [add_new' (hfull.2 hf)]
    show addLast (c.L ++ [ptE]) f = _
    rw [addLast_app, hL]
  · rw [add_in' (fun h => hf (hfull.1 h))]
    show addLast c.L f = _
    rw [hL, addLast_app]
theorem kp_four {c : Cu} {A : List Pt} {p : Pt} (hL : c.L = A ++ [p]) (h : c.kp) : cnt p ≤ 4 := by
  obtain ⟨A', p', hL', hk, hm, hs⟩ := h
  rw [hL] at hL'
  obtain ⟨rfl, h2⟩ := List.append_inj' hL' rfl
  cases h2
  exact hk.last.1
end Go.Proofs.Ytoceilgifkncoaa
