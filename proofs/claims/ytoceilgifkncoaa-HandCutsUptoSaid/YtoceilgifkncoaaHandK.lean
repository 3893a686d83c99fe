/-
  Package hand: the first example works.
-/
import Derived.Test.YtoceilgifkncoaaHandJ
namespace Go.Proofs.Ytoceilgifkncoaa
open Go.RowKit
set_option maxRecDepth 100000

def good (w : World) (e : Ending) (w' : World) : Prop := e = .returned (.bool true) ∧ Ext [] w w'
theorem twoL_small (y z : ByteArray) : small (twoL y z) := by
  refine ⟨by simp [twoL], ?_⟩
  intro p hp
  simp only [twoL, List.mem_cons, List.not_mem_nil, or_false] at hp
  rcases hp with rfl | rfl <;> simp
/-- a due part, taken into a variable -/
theorem Due_i {w0 w : World} {q : Nat} {s : Sl} {X : List PX} {x : Sd} {now : Int} {p : Pt} (h : SdO w0 w q s X x) (hi : ¬ x.idle now) (hp : ∀ hn : x.next < x.L.length, x.L[x.next] = p) {K : Int → Sl → Sl → Bool → Bool → World → Prop}
    (k : ∀ v' w', PtO w w' v' p → SdO w0 w' q s X { x with sent := true, at_ := now } → Ext [q] w w' → K (x.next : Int) v'.1 v'.2.1 v'.2.2 true w') :
    VCall none Try.prog 17 #[.pointer (some ⟨q, 0, none⟩), .int .i64 now] w (.tuple #[.int .i64 0, .agg #[.slice none 0 0, .slice none 0 0, .bool false], .bool false]) K := by
  refine VCall.i (Due_spec w0 w q s X x now h) ?_
  rintro e w' (⟨hh, _⟩ | ⟨_, hn, v', rfl, hv, hx, e'⟩)
  · exact absurd hh hi
  · rw [hp hn] at hv
    exact ⟨((x.next : Nat) : Int), (v'.1 : Sl), (v'.2.1 : Sl), (v'.2.2 : Bool), (true : Bool), rfl, k v' w' hv hx e'⟩
theorem Due_n {w0 w : World} {q : Nat} {s : Sl} {X : List PX} {x : Sd} {now : Int} (h : SdO w0 w q s X x) (hi : x.idle now) {K : Int → Sl → Sl → Bool → Bool → World → Prop}
    (k : ∀ w', Ext [] w w' → K 0 ⟨none, 0, 0⟩ ⟨none, 0, 0⟩ false false w') :
    VCall none Try.prog 17 #[.pointer (some ⟨q, 0, none⟩), .int .i64 now] w (.tuple #[.int .i64 0, .agg #[.slice none 0 0, .slice none 0 0, .bool false], .bool false]) K := by
  refine VCall.i (Due_spec w0 w q s X x now h) ?_
  rintro e w' (⟨_, rfl, e'⟩ | ⟨hh, _⟩)
  · exact ⟨(0 : Int), (⟨none, 0, 0⟩ : Sl), (⟨none, 0, 0⟩ : Sl), (false : Bool), (false : Bool), rfl, k w' e'⟩
  · exact absurd hi hh
/-- a variable that is made and stored -/
theorem VVar {w : World} {v : PtV} {n : Int} {K : Nat → Int → World → Prop} (k : ∀ b w', w.heap.size ≤ b → Bk w' b (ptR.f v) 33 → Ext [] w w' → K b n w') :
    VNw none w (.cells #[.slice none 0 0, .slice none 0 0, .bool false] 33) fun (b : Nat) (w4 : World) => VSet n fun (a : Int) => VSt none w4 ⟨b, 0, none⟩ [.slice v.1.base v.1.len v.1.cap, .slice v.2.1.base v.2.1.len v.2.1.cap, .bool v.2.2] fun (w5 : World) => K b a w5 := by
  refine VNw.i fun b w4 hb hk e4 => VSet.i (VSt.bk hk rfl (by simp) fun w5 hk5 e5 => ?_)
  exact k b w5 (by omega) hk5 (e4.then e5 (fun i hi hlt => by simp at hi; omega))

theorem works_spec (w : World) : Calls Try.prog 22 #[] w (good w) := by
  refine sh_butterylaw23_works_ok _ _ ?_
  unfold sh_butterylaw23_works
  refine VCall.i (two_spec w) ?_
  rintro e w1 ⟨s, X, y, z, rfl, hX, hp, e1⟩
  refine exW.i1 (t := .sl) s rfl ?_
  have hXl : X.length = 2 := by have := congrArg List.length hp; simpa [pts, twoL] using this
  have hsl : s.len = 2 := by rw [hX.len, hXl]
  have p0 : (X[0]'(by omega)).2 = ⟨[pA y], [], false⟩ := by
    have : (pts X)[0]'(by simp [pts]; omega) = (twoL y z)[0]'(by simp [twoL]) := by simp only [hp]
    simpa [pts, twoL] using this
  have p1 : (X[1]'(by omega)).2 = ⟨[pB z, pC], [lA], true⟩ := by
    have : (pts X)[1]'(by simp [pts]; omega) = (twoL y z)[1]'(by simp [twoL]) := by simp only [hp]
    simpa [pts, twoL] using this
  refine VCall.i (New_spec s X 4 w1 hX.in_ (by rw [hp]; exact twoL_small y z) (by omega) (by omega)) ?_
  rintro e w2 ⟨q, s', Y, rfl, h2', e2'⟩
  have h2 := h2'.mono (w0 := w) e1.size
  rw [hp] at h2
  refine exW.i2 (t := .ptr) (u := .int .i64) (some ⟨q, 0, none⟩) 0 rfl (VSet.i ?_)
  have hX2 := (hX.ext0 e2').in_
  have e2 := e1.then0 e2'
  have x0 := hX2.all _ (List.getElem_mem (show 0 < X.length by omega))
  have x1 := hX2.all _ (List.getElem_mem (show 1 < X.length by omega))
  have l0 : (X[0]'(by omega)).1.1.len = 1 := by rw [x0.P.len, p0]; rfl
  have l1 : (X[1]'(by omega)).1.1.len = 2 := by rw [x1.P.len, p1]; rfl
  have l2 : (X[1]'(by omega)).1.2.1.len = 1 := by rw [x1.Q.len, p1]; rfl
  have b0 : (X[0]'(by omega)).1.2.2 = false := by rw [x0.last, p0]
  have b1 : (X[1]'(by omega)).1.2.2 = true := by rw [x1.last, p1]
  have a0 : ∀ {a : Addr}, Rd w2 (a.add (0 * 3)) (ptR.f (X[0]'(by omega)).1) → Rd w2 a (ptR.f (X[0]'(by omega)).1) := fun h => by rw [Nat.zero_mul, add_zero] at h; exact h
  refine VIx.pt hX2 (m := 0) (by omega) rfl fun a hr => VLd.s (X[0]'(by omega)).1.1 ((a0 hr).fld0 rfl) ?_
  refine VIx.pt hX2 (m := 1) (by omega) rfl fun a hr => VLd.s (X[1]'(by omega)).1.1 (hr.fld0 rfl) ?_
  refine VIx.pt hX2 (m := 1) (by omega) rfl fun a hr => VLd.s (X[1]'(by omega)).1.2.1 (hr.fld 1 rfl) ?_
  refine VIx.pt hX2 (m := 0) (by omega) rfl fun a hr => VLd.i1 (t := .bool) (X[0]'(by omega)).1.2.2 ((a0 hr).fld 2 rfl) ?_
  refine VIx.pt hX2 (m := 1) (by omega) rfl fun a hr => VLd.i1 (t := .bool) (X[1]'(by omega)).1.2.2 (hr.fld 2 rfl) ?_
  refine VIf.f (by rw [hsl, l0, l1, l2, b0, b1]; rfl) ?_
  have hqw : w.heap.size ≤ q := h2.ge
  have keep : ∀ {W W' : World}, Ext [] w W → Ext [q] W W' → Ext [] w W' := fun a b => a.then b (fun i hi hlt => by simp at hi; omega)
  refine Due_i (p := ⟨[pA y], [], false⟩) h2 (by unfold Sd.idle; simp [twoL]) (fun _ => rfl) fun v w3 hv h3 e3 => ?_
  have e3w := keep e2 e3
  refine VVar (v := v) fun bp w5 hbp kp e5 => ?_
  have h5 := h3.ext0 e5
  have hv5 := (hv.ext0 e5).mono (w0 := w) e2.size
  have e5w := e3w.then0 e5
  refine Due_n h5 (by unfold Sd.idle; simp only; rw [w64 (n := 8 - 7) (by omega)]; exact .inr ⟨by trivial, by omega, by omega⟩) fun w6 e6 => ?_
  refine VVar (v := (⟨none, 0, 0⟩, ⟨none, 0, 0⟩, false)) fun bx w8 hbx _ e8 => ?_
  have e58 := e6.then0 e8
  have h8 := h5.ext0 e58
  have e8w := e5w.then0 e58
  have kp8 := kp.ext e58
  have hv8 := hv5.ext0 e58
  refine Due_i (p := ⟨[pA y], [], false⟩) h8 (by unfold Sd.idle; simp only; rw [w64 (n := 11 - 7) (by omega)]; simp [twoL]) (fun _ => rfl) fun v2 w9 _ h9 e9 => ?_
  have e9w := keep e8w e9
  have hpq : bp ∉ [q] := by have := kp.neT h5.bk (by decide); simpa using this
  have kp9 := kp8.ext e9 hpq
  have pk : ∀ {W W' : World}, PtO w W v ⟨[pA y], [], false⟩ → (∃ cs, Bk W q cs 88) → Ext [q] W W' → PtO w W' v ⟨[pA y], [], false⟩ := fun hv hk e => by
    obtain ⟨cs, hk⟩ := hk
    refine hv.ext e fun b hb hq => ?_
    simp at hq; subst hq
    simp only [fpt, List.mem_append] at hb
    rcases hb with hb | hb
    · obtain ⟨_, hz⟩ := hv.P.1.bk_of hb
      exact hz.neT hk (by decide) rfl
    · obtain ⟨_, hz⟩ := hv.Q.1.bk_of hb
      exact hz.neT hk (by decide) rfl
  have hv9 := pk hv8 ⟨_, h8.bk⟩ e9
  refine VVar (v := v2) fun by_ w11 _ _ e11 => ?_
  have h11 := h9.ext0 e11
  have hv11 := hv9.ext0 e11
  have kp11 := kp9.ext e11
  have e11w := e9w.then0 e11
  refine VCall.i (Told_spec w w11 q s' Y _ 1 h11) ?_
  rintro e w12 ⟨rfl, h12, e12⟩
  have hv12 := pk hv11 ⟨_, h11.bk⟩ e12
  have kp12 := kp11.ext e12 hpq
  have e12w := keep e11w e12
  refine exW.i1 (t := .int .i64) _ rfl (VSet.i ?_)
  have t1 : Sd.told ⟨twoL y z, 4, 0, true, 11⟩ 1 = ⟨twoL y z, 4, 1, false, 11⟩ := by unfold Sd.told; rw [if_pos (by simp [twoL])]; rfl
  rw [show (Sd.told _ 1 : Sd) = _ from t1] at h12
  refine Due_i (p := ⟨[pB z, pC], [lA], true⟩) h12 (by unfold Sd.idle; simp [twoL]) (fun _ => rfl) fun v3 w13 _ h13 e13 => ?_
  have hv13 := pk hv12 ⟨_, h12.bk⟩ e13
  have kp13 := kp12.ext e13 hpq
  have e13w := keep e12w e13
  refine VVar (v := v3) fun bz w15 _ _ e15 => ?_
  have h15 := h13.ext0 e15
  have hv15 := hv13.ext0 e15
  have kp15 := kp13.ext e15
  have e15w := e13w.then0 e15
  refine VCall.i (Told_spec w w15 q s' Y _ 2 h15) ?_
  rintro e w16 ⟨rfl, h16, e16⟩
  have hv16 := pk hv15 ⟨_, h15.bk⟩ e16
  have kp16 := kp15.ext e16 hpq
  have e16w := keep e15w e16
  have t2 : Sd.told ⟨twoL y z, 4, 1, true, 11⟩ 2 = ⟨twoL y z, 4, 2, false, 11⟩ := by unfold Sd.told; rw [if_pos (by simp [twoL])]; rfl
  rw [show (Sd.told _ 2 : Sd) = _ from t2] at h16
  refine exW.i1 (t := .int .i64) _ rfl (VSet.i ?_)
  refine VCall.i (NewReceiver_spec w16) ?_
  rintro e w17 ⟨r, rfl, hr, e17⟩
  refine exW.i1 (t := .ptr) (some ⟨r, 0, none⟩) rfl ?_
  have kp17 := kp16.ext e17
  have hv17 := hv16.ext0 e17
  have h17 := h16.ext0 e17
  have hr17 := hr.mono (w0 := w) e16w.size
  have e17w := e16w.then0 e17
  refine ⟨(v.1 : Sl), (v.2.1 : Sl), (v.2.2 : Bool), gd.i (Rd.of_bk kp17 rfl), ?_⟩
  refine VCall.i (Take_spec w w17 r ⟨none, 0, 0⟩ [] [] 0 v ⟨[pA y], [], false⟩ hr17 e17w (by simp) hv17.in_ (by omega) (by simp) (by simp)) ?_
  rintro e w18 (⟨hf, _⟩ | ⟨_, rfl, ⟨s8, X8, h18, _⟩, e18⟩)
  · cases hf
  have e18w : Ext [] w w18 := e17w.then e18 (fun i hi hlt => by simp [rowB] at hi; have := hr17.ge; omega)
  have h18q : Bk w18 q _ _ := h17.bk.ext e18 (by
    have := h17.bk.neT hr17.bk (by decide)
    simp [rowB]; exact this)
  have hs18 : SdO w w18 q s' Y ⟨twoL y z, 4, 2, false, 11⟩ := ⟨h18q, h17.pt.ext1 hr17.bk (e18.mono fun b hb _ => by simpa [rowB] using hb) (by decide) (by decide) (by decide), h17.eq, h17.ge, h17.nx, h17.sm⟩
  refine ⟨((([] : List Pt).length : Int) + 1 : Int), (true : Bool), (0 : Int), rfl, VSet.i (VSet.i ?_)⟩
  refine VCall.on rfl (VCall.i (SDone_spec w w18 q s' Y _ hs18) ?_)
  rintro e w19 ⟨rfl, e19⟩
  have hd : decide ((⟨twoL y z, 4, 2, false, 11⟩ : Sd).next = (⟨twoL y z, 4, 2, false, 11⟩ : Sd).L.length) = true := by simp [twoL]
  rw [hd]
  refine exW.i1 (t := .bool) true rfl ?_
  refine VCall.on rfl (VCall.i (RDone_spec w w19 r s8 X8 _ (h18.ext0 e19) (by simp)) ?_)
  rintro e w20 ⟨rfl, e20⟩
  refine exW.i1 (t := .bool) _ rfl ⟨rfl, (e18w.then0 e19).then0 e20⟩
end Go.Proofs.Ytoceilgifkncoaa
