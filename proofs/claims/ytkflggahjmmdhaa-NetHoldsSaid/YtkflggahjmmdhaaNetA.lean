/-
  Package net: a net in memory, and the contracts of New, add, Send, Len, Lost, Look, Double, Take, All, Copy; the document's alike.
-/
import Derived.Test.YtkflggahjmmdhaaRecO
import Derived.Test.YtkflggahjmmdhaaCodeI
import Derived.Test.YtkflggahjmmdhaaSh
namespace Go.Proofs.Ytkflggahjmmdhaa
open Go.RowKit
set_option maxRecDepth 100000

abbrev Pk := Int × Int × ByteArray
def pkR : Rec Pk := ⟨fun p => [.int .i64 p.1, .int .i64 p.2.1, .string p.2.2], 3, fun _ => rfl, fun _ => rfl, by omega⟩
def pk0 : Pk := (0, 0, ByteArray.empty)
structure NM where
  most : Int
  lost : Int
  L : List Pk
def NM.add (N : NM) (p : Pk) : NM := if (N.L.length : Int) < N.most then { N with L := N.L ++ [p] } else { N with lost := IntKind.wrap .i64 (N.lost + 1) }
def NM.addE (N : NM) : Int := if (N.L.length : Int) < N.most then 0 else 3
def NM.send (N : NM) (p : Pk) : NM := if 400 < p.2.2.size then N else N.add p
def NM.sendE (N : NM) (p : Pk) : Int := if 400 < p.2.2.size then 40 else N.addE
def NM.has (N : NM) (i : Int) : Bool := decide (0 ≤ i ∧ i < (N.L.length : Int))
def NM.look (N : NM) (i : Int) : Pk := if N.has i then N.L.getD i.toNat pk0 else pk0
def NM.take (N : NM) (i : Int) : NM := if N.has i then { N with L := N.L.eraseIdx i.toNat } else N
def NM.dbl (N : NM) (i : Int) : NM := if N.has i then N.add (N.look i) else N
def NM.dblE (N : NM) (i : Int) : Int := if N.has i then N.addE else 1

structure NetO (T e : TypeId) (w0 w : World) (q : Nat) (s : Sl) (N : NM) : Prop where
  bk : Bk w q [.int .i64 N.most, .int .i64 N.lost, .slice s.base s.len s.cap] T
  row : OwnR pkR e w0 w s N.L
  ge : w0.heap.size ≤ q
  m0 : 0 ≤ N.most
  m1 : N.most ≤ 1000
  len : (N.L.length : Int) ≤ N.most
  te : T ≠ e
def fp (q : Nat) (s : Sl) : List Nat := q :: rowB s
section
variable {T e : TypeId} {w0 w w' w'' : World} {q : Nat} {s : Sl} {N N' : NM} {M : List Nat}
theorem NetO.ext (h : NetO T e w0 w q s N) (x : Ext M w w') (hm : ∀ b ∈ fp q s, b ∉ M) : NetO T e w0 w' q s N :=
  ⟨h.bk.ext x (hm q (by simp [fp])), h.row.ext x (fun b hb => hm b (by simp [fp, hb])), h.ge, h.m0, h.m1, h.len, h.te⟩
theorem NetO.ext0 (h : NetO T e w0 w q s N) (x : Ext [] w w') : NetO T e w0 w' q s N := h.ext x (fun _ _ => by simp)
theorem NetO.lt (h : NetO T e w0 w q s N) : ∀ b ∈ fp q s, b < w.heap.size := by
  intro b hb
  simp only [fp, List.mem_cons] at hb
  rcases hb with rfl | hb
  · exact h.bk.lt
  · exact h.row.1.lt b hb
theorem NetO.ges (h : NetO T e w0 w q s N) : ∀ b ∈ fp q s, w0.heap.size ≤ b := by
  intro b hb
  simp only [fp, List.mem_cons] at hb
  rcases hb with rfl | hb
  · exact h.ge
  · exact h.row.2 b hb
theorem NetO.qs (h : NetO T e w0 w q s N) : q ∉ rowB s := fun hq => by
  obtain ⟨cs, hk⟩ := h.row.1.bk_of hq
  exact h.bk.neT hk h.te rfl
theorem NetO.sep {T' e' : TypeId} {q' : Nat} {s' : Sl} (h : NetO T e w0 w q s N) (k : NetO T' e' w0 w q' s' N') (h1 : T ≠ T') (h2 : T ≠ e') (h3 : e ≠ T') (h4 : e ≠ e') : ∀ b ∈ fp q s, b ∉ fp q' s' := by
  intro b hb hb'
  simp only [fp, List.mem_cons] at hb hb'
  have r : ∀ {T e : TypeId} {q : Nat} {s : Sl} {N : NM}, NetO T e w0 w q s N → (b = q ∨ b ∈ rowB s) → (∃ cs, Bk w b cs T) ∨ ∃ cs, Bk w b cs e := by
    rintro T e q s N h (rfl | hb)
    · exact .inl ⟨_, h.bk⟩
    · exact .inr (h.row.1.bk_of hb)
  rcases r h hb with ⟨c1, k1⟩ | ⟨c1, k1⟩ <;> rcases r k hb' with ⟨c2, k2⟩ | ⟨c2, k2⟩
  · exact k1.neT k2 h1 rfl
  · exact k1.neT k2 h2 rfl
  · exact k1.neT k2 h3 rfl
  · exact k1.neT k2 h4 rfl
/-- what stands behind a call that changes a net -/
def After (T e : TypeId) (w0 w w' : World) (q : Nat) (s : Sl) (N : NM) : Prop := ∃ s', NetO T e w0 w' q s' N ∧ Ext (fp q s) w w' ∧ ∀ b ∈ rowB s', b ∈ rowB s ∨ w.heap.size ≤ b
theorem After.same (h : NetO T e w0 w' q s N) (x : Ext [] w w') : After T e w0 w w' q s N := ⟨s, h, x.mono (by simp), fun b hb => .inl hb⟩
theorem NetO.rd0 (h : NetO T e w0 w q s N) : Rd w ⟨q, 0, none⟩ [.int .i64 N.most] := Rd.of_bk h.bk rfl
theorem NetO.rd1 (h : NetO T e w0 w q s N) : Rd w ⟨q, 1, none⟩ [.int .i64 N.lost] := Rd.of_bk h.bk rfl
theorem NetO.rd2 (h : NetO T e w0 w q s N) : Rd w ⟨q, 2, none⟩ [.slice s.base s.len s.cap] := Rd.of_bk h.bk rfl
theorem NetO.slen (h : NetO T e w0 w q s N) : s.len = N.L.length := h.row.len
end

theorem New_spec (most : Int) (w : World) : Calls Try.prog 8 #[.int .i64 most] w fun e w' =>
    (if most < 0 ∨ most > 1000 then e = .returned (.tuple #[.pointer none, .int .i64 1]) ∧ Ext [] w w' else ∃ q, e = .returned (.tuple #[.pointer (some ⟨q, 0, none⟩), .int .i64 0]) ∧ NetO 58 35 w w' q ⟨none, 0, 0⟩ ⟨most, 0, []⟩ ∧ Ext [] w w') := by
  refine sh_net_New_ok _ _ _ ?_
  unfold sh_net_New
  refine VIf.mk (fun hc => ?_) (fun hc => ?_)
  · dsimp only
    rw [if_pos (by simpa using hc)]
    exact ⟨rfl, Ext.refl _ _⟩
  · have hc' : ¬ (most < 0 ∨ most > 1000) := by simp at hc; omega
    refine VNw.i fun b w1 hb hk e1 => ?_
    dsimp only
    rw [if_neg hc']
    refine ⟨b, rfl, ⟨hk, OwnR.nil _ _ _ _, by omega, by simp only; omega, by simp only; omega, by simp only [List.length_nil]; omega, by decide⟩, e1⟩
theorem XNew_spec (most : Int) (w : World) : Calls Try.prog 14 #[.int .i64 most] w fun e w' =>
    (if most < 0 ∨ most > 1000 then e = .returned (.tuple #[.pointer none, .int .i64 1]) ∧ Ext [] w w' else ∃ q, e = .returned (.tuple #[.pointer (some ⟨q, 0, none⟩), .int .i64 0]) ∧ NetO 54 48 w w' q ⟨none, 0, 0⟩ ⟨most, 0, []⟩ ∧ Ext [] w w') := by
  refine sh_butteryref10_New_ok _ _ _ ?_
  unfold sh_butteryref10_New
  refine VIf.mk (fun hc => ?_) (fun hc => ?_)
  · dsimp only
    rw [if_pos (by simpa using hc)]
    exact ⟨rfl, Ext.refl _ _⟩
  · have hc' : ¬ (most < 0 ∨ most > 1000) := by simp at hc; omega
    refine VNw.i fun b w1 hb hk e1 => ?_
    dsimp only
    rw [if_neg hc']
    refine ⟨b, rfl, ⟨hk, OwnR.nil _ _ _ _, by omega, by simp only; omega, by simp only; omega, by simp only [List.length_nil]; omega, by decide⟩, e1⟩

theorem add_spec (w0 w : World) (q : Nat) (s : Sl) (N : NM) (p : Pk) (e0 : Ext [] w0 w) (h : NetO 58 35 w0 w q s N) :
    Calls Try.prog 22 #[.pointer (some ⟨q, 0, none⟩), .agg #[.int .i64 p.1, .int .i64 p.2.1, .string p.2.2]] w fun e w' => e = .returned (.int .i64 N.addE) ∧ After 58 35 w0 w w' q s (N.add p) := by
  refine sh_net_Net_add_ok _ _ _ _ _ _ ?_
  unfold sh_net_Net_add
  have hlen := h.slen
  have hl := h.len
  have hm1 := h.m1
  refine VNw.i fun b w1 hb hk e1 => ?_
  intro w2 hw2
  have e12 := Ext.drew' hw2
  have e2 := e1.then0 e12
  have h2 := h.ext0 e2
  refine VNN.i (VLd.s s h2.rd2 (VNN.i (VLd.i1 _ h2.rd0 ?_)))
  refine VIf.mk (fun hc => ?_) (fun hc => ?_)
  · have hc' : ¬ ((N.L.length : Int) < N.most) := by simp at hc; omega
    unfold NM.addE NM.add
    rw [if_neg hc', if_neg hc']
    refine VNN.i (VLd.i1 _ h2.rd1 (VNN.i ?_))
    refine VSt.bk h2.bk rfl (by simp) fun w3 hk3 e3 => ⟨rfl, s, ⟨hk3, h2.row.ext e3 (fun b hb => ?_), h.ge, h.m0, h.m1, h.len, h.te⟩, e2.mono (by simp) |>.then e3 (fun i hi _ => by simp at hi; simp [fp, hi]), fun b hb => .inl hb⟩
    simp
    rintro rfl
    exact h2.qs hb
  · have hc' : (N.L.length : Int) < N.most := by simp at hc; omega
    unfold NM.addE NM.add
    rw [if_pos hc', if_pos hc']
    intro w4 hw4
    have e24 := Ext.drew' hw4
    have e4 := e2.then0 e24
    have h4 := h2.ext0 e24
    have hk4 := (hk.ext e12).ext e24
    refine VNN.i (VLd.s s h4.rd2 (VLd.i3 _ _ _ (Rd.of_bk hk4 rfl) ?_))
    refine VNw.i fun b5 w5 hb5 hk5 e5 => ?_
    have h5 := h4.ext0 e5
    refine ⟨h5.rd2, ?_⟩
    have e05 := (e0.then0 e4).then0 e5
    have hge := h5.ge
    refine VApp.rec (r := pkR) h5.row e05 (news := [p]) (Seg.of_bk hk5 rfl rfl) rfl rfl (by omega) (by omega) fun s6 w6 h6 e6 e56 hb6 => ?_
    have hk6 : Bk w6 q _ _ := h5.bk.ext e56 h5.qs
    refine VNN.i (VSt.bk hk6 rfl (by simp) fun w7 hk7 e7 => ⟨rfl, s6, ⟨hk7, h6.ext e7 (fun b hb => ?_), h.ge, h.m0, h.m1, by simp only [List.length_append, List.length_singleton]; omega, h.te⟩, ?_, ?_⟩)
    · simp
      rintro rfl
      obtain ⟨cs, hkb⟩ := h6.1.bk_of hb
      exact hk6.neT hkb h.te rfl
    · exact (((e4.then0 e5).mono (by simp)).then e56 (fun i hi _ => by simp [fp, hi])).then e7 (fun i hi _ => by simp at hi; simp [fp, hi])
    · intro b hb
      rcases hb6 b hb with h' | h'
      · exact .inl h'
      · have := e4.size; have := e5.size; exact .inr (by omega)
theorem Xadd_spec (w0 w : World) (q : Nat) (s : Sl) (N : NM) (p : Pk) (e0 : Ext [] w0 w) (h : NetO 54 48 w0 w q s N) :
    Calls Try.prog 23 #[.pointer (some ⟨q, 0, none⟩), .agg #[.int .i64 p.1, .int .i64 p.2.1, .string p.2.2]] w fun e w' => e = .returned (.int .i64 N.addE) ∧ After 54 48 w0 w w' q s (N.add p) := by
  refine sh_butteryref10_Net_add_ok _ _ _ _ _ _ ?_
  unfold sh_butteryref10_Net_add
  have hlen := h.slen
  have hl := h.len
  have hm1 := h.m1
  refine VNw.i fun b w1 hb hk e1 => ?_
  intro w2 hw2
  have e12 := Ext.drew' hw2
  have e2 := e1.then0 e12
  have h2 := h.ext0 e2
  refine VNN.i (VLd.s s h2.rd2 (VNN.i (VLd.i1 _ h2.rd0 ?_)))
  refine VIf.mk (fun hc => ?_) (fun hc => ?_)
  · have hc' : ¬ ((N.L.length : Int) < N.most) := by simp at hc; omega
    unfold NM.addE NM.add
    rw [if_neg hc', if_neg hc']
    refine VNN.i (VLd.i1 _ h2.rd1 (VNN.i ?_))
    refine VSt.bk h2.bk rfl (by simp) fun w3 hk3 e3 => ⟨rfl, s, ⟨hk3, h2.row.ext e3 (fun b hb => ?_), h.ge, h.m0, h.m1, h.len, h.te⟩, e2.mono (by simp) |>.then e3 (fun i hi _ => by simp at hi; simp [fp, hi]), fun b hb => .inl hb⟩
    simp
    rintro rfl
    exact h2.qs hb
  · have hc' : (N.L.length : Int) < N.most := by simp at hc; omega
    unfold NM.addE NM.add
    rw [if_pos hc', if_pos hc']
    intro w4 hw4
    have e24 := Ext.drew' hw4
    have e4 := e2.then0 e24
    have h4 := h2.ext0 e24
    have hk4 := (hk.ext e12).ext e24
    refine VNN.i (VLd.s s h4.rd2 (VLd.i3 _ _ _ (Rd.of_bk hk4 rfl) ?_))
    refine VNw.i fun b5 w5 hb5 hk5 e5 => ?_
    have h5 := h4.ext0 e5
    refine ⟨h5.rd2, ?_⟩
    have e05 := (e0.then0 e4).then0 e5
    refine VApp.rec (r := pkR) h5.row e05 (news := [p]) (Seg.of_bk hk5 rfl rfl) rfl rfl (by omega) (by omega) fun s6 w6 h6 e6 e56 hb6 => ?_
    have hk6 : Bk w6 q _ _ := h5.bk.ext e56 h5.qs
    refine VNN.i (VSt.bk hk6 rfl (by simp) fun w7 hk7 e7 => ⟨rfl, s6, ⟨hk7, h6.ext e7 (fun b hb => ?_), h.ge, h.m0, h.m1, by simp only [List.length_append, List.length_singleton]; omega, h.te⟩, ?_, ?_⟩)
    · simp
      rintro rfl
      obtain ⟨cs, hkb⟩ := h6.1.bk_of hb
      exact hk6.neT hkb h.te rfl
    · exact (((e4.then0 e5).mono (by simp)).then e56 (fun i hi _ => by simp [fp, hi])).then e7 (fun i hi _ => by simp at hi; simp [fp, hi])
    · intro b hb
      rcases hb6 b hb with h' | h'
      · exact .inl h'
      · have := e4.size; have := e5.size; exact .inr (by omega)

theorem pk_eta (p : Pk) : (Value.agg #[.int .i64 p.1, .int .i64 p.2.1, .string p.2.2]) = .agg #[.int .i64 p.1, .int .i64 p.2.1, .string p.2.2] := rfl
theorem Send_spec (w0 w : World) (q : Nat) (s t : Sl) (N : NM) (f to : Int) (l : List UInt8) (e0 : Ext [] w0 w) (h : NetO 58 35 w0 w q s N) (hd : Seg w t.base t.len 1 (bc l)) :
    Calls Try.prog 9 #[.pointer (some ⟨q, 0, none⟩), .int .i64 f, .int .i64 to, .slice t.base t.len t.cap] w fun e w' => e = .returned (.int .i64 (N.sendE (f, to, ⟨l.toArray⟩))) ∧ After 58 35 w0 w w' q s (N.send (f, to, ⟨l.toArray⟩)) := by
  refine sh_net_Net_Send_ok _ _ _ _ _ _ ?_
  unfold sh_net_Net_Send
  have hn := hd.blen
  have hsz : (ByteArray.mk l.toArray).size = l.length := by show l.toArray.size = _; simp
  refine VIf.f rfl (VIf.mk (fun hc => ?_) (fun hc => ?_))
  · unfold NM.sendE NM.send
    have : 400 < (ByteArray.mk l.toArray).size := by simp at hc; omega
    simp only [if_pos this]
    exact ⟨trivial, After.same h (Ext.refl _ _)⟩
  · unfold NM.sendE NM.send
    have : ¬ 400 < (ByteArray.mk l.toArray).size := by simp at hc; omega
    simp only [if_neg this]
    refine VStr.i l hd fun x hx => ?_
    have hx' : x = ⟨l.toArray⟩ := by
      obtain ⟨⟨d⟩⟩ := x
      simp only at hx
      rw [hx]
    subst hx'
    refine VCall.i (add_spec w0 w q s N (f, to, ⟨l.toArray⟩) e0 h) ?_
    rintro e w1 ⟨rfl, ha⟩
    exact exW.i1 (t := .int .i64) _ rfl (VSet.i ⟨rfl, ha⟩)
theorem XSend_spec (w0 w : World) (q : Nat) (s : Sl) (N : NM) (f to : Int) (d : ByteArray) (e0 : Ext [] w0 w) (h : NetO 54 48 w0 w q s N) :
    Calls Try.prog 15 #[.pointer (some ⟨q, 0, none⟩), .int .i64 f, .int .i64 to, .string d] w fun e w' => e = .returned (.int .i64 (N.sendE (f, to, d))) ∧ After 54 48 w0 w w' q s (N.send (f, to, d)) := by
  refine sh_butteryref10_Net_Send_ok _ _ _ _ _ _ ?_
  unfold sh_butteryref10_Net_Send
  refine VIf.mk (fun hc => ?_) (fun hc => ?_)
  · unfold NM.sendE NM.send
    have : 400 < d.size := by simp at hc; omega
    simp only [if_pos this]
    exact ⟨trivial, After.same h (Ext.refl _ _)⟩
  · unfold NM.sendE NM.send
    have : ¬ 400 < d.size := by simp at hc; omega
    simp only [if_neg this]
    refine VCall.i (Xadd_spec w0 w q s N (f, to, d) e0 h) ?_
    rintro e w1 ⟨rfl, ha⟩
    exact exW.i1 (t := .int .i64) _ rfl (VSet.i ⟨rfl, ha⟩)
theorem Len_spec (w0 w : World) (q : Nat) (s : Sl) (N : NM) (h : NetO 58 35 w0 w q s N) :
    Calls Try.prog 13 #[.pointer (some ⟨q, 0, none⟩)] w fun e w' => e = .returned (.int .i64 ((N.L.length : Nat) : Int)) ∧ w' = w := by
  refine sh_net_Net_Len_ok _ _ _ ?_
  unfold sh_net_Net_Len
  refine VIf.f rfl (VNN.i (VLd.s s h.rd2 (VSet.i ?_)))
  exact ⟨by rw [h.slen], rfl⟩
theorem Lost_spec (w0 w : World) (q : Nat) (s : Sl) (N : NM) (h : NetO 58 35 w0 w q s N) :
    Calls Try.prog 21 #[.pointer (some ⟨q, 0, none⟩)] w fun e w' => e = .returned (.int .i64 N.lost) ∧ w' = w := by
  refine sh_net_Net_Lost_ok _ _ _ ?_
  unfold sh_net_Net_Lost
  refine VIf.f rfl (VNN.i (VLd.i1 _ h.rd1 (VSet.i ?_)))
  exact ⟨rfl, rfl⟩
theorem has_iff {N : NM} {i : Int} : N.has i = true ↔ 0 ≤ i ∧ i < (N.L.length : Int) := by unfold NM.has; simp
theorem Look_spec (w0 w : World) (q : Nat) (s : Sl) (N : NM) (i : Int) (h : NetO 58 35 w0 w q s N) :
    Calls Try.prog 11 #[.pointer (some ⟨q, 0, none⟩), .int .i64 i] w fun e w' =>
      e = .returned (.tuple #[.agg #[.int .i64 (N.look i).1, .int .i64 (N.look i).2.1, .string (N.look i).2.2], .bool (N.has i)]) ∧ Ext [] w w' := by
  refine sh_net_Net_Look_ok _ _ _ _ ?_
  unfold sh_net_Net_Look
  refine VNw.i fun b w1 hb hk e1 => ?_
  have h1 := h.ext0 e1
  refine VCall.pure (v := .int .i64 ((N.L.length : Nat) : Int)) (Len_spec w0 w1 q s N h1) ?_
  refine exW.i1 (t := .int .i64) _ rfl ?_
  by_cases hi : N.has i = true
  · obtain ⟨h0, hl⟩ := has_iff.1 hi
    refine VIf.f (by simp; omega) ?_
    refine VNN.i (VLd.s s h1.rd2 ?_)
    have hil : i.toNat < N.L.length := by omega
    obtain ⟨a, ha, hrd⟩ := h1.row.seg.rec_at hil
    have hsl := h1.slen
    have hlook : N.look i = N.L[i.toNat] := by unfold NM.look; rw [if_pos hi, List.getD_eq_getElem?_getD, List.getElem?_eq_getElem hil]; rfl
    rw [ha]
    refine VIx.i h0 (by omega) ?_
    refine VLd.i3 _ _ _ hrd ?_
    refine VSt.bk hk rfl (by simp) fun w2 hk2 e2 => ?_
    refine VLd.i3 _ _ _ (Rd.of_bk hk2 rfl) ?_
    rw [hi, hlook]
    exact ⟨rfl, e1.then e2 (fun i hi hlt => by simp at hi; omega)⟩
  · have hn : ¬ (0 ≤ i ∧ i < (N.L.length : Int)) := fun h => hi (has_iff.2 h)
    refine VIf.t (by simp; omega) ?_
    have hlook : N.look i = pk0 := by unfold NM.look; rw [if_neg hi]
    refine VSt.bk hk rfl (by simp) fun w2 hk2 e2 => ?_
    refine VLd.i3 _ _ _ (Rd.of_bk hk2 rfl) ?_
    rw [hlook, show N.has i = false by simpa using hi]
    exact ⟨rfl, e1.then e2 (fun i hi hlt => by simp at hi; omega)⟩
theorem Double_spec (w0 w : World) (q : Nat) (s : Sl) (N : NM) (i : Int) (e0 : Ext [] w0 w) (h : NetO 58 35 w0 w q s N) :
    Calls Try.prog 12 #[.pointer (some ⟨q, 0, none⟩), .int .i64 i] w fun e w' => e = .returned (.int .i64 (N.dblE i)) ∧ After 58 35 w0 w w' q s (N.dbl i) := by
  refine sh_net_Net_Double_ok _ _ _ _ ?_
  unfold sh_net_Net_Double
  refine VIf.f rfl ?_
  refine VCall.i (Look_spec w0 w q s N i h) ?_
  rintro e w1 ⟨rfl, e1⟩
  refine exW.i4 (t := .int .i64) (u := .int .i64) (v := .str) (q := .bool) _ _ _ _ rfl ?_
  refine VNw.i fun b w2 hb hk e2 => ?_
  refine VSt.bk hk rfl (by simp) fun w3 hk3 e3 => ?_
  have e13 : Ext [] w1 w3 := e2.then e3 (fun i hi hlt => by simp at hi; omega)
  have e3 := e1.then0 e13
  have h3 := h.ext0 e3
  cases hi : N.has i with
  | false =>
    refine VIf.t rfl ?_
    unfold NM.dblE NM.dbl
    rw [hi]
    exact ⟨rfl, After.same h3 e3⟩
  | true =>
    refine VIf.f rfl ?_
    refine VLd.i3 _ _ _ (Rd.of_bk hk3 rfl) ?_
    refine VCall.i (add_spec w0 w3 q s N (N.look i) (e0.then0 e3) h3) ?_
    rintro e w4 ⟨rfl, s4, h4, e4, hb4⟩
    refine exW.i1 (t := .int .i64) _ rfl (VSet.i ?_)
    unfold NM.dblE NM.dbl
    rw [hi]
    refine ⟨rfl, s4, h4, (e3.mono (by simp)).then e4 (fun i hi _ => hi), fun b hb => ?_⟩
    rcases hb4 b hb with h' | h'
    · exact .inl h'
    · have := e3.size; exact .inr (by omega)
theorem XDouble_spec (w0 w : World) (q : Nat) (s : Sl) (N : NM) (i : Int) (e0 : Ext [] w0 w) (h : NetO 54 48 w0 w q s N) :
    Calls Try.prog 18 #[.pointer (some ⟨q, 0, none⟩), .int .i64 i] w fun e w' => e = .returned (.int .i64 (N.dblE i)) ∧ After 54 48 w0 w w' q s (N.dbl i) := by
  refine sh_butteryref10_Net_Double_ok _ _ _ _ ?_
  unfold sh_butteryref10_Net_Double
  have hsl := h.slen
  refine VNN.i (VLd.s s h.rd2 ?_)
  by_cases hi : N.has i = true
  · obtain ⟨h0, hl⟩ := has_iff.1 hi
    refine VIf.f (by simp; omega) ?_
    refine VNN.i (VLd.s s h.rd2 ?_)
    have hil : i.toNat < N.L.length := by omega
    obtain ⟨a, ha, hrd⟩ := h.row.seg.rec_at hil
    have hlook : N.look i = N.L[i.toNat] := by unfold NM.look; rw [if_pos hi, List.getD_eq_getElem?_getD, List.getElem?_eq_getElem hil]; rfl
    rw [ha]
    refine VIx.i h0 (by omega) ?_
    refine VLd.i3 _ _ _ hrd ?_
    refine VCall.i (Xadd_spec w0 w q s N (N.L[i.toNat]) e0 h) ?_
    rintro e w4 ⟨rfl, ha4⟩
    refine exW.i1 (t := .int .i64) _ rfl (VSet.i ?_)
    unfold NM.dblE NM.dbl
    rw [hlook, hi]
    exact ⟨rfl, ha4⟩
  · have hn : ¬ (0 ≤ i ∧ i < (N.L.length : Int)) := fun h => hi (has_iff.2 h)
    refine VIf.t (by simp; omega) ?_
    unfold NM.dblE NM.dbl
    rw [if_neg hi, if_neg hi]
    exact ⟨rfl, After.same h (Ext.refl _ _)⟩
theorem PClone_spec (s : Sl) (L : List Pk) (w : World) (h : Seg w s.base s.len 3 (pkR.cells L)) (hl : L.length ≤ 1000000) :
    Calls Try.prog 24 #[.slice s.base s.len s.cap] w fun e w' => ∃ s' : Sl, e = .returned (.slice s'.base s'.len s'.cap) ∧ OwnR pkR 35 w w' s' L ∧ Ext [] w w' := by
  refine sh_slices_Clone_ok _ _ _ ?_
  unfold sh_slices_Clone
  have h' : Seg w s.base s.len pkR.k (pkR.cells L) := h
  have hn := h'.rlen
  refine VIf.mk (fun hc => ?_) (fun hc => ?_)
  · have hz : L = [] := by
      rcases h.2 with h0 | ⟨a, ha, _⟩
      · exact List.length_eq_zero_iff.1 (by omega)
      · rw [ha] at hc; simp at hc
    subst hz
    exact ⟨⟨none, 0, 0⟩, rfl, OwnR.nil _ _ _ _, Ext.refl _ _⟩
  · refine VNw.i fun b w1 hb hk e1 => ?_
    exact VApp.rclone (r := pkR) hb hk e1 h' rfl (by omega) (by omega) fun s' w' h'' e' => ⟨s', rfl, h'', e'⟩
theorem All_spec (w0 w : World) (q : Nat) (s : Sl) (N : NM) (h : NetO 58 35 w0 w q s N) :
    Calls Try.prog 20 #[.pointer (some ⟨q, 0, none⟩)] w fun e w' => ∃ s' : Sl, e = .returned (.slice s'.base s'.len s'.cap) ∧ OwnR pkR 35 w w' s' N.L ∧ Ext [] w w' := by
  refine sh_net_Net_All_ok _ _ _ ?_
  unfold sh_net_Net_All
  have h1 := h.len
  have h2 := h.m1
  refine VIf.f rfl (VNN.i (VLd.s s h.rd2 ?_))
  refine VCall.i (PClone_spec s N.L w h.row.seg (by omega)) ?_
  rintro e w1 ⟨s1, rfl, k1, e1⟩
  exact exW.i1 (t := .sl) s1 rfl ⟨s1, rfl, k1, e1⟩
theorem Copy_spec (w0 w : World) (q : Nat) (s : Sl) (N : NM) (h : NetO 58 35 w0 w q s N) :
    Calls Try.prog 19 #[.pointer (some ⟨q, 0, none⟩)] w fun e w' => ∃ q' s', e = .returned (.pointer (some ⟨q', 0, none⟩)) ∧ NetO 58 35 w w' q' s' N ∧ Ext [] w w' := by
  refine sh_net_Net_Copy_ok _ _ _ ?_
  unfold sh_net_Net_Copy
  have h1 := h.len
  have h2 := h.m1
  refine VIf.f rfl ?_
  intro w1 hw1
  have e1 := Ext.drew' hw1
  have k1 := h.ext0 e1
  refine VNN.i (VLd.i1 _ k1.rd0 (VNN.i (VLd.i1 _ k1.rd1 (VNN.i (VLd.s s k1.rd2 ?_)))))
  refine VCall.i (PClone_spec s N.L w1 k1.row.seg (by omega)) ?_
  rintro e w2 ⟨s2, rfl, g2, e2⟩
  have k2 := k1.ext0 e2
  refine exW.i1 (t := .sl) s2 rfl ⟨k2.rd1, k2.rd0, ?_⟩
  refine VNw.i fun b w3 hb hk e3 => ?_
  have e12 := e1.then0 e2
  have := e12.size
  exact ⟨b, s2, rfl, ⟨hk, (g2.ext0 e3).mono e1.size, by omega, h.m0, h.m1, h.len, h.te⟩, e12.then0 e3⟩
end Go.Proofs.Ytkflggahjmmdhaa
