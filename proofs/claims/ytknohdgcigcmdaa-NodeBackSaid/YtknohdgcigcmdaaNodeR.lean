/-
  Package node: a node that was answered is written over.
-/
import Derived.Test.YtknohdgcigcmdaaNodeQ
namespace Go.Proofs.Ytknohdgcigcmdaa
open Go.RowKit
set_option maxRecDepth 100000

set_option maxHeartbeats 1000000 in
theorem spoil_spec (c k : Sl) (n : Nd) (w0 w : World) (h : OwnN 48 w0 w c k n) (e0 : Ext [] w0 w) (hs : n.cs.length ≤ 1000 ∧ n.ks.length ≤ 1000) : Calls Try.prog 19 #[.agg (nhC n.leaf c k).toArray] w fun e w' => ∃ v : Int, 0 ≤ v ∧ v ≤ 10000 ∧ e = .returned (.int .i64 v) ∧ Ext (nodeB c k) w w' := by
  refine sh_butterylaw06_spoil_ok _ _ _ _ _ ?_
  unfold sh_butterylaw06_spoil
  have hl := h.co.len
  have hkl := h.ko.len
  have hold := h.lt
  have hge := h.ge
  refine VNw.i fun nb w1 hnb hk1 e1 => ?_
  have hk1 : Bk w1 nb (nhC n.leaf c k) 30 := hk1
  have nn : nb ∉ nodeB c k := fun hi => by have := hold nb hi; omega
  have inC : ∀ b ∈ rowB c, b ∈ nodeB c k := fun b hb => List.mem_append_left _ hb
  have inK : ∀ b ∈ rowB k, b ∈ nodeB c k := fun b hb => List.mem_append_right _ hb
  have nC : nb ∉ rowB c := fun hi => nn (inC _ hi)
  have nK : nb ∉ rowB k := fun hi => nn (inK _ hi)
  have hCK : ∀ {W : World} {L : List Ce} {M : List Int}, OwnR ceR 48 w0 W c L → OwnR itR 3 w0 W k M → ∀ b ∈ rowB c, b ∉ rowB k := fun h1 h2 b hb hb' => by
    obtain ⟨_, z1⟩ := h1.1.bk_of hb
    obtain ⟨_, z2⟩ := h2.1.bk_of hb'
    exact z1.neT z2 (by decide) rfl
  refine ⟨fun kk i W => ∃ (m : Nat) (L : List Ce), i = (m : Int) ∧ m ≤ n.cs.length ∧ kk = n.cs.length - m ∧ L.length = n.cs.length ∧ OwnR ceR 48 w0 W c L ∧ OwnR itR 3 w0 W k n.ks ∧ Bk W nb (nhC n.leaf c k) 30 ∧ Ext (nodeB c k) w W, ⟨_, 0, _, rfl, by omega, rfl, rfl, h.co.ext0 e1, h.ko.ext0 e1, hk1, e1.mono (by simp)⟩, ?_⟩
  rintro kk i w2 ⟨m, L, rfl, hm, rfl, hL, hc2, hk2, hn2, e2⟩
  refine VLd.s c (Rd.of_bk hn2 rfl) (VIf.mk (fun hd => ?_) (fun hd => ?_))
  · have hm' : m < n.cs.length := by rw [hl] at hd; simp at hd; omega
    have hmL : m < L.length := by omega
    refine VLd.s c (Rd.of_bk hn2 rfl) ?_
    refine Row.putR (r := ceR) (j := 0) (vs := [.string (ByteArray.mk #[115, 112, 111, 105, 108, 116])]) (x := { L[m] with key := ByteArray.mk #[115, 112, 111, 105, 108, 116] }) hc2.1 hmL (by show 0 + 1 ≤ 4; omega) rfl rfl (fun a => by rw [add_zero]; rfl) fun w3 h3 e3 => ?_
    rw [w64 (n := (m : Int) + 1) (by omega)]
    exact VSet.i ⟨_, (show n.cs.length - (m + 1) < n.cs.length - m by omega), m + 1, _, rfl, by omega, rfl, by rw [List.length_set]; exact hL, ⟨h3, hc2.2⟩, hk2.ext e3 (fun b hb hb' => hCK hc2 hk2 b hb' hb), hn2.ext e3 nC, e2.then e3 (fun i hi _ => inC i hi)⟩
  refine ⟨fun kk i W => ∃ (m : Nat) (M : List Int), i = (m : Int) ∧ m ≤ n.ks.length ∧ kk = n.ks.length - m ∧ M.length = n.ks.length ∧ OwnR ceR 48 w0 W c L ∧ OwnR itR 3 w0 W k M ∧ Bk W nb (nhC n.leaf c k) 30 ∧ Ext (nodeB c k) w W, ⟨_, 0, _, rfl, by omega, rfl, rfl, hc2, hk2, hn2, e2⟩, ?_⟩
  rintro kk i w4 ⟨m, M, rfl, hm, rfl, hM, hc4, hk4, hn4, e4⟩
  refine VLd.s k (Rd.of_bk hn4 rfl) (VIf.mk (fun hd => ?_) (fun hd => ?_))
  · have hm' : m < n.ks.length := by rw [hkl] at hd; simp at hd; omega
    have hmM : m < M.length := by omega
    refine VLd.s k (Rd.of_bk hn4 rfl) ?_
    refine Row.putR (r := itR) (j := 0) (vs := [.int .i64 (-1)]) (x := -1) hk4.1 hmM (by show 0 + 1 ≤ 1; omega) rfl rfl (fun a => by rw [add_zero]; rfl) fun w5 h5 e5 => ?_
    rw [w64 (n := (m : Int) + 1) (by omega)]
    exact VSet.i ⟨_, (show n.ks.length - (m + 1) < n.ks.length - m by omega), m + 1, _, rfl, by omega, rfl, by rw [List.length_set]; exact hM, hc4.ext e5 (fun b hb hb' => hCK hc4 hk4 b hb hb'), ⟨h5, hk4.2⟩, hn4.ext e5 nK, e4.then e5 (fun i hi _ => inK i hi)⟩
  refine ⟨fun v W => 0 ≤ v ∧ v ≤ 10000 ∧ Ext (nodeB c k) w W, ?_, ?_⟩
  · intro w6 hw6
    have ed := Ext.drew' hw6
    have hc6 := hc4.ext0 ed
    have hk6 := hk4.ext0 ed
    have hn6 := hn4.ext ed
    have e6 := e4.then0 ed
    have e06 : Ext [] w0 w6 := e0.then e6 (fun i hi hlt => by have := hge i hi; omega)
    have fin : ∀ {lc lk : Sl} {A : List Ce} {B : List Int} {W : World} {T : List Ce}, A.length = n.cs.length → B.length = n.ks.length → lc.len = A.length + 1 → lk.len = B.length + 1 → Ext (nodeB c k) w W → VSet (IntKind.wrap .i64 (((lc.len : Nat) : Int) + ((lk.len : Nat) : Int))) fun (v : Int) => 0 ≤ v ∧ v ≤ 10000 ∧ Ext (nodeB c k) w W := by
      intro lc lk A B W T h1 h2 h3 h4 e
      rw [h3, h4, h1, h2, w64 (by omega)]
      exact VSet.i ⟨by omega, by omega, e⟩
    refine VLd.s c (Rd.of_bk hn6 rfl) (VLd.s k (Rd.of_bk hn6 rfl) ⟨?_, ?_⟩)
    · refine VNw.i fun b31 w7 hb31 hk31 e7 => ⟨Rd.of_bk (hn6.ext e7) rfl, Rd.of_bk (hn6.ext e7) rfl, ?_, ?_⟩
      · refine VApp.rec (r := ceR) (news := [⟨ByteArray.mk #[109, 111, 114, 101], ByteArray.empty, 0, 0⟩]) (hc6.ext0 e7) (e06.then0 e7) (Seg.of_bk hk31 rfl rfl) rfl rfl (by omega) (by omega) fun lc w8 h8 e08 e8 _ => ?_
        have hn8 := (hn6.ext e7).ext e8 nC
        have hk8 := (hk6.ext0 e7).ext e8 (fun b hb hb' => hCK hc6 hk6 b hb' hb)
        refine ⟨Rd.of_bk hn8 rfl, VNw.i fun b36 w9 hb36 hk36 e9 => ⟨Rd.of_bk (hn8.ext e9) rfl, ?_⟩⟩
        refine VApp.rec (r := itR) (news := [-2]) (hk8.ext0 e9) (e08.then0 e9) (Seg.of_bk hk36 rfl rfl) rfl rfl (by omega) (by omega) fun lk w10 h10 e010 e10 _ => ?_
        have q1 := h8.len
        have q2 := h10.len
        rw [List.length_append] at q1 q2
        exact fin (T := L) hL hM q1 q2 ((((e6.then0 e7).then e8 (fun i hi _ => inC i hi)).then0 e9).then e10 (fun i hi _ => inK i hi))
      · refine VNw.i fun b36 w8 hb36 hk36 e8 => ⟨Rd.of_bk ((hn6.ext e7).ext e8) rfl, Rd.of_bk ((hn6.ext e7).ext e8) rfl, ?_⟩
        refine VApp.rec (r := ceR) (news := [⟨ByteArray.mk #[109, 111, 114, 101], ByteArray.empty, 0, 0⟩]) ((hc6.ext0 e7).ext0 e8) ((e06.then0 e7).then0 e8) (Seg.of_bk (hk31.ext e8) rfl rfl) rfl rfl (by omega) (by omega) fun lc w9 h9 e09 e9 _ => ?_
        have hn9 := ((hn6.ext e7).ext e8).ext e9 nC
        have hk9 := ((hk6.ext0 e7).ext0 e8).ext e9 (fun b hb hb' => hCK hc6 hk6 b hb' hb)
        have h36 : Bk w9 b36 [.int .i64 (-2)] 3 := Bk.ext hk36 e9 (fun hi => by
          obtain ⟨_, z1⟩ := ((hc6.ext0 e7).ext0 e8).1.bk_of hi
          exact z1.neT hk36 (by decide) rfl)
        refine ⟨Rd.of_bk hn9 rfl, ?_⟩
        refine VApp.rec (r := itR) (news := [-2]) hk9 e09 (Seg.of_bk h36 rfl rfl) rfl rfl (by omega) (by omega) fun lk w10 h10 e010 e10 _ => ?_
        have q1 := h9.len
        have q2 := h10.len
        rw [List.length_append] at q1 q2
        exact fin (T := L) hL hM q1 q2 ((((e6.then0 e7).then0 e8).then e9 (fun i hi _ => inC i hi)).then e10 (fun i hi _ => inK i hi))
    · refine VNw.i fun b36 w7 hb36 hk36 e7 => ⟨Rd.of_bk (hn6.ext e7) rfl, Rd.of_bk (hn6.ext e7) rfl, ?_⟩
      refine VNw.i fun b31 w8 hb31 hk31 e8 => ⟨Rd.of_bk ((hn6.ext e7).ext e8) rfl, Rd.of_bk ((hn6.ext e7).ext e8) rfl, ?_⟩
      refine VApp.rec (r := ceR) (news := [⟨ByteArray.mk #[109, 111, 114, 101], ByteArray.empty, 0, 0⟩]) ((hc6.ext0 e7).ext0 e8) ((e06.then0 e7).then0 e8) (Seg.of_bk hk31 rfl rfl) rfl rfl (by omega) (by omega) fun lc w9 h9 e09 e9 _ => ?_
      have hn9 := ((hn6.ext e7).ext e8).ext e9 nC
      have hk9 := ((hk6.ext0 e7).ext0 e8).ext e9 (fun b hb hb' => hCK hc6 hk6 b hb' hb)
      have h36 : Bk w9 b36 [.int .i64 (-2)] 3 := Bk.ext (Bk.ext hk36 e8) e9 (fun hi => by
        obtain ⟨_, z1⟩ := ((hc6.ext0 e7).ext0 e8).1.bk_of hi
        exact z1.neT (Bk.ext hk36 e8) (by decide) rfl)
      refine ⟨Rd.of_bk hn9 rfl, ?_⟩
      refine VApp.rec (r := itR) (news := [-2]) hk9 e09 (Seg.of_bk h36 rfl rfl) rfl rfl (by omega) (by omega) fun lk w10 h10 e010 e10 _ => ?_
      have q1 := h9.len
      have q2 := h10.len
      rw [List.length_append] at q1 q2
      exact fin (T := L) hL hM q1 q2 ((((e6.then0 e7).then0 e8).then e9 (fun i hi _ => inC i hi)).then e10 (fun i hi _ => inK i hi))
  rintro v w18 ⟨h1, h2, e18⟩
  exact ⟨v, h1, h2, rfl, e18⟩
end Go.Proofs.Ytknohdgcigcmdaa
