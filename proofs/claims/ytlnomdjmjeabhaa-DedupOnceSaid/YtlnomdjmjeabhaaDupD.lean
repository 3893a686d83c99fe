/-
  Package dedup: the general functions at pairs and at last writes (printed by gen_d.py).
-/
import Derived.Test.YtlnomdjmjeabhaaDupB
import Derived.Test.YtlnomdjmjeabhaaDupC
import Derived.Test.YtlnomdjmjeabhaaSh
namespace Go.Proofs.Ytlnomdjmjeabhaa
open Go.RowKit
set_option maxRecDepth 100000

/-- a question that is asked of each one -/
def DynP (M : List Nat) (w : World) (f : Value) (p : Pr → Bool) : Prop := ∃ n fst cap, f = .func (.func n) fst cap ∧ callee Try.prog n = true ∧ ∀ (x : Pr) (W : World), Ext M w W → Calls Try.prog n (fst ++ #[.agg #[.string x.1, .string x.2]] ++ cap) W fun e W' => e = .returned (.bool (p x)) ∧ Ext [] W W'
theorem DynP.step {M : List Nat} {w W : World} {f : Value} {p : Pr → Bool} (h : DynP M w f p) (x : Pr) (e : Ext M w W) {K : Bool → World → Prop} (k : ∀ W', Ext [] W W' → K (p x) W') : VDyn none Try.prog f #[.agg #[.string x.1, .string x.2]] W (.bool false) fun (r : Bool) (w' : World) => K r w' := by
  obtain ⟨n, fst, cap, rfl, hc, h⟩ := h
  refine VDyn.i hc (VCall.i (h x W e) ?_)
  rintro e W' ⟨rfl, e'⟩
  exact exW.i1 (t := .bool) _ rfl (k W' e')
theorem IndexP_spec (s : Sl) (L : List Pr) (f : Value) (p : Pr → Bool) (M : List Nat) (w : World) (h : InR prR w s L) (hf : DynP M w f p) :
    Calls Try.prog 28 #[.slice s.base s.len s.cap, f] w fun e w' => e = .returned (.int .i64 (idxI p L)) ∧ Ext [] w w' := by
  refine sh_slices_IndexFunc_ok _ _ _ _ ?_
  unfold sh_slices_IndexFunc
  have hl := h.len
  have hcap := h.2
  rw [hl]
  refine ⟨fun k i W => ∃ m : Nat, i = (m : Int) ∧ m ≤ L.length ∧ k = L.length - m ∧ (∀ j (hj : j < L.length), j < m → p L[j] = false) ∧ Ext [] w W, ⟨_, 0, rfl, by omega, rfl, fun j hj h0 => by omega, Ext.refl _ _⟩, ?_⟩
  rintro k i w1 ⟨m, rfl, hm, rfl, hno, e1⟩
  refine VIf.mk (fun hc => ?_) (fun hc => ?_)
  · have hm' : m < L.length := by simp at hc; omega
    have h1 := (h.ext0 e1).1
    rw [hl] at h1
    refine VSet.i (VIx.rd2 (r := prR) h1 hm' rfl fun a hr => ⟨(L[m]).1, (L[m]).2, gd.i hr, ?_⟩)
    refine hf.step L[m] (e1.mono (by simp)) fun w2 e2 => VIf.mk (fun hd => ?_) (fun hd => ?_)
    · refine VSet.i ⟨?_, e1.then0 e2⟩
      unfold idxI
      rw [idxI_at hm' hd hno]
    · refine ⟨_, (show L.length - (m + 1) < L.length - m by omega), m + 1, w64 (n := (m : Int) + 1) (by omega), by omega, rfl, fun j hj hlt => ?_, e1.then0 e2⟩
      by_cases hjm : j < m
      · exact hno j hj hjm
      · obtain rfl : j = m := by omega
        exact hd
  · have hmm : m = L.length := by simp at hc; omega
    refine ⟨?_, e1⟩
    unfold idxI
    rw [idxI_none (fun j hj => hno j hj (by omega))]
theorem CloneP_spec (s : Sl) (L : List Pr) (w : World) (h : InR prR w s L) (hb : L.length * 32 ≤ 140737488355328) :
    Calls Try.prog 30 #[.slice s.base s.len s.cap] w fun e w' => ∃ s' : Sl, e = .returned (.slice s'.base s'.len s'.cap) ∧ OwnR prR 36 w w' s' L ∧ Ext [] w w' := by
  refine sh_slices_Clone_ok _ _ _ ?_
  unfold sh_slices_Clone
  have hl := h.len
  have hcap := h.2
  refine VIf.mk (fun hc => ?_) (fun hc => ?_)
  · have hL : L = [] := by
      rcases h.1.2 with h0 | ⟨a, ha, _⟩
      · exact List.eq_nil_of_length_eq_zero (by omega)
      · rw [ha] at hc; simp at hc
    subst hL
    exact ⟨⟨none, 0, 0⟩, rfl, OwnR.nil _ _ _ _, Ext.refl _ _⟩
  · refine VNw.i fun b w1 hb1 hk1 e1 => ?_
    refine VApp.rclone (r := prR) hb1 hk1 e1 h.1 rfl hb (by omega) fun s' w' ho e' => ⟨s', rfl, ho, e'⟩
theorem sizeP_run (w : World) : (Go.sizeOf 36).run Try.prog w = .ok 2 w := pureU_nat _ _ (by kernel_rfl) w
theorem zerosP_eq (n : Nat) : (Builtin.zeroCells #[.string ByteArray.empty, .string ByteArray.empty] n).toList = prR.cells (List.replicate n (ByteArray.empty, ByteArray.empty)) := madeR prR (ByteArray.empty, ByteArray.empty) #[.string ByteArray.empty, .string ByteArray.empty] rfl n
set_option maxHeartbeats 1000000 in
theorem InsertP_spec (s : Sl) (L : List Pr) (i vb : Nat) (x : Pr) (t : TypeId) (w0 w : World) (h : OwnR prR 36 w0 w s L) (e0 : Ext [] w0 w) (hi : i ≤ L.length) (hv : New0 w vb (prR.f x) t) (hne : vb ∉ rowB s) (hb : (L.length + 1) * 32 ≤ 140737488355328) :
    Calls Try.prog 43 #[.slice s.base s.len s.cap, .int .i64 (i : Int), .slice (some ⟨vb, 0, none⟩) 1 1] w fun e w' => ∃ s' : Sl, e = .returned (.slice s'.base s'.len s'.cap) ∧ OwnR prR 36 w0 w' s' (L.take i ++ x :: L.drop i) ∧ Ext [] w0 w' := by
  refine sh_slices_Insert_ok s (i : Int) ⟨some ⟨vb, 0, none⟩, 1, 1⟩ _ _ ?_
  unfold sh_slices_Insert
  have hl := h.len
  have hcap := h.cap
  have hlt : ∀ b ∈ rowB s, b < w.heap.size := h.1.lt
  have hsv : Seg w (some ⟨vb, 0, none⟩) 1 prR.k (prR.cells [x]) := Seg.of_bk hv.bk (by rw [Rec.cells_one]; simp) (by rw [Rec.cells_one, Rec.len]; simp)
  refine VCk.i (by omega) (VSet.i (VIf.f (by simp) (VSet.i ?_)))
  refine VIf.mk (fun hc => ?_) (fun hc => ?_)
  · have hii : i = L.length := by simp at hc; omega
    subst hii
    refine VApp.rec (r := prR) (m := 1) (news := [x]) h e0 hsv rfl rfl hb (by omega) fun s' w' ho e' _ _ => ⟨s', rfl, ?_, e'⟩
    rw [List.take_length, List.drop_length]; exact ho
  have hii : i < L.length := by simp at hc; omega
  have hw1 : IntKind.wrap .i64 (((s.len : Nat) : Int) + (((1 : Nat) : Nat) : Int)) = ((L.length + 1 : Nat) : Int) := by rw [hl]; exact w64 (n := (L.length : Int) + 1) (by omega)
  have hw2 : IntKind.wrap .i64 ((i : Int) + (((1 : Nat) : Nat) : Int)) = ((i + 1 : Nat) : Int) := w64 (n := (i : Int) + 1) (by omega)
  have hw3 : IntKind.wrap .i64 (((L.length + 1 : Nat) : Int) - (i : Int)) = ((L.length + 1 - i : Nat) : Int) := by rw [w64 (by omega)]; omega
  simp only [hw1, hw2, hw3, Int.toNat_natCast, Nat.sub_zero, cutB_zero]
  refine VIf.mk (fun hg => ?_) (fun hg => ?_)
  · have hg : s.cap < L.length + 1 := by simp at hg; omega
    have h0 := (h.in_.cut 0 i (by omega) hi).1
    simp only [cutB_zero, Nat.sub_zero, List.drop_zero] at h0
    refine VCk.i (by omega) (VApp.grow (r := prR) (news := List.replicate (L.length + 1 - i) (ByteArray.empty, ByteArray.empty)) h0 ⟨by omega, by omega, (zerosP_eq _).symm⟩ (by simp) rfl (by omega) (by omega) (by omega) fun s2 w2 hr2 hl2 hb2 e2 => ?_)
    have hl2' : s2.len = L.length + 1 := by omega
    rw [hl2']
    have hx2 : (prR.cells (L.take i ++ List.replicate (L.length + 1 - i) (ByteArray.empty, ByteArray.empty))).length = (L.length + 1) * prR.k := by rw [Rec.cells_len, List.length_append, List.length_take, List.length_replicate, Nat.min_eq_left hi]; congr 1; omega
    have hcap2 : L.length + 1 ≤ s2.cap := by have := hr2.2.1; omega
    refine VCk.i (by omega) ?_
    have hone : Nat.min 1 (L.length + 1 - i) = 1 := Nat.min_eq_left (by omega)
    have hxl : (prR.cells [x]).length = prR.k := by rw [Rec.cells_one, Rec.len]
    have htl : (prR.cells (L.take i)).length = i * prR.k := by rw [Rec.cells_len, List.length_take, Nat.min_eq_left hi]
    have hdl : (prR.cells (L.drop i)).length = (L.length - i) * prR.k := by rw [Rec.cells_len, List.length_drop]
    have hm1 : (i + 1) * prR.k = i * prR.k + prR.k := by rw [Nat.add_mul, Nat.one_mul]
    have hm2 : (L.length + 1) * prR.k = i * prR.k + prR.k + (L.length - i) * prR.k := by rw [← hm1, ← Nat.add_mul]; congr 1; omega
    refine VCopy.rowv (size := prR.k) (N := prR.cells [x]) hr2 prR.pos (by rw [hx2, hxl, hm2]; omega) (by rw [hone, hxl, Nat.one_mul]) (Rec.cells_all _) (by rw [hone]; exact hsv.ext0 e2) fun w3 hr3 e3 => ?_
    have hlt2 : ∀ b ∈ rowB s2, w.heap.size ≤ b := fun b hb => by rw [hb2 b hb]; exact Nat.le_refl _
    have e03 : Ext [] w w3 := e2.then e3 (fun b hb hlt => absurd hlt (Nat.not_lt.2 (hlt2 b hb)))
    intro w4 hw4
    have e4 := Ext.drew' hw4
    have e04 := e03.then0 e4
    have hr4 := hr3.ext0 e4
    have hx3 : ((prR.cells (L.take i ++ List.replicate (L.length + 1 - i) (ByteArray.empty, ByteArray.empty))).take (i * prR.k) ++ prR.cells [x] ++ (prR.cells (L.take i ++ List.replicate (L.length + 1 - i) (ByteArray.empty, ByteArray.empty))).drop (i * prR.k + (prR.cells [x]).length)).length = (L.length + 1) * prR.k := by
      simp only [List.length_append, List.length_take, List.length_drop, hx2, hxl]; omega
    refine VCk.i (by omega) (VCk.i (by omega) ?_)
    have hcut := ((h.in_.ext0 e04).cut i L.length hi (Nat.le_refl _)).1
    rw [List.take_length] at hcut
    have hmn : Nat.min (s.len - i) (L.length + 1 - (i + 1)) = L.length - i := by rw [hl]; exact Nat.min_eq_left (by omega)
    refine VCopy.rowv (size := prR.k) (N := prR.cells (L.drop i)) hr4 prR.pos (by rw [hx3, hdl, hm1, hm2]; omega) (by rw [hmn, hdl]) (Rec.cells_all _) (by rw [hmn]; exact hcut) fun w5 hr5 e5 => ?_
    refine ⟨s2, by rw [hl2'], ⟨?_, fun b hb => by have := hlt2 b hb; have := e0.size; omega⟩, e0.then (e04.then e5 (fun b hb hlt => absurd hlt (Nat.not_lt.2 (hlt2 b hb)))) (by simp)⟩
    have hfin : (((prR.cells (L.take i ++ List.replicate (L.length + 1 - i) (ByteArray.empty, ByteArray.empty))).take (i * prR.k) ++ prR.cells [x] ++ (prR.cells (L.take i ++ List.replicate (L.length + 1 - i) (ByteArray.empty, ByteArray.empty))).drop (i * prR.k + (prR.cells [x]).length)).take ((i + 1) * prR.k) ++ prR.cells (L.drop i) ++ ((prR.cells (L.take i ++ List.replicate (L.length + 1 - i) (ByteArray.empty, ByteArray.empty))).take (i * prR.k) ++ prR.cells [x] ++ (prR.cells (L.take i ++ List.replicate (L.length + 1 - i) (ByteArray.empty, ByteArray.empty))).drop (i * prR.k + (prR.cells [x]).length)).drop ((i + 1) * prR.k + (prR.cells (L.drop i)).length)) = prR.cells (L.take i ++ x :: L.drop i) := by
      rw [List.drop_of_length_le (i := (i + 1) * prR.k + (prR.cells (L.drop i)).length) (by rw [hx3, hdl, hm1, hm2]; omega), List.append_nil]
      have ha : (prR.cells (L.take i ++ List.replicate (L.length + 1 - i) (ByteArray.empty, ByteArray.empty))).take (i * prR.k) = prR.cells (L.take i) := by rw [Rec.cells_app, ← htl, List.take_left]
      rw [ha, List.take_append_of_le_length (by rw [List.length_append, htl, hxl, hm1]; omega), List.take_of_length_le (by rw [List.length_append, htl, hxl, hm1]; omega)]
      rw [← Rec.cells_app, ← Rec.cells_app, List.append_assoc]; rfl
    exact (congrArg (Row w5 36 prR.k s2) hfin).mp hr5
  · have hg : L.length + 1 ≤ s.cap := by simp at hg; omega
    obtain ⟨ys, hys, hr1⟩ := Row.more (base := s.base) (n := s.len) (cap := s.cap) h.1 (by omega)
    rw [hl] at hr1
    refine VCk.i (by omega) (VCk.i (by omega) ?_)
    have hbase : ∃ b rest, s.base = some ⟨b, 0, none⟩ ∧ Bk w b (prR.cells L ++ rest) 36 := by
      rcases h.1.2.2.2 with ⟨_, h6⟩ | ⟨b, rest, hb', hk, _⟩
      · omega
      · exact ⟨b, rest, hb', hk⟩
    obtain ⟨b, rest, hb', hk⟩ := hbase
    have hrb : rowB s = [b] := by simp [rowB, hb']
    have hcutb : cutB s.base s.cap 2 (i + 1) = some ⟨b, (i + 1) * 2, none⟩ := by unfold cutB; rw [if_neg (by omega), hb']; simp
    have hxn : prR.cells L ++ rest ≠ [] := fun he => by
      have := congrArg List.length he
      rw [List.length_append, Rec.cells_len] at this
      have hp := prR.pos
      have hk2 : prR.k ≤ L.length * prR.k := Nat.le_mul_of_pos_left _ (by omega)
      simp at this; omega
    refine ⟨.bool false, w, by rw [hcutb]; exact overlaps_run (by kernel_rfl) sizeP_run hv hk (fun e => hne (by rw [hrb, e]; simp)) hxn, exW.i1 (t := .bool) _ rfl ?_⟩
    refine VIf.t rfl ?_
    intro w7 hw7
    have e7 := Ext.drew' hw7
    have hr7 := hr1.ext0 e7
    have hxl : (prR.cells [x]).length = prR.k := by rw [Rec.cells_one, Rec.len]
    have htl : (prR.cells (L.take i)).length = i * prR.k := by rw [Rec.cells_len, List.length_take, Nat.min_eq_left hi]
    have hdl : (prR.cells (L.drop i)).length = (L.length - i) * prR.k := by rw [Rec.cells_len, List.length_drop]
    have hm1 : (i + 1) * prR.k = i * prR.k + prR.k := by rw [Nat.add_mul, Nat.one_mul]
    have hm2 : (L.length + 1) * prR.k = i * prR.k + prR.k + (L.length - i) * prR.k := by rw [← hm1, ← Nat.add_mul]; congr 1; omega
    have hm3 : L.length * prR.k = i * prR.k + (L.length - i) * prR.k := by rw [← Nat.add_mul]; congr 1; omega
    have hx1 : (prR.cells L ++ ys).length = (L.length + 1) * prR.k := by rw [List.length_append, Rec.cells_len, hys, Nat.add_mul, Nat.one_mul]
    refine VCk.i (by omega) (VCk.i (by omega) ?_)
    have hcut := ((h.in_.ext0 e7).cut i L.length hi (Nat.le_refl _)).1
    rw [List.take_length] at hcut
    have hmn : Nat.min (L.length + 1 - i) (L.length + 1 - (i + 1)) = L.length - i := by rw [show L.length + 1 - (i + 1) = L.length - i by omega]; exact Nat.min_eq_right (by omega)
    refine VCopy.rowv (size := prR.k) (s := ⟨s.base, L.length + 1, s.cap⟩) (N := prR.cells (L.drop i)) hr7 prR.pos (by rw [hx1, hdl, hm1, hm2]; omega) (by rw [hmn, hdl]) (Rec.cells_all _) (by rw [hmn]; exact hcut) fun w8 hr8 e8 => ?_
    have hone : Nat.min 1 (L.length + 1 - i) = 1 := Nat.min_eq_left (by omega)
    have hvb : vb ∉ rowB (⟨s.base, L.length + 1, s.cap⟩ : Sl) := hne
    have hsv8 : Seg w8 (some ⟨vb, 0, none⟩) 1 prR.k (prR.cells [x]) := (hsv.ext0 e7).ext e8 (fun a ha _ => by cases ha; exact hvb)
    have hx8 : ((prR.cells L ++ ys).take ((i + 1) * prR.k) ++ prR.cells (L.drop i) ++ (prR.cells L ++ ys).drop ((i + 1) * prR.k + (prR.cells (L.drop i)).length)).length = (L.length + 1) * prR.k := by
      simp only [List.length_append, List.length_take, List.length_drop, hx1, hdl]
      rw [List.length_append] at hx1
      omega
    have hfit8 : i * prR.k + (prR.cells [x]).length ≤ ((prR.cells L ++ ys).take ((i + 1) * prR.k) ++ prR.cells (L.drop i) ++ (prR.cells L ++ ys).drop ((i + 1) * prR.k + (prR.cells (L.drop i)).length)).length := by rw [hx8, hxl, hm2]; omega
    have hlen8 : (prR.cells [x]).length = Nat.min 1 (L.length + 1 - i) * prR.k := by rw [hone, hxl, Nat.one_mul]
    refine VCk.i (by omega) (VCopy.rowv (size := prR.k) (s := ⟨s.base, L.length + 1, s.cap⟩) (N := prR.cells [x]) hr8 prR.pos hfit8 hlen8 (Rec.cells_all _) (by rw [hone]; exact hsv8) fun w9 hr9 e9 => ?_)
    have hrs : rowB (⟨s.base, L.length + 1, s.cap⟩ : Sl) = rowB s := rfl
    rw [hrs] at e8 e9
    refine ⟨⟨s.base, L.length + 1, s.cap⟩, rfl, ⟨?_, h.2⟩, ((e0.then0 e7).then e8 (fun b hb hlt => absurd hlt (Nat.not_lt.2 (h.2 b hb)))).then e9 (fun b hb hlt => absurd hlt (Nat.not_lt.2 (h.2 b hb)))⟩
    have hfin : ((prR.cells L ++ ys).take ((i + 1) * prR.k) ++ prR.cells (L.drop i) ++ (prR.cells L ++ ys).drop ((i + 1) * prR.k + (prR.cells (L.drop i)).length)).take (i * prR.k) ++ prR.cells [x] ++ ((prR.cells L ++ ys).take ((i + 1) * prR.k) ++ prR.cells (L.drop i) ++ (prR.cells L ++ ys).drop ((i + 1) * prR.k + (prR.cells (L.drop i)).length)).drop (i * prR.k + (prR.cells [x]).length) = prR.cells (L.take i ++ x :: L.drop i) := by
      rw [List.drop_of_length_le (i := (i + 1) * prR.k + (prR.cells (L.drop i)).length) (by rw [hx1, hdl, hm1, hm2]; omega), List.append_nil]
      have hLl : (prR.cells L).length = L.length * prR.k := Rec.cells_len L
      have hle : (i + 1) * prR.k ≤ L.length * prR.k := Nat.mul_le_mul_right _ hii
      have ha : (prR.cells L ++ ys).take ((i + 1) * prR.k) = prR.cells (L.take (i + 1)) := by rw [List.take_append_of_le_length (by omega), Rec.cells_take]
      have hal : (prR.cells (L.take (i + 1))).length = (i + 1) * prR.k := by rw [Rec.cells_len, List.length_take, Nat.min_eq_left hii]
      rw [ha, List.take_append_of_le_length (by omega), Rec.cells_take, List.take_take, Nat.min_eq_left (by omega)]
      rw [hxl, ← hm1, ← hal, List.drop_left, ← Rec.cells_app, ← Rec.cells_app, List.append_assoc]; rfl
    exact (congrArg (Row w9 36 prR.k ⟨s.base, L.length + 1, s.cap⟩) hfin).mp hr9

/-- a question that is asked of each one -/
def DynL (M : List Nat) (w : World) (f : Value) (p : Ls → Bool) : Prop := ∃ n fst cap, f = .func (.func n) fst cap ∧ callee Try.prog n = true ∧ ∀ (x : Ls) (W : World), Ext M w W → Calls Try.prog n (fst ++ #[.agg #[.int .i64 x.1, .int .i64 x.2.1, .int .u8 x.2.2.1, .bool x.2.2.2.1, .string x.2.2.2.2]] ++ cap) W fun e W' => e = .returned (.bool (p x)) ∧ Ext [] W W'
theorem DynL.step {M : List Nat} {w W : World} {f : Value} {p : Ls → Bool} (h : DynL M w f p) (x : Ls) (e : Ext M w W) {K : Bool → World → Prop} (k : ∀ W', Ext [] W W' → K (p x) W') : VDyn none Try.prog f #[.agg #[.int .i64 x.1, .int .i64 x.2.1, .int .u8 x.2.2.1, .bool x.2.2.2.1, .string x.2.2.2.2]] W (.bool false) fun (r : Bool) (w' : World) => K r w' := by
  obtain ⟨n, fst, cap, rfl, hc, h⟩ := h
  refine VDyn.i hc (VCall.i (h x W e) ?_)
  rintro e W' ⟨rfl, e'⟩
  exact exW.i1 (t := .bool) _ rfl (k W' e')
theorem IndexL_spec (s : Sl) (L : List Ls) (f : Value) (p : Ls → Bool) (M : List Nat) (w : World) (h : InR lsR w s L) (hf : DynL M w f p) :
    Calls Try.prog 36 #[.slice s.base s.len s.cap, f] w fun e w' => e = .returned (.int .i64 (idxI p L)) ∧ Ext [] w w' := by
  refine sh_slices_IndexFunc'_ok _ _ _ _ ?_
  unfold sh_slices_IndexFunc'
  have hl := h.len
  have hcap := h.2
  rw [hl]
  refine ⟨fun k i W => ∃ m : Nat, i = (m : Int) ∧ m ≤ L.length ∧ k = L.length - m ∧ (∀ j (hj : j < L.length), j < m → p L[j] = false) ∧ Ext [] w W, ⟨_, 0, rfl, by omega, rfl, fun j hj h0 => by omega, Ext.refl _ _⟩, ?_⟩
  rintro k i w1 ⟨m, rfl, hm, rfl, hno, e1⟩
  refine VIf.mk (fun hc => ?_) (fun hc => ?_)
  · have hm' : m < L.length := by simp at hc; omega
    have h1 := (h.ext0 e1).1
    rw [hl] at h1
    refine VSet.i (VIx.rd2 (r := lsR) h1 hm' rfl fun a hr => ⟨(L[m]).1, (L[m]).2.1, (L[m]).2.2.1, (L[m]).2.2.2.1, (L[m]).2.2.2.2, gd.i hr, ?_⟩)
    refine hf.step L[m] (e1.mono (by simp)) fun w2 e2 => VIf.mk (fun hd => ?_) (fun hd => ?_)
    · refine VSet.i ⟨?_, e1.then0 e2⟩
      unfold idxI
      rw [idxI_at hm' hd hno]
    · refine ⟨_, (show L.length - (m + 1) < L.length - m by omega), m + 1, w64 (n := (m : Int) + 1) (by omega), by omega, rfl, fun j hj hlt => ?_, e1.then0 e2⟩
      by_cases hjm : j < m
      · exact hno j hj hjm
      · obtain rfl : j = m := by omega
        exact hd
  · have hmm : m = L.length := by simp at hc; omega
    refine ⟨?_, e1⟩
    unfold idxI
    rw [idxI_none (fun j hj => hno j hj (by omega))]
theorem CloneL_spec (s : Sl) (L : List Ls) (w : World) (h : InR lsR w s L) (hb : L.length * 40 ≤ 140737488355328) :
    Calls Try.prog 40 #[.slice s.base s.len s.cap] w fun e w' => ∃ s' : Sl, e = .returned (.slice s'.base s'.len s'.cap) ∧ OwnR lsR 42 w w' s' L ∧ Ext [] w w' := by
  refine sh_slices_Clone'_ok _ _ _ ?_
  unfold sh_slices_Clone'
  have hl := h.len
  have hcap := h.2
  refine VIf.mk (fun hc => ?_) (fun hc => ?_)
  · have hL : L = [] := by
      rcases h.1.2 with h0 | ⟨a, ha, _⟩
      · exact List.eq_nil_of_length_eq_zero (by omega)
      · rw [ha] at hc; simp at hc
    subst hL
    exact ⟨⟨none, 0, 0⟩, rfl, OwnR.nil _ _ _ _, Ext.refl _ _⟩
  · refine VNw.i fun b w1 hb1 hk1 e1 => ?_
    refine VApp.rclone (r := lsR) hb1 hk1 e1 h.1 rfl hb (by omega) fun s' w' ho e' => ⟨s', rfl, ho, e'⟩
theorem sizeL_run (w : World) : (Go.sizeOf 42).run Try.prog w = .ok 5 w := pureU_nat _ _ (by kernel_rfl) w
theorem zerosL_eq (n : Nat) : (Builtin.zeroCells #[.int .i64 0, .int .i64 0, .int .u8 0, .bool false, .string ByteArray.empty] n).toList = lsR.cells (List.replicate n (0, 0, 0, false, ByteArray.empty)) := madeR lsR (0, 0, 0, false, ByteArray.empty) #[.int .i64 0, .int .i64 0, .int .u8 0, .bool false, .string ByteArray.empty] rfl n
set_option maxHeartbeats 1000000 in
theorem InsertL_spec (s : Sl) (L : List Ls) (i vb : Nat) (x : Ls) (t : TypeId) (w0 w : World) (h : OwnR lsR 42 w0 w s L) (e0 : Ext [] w0 w) (hi : i ≤ L.length) (hv : New0 w vb (lsR.f x) t) (hne : vb ∉ rowB s) (hb : (L.length + 1) * 40 ≤ 140737488355328) :
    Calls Try.prog 46 #[.slice s.base s.len s.cap, .int .i64 (i : Int), .slice (some ⟨vb, 0, none⟩) 1 1] w fun e w' => ∃ s' : Sl, e = .returned (.slice s'.base s'.len s'.cap) ∧ OwnR lsR 42 w0 w' s' (L.take i ++ x :: L.drop i) ∧ Ext [] w0 w' := by
  refine sh_slices_Insert'_ok s (i : Int) ⟨some ⟨vb, 0, none⟩, 1, 1⟩ _ _ ?_
  unfold sh_slices_Insert'
  have hl := h.len
  have hcap := h.cap
  have hlt : ∀ b ∈ rowB s, b < w.heap.size := h.1.lt
  have hsv : Seg w (some ⟨vb, 0, none⟩) 1 lsR.k (lsR.cells [x]) := Seg.of_bk hv.bk (by rw [Rec.cells_one]; simp) (by rw [Rec.cells_one, Rec.len]; simp)
  refine VCk.i (by omega) (VSet.i (VIf.f (by simp) (VSet.i ?_)))
  refine VIf.mk (fun hc => ?_) (fun hc => ?_)
  · have hii : i = L.length := by simp at hc; omega
    subst hii
    refine VApp.rec (r := lsR) (m := 1) (news := [x]) h e0 hsv rfl rfl hb (by omega) fun s' w' ho e' _ _ => ⟨s', rfl, ?_, e'⟩
    rw [List.take_length, List.drop_length]; exact ho
  have hii : i < L.length := by simp at hc; omega
  have hw1 : IntKind.wrap .i64 (((s.len : Nat) : Int) + (((1 : Nat) : Nat) : Int)) = ((L.length + 1 : Nat) : Int) := by rw [hl]; exact w64 (n := (L.length : Int) + 1) (by omega)
  have hw2 : IntKind.wrap .i64 ((i : Int) + (((1 : Nat) : Nat) : Int)) = ((i + 1 : Nat) : Int) := w64 (n := (i : Int) + 1) (by omega)
  have hw3 : IntKind.wrap .i64 (((L.length + 1 : Nat) : Int) - (i : Int)) = ((L.length + 1 - i : Nat) : Int) := by rw [w64 (by omega)]; omega
  simp only [hw1, hw2, hw3, Int.toNat_natCast, Nat.sub_zero, cutB_zero]
  refine VIf.mk (fun hg => ?_) (fun hg => ?_)
  · have hg : s.cap < L.length + 1 := by simp at hg; omega
    have h0 := (h.in_.cut 0 i (by omega) hi).1
    simp only [cutB_zero, Nat.sub_zero, List.drop_zero] at h0
    refine VCk.i (by omega) (VApp.grow (r := lsR) (news := List.replicate (L.length + 1 - i) (0, 0, 0, false, ByteArray.empty)) h0 ⟨by omega, by omega, (zerosL_eq _).symm⟩ (by simp) rfl (by omega) (by omega) (by omega) fun s2 w2 hr2 hl2 hb2 e2 => ?_)
    have hl2' : s2.len = L.length + 1 := by omega
    rw [hl2']
    have hx2 : (lsR.cells (L.take i ++ List.replicate (L.length + 1 - i) (0, 0, 0, false, ByteArray.empty))).length = (L.length + 1) * lsR.k := by rw [Rec.cells_len, List.length_append, List.length_take, List.length_replicate, Nat.min_eq_left hi]; congr 1; omega
    have hcap2 : L.length + 1 ≤ s2.cap := by have := hr2.2.1; omega
    refine VCk.i (by omega) ?_
    have hone : Nat.min 1 (L.length + 1 - i) = 1 := Nat.min_eq_left (by omega)
    have hxl : (lsR.cells [x]).length = lsR.k := by rw [Rec.cells_one, Rec.len]
    have htl : (lsR.cells (L.take i)).length = i * lsR.k := by rw [Rec.cells_len, List.length_take, Nat.min_eq_left hi]
    have hdl : (lsR.cells (L.drop i)).length = (L.length - i) * lsR.k := by rw [Rec.cells_len, List.length_drop]
    have hm1 : (i + 1) * lsR.k = i * lsR.k + lsR.k := by rw [Nat.add_mul, Nat.one_mul]
    have hm2 : (L.length + 1) * lsR.k = i * lsR.k + lsR.k + (L.length - i) * lsR.k := by rw [← hm1, ← Nat.add_mul]; congr 1; omega
    refine VCopy.rowv (size := lsR.k) (N := lsR.cells [x]) hr2 lsR.pos (by rw [hx2, hxl, hm2]; omega) (by rw [hone, hxl, Nat.one_mul]) (Rec.cells_all _) (by rw [hone]; exact hsv.ext0 e2) fun w3 hr3 e3 => ?_
    have hlt2 : ∀ b ∈ rowB s2, w.heap.size ≤ b := fun b hb => by rw [hb2 b hb]; exact Nat.le_refl _
    have e03 : Ext [] w w3 := e2.then e3 (fun b hb hlt => absurd hlt (Nat.not_lt.2 (hlt2 b hb)))
    intro w4 hw4
    have e4 := Ext.drew' hw4
    have e04 := e03.then0 e4
    have hr4 := hr3.ext0 e4
    have hx3 : ((lsR.cells (L.take i ++ List.replicate (L.length + 1 - i) (0, 0, 0, false, ByteArray.empty))).take (i * lsR.k) ++ lsR.cells [x] ++ (lsR.cells (L.take i ++ List.replicate (L.length + 1 - i) (0, 0, 0, false, ByteArray.empty))).drop (i * lsR.k + (lsR.cells [x]).length)).length = (L.length + 1) * lsR.k := by
      simp only [List.length_append, List.length_take, List.length_drop, hx2, hxl]; omega
    refine VCk.i (by omega) (VCk.i (by omega) ?_)
    have hcut := ((h.in_.ext0 e04).cut i L.length hi (Nat.le_refl _)).1
    rw [List.take_length] at hcut
    have hmn : Nat.min (s.len - i) (L.length + 1 - (i + 1)) = L.length - i := by rw [hl]; exact Nat.min_eq_left (by omega)
    refine VCopy.rowv (size := lsR.k) (N := lsR.cells (L.drop i)) hr4 lsR.pos (by rw [hx3, hdl, hm1, hm2]; omega) (by rw [hmn, hdl]) (Rec.cells_all _) (by rw [hmn]; exact hcut) fun w5 hr5 e5 => ?_
    refine ⟨s2, by rw [hl2'], ⟨?_, fun b hb => by have := hlt2 b hb; have := e0.size; omega⟩, e0.then (e04.then e5 (fun b hb hlt => absurd hlt (Nat.not_lt.2 (hlt2 b hb)))) (by simp)⟩
    have hfin : (((lsR.cells (L.take i ++ List.replicate (L.length + 1 - i) (0, 0, 0, false, ByteArray.empty))).take (i * lsR.k) ++ lsR.cells [x] ++ (lsR.cells (L.take i ++ List.replicate (L.length + 1 - i) (0, 0, 0, false, ByteArray.empty))).drop (i * lsR.k + (lsR.cells [x]).length)).take ((i + 1) * lsR.k) ++ lsR.cells (L.drop i) ++ ((lsR.cells (L.take i ++ List.replicate (L.length + 1 - i) (0, 0, 0, false, ByteArray.empty))).take (i * lsR.k) ++ lsR.cells [x] ++ (lsR.cells (L.take i ++ List.replicate (L.length + 1 - i) (0, 0, 0, false, ByteArray.empty))).drop (i * lsR.k + (lsR.cells [x]).length)).drop ((i + 1) * lsR.k + (lsR.cells (L.drop i)).length)) = lsR.cells (L.take i ++ x :: L.drop i) := by
      rw [List.drop_of_length_le (i := (i + 1) * lsR.k + (lsR.cells (L.drop i)).length) (by rw [hx3, hdl, hm1, hm2]; omega), List.append_nil]
      have ha : (lsR.cells (L.take i ++ List.replicate (L.length + 1 - i) (0, 0, 0, false, ByteArray.empty))).take (i * lsR.k) = lsR.cells (L.take i) := by rw [Rec.cells_app, ← htl, List.take_left]
      rw [ha, List.take_append_of_le_length (by rw [List.length_append, htl, hxl, hm1]; omega), List.take_of_length_le (by rw [List.length_append, htl, hxl, hm1]; omega)]
      rw [← Rec.cells_app, ← Rec.cells_app, List.append_assoc]; rfl
    exact (congrArg (Row w5 42 lsR.k s2) hfin).mp hr5
  · have hg : L.length + 1 ≤ s.cap := by simp at hg; omega
    obtain ⟨ys, hys, hr1⟩ := Row.more (base := s.base) (n := s.len) (cap := s.cap) h.1 (by omega)
    rw [hl] at hr1
    refine VCk.i (by omega) (VCk.i (by omega) ?_)
    have hbase : ∃ b rest, s.base = some ⟨b, 0, none⟩ ∧ Bk w b (lsR.cells L ++ rest) 42 := by
      rcases h.1.2.2.2 with ⟨_, h6⟩ | ⟨b, rest, hb', hk, _⟩
      · omega
      · exact ⟨b, rest, hb', hk⟩
    obtain ⟨b, rest, hb', hk⟩ := hbase
    have hrb : rowB s = [b] := by simp [rowB, hb']
    have hcutb : cutB s.base s.cap 5 (i + 1) = some ⟨b, (i + 1) * 5, none⟩ := by unfold cutB; rw [if_neg (by omega), hb']; simp
    have hxn : lsR.cells L ++ rest ≠ [] := fun he => by
      have := congrArg List.length he
      rw [List.length_append, Rec.cells_len] at this
      have hp := lsR.pos
      have hk2 : lsR.k ≤ L.length * lsR.k := Nat.le_mul_of_pos_left _ (by omega)
      simp at this; omega
    refine ⟨.bool false, w, by rw [hcutb]; exact overlaps_run (by kernel_rfl) sizeL_run hv hk (fun e => hne (by rw [hrb, e]; simp)) hxn, exW.i1 (t := .bool) _ rfl ?_⟩
    refine VIf.t rfl ?_
    intro w7 hw7
    have e7 := Ext.drew' hw7
    have hr7 := hr1.ext0 e7
    have hxl : (lsR.cells [x]).length = lsR.k := by rw [Rec.cells_one, Rec.len]
    have htl : (lsR.cells (L.take i)).length = i * lsR.k := by rw [Rec.cells_len, List.length_take, Nat.min_eq_left hi]
    have hdl : (lsR.cells (L.drop i)).length = (L.length - i) * lsR.k := by rw [Rec.cells_len, List.length_drop]
    have hm1 : (i + 1) * lsR.k = i * lsR.k + lsR.k := by rw [Nat.add_mul, Nat.one_mul]
    have hm2 : (L.length + 1) * lsR.k = i * lsR.k + lsR.k + (L.length - i) * lsR.k := by rw [← hm1, ← Nat.add_mul]; congr 1; omega
    have hm3 : L.length * lsR.k = i * lsR.k + (L.length - i) * lsR.k := by rw [← Nat.add_mul]; congr 1; omega
    have hx1 : (lsR.cells L ++ ys).length = (L.length + 1) * lsR.k := by rw [List.length_append, Rec.cells_len, hys, Nat.add_mul, Nat.one_mul]
    refine VCk.i (by omega) (VCk.i (by omega) ?_)
    have hcut := ((h.in_.ext0 e7).cut i L.length hi (Nat.le_refl _)).1
    rw [List.take_length] at hcut
    have hmn : Nat.min (L.length + 1 - i) (L.length + 1 - (i + 1)) = L.length - i := by rw [show L.length + 1 - (i + 1) = L.length - i by omega]; exact Nat.min_eq_right (by omega)
    refine VCopy.rowv (size := lsR.k) (s := ⟨s.base, L.length + 1, s.cap⟩) (N := lsR.cells (L.drop i)) hr7 lsR.pos (by rw [hx1, hdl, hm1, hm2]; omega) (by rw [hmn, hdl]) (Rec.cells_all _) (by rw [hmn]; exact hcut) fun w8 hr8 e8 => ?_
    have hone : Nat.min 1 (L.length + 1 - i) = 1 := Nat.min_eq_left (by omega)
    have hvb : vb ∉ rowB (⟨s.base, L.length + 1, s.cap⟩ : Sl) := hne
    have hsv8 : Seg w8 (some ⟨vb, 0, none⟩) 1 lsR.k (lsR.cells [x]) := (hsv.ext0 e7).ext e8 (fun a ha _ => by cases ha; exact hvb)
    have hx8 : ((lsR.cells L ++ ys).take ((i + 1) * lsR.k) ++ lsR.cells (L.drop i) ++ (lsR.cells L ++ ys).drop ((i + 1) * lsR.k + (lsR.cells (L.drop i)).length)).length = (L.length + 1) * lsR.k := by
      simp only [List.length_append, List.length_take, List.length_drop, hx1, hdl]
      rw [List.length_append] at hx1
      omega
    have hfit8 : i * lsR.k + (lsR.cells [x]).length ≤ ((lsR.cells L ++ ys).take ((i + 1) * lsR.k) ++ lsR.cells (L.drop i) ++ (lsR.cells L ++ ys).drop ((i + 1) * lsR.k + (lsR.cells (L.drop i)).length)).length := by rw [hx8, hxl, hm2]; omega
    have hlen8 : (lsR.cells [x]).length = Nat.min 1 (L.length + 1 - i) * lsR.k := by rw [hone, hxl, Nat.one_mul]
    refine VCk.i (by omega) (VCopy.rowv (size := lsR.k) (s := ⟨s.base, L.length + 1, s.cap⟩) (N := lsR.cells [x]) hr8 lsR.pos hfit8 hlen8 (Rec.cells_all _) (by rw [hone]; exact hsv8) fun w9 hr9 e9 => ?_)
    have hrs : rowB (⟨s.base, L.length + 1, s.cap⟩ : Sl) = rowB s := rfl
    rw [hrs] at e8 e9
    refine ⟨⟨s.base, L.length + 1, s.cap⟩, rfl, ⟨?_, h.2⟩, ((e0.then0 e7).then e8 (fun b hb hlt => absurd hlt (Nat.not_lt.2 (h.2 b hb)))).then e9 (fun b hb hlt => absurd hlt (Nat.not_lt.2 (h.2 b hb)))⟩
    have hfin : ((lsR.cells L ++ ys).take ((i + 1) * lsR.k) ++ lsR.cells (L.drop i) ++ (lsR.cells L ++ ys).drop ((i + 1) * lsR.k + (lsR.cells (L.drop i)).length)).take (i * lsR.k) ++ lsR.cells [x] ++ ((lsR.cells L ++ ys).take ((i + 1) * lsR.k) ++ lsR.cells (L.drop i) ++ (lsR.cells L ++ ys).drop ((i + 1) * lsR.k + (lsR.cells (L.drop i)).length)).drop (i * lsR.k + (lsR.cells [x]).length) = lsR.cells (L.take i ++ x :: L.drop i) := by
      rw [List.drop_of_length_le (i := (i + 1) * lsR.k + (lsR.cells (L.drop i)).length) (by rw [hx1, hdl, hm1, hm2]; omega), List.append_nil]
      have hLl : (lsR.cells L).length = L.length * lsR.k := Rec.cells_len L
      have hle : (i + 1) * lsR.k ≤ L.length * lsR.k := Nat.mul_le_mul_right _ hii
      have ha : (lsR.cells L ++ ys).take ((i + 1) * lsR.k) = lsR.cells (L.take (i + 1)) := by rw [List.take_append_of_le_length (by omega), Rec.cells_take]
      have hal : (lsR.cells (L.take (i + 1))).length = (i + 1) * lsR.k := by rw [Rec.cells_len, List.length_take, Nat.min_eq_left hii]
      rw [ha, List.take_append_of_le_length (by omega), Rec.cells_take, List.take_take, Nat.min_eq_left (by omega)]
      rw [hxl, ← hm1, ← hal, List.drop_left, ← Rec.cells_app, ← Rec.cells_app, List.append_assoc]; rfl
    exact (congrArg (Row w9 42 lsR.k ⟨s.base, L.length + 1, s.cap⟩) hfin).mp hr9

end Go.Proofs.Ytlnomdjmjeabhaa
