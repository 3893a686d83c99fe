/-
  Package dedup: pairs deleted from a row.
-/
import Derived.Test.YtlnomdjmjeabhaaDupE
namespace Go.Proofs.Ytlnomdjmjeabhaa
open Go.RowKit
set_option maxRecDepth 100000

theorem zero_run {P : Program} {t : TypeId} {z : Value} (hz : zeroOf P t = some z) (w : World) : (zeroValue t).run P w = .ok z w := by
  obtain ⟨i, hi, hiz, _, _⟩ := info_of_zero hz
  simp [zeroValue, typeInfo, hi, hiz]
def flt {α : Type} (p : α → Bool) (L : List α) : List α := L.filter fun x => !p x
theorem flt_none {α : Type} {p : α → Bool} {L : List α} (h : ∀ x ∈ L, p x = false) : flt p L = L := by
  unfold flt
  rw [List.filter_eq_self]
  intro x hx
  simp [h x hx]
theorem flt_snoc {α : Type} {p : α → Bool} (L : List α) (x : α) : flt p (L ++ [x]) = if p x = true then flt p L else flt p L ++ [x] := by
  unfold flt
  rw [List.filter_append]
  by_cases h : p x = true
  · simp [h]
  · simp [h]
/-- what stands behind is cleared -/
theorem clearP_run {w w0 : World} {s : Sl} {C : List Pr} {i : Nat} {ty : TypeId} (h : OwnR prR 36 w0 w s C) (hi : i ≤ C.length) :
    ∃ w', (Builtin.clear_ #[22] ty #[.slice (cutB s.base s.cap 2 i) (s.len - i) (s.cap - i)]).run Try.prog w = .ok (.tuple #[]) w' ∧ OwnR prR 36 w0 w' ⟨s.base, i, s.cap⟩ (C.take i) ∧ Ext (rowB s) w w' := by
  have hl := h.len
  have hu : Try.prog.underlying 22 = some (.slice 36) := by kernel_rfl
  have hz : ∀ w : World, (zeroValue 36).run Try.prog w = .ok (.agg #[.string ByteArray.empty, .string ByteArray.empty]) w := zero_run (by kernel_rfl)
  obtain ⟨⟨h1, h2, h3, h4⟩, h5⟩ := h
  have hrest : ∀ {w' : World} {b : Nat} {rest : List Value}, s.base = some ⟨b, 0, none⟩ → Bk w' b (prR.cells (C.take i) ++ rest) 36 → (prR.cells (C.take i)).length + rest.length = s.cap * 2 → OwnR prR 36 w0 w' ⟨s.base, i, s.cap⟩ (C.take i) := fun hb hk hlen =>
    ⟨⟨by rw [Rec.cells_len, List.length_take, Nat.min_eq_left hi], by simp only; omega, h3, .inr ⟨_, _, hb, hk, hlen⟩⟩, h5⟩
  have hsplit : ∀ rest : List Value, prR.cells C ++ rest = prR.cells (C.take i) ++ (prR.cells (C.drop i) ++ rest) := fun rest => by
    rw [← List.append_assoc, ← Rec.cells_app, List.take_append_drop]
  by_cases h0 : s.len - i = 0
  · refine ⟨w, ?_, ?_, Ext.refl _ _⟩
    · rw [h0]
      cases hc : cutB s.base s.cap 2 i <;> simp [Builtin.clear_, und hu]
    · rcases h4 with ⟨hb, hc⟩ | ⟨b, rest, hb, hk, hlen⟩
      · have hC : C = [] := List.eq_nil_of_length_eq_zero (by omega)
        subst hC
        have : i = 0 := by simpa using hi
        subst this
        exact ⟨⟨rfl, by simp, h3, .inl ⟨hb, hc⟩⟩, h5⟩
      · rw [hsplit] at hk
        refine hrest hb hk ?_
        rw [List.length_append, ← Nat.add_assoc, ← List.length_append, ← Rec.cells_app, List.take_append_drop]
        exact hlen
  · rcases h4 with ⟨hb, hc⟩ | ⟨b, rest, hb, hk, hlen⟩
    · omega
    have hcut : cutB s.base s.cap 2 i = some ⟨b, i * 2, none⟩ := by
      unfold cutB
      rw [if_neg (by omega), hb]
      simp
    have hcl : (prR.cells C).length = C.length * 2 := Rec.cells_len C
    have hzl : (prR.cells (List.replicate (s.len - i) (ByteArray.empty, ByteArray.empty))).length = (s.len - i) * 2 := by rw [Rec.cells_len, List.length_replicate]; rfl
    have hfit : i * 2 + (prR.cells (List.replicate (s.len - i) (ByteArray.empty, ByteArray.empty))).length ≤ (prR.cells C ++ rest).length := by rw [hzl, List.length_append, hcl]; omega
    obtain ⟨hk', e'⟩ := sets_bk hk hfit rfl
    have hrun := run_sets (P := Try.prog) (vs := prR.cells (List.replicate (s.len - i) (ByteArray.empty, ByteArray.empty))) (Rec.cells_all _) (Wr.of_bk hk hfit)
    obtain ⟨m, hm⟩ : ∃ m, s.len - i = m + 1 := ⟨s.len - i - 1, by omega⟩
    refine ⟨_, ?_, hrest (rest := (prR.cells (List.replicate (s.len - i) (ByteArray.empty, ByteArray.empty))) ++ (prR.cells C ++ rest).drop (i * 2 + (prR.cells (List.replicate (s.len - i) (ByteArray.empty, ByteArray.empty))).length)) hb ?_ ?_, e'.mono (by simp [rowB, hb])⟩
    · rw [hcut]
      rw [← zerosP_eq] at hrun ⊢
      rw [hm] at hrun ⊢
      simp [Builtin.clear_, und hu, hz, Value.cells, hrun]
    · have ht : (prR.cells C ++ rest).take (i * 2) = prR.cells (C.take i) := by
        rw [hsplit, List.take_append_of_le_length (by rw [Rec.cells_len, List.length_take, Nat.min_eq_left hi]; exact Nat.le_refl _), List.take_of_length_le]
        rw [Rec.cells_len, List.length_take, Nat.min_eq_left hi]; exact Nat.le_refl _
      rw [ht, List.append_assoc] at hk'
      exact hk'
    · have hlen : (prR.cells C).length + rest.length = s.cap * 2 := hlen
      have htl : (prR.cells (C.take i)).length = i * 2 := by rw [Rec.cells_len, List.length_take, Nat.min_eq_left hi]; rfl
      rw [List.length_append, hzl, List.length_drop, List.length_append, hcl, htl]
      rw [hcl] at hlen
      omega
theorem DeleteP_spec (s : Sl) (L : List Pr) (f : Value) (p : Pr → Bool) (w0 w : World) (h : OwnR prR 36 w0 w s L) (hf : DynP (rowB s) w f p) (hL : L.length * 32 ≤ 140737488355328) :
    Calls Try.prog 31 #[.slice s.base s.len s.cap, f] w fun e w' =>
      ∃ s' : Sl, e = .returned (.slice s'.base s'.len s'.cap) ∧ OwnR prR 36 w0 w' s' (flt p L) ∧ Ext (rowB s) w w' ∧ rowB s' = rowB s := by
  refine sh_slices_DeleteFunc_ok _ _ _ _ ?_
  unfold sh_slices_DeleteFunc
  have hl := h.len
  have hcap := h.cap
  refine VCall.i (IndexP_spec s L f p (rowB s) w h.in_ hf) ?_
  rintro e w1 ⟨rfl, e1⟩
  refine exW.i1 (t := .int .i64) _ rfl (VSet.i ?_)
  cases hfi : L.findIdx? p with
  | none =>
    have hidx : idxI p L = -1 := by unfold idxI; rw [hfi]
    rw [hidx]
    refine VIf.t rfl ?_
    have : flt p L = L := flt_none fun x hx => by simpa using List.findIdx?_eq_none_iff.1 hfi x hx
    rw [this]
    exact ⟨s, rfl, h.ext0 e1, e1.mono (by simp), rfl⟩
  | some i =>
  obtain ⟨hlt, hyes, hno⟩ := List.findIdx?_eq_some_iff_getElem.1 hfi
  have hidx : idxI p L = (i : Int) := by unfold idxI; rw [hfi]
  rw [hidx]
  refine VIf.f (by simp) ?_
  rw [hl, w64 (n := (i : Int) + 1) (by omega)]
  have htake : flt p (L.take i) = L.take i := flt_none fun x hx => by
    obtain ⟨j, hj, rfl⟩ := List.mem_iff_getElem.1 hx
    rw [List.getElem_take]
    rw [List.length_take] at hj
    simpa using hno j (by omega)
  have htake1 : flt p (L.take (i + 1)) = L.take i := by
    rw [List.take_succ_eq_append_getElem hlt, flt_snoc, if_pos hyes, htake]
  refine VSet.i ?_
  refine ⟨fun k i' j' W => ∃ (m : Nat) (C : List Pr), j' = (m : Int) ∧ i' = ((flt p (L.take m)).length : Int) ∧ m ≤ L.length ∧ (flt p (L.take m)).length < m ∧ k = L.length - m ∧ C.length = L.length ∧ C.take (flt p (L.take m)).length = flt p (L.take m) ∧ C.drop m = L.drop m ∧ OwnR prR 36 w0 W s C ∧ Ext (rowB s) w W,
    ⟨_, i + 1, L, by omega, ?_, by omega, ?_, rfl, rfl, ?_, rfl, h.ext0 e1, e1.mono (by simp)⟩, ?_⟩
  · rw [htake1, List.length_take, Nat.min_eq_left (by omega)]
  · rw [htake1, List.length_take]; omega
  · rw [htake1, List.length_take, Nat.min_eq_left (by omega)]
  rintro k i' j' w2 ⟨m, C, rfl, rfl, hm, hfm, rfl, hCl, hCt, hCd, ho, e2⟩
  refine VIf.mk (fun hd => ?_) (fun hd => ?_)
  · have hm' : m < L.length := by simp at hd; omega
    have hmC : m < C.length := by omega
    have hCm : C[m] = L[m] := by
      have h1 : (C.drop m)[0]? = (L.drop m)[0]? := by rw [hCd]
      simp only [List.getElem?_drop, Nat.add_zero, List.getElem?_eq_getElem hmC, List.getElem?_eq_getElem hm', Option.some.injEq] at h1
      exact h1
    have hfl : (flt p (L.take (m + 1))).length ≤ m := by
      rw [List.take_succ_eq_append_getElem hm', flt_snoc]
      split
      · omega
      · rw [List.length_append]; simp; omega
    refine ⟨fun i'' W => i'' = ((flt p (L.take (m + 1))).length : Int) ∧ ∃ C' : List Pr, C'.length = L.length ∧ C'.take (flt p (L.take (m + 1))).length = flt p (L.take (m + 1)) ∧ C'.drop (m + 1) = L.drop (m + 1) ∧ OwnR prR 36 w0 W s C' ∧ Ext (rowB s) w W, ?_, ?_⟩
    · have hseg := ho.in_.1
      rw [hl] at hseg
      refine VIx.rd2 (r := prR) hseg hmC rfl fun a hr => ?_
      rw [hCm] at hr
      refine VLd.i2 (t := .str) (u := .str) (L[m]).1 (L[m]).2 hr ?_
      refine VNw.i fun vb w3 hvb hk3 e3 => VSt.bk hk3 rfl (by simp) fun w4 hk4 e4 => ?_
      have hk4 : Bk w4 vb [.string (L[m]).1, .string (L[m]).2] 36 := hk4
      have e24 : Ext [] w2 w4 := e3.then e4 (fun i hi hlt => by simp at hi; omega)
      refine VLd.i2 (t := .str) (u := .str) (L[m]).1 (L[m]).2 (Rd.of_bk hk4 rfl) ?_
      refine hf.step L[m] (e2.then e24 (by simp)) fun w5 e5 => ?_
      have hk5 := hk4.ext e5
      have e25 := e24.then0 e5
      have ho5 := ho.ext0 e25
      have hdrop : C.drop (m + 1) = L.drop (m + 1) := by
        rw [← List.drop_drop, ← List.drop_drop, hCd]
      refine VIf.mk (fun hq => ?_) (fun hq => ?_)
      · have hq : ¬ p L[m] = true := by simpa using hq
        refine VLd.i2 (t := .str) (u := .str) (L[m]).1 (L[m]).2 (Rd.of_bk hk5 rfl) ?_
        have hr1 : flt p (L.take (m + 1)) = flt p (L.take m) ++ [L[m]] := by
          rw [List.take_succ_eq_append_getElem hm', flt_snoc, if_neg hq]
        have hfC : (flt p (L.take m)).length < C.length := by omega
        have hp := Row.putR (r := prR) (g := none) (j := 0) (vs := [.string (L[m]).1, .string (L[m]).2]) (x := L[m]) (ad := fun a => Addr.add a ((flt p (L.take m)).length * 2)) ho5.1 hfC (by show 0 + 2 ≤ 2; omega) rfl rfl (fun a => by rw [add_zero]; rfl) (K := fun w6 => VSet (IntKind.wrap .i64 (((flt p (L.take m)).length : Int) + 1)) fun (i_5_3 : Int) => (i_5_3 = ((flt p (L.take (m + 1))).length : Int) ∧ ∃ C' : List Pr, C'.length = L.length ∧ C'.take (flt p (L.take (m + 1))).length = flt p (L.take (m + 1)) ∧ C'.drop (m + 1) = L.drop (m + 1) ∧ OwnR prR 36 w0 w6 s C' ∧ Ext (rowB s) w w6)) fun w6 h6 e6 => ?_
        · rw [hl] at hp
          exact hp
        · rw [w64 (by omega)]
          refine VSet.i ⟨by rw [hr1, List.length_append]; simp, C.set (flt p (L.take m)).length L[m], by rw [List.length_set]; exact hCl, ?_, ?_, ⟨h6, ho.2⟩, (e2.then0 e25).then e6 (fun i hi _ => hi)⟩
          · rw [hr1, List.length_append]
            simp only [List.length_cons, List.length_nil, Nat.zero_add]
            rw [List.take_succ_eq_append_getElem (by rw [List.length_set]; exact hfC), List.take_set_of_le (Nat.le_refl _), hCt, List.getElem_set_self]
          · rw [List.drop_set_of_lt (by omega)]
            exact hdrop
      · have hq : p L[m] = true := by simpa using hq
        have hr1 : flt p (L.take (m + 1)) = flt p (L.take m) := by
          rw [List.take_succ_eq_append_getElem hm', flt_snoc, if_pos hq]
        rw [hr1]
        exact ⟨rfl, C, hCl, hCt, hdrop, ho5, e2.then0 e25⟩
    · rintro i'' w7 ⟨rfl, C', hCl', hCt', hCd', ho', e7⟩
      rw [w64 (n := (m : Int) + 1) (by omega)]
      exact VSet.i ⟨_, (show L.length - (m + 1) < L.length - m by omega), m + 1, C', rfl, rfl, by omega, by omega, rfl, hCl', hCt', hCd', ho', e7⟩
  · have hmm : m = L.length := by simp at hd; omega
    subst hmm
    rw [List.take_length] at *
    refine VCk.i (by omega) ?_
    rw [Int.toNat_natCast]
    obtain ⟨w8, hrun, ho8, e8⟩ := clearP_run (ty := 0) ho (i := (flt p L).length) (by omega)
    rw [hl] at hrun
    refine ⟨.tuple #[], w8, hrun, rfl, ?_⟩
    refine VCk.i (by omega) ?_
    rw [hCt] at ho8
    refine ⟨⟨cutB s.base s.cap 2 0, (flt p L).length - 0, s.cap - 0⟩, rfl, ?_, e2.then e8 (fun i hi _ => hi), ?_⟩
    · rw [cutB_zero]; exact ho8
    · simp only [cutB_zero]; rfl
end Go.Proofs.Ytlnomdjmjeabhaa
